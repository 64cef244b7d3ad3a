/- The arguments' places in a term. -/
import Derived.Test.YtbbdjjlnachnlaaGreatDoorVars
namespace Go.Proofs.YtbbdjjlnachnlaaGreatDoor
open Go Go.Eng
set_option linter.unusedVariables false
set_option linter.unusedSimpArgs false
set_option synthInstance.maxHeartbeats 400000
set_option synthInstance.maxSize 1000

/-- The place behind i terms from p on. -/
def kidN (a t : List Int) (p : Nat) : Nat → Nat
  | 0 => p
  | i + 1 => kidN a t p i + sz a t (kidN a t p i)
theorem kid_inv {a t : List Int} {p n : Nat} (h : (skp a (badS a) (t.drop p) n).1 = true) : ∀ i, i ≤ n → (skp a (badS a) (t.drop (kidN a t p i)) (n - i)).1 = true ∧ p ≤ kidN a t p i
  | 0, _ => ⟨h, Nat.le_refl _⟩
  | i + 1, hi => by
    obtain ⟨h1, h2⟩ := kid_inv h i (by omega)
    rw [show n - i = (n - (i + 1)) + 1 by omega] at h1
    have h3 := skp_one _ _ _ _ h1
    have h4 := skp_split a (badS a) (t.drop (kidN a t p i)) 1 (n - (i + 1))
    rw [Nat.add_comm 1, if_pos h3.1] at h4
    rw [h4] at h1
    refine ⟨?_, ?_⟩
    · show (skp a (badS a) (t.drop (kidN a t p i + sz a t (kidN a t p i))) _).1 = true
      unfold sz
      rw [← List.drop_drop]
      exact h1
    · show p ≤ kidN a t p i + sz a t (kidN a t p i)
      omega
theorem kid_in {a t : List Int} {p n : Nat} (h : (skp a (badS a) (t.drop p) n).1 = true) {i : Nat} (hi : i < n) : kidN a t p i < t.length ∧ p ≤ kidN a t p i := by
  obtain ⟨h1, h2⟩ := kid_inv h i (by omega)
  refine ⟨?_, h2⟩
  by_cases hl : kidN a t p i < t.length
  · exact hl
  · rw [List.drop_eq_nil_of_le (by omega), show n - i = (n - i - 1) + 1 by omega] at h1
    cases h1
/-- How many arguments stand behind the symbol at k. -/
def arK (a t : List Int) (k : Nat) : Nat := (ar a (t.getD k 0)).toNat
theorem kids_skp {a t : List Int} (h : termOk a t = true) {k : Nat} (hk : k < t.length) : (skp a (badS a) (t.drop (k + 1)) (arK a t k)).1 = true := by
  have h1 := (term_at h hk).1
  rw [drop_get hk, show 1 = 0 + 1 from rfl] at h1
  unfold skp at h1
  split at h1
  · cases h1
  · unfold arK
    simp only [Nat.zero_add] at h1
    exact h1
theorem kid_lt {a t : List Int} (h : termOk a t = true) {k : Nat} (hk : k < t.length) {i : Nat} (hi : i < arK a t k) : k < kidN a t (k + 1) i ∧ kidN a t (k + 1) i < t.length := by
  have := kid_in (kids_skp h hk) hi
  omega
theorem arK_le {a t : List Int} (h : termOk a t = true) {k : Nat} (hk : k < t.length) : arK a t k ≤ 3 ∧ ar a (t.getD k 0) = (arK a t k : Int) ∧ ar1 a (t.getD k 0) = (arK a t k : Int) := by
  have h1 := termOk_get h hk
  have h2 := ar_bounds (termOk_sig h) h1.2
  unfold arK
  refine ⟨by omega, by omega, ?_⟩
  unfold ar1
  rw [if_neg (by unfold badS; rw [decide_eq_true_iff]; omega)]
  omega
def kidL (a t : List Int) (k n : Nat) : List Int := (List.range n).map (fun i => ((kidN a t (k + 1) i : Nat) : Int))
theorem kidL_succ (a t : List Int) (k n : Nat) : kidL a t k (n + 1) = kidL a t k n ++ [((kidN a t (k + 1) n : Nat) : Int)] := by
  unfold kidL; rw [List.range_succ, List.map_append]; rfl
theorem kidL_len (a t : List Int) (k n : Nat) : (kidL a t k n).length = n := by unfold kidL; simp
theorem kidL_get {a t : List Int} {k n i : Nat} (hi : i < n) : (kidL a t k n).getD i 0 = ((kidN a t (k + 1) i : Nat) : Int) := by
  unfold kidL; simp [List.getD_eq_getElem?_getD, hi]
theorem l1Args_spec {w0 : World} {Γ : List Atom} {v v1 : Value} {a t : List Int} {k : Int} {m : Nat} [hm : ToN k m] [h : HasRd (List Int) repList Γ [v] a] [h1 : HasRd (List Int) repList Γ [v1] t] (ht : termOk a t = true) (hk : 0 ≤ k ∧ k < t.length) : CJ Tryz.prog 149 [.agg #[v], v1, .int .i64 k] w0 Γ (fun q : Value => q) (fun q => .ow [q] (kidL a t m (arK a t m)) :: Γ) := by
  refine cj_lift (R := [.rd [v] a, .rd [v1] t]) (A := fun q => [.ow [q] (kidL a t m (arK a t m))]) (fun w1 => ?_) (reads_cons h (reads_cons h1 inferInstance)) (fun _ => inferInstance)
  simp only [List.cons_append, List.nil_append]
  obtain rfl : k = (m : Int) := by have := hm.eq; omega
  have hs := termOk_sig ht
  have hl := termOk_len ht
  obtain ⟨h3, _, har⟩ := arK_le ht (k := m) (by omega)
  refine cj_enter Tryz.func149 Tryz.ntmps149 ?_
  repeat' (first | refine red ?_ | refine reds ?_ | refine redv fun sv => ?_ | refine redn fun b => ?_ | ((refine wa_begin 3 [false, false, false, false, false, false, false] [] ?_ <;> refine wa_p 0 ?_ <;> refine wa_p 1 ?_ <;> refine wa_p 2 ?_ <;> refine wa_p 3 ?_ <;> (first | refine wa_f 4 fun hbi => ?_ | fail) <;> (refine wa_do 5 ?_ <;> (repeat' (first | refine red ?_ | refine redc fun r => ?_ | fail))) <;> refine wa_p 6 ?_) <;> (refine wa_end ?_)) | fail)
  rw [har]
  refine wc_loop_p [7, 8, 9] [19, 20, 23, 24, 25, 26, 27, 28, 29, 30, 21, 22] (ι := Nat × Value) (fun j => [j.2, .int .i64 (kidN a t (m + 1) j.1 : Nat), .int .i64 ((arK a t m - j.1 : Nat) : Int)]) (fun j => [.ow [j.2] (kidL a t m j.1)]) (fun j => j.1 ≤ arK a t m) (fun j => arK a t m - j.1) (0, sv) [.ow [sv] ([] : List Int)] (by kernel_rfl) (Nat.zero_le _) rfl ?_
  intro ⟨j, sw⟩ u l' hl' hj
  simp only [patch, List.map_cons, List.map_nil, List.set_cons_zero, List.set_cons_succ] at hl'
  subst hl'
  simp only [List.cons_append, List.nil_append] at hj ⊢
  have hkl := kidL_len a t m j
  have hks := kidL_succ a t m j
  have hkn : j < arK a t m → kidN a t (m + 1) j < t.length := fun h => (kid_lt ht (k := m) (by omega) h).2
  by_cases hjl : j < arK a t m
  · have hkn' := hkn hjl
    have he := end_S ht hkn'
    repeat' (first | refine red ?_ | refine reds ?_ | refine redc fun r => ?_ | refine redv fun sv => ?_ | (refine redi (fun hc => ?_) (fun hc => ?_) <;> try first | (exfalso; omega) | exact absurd rfl hc) | fail)
    rw [← hks]
    refine wq_next (j + 1, sv) (by simp only; omega) (by simp only; omega) ?_ ent_e
    simp only [kidN]
    rw [he, show ((arK a t m - j : Nat) : Int) - 1 = ((arK a t m - (j + 1) : Nat) : Int) by omega]
    kernel_rfl
  · repeat' (first | refine red ?_ | (refine redi (fun hc => ?_) (fun hc => ?_) <;> try first | (exfalso; omega) | exact absurd rfl hc) | fail)
    rw [show j = arK a t m by omega]
    exact ⟨_, rfl, ent_e⟩
instance l1Args_ctr {Γ : List Atom} {v v1 : Value} {a t : List Int} {k : Int} {m : Nat} [hm : ToN k m] [h : HasRd (List Int) repList Γ [v] a] [h1 : HasRd (List Int) repList Γ [v1] t] :
    CtrC Tryz.prog 149 [.agg #[v], v1, .int .i64 k] Γ ((termOk a t = true) ∧ (0 ≤ k ∧ k < t.length)) (Value) (fun q : Value => q) (fun q => .ow [q] (kidL a t m (arK a t m)) :: Γ) := ⟨fun s w0 => l1Args_spec s.1 s.2⟩

theorem argsAtK_spec {w0 : World} {Γ : List Atom} {v v1 : Value} {a t : List Int} {k : Int} {m : Nat} [hm : ToN k m] [h : HasRd (List Int) repList Γ [v] a] [h1 : HasRd (List Int) repList Γ [v1] t] (ht : termOk a t = true) (hk : 0 ≤ k ∧ k < t.length) : CJ Tryz.prog 98 [.agg #[v], v1, .int .i64 k] w0 Γ (fun q : Value => q) (fun q => .ow [q] (kidL a t m (arK a t m)) :: Γ) := by
  refine cj_lift (R := [.rd [v] a, .rd [v1] t]) (A := fun q => [.ow [q] (kidL a t m (arK a t m))]) (fun w1 => ?_) (reads_cons h (reads_cons h1 inferInstance)) (fun _ => inferInstance)
  simp only [List.cons_append, List.nil_append]
  obtain rfl : k = (m : Int) := by have := hm.eq; omega
  have hs := termOk_sig ht
  have hl := termOk_len ht
  have htk := termOk_get ht (k := m) (by omega)
  obtain ⟨h3, har, _⟩ := arK_le ht (k := m) (by omega)
  refine cj_enter Tryz.func98 Tryz.ntmps98 ?_
  repeat' (first | refine red ?_ | refine reds ?_ | refine redn fun b => ?_ | ((refine wa_begin 3 [false, false, false, false, false, false, false] [] ?_ <;> refine wa_p 0 ?_ <;> refine wa_p 1 ?_ <;> refine wa_p 2 ?_ <;> refine wa_p 3 ?_ <;> (first | refine wa_f 4 fun hbi => ?_ | fail) <;> (refine wa_do 5 ?_ <;> (repeat' (first | refine red ?_ | refine redc fun r => ?_ | fail))) <;> refine wa_p 6 ?_) <;> (refine wa_end ?_)) | fail)
  rw [har]
  refine wc_loop_p [7, 8, 9] [18, 19, 22, 23, 24, 25, 26, 27, 28, 29, 20, 21] (ι := Nat × Value) (fun j => [j.2, .int .i64 (kidN a t (m + 1) j.1 : Nat), .int .i64 ((arK a t m - j.1 : Nat) : Int)]) (fun j => [.ow [j.2] (kidL a t m j.1)]) (fun j => j.1 ≤ arK a t m) (fun j => arK a t m - j.1) (0, .slice none 0 0) [.ow [.slice none 0 0] ([] : List Int)] (by kernel_rfl) (Nat.zero_le _) rfl ?_
  intro ⟨j, sw⟩ u l' hl' hj
  simp only [patch, List.map_cons, List.map_nil, List.set_cons_zero, List.set_cons_succ] at hl'
  subst hl'
  simp only [List.cons_append, List.nil_append] at hj ⊢
  have hkl := kidL_len a t m j
  have hks := kidL_succ a t m j
  have hkn : j < arK a t m → kidN a t (m + 1) j < t.length := fun h => (kid_lt ht (k := m) (by omega) h).2
  by_cases hjl : j < arK a t m
  · have hkn' := hkn hjl
    have he := end_I ht hkn'
    repeat' (first | refine red ?_ | refine reds ?_ | refine redc fun r => ?_ | refine redv fun sv => ?_ | (refine redi (fun hc => ?_) (fun hc => ?_) <;> try first | (exfalso; omega) | exact absurd rfl hc) | fail)
    rw [← hks]
    refine wq_next (j + 1, sv) (by simp only; omega) (by simp only; omega) ?_ ent_e
    simp only [kidN]
    rw [he, show ((arK a t m - j : Nat) : Int) - 1 = ((arK a t m - (j + 1) : Nat) : Int) by omega]
    kernel_rfl
  · repeat' (first | refine red ?_ | (refine redi (fun hc => ?_) (fun hc => ?_) <;> try first | (exfalso; omega) | exact absurd rfl hc) | fail)
    rw [show j = arK a t m by omega]
    exact ⟨_, rfl, ent_e⟩
instance argsAtK_ctr {Γ : List Atom} {v v1 : Value} {a t : List Int} {k : Int} {m : Nat} [hm : ToN k m] [h : HasRd (List Int) repList Γ [v] a] [h1 : HasRd (List Int) repList Γ [v1] t] :
    CtrC Tryz.prog 98 [.agg #[v], v1, .int .i64 k] Γ ((termOk a t = true) ∧ (0 ≤ k ∧ k < t.length)) (Value) (fun q : Value => q) (fun q => .ow [q] (kidL a t m (arK a t m)) :: Γ) := ⟨fun s w0 => argsAtK_spec s.1 s.2⟩

end Go.Proofs.YtbbdjjlnachnlaaGreatDoor
