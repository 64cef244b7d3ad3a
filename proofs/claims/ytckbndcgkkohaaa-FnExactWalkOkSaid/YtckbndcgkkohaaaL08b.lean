/- The outermost and the innermost redexes of a term. -/
import Derived.Test.YtckbndcgkkohaaaL08
namespace Go.Proofs.Ytckbndcgkkohaaa
open Go Go.Eng
set_option linter.unusedVariables false
set_option linter.unusedSimpArgs false

theorem getD_snoc {l : List Int} {x : Int} {i : Nat} : (l ++ [x]).getD i 0 = if i < l.length then l.getD i 0 else if i = l.length then x else 0 := by
  simp only [List.getD_eq_getElem?_getD, List.getElem?_append]
  by_cases h : i < l.length
  · simp [h]
  · by_cases h2 : i = l.length
    · simp [h2]
    · have : i - l.length ≠ 0 := by omega
      obtain ⟨m, hm⟩ : ∃ m, i - l.length = m + 1 := ⟨i - l.length - 1, by omega⟩
      simp [h, h2, hm]
theorem selTo_get (f : Nat → Bool) : ∀ n i, i < (selTo f n).length → 0 ≤ (selTo f n).getD i 0 ∧ (selTo f n).getD i 0 < n
  | 0, i, h => by simp [selTo] at h
  | n + 1, i, h => by
    cases hf : f n with
    | false =>
      rw [selTo_no hf] at h ⊢
      have := selTo_get f n i h
      omega
    | true =>
      rw [selTo_yes hf] at h ⊢
      rw [getD_snoc]
      split
      · have := selTo_get f n i (by assumption)
        omega
      · rw [List.length_append] at h
        simp only [List.length_cons, List.length_nil] at h
        rw [if_pos (by omega)]
        omega
theorem selTo_up (f : Nat → Bool) : ∀ n i, i + 1 < (selTo f n).length → (selTo f n).getD i 0 < (selTo f n).getD (i + 1) 0
  | 0, i, h => by simp [selTo] at h
  | n + 1, i, h => by
    cases hf : f n with
    | false =>
      rw [selTo_no hf] at h ⊢
      exact selTo_up f n i h
    | true =>
      rw [selTo_yes hf] at h ⊢
      rw [List.length_append] at h
      simp only [List.length_cons, List.length_nil] at h
      rw [getD_snoc, getD_snoc, if_pos (by omega)]
      split
      · exact selTo_up f n i (by assumption)
      · rw [if_pos (by omega)]
        exact (selTo_get f n i (by omega)).2
theorem redexesOf_get {x : SSystem} {t : List Int} {i : Nat} (h : i < (redexesOf x t).length) : sysOk x = true ∧ termOk x.1 t = true ∧ 0 ≤ (redexesOf x t).getD i 0 ∧ (redexesOf x t).getD i 0 < t.length ∧ (i + 1 < (redexesOf x t).length → (redexesOf x t).getD i 0 < (redexesOf x t).getD (i + 1) 0) := by
  unfold redexesOf at h ⊢
  split at h
  · rename_i hs
    rw [if_pos hs]
    exact ⟨hs.1, hs.2, (selTo_get _ _ _ h).1, (selTo_get _ _ _ h).2, selTo_up _ _ _⟩
  · simp at h

/-- Where the subterm at the i-th of these places ends. -/
def endI (a t l : List Int) (i : Nat) : Int := ((l.getD i 0).toNat + sz a t (l.getD i 0).toNat : Nat)
def outTo (a t l : List Int) : Nat → List Int × Int
  | 0 => ([], 0)
  | k + 1 => if (outTo a t l k).2 ≤ l.getD k 0 then ((outTo a t l k).1 ++ [l.getD k 0], endI a t l k) else outTo a t l k
theorem outTo_len (a t l : List Int) : ∀ k, (outTo a t l k).1.length ≤ k
  | 0 => Nat.le_refl _
  | k + 1 => by
    have := outTo_len a t l k
    unfold outTo
    split
    · simp only [List.length_append, List.length_cons, List.length_nil]; omega
    · omega
theorem outTo_yes {a t l : List Int} {k : Nat} (h : (outTo a t l k).2 ≤ l.getD k 0) : outTo a t l (k + 1) = ((outTo a t l k).1 ++ [l.getD k 0], endI a t l k) := if_pos h
theorem outTo_no {a t l : List Int} {k : Nat} (h : ¬ (outTo a t l k).2 ≤ l.getD k 0) : outTo a t l (k + 1) = outTo a t l k := if_neg h
theorem outTo_end {a t l : List Int} (hi : ∀ i, i < l.length → 0 ≤ l.getD i 0 ∧ l.getD i 0 < t.length) (ht : termOk a t = true) : ∀ k, k ≤ l.length → 0 ≤ (outTo a t l k).2 ∧ (outTo a t l k).2 ≤ t.length
  | 0, _ => by simp [outTo]
  | k + 1, hk => by
    have ih := outTo_end hi ht k (by omega)
    have := hi k (by omega)
    have := (term_at ht (k := (l.getD k 0).toNat) (by omega)).2.2
    unfold outTo
    split
    · simp only [endI]; omega
    · exact ih
def outmostOf (x : SSystem) (t : List Int) : List Int := (outTo x.1 t (redexesOf x t) (redexesOf x t).length).1
theorem outmost_len (x : SSystem) (t : List Int) : (outmostOf x t).length ≤ 60 := Nat.le_trans (outTo_len _ _ _ _) (redexesOf_len x t)

theorem impl_OutmostIn_spec {w0 : World} {Γ : List Atom} {v0 v1 v : Value} {x : SSystem} {t : List Int} [h0 : HasRd (List Int) repList Γ [v0] x.1] [h1 : HasRd (List SRule) repList Γ [v1] x.2] [h2 : HasRd (List Int) repList Γ [v] t] : CJ Try.prog 22 [.agg #[v0, v1], v] w0 Γ (fun q : Value => q) (fun q => .ow [q] (outmostOf x t) :: Γ) := by
  refine cj_lift (R := [.rd [v0] x.1, .rd [v1] x.2, .rd [v] t]) (A := fun q : Value => [.ow [q] (outmostOf x t)]) (fun w1 => ?_) (reads_cons h0 (reads_cons h1 (reads_cons h2 (inferInstance)))) (fun _ => inferInstance)
  simp only [List.cons_append, List.nil_append]
  have hR0 : ¬ (sysOk x = true ∧ termOk x.1 t = true) → outmostOf x t = [] := fun h => by unfold outmostOf; rw [redexesOf_no h]; rfl
  refine cj_enter Try.func22 Try.ntmps22 ?_
  repeat' (first
    | refine red ?_
    | refine redf fun hbi => ?_
    | refine reds ?_
    | refine redc fun r => ?_
    | refine redv fun sv => ?_
    | refine redn fun b => ?_
    | refine redz fun zs => ?_
    | refine redq (fun hc => ?_) (fun hc => ?_)
    | with_reducible refine wq_blk_o rfl ?_
    | (refine redd fun p cs as_ hcs has hf => ?_; simp only [Un.cells, Un.atoms, Un.fact, List.cons_append, List.nil_append] at hcs has hf; subst hcs has)
    | (refine redi (fun hc => ?_) (fun hc => ?_) <;> try first | (exfalso; omega) | exact absurd rfl hc)
    | fail)
  · rw [hR0 (fun h => by rw [h.1] at hc; cases hc)]
    exact ⟨_, rfl, ent_e⟩
  · rw [hR0 (fun h => by rw [h.2] at hc; cases hc)]
    exact ⟨_, rfl, ent_e⟩
  have h3 : sysOk x = true := by assumption
  have h4 : termOk x.1 t = true := by assumption
  have h5 := termOk_len h4
  have h6 := redexesOf_len x t
  have hg : ∀ i, i < (redexesOf x t).length → 0 ≤ (redexesOf x t).getD i 0 ∧ (redexesOf x t).getD i 0 < t.length := fun i hi => let h := redexesOf_get hi; ⟨h.2.2.1, h.2.2.2.1⟩
  have hen := outTo_end hg h4
  have hsig := termOk_sig h4
  repeat' (first
    | refine red ?_
    | refine redf fun hbi => ?_
    | refine reds ?_
    | refine redc fun r => ?_
    | refine redv fun sv => ?_
    | refine redn fun b => ?_
    | refine redz fun zs => ?_
    | refine redq (fun hc => ?_) (fun hc => ?_)
    | with_reducible refine wq_blk_o rfl ?_
    | (refine redd fun p cs as_ hcs has hf => ?_; simp only [Un.cells, Un.atoms, Un.fact, List.cons_append, List.nil_append] at hcs has hf; subst hcs has)
    | (refine redi (fun hc => ?_) (fun hc => ?_) <;> try first | (exfalso; omega) | exact absurd rfl hc)
    | fail)
  rw [← redexesOf_yes ⟨h3, h4⟩]
  rename Value => rv
  refine wc_loop_p [5, 6, 23] [24, 25, 26, 8, 27, 28, 29, 30, 31, 32, 33, 34, 35, 36, 37, 38, 39] (ι := Nat × Value) (fun k => [k.2, .int .i64 (outTo x.1 t (redexesOf x t) k.1).2, .int .i64 k.1]) (fun k => [.ow [k.2] (outTo x.1 t (redexesOf x t) k.1).1]) (fun k => k.1 ≤ (redexesOf x t).length) (fun k => (redexesOf x t).length - k.1) (0, .slice none 0 0) [.ow [.slice none 0 0] ([] : List Int)] (by kernel_rfl) (Nat.zero_le _) rfl ?_
  intro ⟨k, sw⟩ u l' hl' hk
  simp only [patch, List.map_cons, List.map_nil, List.set_cons_zero, List.set_cons_succ] at hl'
  subst hl'
  simp only [List.cons_append, List.nil_append] at hk ⊢
  have hsl := outTo_len x.1 t (redexesOf x t) k
  have hgk := hg k
  have hek := hen k hk
  repeat' (first
    | refine red ?_
    | refine redf fun hbi => ?_
    | refine reds ?_
    | refine redc fun r => ?_
    | refine redv fun sv => ?_
    | refine redn fun b => ?_
    | refine redz fun zs => ?_
    | refine redq (fun hc => ?_) (fun hc => ?_)
    | with_reducible refine wq_blk_o rfl ?_
    | (refine redd fun p cs as_ hcs has hf => ?_; simp only [Un.cells, Un.atoms, Un.fact, List.cons_append, List.nil_append] at hcs has hf; subst hcs has)
    | (refine redi (fun hc => ?_) (fun hc => ?_) <;> try first | (exfalso; omega) | exact absurd rfl hc)
    | fail)
  · have e := outTo_yes (a := x.1) (t := t) hc
    have hgk' := hgk (by omega)
    rw [show endOf x.1 (badI x.1) t ((redexesOf x t).getD k 0).toNat = endI x.1 t (redexesOf x t) k from end_I h4 (by omega)]
    exact wq_next (k + 1, sv) (by simp only; omega) (by simp only; omega) (by simp only [e]; kernel_rfl) (by simp only [e]; exact ent_e)
  · have e := outTo_no (a := x.1) (t := t) (show ¬ _ ≤ _ by omega : ¬ (outTo x.1 t (redexesOf x t) k).2 ≤ (redexesOf x t).getD k 0)
    exact wq_next (k + 1, sw) (by simp only; omega) (by simp only; omega) (by simp only [e]; kernel_rfl) (by simp only [e]; exact ent_e)
  · rw [show outmostOf x t = (outTo x.1 t (redexesOf x t) k).1 by unfold outmostOf; rw [show (redexesOf x t).length = k by omega]]
    exact ⟨_, rfl, ent_e⟩
instance impl_OutmostIn_ctr {Γ : List Atom} {v0 v1 v : Value} {x : SSystem} {t : List Int} [h0 : HasRd (List Int) repList Γ [v0] x.1] [h1 : HasRd (List SRule) repList Γ [v1] x.2] [h2 : HasRd (List Int) repList Γ [v] t] :
    CtrC Try.prog 22 [.agg #[v0, v1], v] Γ (True) (Value) (fun q : Value => q) (fun q => .ow [q] (outmostOf x t) :: Γ) := ⟨fun s w0 => impl_OutmostIn_spec⟩

theorem spec_OutmostIn_spec {w0 : World} {Γ : List Atom} {v0 v1 v : Value} {x : SSystem} {t : List Int} [h0 : HasRd (List Int) repList Γ [v0] x.1] [h1 : HasRd (List SRule) repList Γ [v1] x.2] [h2 : HasRd (List Int) repList Γ [v] t] : CJ Try.prog 20 [.agg #[v0, v1], v] w0 Γ (fun q : Value => q) (fun q => .ow [q] (outmostOf x t) :: Γ) := by
  refine cj_lift (R := [.rd [v0] x.1, .rd [v1] x.2, .rd [v] t]) (A := fun q : Value => [.ow [q] (outmostOf x t)]) (fun w1 => ?_) (reads_cons h0 (reads_cons h1 (reads_cons h2 (inferInstance)))) (fun _ => inferInstance)
  simp only [List.cons_append, List.nil_append]
  have h6 := redexesOf_len x t
  have hg : ∀ i, i < (redexesOf x t).length → 0 ≤ (redexesOf x t).getD i 0 ∧ (redexesOf x t).getD i 0 < t.length := fun i hi => let h := redexesOf_get hi; ⟨h.2.2.1, h.2.2.2.1⟩
  refine cj_enter Try.func20 Try.ntmps20 ?_
  repeat' (first
    | refine red ?_
    | refine redf fun hbi => ?_
    | refine reds ?_
    | refine redc fun r => ?_
    | refine redv fun sv => ?_
    | refine redn fun b => ?_
    | refine redz fun zs => ?_
    | refine redq (fun hc => ?_) (fun hc => ?_)
    | with_reducible refine wq_blk_o rfl ?_
    | (refine redd fun p cs as_ hcs has hf => ?_; simp only [Un.cells, Un.atoms, Un.fact, List.cons_append, List.nil_append] at hcs has hf; subst hcs has)
    | (refine redi (fun hc => ?_) (fun hc => ?_) <;> try first | (exfalso; omega) | exact absurd rfl hc)
    | ((refine wa_begin 9 [false, false, false, false, false, false, false, false, false] [] ?_ <;> (first | refine wa_p 0 ?_ | refine wa_p0 0 ?_ | fail) <;> (first | refine wa_f 1 fun hbi => ?_ | refine wa_p 1 ?_ | fail) <;> (first | refine wa_p 2 ?_ | refine wa_p0 2 ?_ | fail) <;> (first | refine wa_p 3 ?_ | refine wa_p0 3 ?_ | fail) <;> (first | refine wa_p 4 ?_ | refine wa_p0 4 ?_ | (refine wa_do 4 ?_ <;> (repeat' (first | refine red ?_ | refine redc fun r => ?_ | refine redv fun sv => ?_ | refine redf fun hbi => ?_ | refine redn fun b => ?_ | refine reds ?_ | refine redi (fun hc => ?_) (fun hc => ?_) | fail))) | fail) <;> (first | refine wa_p 5 ?_ | (refine wa_deep 5 fun p cs as_ asb_ hcs has hasb hf => ?_; simp only [Un.cells, Un.atoms, Un.fact, List.cons_append, List.nil_append] at hcs has hasb hf; subst hcs has hasb) | fail) <;> (first | refine wa_f 6 fun hbi => ?_ | refine wa_p 6 ?_ | fail) <;> (refine wa_do 7 ?_ <;> (repeat' (first | refine red ?_ | refine redc fun r => ?_ | refine redv fun sv => ?_ | refine redf fun hbi => ?_ | refine redn fun b => ?_ | refine reds ?_ | refine redi (fun hc => ?_) (fun hc => ?_) | fail))) <;> (first | refine wa_p 8 ?_ | refine wa_p0 8 ?_ | (refine wa_do 8 ?_ <;> (repeat' (first | refine red ?_ | refine redc fun r => ?_ | refine redv fun sv => ?_ | refine redf fun hbi => ?_ | refine redn fun b => ?_ | refine reds ?_ | refine redi (fun hc => ?_) (fun hc => ?_) | fail))) | fail)) <;> refine wa_end ?_)
    | fail)
  refine wc_loop_p [5, 7, 8] [13, 14, 15, 16, 19, 20, 21, 22, 23, 24, 25, 26, 27, 28, 29, 30, 31, 32, 33, 34, 35, 36, 37, 38, 39, 17, 18] (ι := Nat × Value) (fun k => [k.2, .int .i64 (outTo x.1 t (redexesOf x t) k.1).2, .int .i64 k.1]) (fun k => [.ow [k.2] (outTo x.1 t (redexesOf x t) k.1).1]) (fun k => k.1 ≤ (redexesOf x t).length) (fun k => (redexesOf x t).length - k.1) (0, sv) [.ow [sv] ([] : List Int)] (by kernel_rfl) (Nat.zero_le _) rfl ?_
  intro ⟨k, sw⟩ u l' hl' hk
  simp only [patch, List.map_cons, List.map_nil, List.set_cons_zero, List.set_cons_succ] at hl'
  subst hl'
  simp only [List.cons_append, List.nil_append] at hk ⊢
  have hsl := outTo_len x.1 t (redexesOf x t) k
  by_cases hlt : k < (redexesOf x t).length
  · have hgk := redexesOf_get hlt
    have hsig := termOk_sig hgk.2.1
    have h5 := termOk_len hgk.2.1
    have hek := outTo_end hg hgk.2.1 k hk
    repeat' (first
      | refine red ?_
      | refine redf fun hbi => ?_
      | refine reds ?_
      | refine redc fun r => ?_
      | refine redv fun sv => ?_
      | refine redn fun b => ?_
      | refine redz fun zs => ?_
      | refine redq (fun hc => ?_) (fun hc => ?_)
      | with_reducible refine wq_blk_o rfl ?_
      | (refine redd fun p cs as_ hcs has hf => ?_; simp only [Un.cells, Un.atoms, Un.fact, List.cons_append, List.nil_append] at hcs has hf; subst hcs has)
      | (refine redi (fun hc => ?_) (fun hc => ?_) <;> try first | (exfalso; omega) | exact absurd rfl hc)
      | ((refine wa_begin 9 [false, false, false, false, false, false, false, false, false] [] ?_ <;> (first | refine wa_p 0 ?_ | refine wa_p0 0 ?_ | fail) <;> (first | refine wa_f 1 fun hbi => ?_ | refine wa_p 1 ?_ | fail) <;> (first | refine wa_p 2 ?_ | refine wa_p0 2 ?_ | fail) <;> (first | refine wa_p 3 ?_ | refine wa_p0 3 ?_ | fail) <;> (first | refine wa_p 4 ?_ | refine wa_p0 4 ?_ | (refine wa_do 4 ?_ <;> (repeat' (first | refine red ?_ | refine redc fun r => ?_ | refine redv fun sv => ?_ | refine redf fun hbi => ?_ | refine redn fun b => ?_ | refine reds ?_ | refine redi (fun hc => ?_) (fun hc => ?_) | fail))) | fail) <;> (first | refine wa_p 5 ?_ | (refine wa_deep 5 fun p cs as_ asb_ hcs has hasb hf => ?_; simp only [Un.cells, Un.atoms, Un.fact, List.cons_append, List.nil_append] at hcs has hasb hf; subst hcs has hasb) | fail) <;> (first | refine wa_f 6 fun hbi => ?_ | refine wa_p 6 ?_ | fail) <;> (refine wa_do 7 ?_ <;> (repeat' (first | refine red ?_ | refine redc fun r => ?_ | refine redv fun sv => ?_ | refine redf fun hbi => ?_ | refine redn fun b => ?_ | refine reds ?_ | refine redi (fun hc => ?_) (fun hc => ?_) | fail))) <;> (first | refine wa_p 8 ?_ | refine wa_p0 8 ?_ | (refine wa_do 8 ?_ <;> (repeat' (first | refine red ?_ | refine redc fun r => ?_ | refine redv fun sv => ?_ | refine redf fun hbi => ?_ | refine redn fun b => ?_ | refine reds ?_ | refine redi (fun hc => ?_) (fun hc => ?_) | fail))) | fail)) <;> refine wa_end ?_)
      | fail)
    · have e := outTo_yes (a := x.1) (t := t) hc
      rw [show endOf x.1 (badS x.1) t ((redexesOf x t).getD k 0).toNat = endI x.1 t (redexesOf x t) k from end_S hgk.2.1 (by omega)]
      exact wq_next (k + 1, sv) (by simp only; omega) (by simp only; omega) (by simp only [e]; kernel_rfl) (by simp only [e]; exact ent_e)
    · have e := outTo_no (a := x.1) (t := t) (show ¬ _ ≤ _ by omega : ¬ (outTo x.1 t (redexesOf x t) k).2 ≤ (redexesOf x t).getD k 0)
      exact wq_next (k + 1, sw) (by simp only; omega) (by simp only; omega) (by simp only [e]; kernel_rfl) (by simp only [e]; exact ent_e)
  · repeat' (first
      | refine red ?_
      | refine redf fun hbi => ?_
      | refine reds ?_
      | refine redc fun r => ?_
      | refine redv fun sv => ?_
      | refine redn fun b => ?_
      | refine redz fun zs => ?_
      | refine redq (fun hc => ?_) (fun hc => ?_)
      | with_reducible refine wq_blk_o rfl ?_
      | (refine redd fun p cs as_ hcs has hf => ?_; simp only [Un.cells, Un.atoms, Un.fact, List.cons_append, List.nil_append] at hcs has hf; subst hcs has)
      | (refine redi (fun hc => ?_) (fun hc => ?_) <;> try first | (exfalso; omega) | exact absurd rfl hc)
      | ((refine wa_begin 9 [false, false, false, false, false, false, false, false, false] [] ?_ <;> (first | refine wa_p 0 ?_ | refine wa_p0 0 ?_ | fail) <;> (first | refine wa_f 1 fun hbi => ?_ | refine wa_p 1 ?_ | fail) <;> (first | refine wa_p 2 ?_ | refine wa_p0 2 ?_ | fail) <;> (first | refine wa_p 3 ?_ | refine wa_p0 3 ?_ | fail) <;> (first | refine wa_p 4 ?_ | refine wa_p0 4 ?_ | (refine wa_do 4 ?_ <;> (repeat' (first | refine red ?_ | refine redc fun r => ?_ | refine redv fun sv => ?_ | refine redf fun hbi => ?_ | refine redn fun b => ?_ | refine reds ?_ | refine redi (fun hc => ?_) (fun hc => ?_) | fail))) | fail) <;> (first | refine wa_p 5 ?_ | (refine wa_deep 5 fun p cs as_ asb_ hcs has hasb hf => ?_; simp only [Un.cells, Un.atoms, Un.fact, List.cons_append, List.nil_append] at hcs has hasb hf; subst hcs has hasb) | fail) <;> (first | refine wa_f 6 fun hbi => ?_ | refine wa_p 6 ?_ | fail) <;> (refine wa_do 7 ?_ <;> (repeat' (first | refine red ?_ | refine redc fun r => ?_ | refine redv fun sv => ?_ | refine redf fun hbi => ?_ | refine redn fun b => ?_ | refine reds ?_ | refine redi (fun hc => ?_) (fun hc => ?_) | fail))) <;> (first | refine wa_p 8 ?_ | refine wa_p0 8 ?_ | (refine wa_do 8 ?_ <;> (repeat' (first | refine red ?_ | refine redc fun r => ?_ | refine redv fun sv => ?_ | refine redf fun hbi => ?_ | refine redn fun b => ?_ | refine reds ?_ | refine redi (fun hc => ?_) (fun hc => ?_) | fail))) | fail)) <;> refine wa_end ?_)
      | fail)
    rw [show outmostOf x t = (outTo x.1 t (redexesOf x t) k).1 by unfold outmostOf; rw [show (redexesOf x t).length = k by omega]]
    exact ⟨_, rfl, ent_e⟩
instance spec_OutmostIn_ctr {Γ : List Atom} {v0 v1 v : Value} {x : SSystem} {t : List Int} [h0 : HasRd (List Int) repList Γ [v0] x.1] [h1 : HasRd (List SRule) repList Γ [v1] x.2] [h2 : HasRd (List Int) repList Γ [v] t] :
    CtrC Try.prog 20 [.agg #[v0, v1], v] Γ (True) (Value) (fun q : Value => q) (fun q => .ow [q] (outmostOf x t) :: Γ) := ⟨fun s w0 => spec_OutmostIn_spec⟩

set_option maxHeartbeats 0 in
set_option synthInstance.maxHeartbeats 400000 in
set_option synthInstance.maxSize 1000 in
theorem FnExactOutmostIn_law {w0 : World} {Γ : List Atom} {x0 : SSystem} {x1 : List Int} {v0_0 v0_1 v1_0 : Value} [h0_0 : HasRd (List Int) repList Γ [v0_0] x0.1] [h0_1 : HasRd (List SRule) repList Γ [v0_1] x0.2] [h1_0 : HasRd (List Int) repList Γ [v1_0] x1] (hf0 : (x0.1.length ≤ 9223372036854775807) ∧ x0.2.length ≤ 9223372036854775807) (hf1 : x1.length ≤ 9223372036854775807) :
    CJ Try.prog 4 [.agg #[v0_0, v0_1], v1_0] w0 Γ (fun _ : Unit => .bool true) (fun _ => Γ) := by
  have hz0 := lft_spec 1048576 (Siz.size x0)
  have hs0 : Siz.size x0 = Siz.size x0.1 + Siz.size x0.2 := by simp only [siz_pair, siz_int, siz_bool, siz_str] <;> omega
  have hb0_0 := cntL_le x0.1
  have hl0_0 := siz_ints x0.1
  have hb0_1 := cntL_le x0.2
  have hb1_0 := cntL_le x1
  have hl1_0 := siz_ints x1
  have hm1 := outmost_len x0 x1
  have hm2 := cntL_ints (outmostOf x0 x1)
  refine cj_enter Try.func4 Try.ntmps4 ?_
  repeat' (first
    | refine red ?_
    | refine redf fun hbi => ?_
    | refine reds ?_
    | refine redc fun r => ?_
    | refine redv fun sv => ?_
    | refine redn fun b => ?_
    | refine redz fun zs => ?_
    | refine redq (fun hc => ?_) (fun hc => ?_)
    | with_reducible refine wq_blk_o rfl ?_
    | (refine redd fun p cs as_ hcs has hf => ?_; simp only [Un.cells, Un.atoms, Un.fact, List.cons_append, List.nil_append] at hcs has hf; subst hcs has)
    | (refine redi (fun hc => ?_) (fun hc => ?_) <;> try first | (exfalso; omega) | exact absurd rfl hc)
    | ((refine wa_begin 13 [false, false, false, false, false] [] ?_ <;> (first | refine wa_f 0 fun hbi => ?_ | refine wa_p 0 ?_ | fail) <;> (first | refine wa_f 1 fun hbi => ?_ | refine wa_p 1 ?_ | fail) <;> (refine wa_do 2 ?_ <;> (repeat' (first | refine red ?_ | refine redc fun r => ?_ | refine redv fun sv => ?_ | refine redf fun hbi => ?_ | refine redn fun b => ?_ | refine reds ?_ | refine redi (fun hc => ?_) (fun hc => ?_) | fail))) <;> (refine wa_do 3 ?_ <;> (repeat' (first | refine red ?_ | refine redc fun r => ?_ | refine redv fun sv => ?_ | refine redf fun hbi => ?_ | refine redn fun b => ?_ | refine reds ?_ | refine redi (fun hc => ?_) (fun hc => ?_) | fail))) <;> (first | refine wa_p 4 ?_ | refine wa_p0 4 ?_ | (refine wa_do 4 ?_ <;> (repeat' (first | refine red ?_ | refine redc fun r => ?_ | refine redv fun sv => ?_ | refine redf fun hbi => ?_ | refine redn fun b => ?_ | refine reds ?_ | refine redi (fun hc => ?_) (fun hc => ?_) | fail))) | fail)) <;> refine wa_end ?_)
    | fail)
  all_goals exact ⟨(), rfl, ent_e⟩


/-- The i-th of these places holds none of the others. -/
def inI (a t l : List Int) (i : Nat) : Bool := decide (i + 1 = l.length ∨ endI a t l i ≤ l.getD (i + 1) 0)
def keepTo (p : Nat → Bool) (l : List Int) : Nat → List Int
  | 0 => []
  | k + 1 => if p k = true then keepTo p l k ++ [l.getD k 0] else keepTo p l k
theorem keepTo_len (p : Nat → Bool) (l : List Int) : ∀ k, (keepTo p l k).length ≤ k
  | 0 => Nat.le_refl _
  | k + 1 => by
    have := keepTo_len p l k
    unfold keepTo
    split
    · simp only [List.length_append, List.length_cons, List.length_nil]; omega
    · omega
theorem keepTo_yes {p : Nat → Bool} {l : List Int} {k : Nat} (h : p k = true) : keepTo p l (k + 1) = keepTo p l k ++ [l.getD k 0] := if_pos h
theorem keepTo_no {p : Nat → Bool} {l : List Int} {k : Nat} (h : p k = false) : keepTo p l (k + 1) = keepTo p l k := if_neg (by rw [h]; simp)
def inmostOf (x : SSystem) (t : List Int) : List Int := keepTo (inI x.1 t (redexesOf x t)) (redexesOf x t) (redexesOf x t).length
theorem inmost_len (x : SSystem) (t : List Int) : (inmostOf x t).length ≤ 60 := Nat.le_trans (keepTo_len _ _ _) (redexesOf_len x t)
theorem inside_spec {w0 : World} {Γ : List Atom} {v0 v : Value} {a t : List Int} {at_ p : Int} [h0 : HasRd (List Int) repList Γ [v0] a] [h2 : HasRd (List Int) repList Γ [v] t] (hs : termOk a t = true ∧ 0 ≤ at_ ∧ at_ < t.length) : CJ Try.prog 159 [.agg #[v0], v, .int .i64 at_, .int .i64 p] w0 Γ (fun _ : Unit => .bool (decide (at_ ≤ p ∧ p < (at_.toNat + sz a t at_.toNat : Nat)))) (fun _ => Γ) := by
  obtain ⟨hs1, hs2, hs3⟩ := hs
  have hsig := termOk_sig hs1
  have htl := termOk_len hs1
  have he := end_I hs1 (k := at_.toNat) (by omega)
  refine cj_enter Try.func159 Try.ntmps159 ?_
  repeat' (first
    | refine red ?_
    | refine redf fun hbi => ?_
    | refine reds ?_
    | refine redc fun r => ?_
    | refine redv fun sv => ?_
    | refine redn fun b => ?_
    | refine redz fun zs => ?_
    | refine redq (fun hc => ?_) (fun hc => ?_)
    | with_reducible refine wq_blk_o rfl ?_
    | (refine redd fun p cs as_ hcs has hf => ?_; simp only [Un.cells, Un.atoms, Un.fact, List.cons_append, List.nil_append] at hcs has hf; subst hcs has)
    | (refine redi (fun hc => ?_) (fun hc => ?_) <;> try first | (exfalso; omega) | exact absurd rfl hc)
    | fail)
  · exact ⟨(), ret_bool (by rw [he]; exact decide_eq_decide.2 ⟨fun h => by omega, fun h => by omega⟩), ent_e⟩
  · exact ⟨(), ret_bool (decide_eq_false fun h => by omega), ent_e⟩
instance inside_ctr {Γ : List Atom} {v0 v : Value} {a t : List Int} {at_ p : Int} [h0 : HasRd (List Int) repList Γ [v0] a] [h2 : HasRd (List Int) repList Γ [v] t] :
    CtrC Try.prog 159 [.agg #[v0], v, .int .i64 at_, .int .i64 p] Γ (termOk a t = true ∧ 0 ≤ at_ ∧ at_ < t.length) (Unit) (fun _ : Unit => .bool (decide (at_ ≤ p ∧ p < (at_.toNat + sz a t at_.toNat : Nat)))) (fun _ => Γ) := ⟨fun s w0 => inside_spec s⟩

theorem inmost_spec {w0 : World} {Γ : List Atom} {v0 v1 v : Value} {x : SSystem} {t : List Int} [h0 : HasRd (List Int) repList Γ [v0] x.1] [h1 : HasRd (List SRule) repList Γ [v1] x.2] [h2 : HasRd (List Int) repList Γ [v] t] (hs : sysOk x = true ∧ termOk x.1 t = true) : CJ Try.prog 84 [.agg #[v0, v1], v] w0 Γ (fun q : Value => q) (fun q => .ow [q] (inmostOf x t) :: Γ) := by
  refine cj_lift (R := [.rd [v0] x.1, .rd [v1] x.2, .rd [v] t]) (A := fun q : Value => [.ow [q] (inmostOf x t)]) (fun w1 => ?_) (reads_cons h0 (reads_cons h1 (reads_cons h2 (inferInstance)))) (fun _ => inferInstance)
  simp only [List.cons_append, List.nil_append]
  have h6 := redexesOf_len x t
  have hrx := redexesOf_yes hs
  have hg : ∀ i, i < (redexesOf x t).length → 0 ≤ (redexesOf x t).getD i 0 ∧ (redexesOf x t).getD i 0 < t.length ∧ (i + 1 < (redexesOf x t).length → (redexesOf x t).getD i 0 < (redexesOf x t).getD (i + 1) 0) := fun i hi => let h := redexesOf_get hi; ⟨h.2.2.1, h.2.2.2.1, h.2.2.2.2⟩
  have hsig := termOk_sig hs.2
  have h5 := termOk_len hs.2
  have hs2 := hs.2
  refine cj_enter Try.func84 Try.ntmps84 ?_
  repeat' (first
    | refine red ?_
    | refine redf fun hbi => ?_
    | refine reds ?_
    | refine redc fun r => ?_
    | refine redv fun sv => ?_
    | refine redn fun b => ?_
    | refine redz fun zs => ?_
    | refine redq (fun hc => ?_) (fun hc => ?_)
    | with_reducible refine wq_blk_o rfl ?_
    | (refine redd fun p cs as_ hcs has hf => ?_; simp only [Un.cells, Un.atoms, Un.fact, List.cons_append, List.nil_append] at hcs has hf; subst hcs has)
    | (refine redi (fun hc => ?_) (fun hc => ?_) <;> try first | (exfalso; omega) | exact absurd rfl hc)
    | ((refine wa_begin 6 [false, false, false, false, false, false, false, false, false, false, false, false, false, false, false, false, false, false] [] ?_ <;> (first | refine wa_p 0 ?_ | refine wa_p0 0 ?_ | fail) <;> (first | refine wa_p 1 ?_ | refine wa_p0 1 ?_ | fail) <;> (first | refine wa_p 2 ?_ | refine wa_p0 2 ?_ | (refine wa_do 2 ?_ <;> (repeat' (first | refine red ?_ | refine redc fun r => ?_ | refine redv fun sv => ?_ | refine redf fun hbi => ?_ | refine redn fun b => ?_ | refine reds ?_ | refine redi (fun hc => ?_) (fun hc => ?_) | fail))) | fail) <;> (first | refine wa_p 3 ?_ | refine wa_p0 3 ?_ | (refine wa_do 3 ?_ <;> (repeat' (first | refine red ?_ | refine redc fun r => ?_ | refine redv fun sv => ?_ | refine redf fun hbi => ?_ | refine redn fun b => ?_ | refine reds ?_ | refine redi (fun hc => ?_) (fun hc => ?_) | fail))) | fail) <;> (first | refine wa_p 4 ?_ | refine wa_p0 4 ?_ | (refine wa_do 4 ?_ <;> (repeat' (first | refine red ?_ | refine redc fun r => ?_ | refine redv fun sv => ?_ | refine redf fun hbi => ?_ | refine redn fun b => ?_ | refine reds ?_ | refine redi (fun hc => ?_) (fun hc => ?_) | fail))) | fail) <;> (first | refine wa_p 5 ?_ | refine wa_p0 5 ?_ | (refine wa_do 5 ?_ <;> (repeat' (first | refine red ?_ | refine redc fun r => ?_ | refine redv fun sv => ?_ | refine redf fun hbi => ?_ | refine redn fun b => ?_ | refine reds ?_ | refine redi (fun hc => ?_) (fun hc => ?_) | fail))) | fail) <;> (first | refine wa_pg 6 ?_ | refine wa_no 6 ?_ | (refine wa_if 24 (fun hc => ?_) (fun hc => ?_) <;> (try first | (exfalso; omega) | exact absurd rfl hc) <;> first | refine wa_pg 6 ?_ | refine wa_no 6 ?_) | fail) <;> (first | refine wa_pg 7 ?_ | refine wa_no 7 ?_ | fail) <;> (first | refine wa_pg 8 ?_ | refine wa_no 8 ?_ | fail) <;> (first | refine wa_pg 9 ?_ | refine wa_no 9 ?_ | fail) <;> (first | refine wa_pg 10 ?_ | refine wa_no 10 ?_ | fail) <;> (first | refine wa_pg 11 ?_ | refine wa_no 11 ?_ | (refine wa_do 11 ?_ <;> (repeat' (first | refine red ?_ | refine redc fun r => ?_ | refine redv fun sv => ?_ | refine redf fun hbi => ?_ | refine redn fun b => ?_ | refine reds ?_ | refine redi (fun hc => ?_) (fun hc => ?_) | fail))) | fail) <;> (first | refine wa_pg 12 ?_ | refine wa_no 12 ?_ | (refine wa_do 12 ?_ <;> (repeat' (first | refine red ?_ | refine redc fun r => ?_ | refine redv fun sv => ?_ | refine redf fun hbi => ?_ | refine redn fun b => ?_ | refine reds ?_ | refine redi (fun hc => ?_) (fun hc => ?_) | fail))) | fail) <;> (first | refine wa_pg 13 ?_ | refine wa_no 13 ?_ | (refine wa_do 13 ?_ <;> (repeat' (first | refine red ?_ | refine redc fun r => ?_ | refine redv fun sv => ?_ | refine redf fun hbi => ?_ | refine redn fun b => ?_ | refine reds ?_ | refine redi (fun hc => ?_) (fun hc => ?_) | fail))) | fail) <;> (first | refine wa_pg 14 ?_ | refine wa_no 14 ?_ | (refine wa_do 14 ?_ <;> (repeat' (first | refine red ?_ | refine redc fun r => ?_ | refine redv fun sv => ?_ | refine redf fun hbi => ?_ | refine redn fun b => ?_ | refine reds ?_ | refine redi (fun hc => ?_) (fun hc => ?_) | fail))) | fail) <;> (refine wa_do 15 ?_ <;> (repeat' (first | refine red ?_ | refine redc fun r => ?_ | refine redv fun sv => ?_ | refine redf fun hbi => ?_ | refine redn fun b => ?_ | refine reds ?_ | refine redi (fun hc => ?_) (fun hc => ?_) | fail))) <;> (first | refine wa_pg 16 ?_ | refine wa_no 16 ?_ | (refine wa_do 16 ?_ <;> (repeat' (first | refine red ?_ | refine redc fun r => ?_ | refine redv fun sv => ?_ | refine redf fun hbi => ?_ | refine redn fun b => ?_ | refine reds ?_ | refine redi (fun hc => ?_) (fun hc => ?_) | fail))) | fail) <;> (first | refine wa_p 17 ?_ | refine wa_p0 17 ?_ | (refine wa_do 17 ?_ <;> (repeat' (first | refine red ?_ | refine redc fun r => ?_ | refine redv fun sv => ?_ | refine redf fun hbi => ?_ | refine redn fun b => ?_ | refine reds ?_ | refine redi (fun hc => ?_) (fun hc => ?_) | fail))) | fail)) <;> refine wa_end ?_)
    | fail)
  rw [← hrx]
  refine wc_loop_p [6, 14] [15, 16, 17, 18, 7, 8, 19, 20, 21, 22, 23, 24, 25, 26, 27, 28, 29, 30, 31, 32, 33, 34, 35, 36, 37, 38, 39, 40, 41] (ι := Nat × Value) (fun k => [k.2, .int .i64 k.1]) (fun k => [.ow [k.2] (keepTo (inI x.1 t (redexesOf x t)) (redexesOf x t) k.1)]) (fun k => k.1 ≤ (redexesOf x t).length) (fun k => (redexesOf x t).length - k.1) (0, .slice none 0 0) [.ow [.slice none 0 0] ([] : List Int)] (by kernel_rfl) (Nat.zero_le _) rfl ?_
  intro ⟨k, sw⟩ u l' hl' hk
  simp only [patch, List.map_cons, List.map_nil, List.set_cons_zero, List.set_cons_succ] at hl'
  subst hl'
  simp only [List.cons_append, List.nil_append] at hk ⊢
  have hsl := keepTo_len (inI x.1 t (redexesOf x t)) (redexesOf x t) k
  have hgk := hg k
  repeat' (first
    | refine red ?_
    | refine redf fun hbi => ?_
    | refine reds ?_
    | refine redc fun r => ?_
    | refine redv fun sv => ?_
    | refine redn fun b => ?_
    | refine redz fun zs => ?_
    | refine redq (fun hc => ?_) (fun hc => ?_)
    | with_reducible refine wq_blk_o rfl ?_
    | (refine redd fun p cs as_ hcs has hf => ?_; simp only [Un.cells, Un.atoms, Un.fact, List.cons_append, List.nil_append] at hcs has hf; subst hcs has)
    | (refine redi (fun hc => ?_) (fun hc => ?_) <;> try first | (exfalso; omega) | exact absurd rfl hc)
    | ((refine wa_begin 6 [false, false, false, false, false, false, false, false, false, false, false, false, false, false, false, false, false, false] [] ?_ <;> (first | refine wa_p 0 ?_ | refine wa_p0 0 ?_ | fail) <;> (first | refine wa_p 1 ?_ | refine wa_p0 1 ?_ | fail) <;> (first | refine wa_p 2 ?_ | refine wa_p0 2 ?_ | (refine wa_do 2 ?_ <;> (repeat' (first | refine red ?_ | refine redc fun r => ?_ | refine redv fun sv => ?_ | refine redf fun hbi => ?_ | refine redn fun b => ?_ | refine reds ?_ | refine redi (fun hc => ?_) (fun hc => ?_) | fail))) | fail) <;> (first | refine wa_p 3 ?_ | refine wa_p0 3 ?_ | (refine wa_do 3 ?_ <;> (repeat' (first | refine red ?_ | refine redc fun r => ?_ | refine redv fun sv => ?_ | refine redf fun hbi => ?_ | refine redn fun b => ?_ | refine reds ?_ | refine redi (fun hc => ?_) (fun hc => ?_) | fail))) | fail) <;> (first | refine wa_p 4 ?_ | refine wa_p0 4 ?_ | (refine wa_do 4 ?_ <;> (repeat' (first | refine red ?_ | refine redc fun r => ?_ | refine redv fun sv => ?_ | refine redf fun hbi => ?_ | refine redn fun b => ?_ | refine reds ?_ | refine redi (fun hc => ?_) (fun hc => ?_) | fail))) | fail) <;> (first | refine wa_p 5 ?_ | refine wa_p0 5 ?_ | (refine wa_do 5 ?_ <;> (repeat' (first | refine red ?_ | refine redc fun r => ?_ | refine redv fun sv => ?_ | refine redf fun hbi => ?_ | refine redn fun b => ?_ | refine reds ?_ | refine redi (fun hc => ?_) (fun hc => ?_) | fail))) | fail) <;> (first | refine wa_pg 6 ?_ | refine wa_no 6 ?_ | (refine wa_if 24 (fun hc => ?_) (fun hc => ?_) <;> (try first | (exfalso; omega) | exact absurd rfl hc) <;> first | refine wa_pg 6 ?_ | refine wa_no 6 ?_) | fail) <;> (first | refine wa_pg 7 ?_ | refine wa_no 7 ?_ | fail) <;> (first | refine wa_pg 8 ?_ | refine wa_no 8 ?_ | fail) <;> (first | refine wa_pg 9 ?_ | refine wa_no 9 ?_ | fail) <;> (first | refine wa_pg 10 ?_ | refine wa_no 10 ?_ | fail) <;> (first | refine wa_pg 11 ?_ | refine wa_no 11 ?_ | (refine wa_do 11 ?_ <;> (repeat' (first | refine red ?_ | refine redc fun r => ?_ | refine redv fun sv => ?_ | refine redf fun hbi => ?_ | refine redn fun b => ?_ | refine reds ?_ | refine redi (fun hc => ?_) (fun hc => ?_) | fail))) | fail) <;> (first | refine wa_pg 12 ?_ | refine wa_no 12 ?_ | (refine wa_do 12 ?_ <;> (repeat' (first | refine red ?_ | refine redc fun r => ?_ | refine redv fun sv => ?_ | refine redf fun hbi => ?_ | refine redn fun b => ?_ | refine reds ?_ | refine redi (fun hc => ?_) (fun hc => ?_) | fail))) | fail) <;> (first | refine wa_pg 13 ?_ | refine wa_no 13 ?_ | (refine wa_do 13 ?_ <;> (repeat' (first | refine red ?_ | refine redc fun r => ?_ | refine redv fun sv => ?_ | refine redf fun hbi => ?_ | refine redn fun b => ?_ | refine reds ?_ | refine redi (fun hc => ?_) (fun hc => ?_) | fail))) | fail) <;> (first | refine wa_pg 14 ?_ | refine wa_no 14 ?_ | (refine wa_do 14 ?_ <;> (repeat' (first | refine red ?_ | refine redc fun r => ?_ | refine redv fun sv => ?_ | refine redf fun hbi => ?_ | refine redn fun b => ?_ | refine reds ?_ | refine redi (fun hc => ?_) (fun hc => ?_) | fail))) | fail) <;> (refine wa_do 15 ?_ <;> (repeat' (first | refine red ?_ | refine redc fun r => ?_ | refine redv fun sv => ?_ | refine redf fun hbi => ?_ | refine redn fun b => ?_ | refine reds ?_ | refine redi (fun hc => ?_) (fun hc => ?_) | fail))) <;> (first | refine wa_pg 16 ?_ | refine wa_no 16 ?_ | (refine wa_do 16 ?_ <;> (repeat' (first | refine red ?_ | refine redc fun r => ?_ | refine redv fun sv => ?_ | refine redf fun hbi => ?_ | refine redn fun b => ?_ | refine reds ?_ | refine redi (fun hc => ?_) (fun hc => ?_) | fail))) | fail) <;> (first | refine wa_p 17 ?_ | refine wa_p0 17 ?_ | (refine wa_do 17 ?_ <;> (repeat' (first | refine red ?_ | refine redc fun r => ?_ | refine redv fun sv => ?_ | refine redf fun hbi => ?_ | refine redn fun b => ?_ | refine reds ?_ | refine redi (fun hc => ?_) (fun hc => ?_) | fail))) | fail)) <;> refine wa_end ?_)
    | fail)
  · have e := keepTo_yes (p := inI x.1 t (redexesOf x t)) (l := redexesOf x t) (k := k) (decide_eq_true (.inl (by omega)))
    exact wq_next (k + 1, sv) (by simp only; omega) (by simp only; omega) (by kernel_rfl) (by simp only [e]; exact ent_e)
  · have hk1 := hgk (by omega)
    have e := keepTo_yes (p := inI x.1 t (redexesOf x t)) (l := redexesOf x t) (k := k) (decide_eq_true (.inr (by have := hk1.2.2 (by omega); unfold endI; omega)))
    exact wq_next (k + 1, sv) (by simp only; omega) (by simp only; omega) (by kernel_rfl) (by simp only [e]; exact ent_e)
  · have hk1 := hgk (by omega)
    have e := keepTo_no (p := inI x.1 t (redexesOf x t)) (l := redexesOf x t) (k := k) (decide_eq_false (by unfold endI; omega))
    exact wq_next (k + 1, sw) (by simp only; omega) (by simp only; omega) (by kernel_rfl) (by simp only [e]; exact ent_e)
  · rw [show inmostOf x t = keepTo (inI x.1 t (redexesOf x t)) (redexesOf x t) k by unfold inmostOf; rw [show (redexesOf x t).length = k by omega]]
    exact ⟨_, rfl, ent_e⟩
instance inmost_ctr {Γ : List Atom} {v0 v1 v : Value} {x : SSystem} {t : List Int} [h0 : HasRd (List Int) repList Γ [v0] x.1] [h1 : HasRd (List SRule) repList Γ [v1] x.2] [h2 : HasRd (List Int) repList Γ [v] t] :
    CtrC Try.prog 84 [.agg #[v0, v1], v] Γ (sysOk x = true ∧ termOk x.1 t = true) (Value) (fun q : Value => q) (fun q => .ow [q] (inmostOf x t) :: Γ) := ⟨fun s w0 => inmost_spec s⟩

theorem impl_InmostIn_spec {w0 : World} {Γ : List Atom} {v0 v1 v : Value} {x : SSystem} {t : List Int} [h0 : HasRd (List Int) repList Γ [v0] x.1] [h1 : HasRd (List SRule) repList Γ [v1] x.2] [h2 : HasRd (List Int) repList Γ [v] t] : CJ Try.prog 28 [.agg #[v0, v1], v] w0 Γ (fun q : Value => q) (fun q => .ow [q] (inmostOf x t) :: Γ) := by
  refine cj_lift (R := [.rd [v0] x.1, .rd [v1] x.2, .rd [v] t]) (A := fun q : Value => [.ow [q] (inmostOf x t)]) (fun w1 => ?_) (reads_cons h0 (reads_cons h1 (reads_cons h2 (inferInstance)))) (fun _ => inferInstance)
  simp only [List.cons_append, List.nil_append]
  have hR0 : ¬ (sysOk x = true ∧ termOk x.1 t = true) → inmostOf x t = [] := fun h => by unfold inmostOf; rw [redexesOf_no h]; rfl
  have h6 := inmost_len x t
  refine cj_enter Try.func28 Try.ntmps28 ?_
  repeat' (first
    | refine red ?_
    | refine redf fun hbi => ?_
    | refine reds ?_
    | refine redc fun r => ?_
    | refine redv fun sv => ?_
    | refine redn fun b => ?_
    | refine redz fun zs => ?_
    | refine redq (fun hc => ?_) (fun hc => ?_)
    | with_reducible refine wq_blk_o rfl ?_
    | (refine redd fun p cs as_ hcs has hf => ?_; simp only [Un.cells, Un.atoms, Un.fact, List.cons_append, List.nil_append] at hcs has hf; subst hcs has)
    | (refine redi (fun hc => ?_) (fun hc => ?_) <;> try first | (exfalso; omega) | exact absurd rfl hc)
    | fail)
  · rw [hR0 (fun h => by rw [h.1] at hc; cases hc)]
    exact ⟨_, rfl, ent_e⟩
  · rw [hR0 (fun h => by rw [h.2] at hc; cases hc)]
    exact ⟨_, rfl, ent_e⟩
  exact ⟨_, rfl, ent_e⟩
instance impl_InmostIn_ctr {Γ : List Atom} {v0 v1 v : Value} {x : SSystem} {t : List Int} [h0 : HasRd (List Int) repList Γ [v0] x.1] [h1 : HasRd (List SRule) repList Γ [v1] x.2] [h2 : HasRd (List Int) repList Γ [v] t] :
    CtrC Try.prog 28 [.agg #[v0, v1], v] Γ (True) (Value) (fun q : Value => q) (fun q => .ow [q] (inmostOf x t) :: Γ) := ⟨fun s w0 => impl_InmostIn_spec⟩

theorem spec_InmostIn_spec {w0 : World} {Γ : List Atom} {v0 v1 v : Value} {x : SSystem} {t : List Int} [h0 : HasRd (List Int) repList Γ [v0] x.1] [h1 : HasRd (List SRule) repList Γ [v1] x.2] [h2 : HasRd (List Int) repList Γ [v] t] : CJ Try.prog 27 [.agg #[v0, v1], v] w0 Γ (fun q : Value => q) (fun q => .ow [q] (inmostOf x t) :: Γ) := by
  refine cj_lift (R := [.rd [v0] x.1, .rd [v1] x.2, .rd [v] t]) (A := fun q : Value => [.ow [q] (inmostOf x t)]) (fun w1 => ?_) (reads_cons h0 (reads_cons h1 (reads_cons h2 (inferInstance)))) (fun _ => inferInstance)
  simp only [List.cons_append, List.nil_append]
  have h6 := redexesOf_len x t
  refine cj_enter Try.func27 Try.ntmps27 ?_
  repeat' (first
    | refine red ?_
    | refine redf fun hbi => ?_
    | refine reds ?_
    | refine redc fun r => ?_
    | refine redv fun sv => ?_
    | refine redn fun b => ?_
    | refine redz fun zs => ?_
    | refine redq (fun hc => ?_) (fun hc => ?_)
    | with_reducible refine wq_blk_o rfl ?_
    | (refine redd fun p cs as_ hcs has hf => ?_; simp only [Un.cells, Un.atoms, Un.fact, List.cons_append, List.nil_append] at hcs has hf; subst hcs has)
    | (refine redi (fun hc => ?_) (fun hc => ?_) <;> try first | (exfalso; omega) | exact absurd rfl hc)
    | ((refine wa_begin 6 [false, false, false, false, false, false, false, false, false] [] ?_ <;> (first | refine wa_p 0 ?_ | refine wa_p0 0 ?_ | fail) <;> (first | refine wa_f 1 fun hbi => ?_ | refine wa_p 1 ?_ | fail) <;> (first | refine wa_p 2 ?_ | refine wa_p0 2 ?_ | fail) <;> (first | refine wa_p 3 ?_ | refine wa_p0 3 ?_ | fail) <;> (first | refine wa_p 4 ?_ | refine wa_p0 4 ?_ | (refine wa_do 4 ?_ <;> (repeat' (first | refine red ?_ | refine redc fun r => ?_ | refine redv fun sv => ?_ | refine redf fun hbi => ?_ | refine redn fun b => ?_ | refine reds ?_ | refine redi (fun hc => ?_) (fun hc => ?_) | fail))) | fail) <;> (first | refine wa_p 5 ?_ | (refine wa_deep 5 fun p cs as_ asb_ hcs has hasb hf => ?_; simp only [Un.cells, Un.atoms, Un.fact, List.cons_append, List.nil_append] at hcs has hasb hf; subst hcs has hasb) | fail) <;> (first | refine wa_f 6 fun hbi => ?_ | refine wa_p 6 ?_ | fail) <;> (refine wa_do 7 ?_ <;> (repeat' (first | refine red ?_ | refine redc fun r => ?_ | refine redv fun sv => ?_ | refine redf fun hbi => ?_ | refine redn fun b => ?_ | refine reds ?_ | refine redi (fun hc => ?_) (fun hc => ?_) | fail))) <;> (first | refine wa_p 8 ?_ | refine wa_p0 8 ?_ | (refine wa_do 8 ?_ <;> (repeat' (first | refine red ?_ | refine redc fun r => ?_ | refine redv fun sv => ?_ | refine redf fun hbi => ?_ | refine redn fun b => ?_ | refine reds ?_ | refine redi (fun hc => ?_) (fun hc => ?_) | fail))) | fail)) <;> refine wa_end ?_)
    | fail)
  refine wc_loop_p [5, 7] [13, 14, 15, 16, 19, 20, 21, 22, 23, 24, 25, 26, 8, 27, 28, 29, 30, 31, 32, 33, 34, 35, 36, 37, 38, 39, 40, 41, 42, 43, 44, 45, 46, 47, 17, 18] (ι := Nat × Value) (fun k => [k.2, .int .i64 k.1]) (fun k => [.ow [k.2] (keepTo (inI x.1 t (redexesOf x t)) (redexesOf x t) k.1)]) (fun k => k.1 ≤ (redexesOf x t).length) (fun k => (redexesOf x t).length - k.1) (0, sv) [.ow [sv] ([] : List Int)] (by kernel_rfl) (Nat.zero_le _) rfl ?_
  intro ⟨k, sw⟩ u l' hl' hk
  simp only [patch, List.map_cons, List.map_nil, List.set_cons_zero, List.set_cons_succ] at hl'
  subst hl'
  simp only [List.cons_append, List.nil_append] at hk ⊢
  have hsl := keepTo_len (inI x.1 t (redexesOf x t)) (redexesOf x t) k
  by_cases hlt : k < (redexesOf x t).length
  · have hgk := redexesOf_get hlt
    have hsig := termOk_sig hgk.2.1
    have h5 := termOk_len hgk.2.1
    have hee : endOf x.1 (badS x.1) t ((redexesOf x t).getD k 0).toNat = endI x.1 t (redexesOf x t) k := end_S hgk.2.1 (by omega)
    repeat' (first
      | refine red ?_
      | refine redf fun hbi => ?_
      | refine reds ?_
      | refine redc fun r => ?_
      | refine redv fun sv => ?_
      | refine redn fun b => ?_
      | refine redz fun zs => ?_
      | refine redq (fun hc => ?_) (fun hc => ?_)
      | with_reducible refine wq_blk_o rfl ?_
      | (refine redd fun p cs as_ hcs has hf => ?_; simp only [Un.cells, Un.atoms, Un.fact, List.cons_append, List.nil_append] at hcs has hf; subst hcs has)
      | (refine redi (fun hc => ?_) (fun hc => ?_) <;> try first | (exfalso; omega) | exact absurd rfl hc)
      | ((refine wa_begin 6 [false, false, false, false, false, false, false, false, false] [] ?_ <;> (first | refine wa_p 0 ?_ | refine wa_p0 0 ?_ | fail) <;> (first | refine wa_f 1 fun hbi => ?_ | refine wa_p 1 ?_ | fail) <;> (first | refine wa_p 2 ?_ | refine wa_p0 2 ?_ | fail) <;> (first | refine wa_p 3 ?_ | refine wa_p0 3 ?_ | fail) <;> (first | refine wa_p 4 ?_ | refine wa_p0 4 ?_ | (refine wa_do 4 ?_ <;> (repeat' (first | refine red ?_ | refine redc fun r => ?_ | refine redv fun sv => ?_ | refine redf fun hbi => ?_ | refine redn fun b => ?_ | refine reds ?_ | refine redi (fun hc => ?_) (fun hc => ?_) | fail))) | fail) <;> (first | refine wa_p 5 ?_ | (refine wa_deep 5 fun p cs as_ asb_ hcs has hasb hf => ?_; simp only [Un.cells, Un.atoms, Un.fact, List.cons_append, List.nil_append] at hcs has hasb hf; subst hcs has hasb) | fail) <;> (first | refine wa_f 6 fun hbi => ?_ | refine wa_p 6 ?_ | fail) <;> (refine wa_do 7 ?_ <;> (repeat' (first | refine red ?_ | refine redc fun r => ?_ | refine redv fun sv => ?_ | refine redf fun hbi => ?_ | refine redn fun b => ?_ | refine reds ?_ | refine redi (fun hc => ?_) (fun hc => ?_) | fail))) <;> (first | refine wa_p 8 ?_ | refine wa_p0 8 ?_ | (refine wa_do 8 ?_ <;> (repeat' (first | refine red ?_ | refine redc fun r => ?_ | refine redv fun sv => ?_ | refine redf fun hbi => ?_ | refine redn fun b => ?_ | refine reds ?_ | refine redi (fun hc => ?_) (fun hc => ?_) | fail))) | fail)) <;> refine wa_end ?_)
      | fail)
    · have e := keepTo_yes (p := inI x.1 t (redexesOf x t)) (l := redexesOf x t) (k := k) (decide_eq_true (.inl (by omega)))
      exact wq_next (k + 1, sv) (by simp only; omega) (by simp only; omega) (by kernel_rfl) (by simp only [e]; exact ent_e)
    · have e := keepTo_yes (p := inI x.1 t (redexesOf x t)) (l := redexesOf x t) (k := k) (decide_eq_true (.inr (by omega)))
      exact wq_next (k + 1, sv) (by simp only; omega) (by simp only; omega) (by kernel_rfl) (by simp only [e]; exact ent_e)
    · have e := keepTo_no (p := inI x.1 t (redexesOf x t)) (l := redexesOf x t) (k := k) (decide_eq_false (by omega))
      exact wq_next (k + 1, sw) (by simp only; omega) (by simp only; omega) (by kernel_rfl) (by simp only [e]; exact ent_e)
  · repeat' (first
      | refine red ?_
      | refine redf fun hbi => ?_
      | refine reds ?_
      | refine redc fun r => ?_
      | refine redv fun sv => ?_
      | refine redn fun b => ?_
      | refine redz fun zs => ?_
      | refine redq (fun hc => ?_) (fun hc => ?_)
      | with_reducible refine wq_blk_o rfl ?_
      | (refine redd fun p cs as_ hcs has hf => ?_; simp only [Un.cells, Un.atoms, Un.fact, List.cons_append, List.nil_append] at hcs has hf; subst hcs has)
      | (refine redi (fun hc => ?_) (fun hc => ?_) <;> try first | (exfalso; omega) | exact absurd rfl hc)
      | ((refine wa_begin 6 [false, false, false, false, false, false, false, false, false] [] ?_ <;> (first | refine wa_p 0 ?_ | refine wa_p0 0 ?_ | fail) <;> (first | refine wa_f 1 fun hbi => ?_ | refine wa_p 1 ?_ | fail) <;> (first | refine wa_p 2 ?_ | refine wa_p0 2 ?_ | fail) <;> (first | refine wa_p 3 ?_ | refine wa_p0 3 ?_ | fail) <;> (first | refine wa_p 4 ?_ | refine wa_p0 4 ?_ | (refine wa_do 4 ?_ <;> (repeat' (first | refine red ?_ | refine redc fun r => ?_ | refine redv fun sv => ?_ | refine redf fun hbi => ?_ | refine redn fun b => ?_ | refine reds ?_ | refine redi (fun hc => ?_) (fun hc => ?_) | fail))) | fail) <;> (first | refine wa_p 5 ?_ | (refine wa_deep 5 fun p cs as_ asb_ hcs has hasb hf => ?_; simp only [Un.cells, Un.atoms, Un.fact, List.cons_append, List.nil_append] at hcs has hasb hf; subst hcs has hasb) | fail) <;> (first | refine wa_f 6 fun hbi => ?_ | refine wa_p 6 ?_ | fail) <;> (refine wa_do 7 ?_ <;> (repeat' (first | refine red ?_ | refine redc fun r => ?_ | refine redv fun sv => ?_ | refine redf fun hbi => ?_ | refine redn fun b => ?_ | refine reds ?_ | refine redi (fun hc => ?_) (fun hc => ?_) | fail))) <;> (first | refine wa_p 8 ?_ | refine wa_p0 8 ?_ | (refine wa_do 8 ?_ <;> (repeat' (first | refine red ?_ | refine redc fun r => ?_ | refine redv fun sv => ?_ | refine redf fun hbi => ?_ | refine redn fun b => ?_ | refine reds ?_ | refine redi (fun hc => ?_) (fun hc => ?_) | fail))) | fail)) <;> refine wa_end ?_)
      | fail)
    rw [show inmostOf x t = keepTo (inI x.1 t (redexesOf x t)) (redexesOf x t) k by unfold inmostOf; rw [show (redexesOf x t).length = k by omega]]
    exact ⟨_, rfl, ent_e⟩
instance spec_InmostIn_ctr {Γ : List Atom} {v0 v1 v : Value} {x : SSystem} {t : List Int} [h0 : HasRd (List Int) repList Γ [v0] x.1] [h1 : HasRd (List SRule) repList Γ [v1] x.2] [h2 : HasRd (List Int) repList Γ [v] t] :
    CtrC Try.prog 27 [.agg #[v0, v1], v] Γ (True) (Value) (fun q : Value => q) (fun q => .ow [q] (inmostOf x t) :: Γ) := ⟨fun s w0 => spec_InmostIn_spec⟩

set_option maxHeartbeats 0 in
set_option synthInstance.maxHeartbeats 400000 in
set_option synthInstance.maxSize 1000 in
theorem FnExactInmostIn_law {w0 : World} {Γ : List Atom} {x0 : SSystem} {x1 : List Int} {v0_0 v0_1 v1_0 : Value} [h0_0 : HasRd (List Int) repList Γ [v0_0] x0.1] [h0_1 : HasRd (List SRule) repList Γ [v0_1] x0.2] [h1_0 : HasRd (List Int) repList Γ [v1_0] x1] (hf0 : (x0.1.length ≤ 9223372036854775807) ∧ x0.2.length ≤ 9223372036854775807) (hf1 : x1.length ≤ 9223372036854775807) :
    CJ Try.prog 5 [.agg #[v0_0, v0_1], v1_0] w0 Γ (fun _ : Unit => .bool true) (fun _ => Γ) := by
  have hz0 := lft_spec 1048576 (Siz.size x0)
  have hs0 : Siz.size x0 = Siz.size x0.1 + Siz.size x0.2 := by simp only [siz_pair, siz_int, siz_bool, siz_str] <;> omega
  have hb0_0 := cntL_le x0.1
  have hl0_0 := siz_ints x0.1
  have hb0_1 := cntL_le x0.2
  have hb1_0 := cntL_le x1
  have hl1_0 := siz_ints x1
  have hm1 := inmost_len x0 x1
  have hm2 := cntL_ints (inmostOf x0 x1)
  refine cj_enter Try.func5 Try.ntmps5 ?_
  repeat' (first
    | refine red ?_
    | refine redf fun hbi => ?_
    | refine reds ?_
    | refine redc fun r => ?_
    | refine redv fun sv => ?_
    | refine redn fun b => ?_
    | refine redz fun zs => ?_
    | refine redq (fun hc => ?_) (fun hc => ?_)
    | with_reducible refine wq_blk_o rfl ?_
    | (refine redd fun p cs as_ hcs has hf => ?_; simp only [Un.cells, Un.atoms, Un.fact, List.cons_append, List.nil_append] at hcs has hf; subst hcs has)
    | (refine redi (fun hc => ?_) (fun hc => ?_) <;> try first | (exfalso; omega) | exact absurd rfl hc)
    | ((refine wa_begin 13 [false, false, false, false, false] [] ?_ <;> (first | refine wa_f 0 fun hbi => ?_ | refine wa_p 0 ?_ | fail) <;> (first | refine wa_f 1 fun hbi => ?_ | refine wa_p 1 ?_ | fail) <;> (refine wa_do 2 ?_ <;> (repeat' (first | refine red ?_ | refine redc fun r => ?_ | refine redv fun sv => ?_ | refine redf fun hbi => ?_ | refine redn fun b => ?_ | refine reds ?_ | refine redi (fun hc => ?_) (fun hc => ?_) | fail))) <;> (refine wa_do 3 ?_ <;> (repeat' (first | refine red ?_ | refine redc fun r => ?_ | refine redv fun sv => ?_ | refine redf fun hbi => ?_ | refine redn fun b => ?_ | refine reds ?_ | refine redi (fun hc => ?_) (fun hc => ?_) | fail))) <;> (first | refine wa_p 4 ?_ | refine wa_p0 4 ?_ | (refine wa_do 4 ?_ <;> (repeat' (first | refine red ?_ | refine redc fun r => ?_ | refine redv fun sv => ?_ | refine redf fun hbi => ?_ | refine redn fun b => ?_ | refine reds ?_ | refine redi (fun hc => ?_) (fun hc => ?_) | fail))) | fail)) <;> refine wa_end ?_)
    | fail)
  all_goals exact ⟨(), rfl, ent_e⟩

end Go.Proofs.Ytckbndcgkkohaaa
