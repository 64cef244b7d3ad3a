/- Sets that are grown in place; ground terms. -/
import Derived.Test.YtbbdjjlnachnlaaGreatEngT
import Derived.Test.YtbbdjjlnachnlaaGreatReach2
namespace Go.Proofs.YtbbdjjlnachnlaaGreat
open Go Go.Eng
set_option linter.unusedVariables false
set_option linter.unusedSimpArgs false
set_option synthInstance.maxHeartbeats 400000
set_option synthInstance.maxSize 1000

theorem l1Into_old {w0 : World} {Γ : List Atom} {v : Value} {xs : List Int} {n : Int} [h : HasRd (List Int) repList Γ [v] xs] (hn : n ∈ xs) (hs : xs.Pairwise (· < ·)) : CJ Tryz.prog 124 [v, .int .i64 n] w0 Γ (fun _ : Unit => v) (fun _ => Γ) := by
  refine cj_lift (R := [.rd [v] xs]) (A := fun _ => []) (fun w1 => ?_) (reads_cons h inferInstance) (fun _ => inferInstance)
  simp only [List.cons_append, List.nil_append]
  refine cj_len v fun hlx => ?_
  have hpw := List.pairwise_iff_getElem.1 hs
  refine cj_enter Tryz.func124 Tryz.ntmps124 ?_
  repeat' (first | refine red ?_ | fail)
  refine wc_loop_c [5] [7, 8, 9, 10, 11, 12, 13, 14, 15, 16, 17, 18, 19, 20] (ι := Nat) (fun k => [.int .i64 k]) (fun k => k ≤ xs.length ∧ ∀ i, i < k → xs.getD i 0 < n) (fun k => xs.length - k) 0 (by kernel_rfl) ⟨Nat.zero_le _, fun i hi => by omega⟩ ?_
  intro k u l' hl' ⟨hk, hkk⟩
  simp only [patch, List.map_cons, List.map_nil, List.set_cons_zero, List.set_cons_succ] at hl'
  subst hl'
  have hin : k < xs.length ∧ (¬ xs.getD k 0 < n → xs.getD k 0 = n) := by
    obtain ⟨j, hj, hjn⟩ := List.getElem_of_mem hn
    have hjd : xs.getD j 0 = n := by rw [List.getD_eq_getElem?_getD, List.getElem?_eq_getElem hj]; exact hjn
    have hkj : k ≤ j := by
      by_cases h : j < k
      · have := hkk j h; omega
      · omega
    refine ⟨by omega, fun hge => ?_⟩
    by_cases he : k = j
    · rw [he]; exact hjd
    · have := hpw k j (by omega) hj (by omega)
      rw [List.getD_eq_getElem?_getD, List.getElem?_eq_getElem (by omega)] at hge ⊢
      simp only [Option.getD_some] at hge ⊢
      omega
  obtain ⟨hin1, hin2⟩ := hin
  repeat' (first | refine red ?_ | refine redf fun hbi => ?_ | refine reds ?_ | (refine redi (fun hc => ?_) (fun hc => ?_) <;> try first | (exfalso; omega) | exact absurd rfl hc) | fail)
  · refine wq_next (k + 1) ⟨by omega, fun i hi => ?_⟩ (by omega) (by kernel_rfl) ent_e
    by_cases he : i = k
    · rw [he]; exact hc
    · exact hkk i (by omega)
  · exact ⟨(), rfl, ent_e⟩
abbrev IntoU (xs : List Int) (n : Int) : Type := { ys : List Int // ys.Pairwise (· < ·) ∧ (∀ q, q ∈ ys ↔ q = n ∨ q ∈ xs) ∧ ys.length ≤ xs.length + 1 }
theorem l1IntoOw_spec {w0 : World} {Γ Δ : List Atom} {v : Value} {xs : List Int} {n : Int} [hp : PullOw (List Int) repList Γ [v] xs Δ] (hs : xs.Pairwise (· < ·)) (hl : xs.length ≤ 1000) (hi : -9223372036854775808 ≤ n ∧ n ≤ 9223372036854775807) : CJ Tryz.prog 124 [v, .int .i64 n] w0 Γ (fun p : Value × IntoU xs n => p.1) (fun p => .ow [p.1] p.2.1 :: Δ) := by
  refine cj_perm hp.perm ?_
  intro w hw
  by_cases hn : n ∈ xs
  · refine (l1Into_old (xs := xs) hn hs w hw).mono fun e w' ⟨p, he, hs'⟩ => ⟨(v, ⟨xs, hs, fun q => ⟨fun h => .inr h, fun h => ?_⟩, by omega⟩), he, hs'⟩
    rcases h with h | h
    · rw [h]; exact hn
    · exact h
  · refine (l1Into_spec (xs := xs) hn hl hi w hw).mono fun e w' ⟨p, he, hs'⟩ => ⟨(p.1, ⟨p.2.1, p.2.2.2.2 hs, p.2.2.2.1, by have := p.2.2.1; omega⟩), he, ?_⟩
    have h2 : Ent w0 (.ow [p.1] p.2.1 :: .ow [v] xs :: Δ) (.ow [p.1] p.2.1 :: Δ) := ent_e
    exact h2 _ hs'
instance l1IntoOw_ctr {Γ Δ : List Atom} {v : Value} {xs : List Int} {n : Int} [hp : PullOw (List Int) repList Γ [v] xs Δ] :
    CtrC Tryz.prog 124 [v, .int .i64 n] Γ ((xs.Pairwise (· < ·)) ∧ (xs.length ≤ 1000) ∧ (-9223372036854775808 ≤ n ∧ n ≤ 9223372036854775807)) (Value × IntoU xs n) (fun p : Value × IntoU xs n => p.1) (fun p => .ow [p.1] p.2.1 :: Δ) := ⟨fun s w0 => l1IntoOw_spec s.1 s.2.1 s.2.2⟩

attribute [instance 2000] l1IntoOw_ctr
theorem vars_next {t : List Int} {k : Nat} {ys zs : List Int} {n : Int} (hk : k < t.length) (h : ys = [] ↔ ∀ i, i < k → 0 ≤ t.getD i 0) (hneg : t.getD k 0 < 0) (hz : zs ≠ []) : zs = [] ↔ ∀ i, i < k + 1 → 0 ≤ t.getD i 0 :=
  ⟨fun e => absurd e hz, fun h' => by have := h' k (by omega); omega⟩
theorem vars_same {t : List Int} {k : Nat} {ys : List Int} (h : ys = [] ↔ ∀ i, i < k → 0 ≤ t.getD i 0) (hpos : 0 ≤ t.getD k 0) : ys = [] ↔ ∀ i, i < k + 1 → 0 ≤ t.getD i 0 := by
  rw [h]
  constructor
  · intro h1 i hi
    by_cases he : i = k
    · rw [he]; exact hpos
    · exact h1 i (by omega)
  · intro h1 i hi
    exact h1 i (by omega)
abbrev VarsT (t : List Int) : Type := { ys : List Int // ys = [] ↔ ∀ i, i < t.length → 0 ≤ t.getD i 0 }
theorem l2Vars_spec {w0 : World} {Γ : List Atom} {v : Value} {t : List Int} [h : HasRd (List Int) repList Γ [v] t] (hl : t.length ≤ 60) (ht : ∀ x ∈ t, -24 ≤ x) : CJ Tryz.prog 197 [v] w0 Γ (fun p : Value × VarsT t => p.1) (fun p => .ow [p.1] p.2.1 :: Γ) := by
  refine cj_lift (R := [.rd [v] t]) (A := fun p : Value × VarsT t => [.ow [p.1] p.2.1]) (fun w1 => ?_) (reads_cons h inferInstance) (fun _ => inferInstance)
  simp only [List.cons_append, List.nil_append]
  refine cj_enter Tryz.func197 Tryz.ntmps197 ?_
  repeat' (first | refine red ?_ | refine redv fun sv => ?_ | fail)
  refine wc_loop_p [3, 4] [6, 7, 8, 9, 12, 13, 14, 15, 16, 17, 18, 19, 20, 21, 22, 23, 10, 11] (ι := List Int × Value × Nat) (fun k => [k.2.1, .int .i64 k.2.2]) (fun k => [.ow [k.2.1] k.1]) (fun k => k.2.2 ≤ t.length ∧ k.1.Pairwise (· < ·) ∧ k.1.length ≤ k.2.2 ∧ (k.1 = [] ↔ ∀ i, i < k.2.2 → 0 ≤ t.getD i 0)) (fun k => t.length - k.2.2) ([], sv, 0) [.ow [sv] ([] : List Int)] (by kernel_rfl) ⟨Nat.zero_le _, List.Pairwise.nil, by simp, by simp⟩ rfl ?_
  intro ⟨ys, sy, k⟩ u l' hl' ⟨hk, hp, hyl, hyv⟩
  simp only [patch, List.map_cons, List.map_nil, List.set_cons_zero, List.set_cons_succ] at hl'
  subst hl'
  simp only [List.cons_append, List.nil_append] at hk hp hyl hyv ⊢
  have htk : k < t.length → -24 ≤ t.getD k 0 := fun h => ht _ (getK h)
  repeat' (first | refine red ?_ | refine redf fun hbi => ?_ | refine reds ?_ | refine redc fun r => ?_ | (refine redi (fun hc => ?_) (fun hc => ?_) <;> try first | (exfalso; omega) | exact absurd rfl hc) | fail)
  · have hri := r.2.2
    refine wq_next (r.2.1, r.1, k + 1) ⟨by simp only; omega, hri.1, by simp only; omega, vars_next (n := 0) (by omega) hyv hc (fun e => ?_)⟩ (by simp only; omega) (by kernel_rfl) ent_e
    have := (hri.2.1 (-1 - t.getD k 0)).2 (.inl rfl)
    rw [show r.2.1 = [] from e] at this
    cases this
  · exact wq_next (ys, sy, k + 1) ⟨by simp only; omega, hp, by simp only; omega, vars_same hyv hc⟩ (by simp only; omega) (by kernel_rfl) ent_e
  · obtain rfl : k = t.length := by omega
    exact ⟨(sy, ⟨ys, hyv⟩), rfl, ent_e⟩
instance l2Vars_ctr {Γ : List Atom} {v : Value} {t : List Int} [h : HasRd (List Int) repList Γ [v] t] :
    CtrC Tryz.prog 197 [v] Γ ((t.length ≤ 60) ∧ (∀ x ∈ t, -24 ≤ x)) (Value × VarsT t) (fun p : Value × VarsT t => p.1) (fun p => .ow [p.1] p.2.1 :: Γ) := ⟨fun s w0 => l2Vars_spec s.1 s.2⟩

theorem varsIn_spec {w0 : World} {Γ : List Atom} {v : Value} {t : List Int} [h : HasRd (List Int) repList Γ [v] t] (hl : t.length ≤ 60) (ht : ∀ x ∈ t, -24 ≤ x) : CJ Tryz.prog 133 [v] w0 Γ (fun p : Value × VarsT t => p.1) (fun p => .ow [p.1] p.2.1 :: Γ) := by
  refine cj_lift (R := [.rd [v] t]) (A := fun p : Value × VarsT t => [.ow [p.1] p.2.1]) (fun w1 => ?_) (reads_cons h inferInstance) (fun _ => inferInstance)
  simp only [List.cons_append, List.nil_append]
  refine cj_enter Tryz.func133 Tryz.ntmps133 ?_
  repeat' (first | refine red ?_ | fail)
  refine wc_loop_p [3, 4] [5, 6, 9, 10, 11, 12, 13, 14, 15, 16, 7, 8] (ι := List Int × Value × Nat) (fun k => [k.2.1, .int .i64 k.2.2]) (fun k => [.ow [k.2.1] k.1]) (fun k => k.2.2 ≤ 24 ∧ k.1.length ≤ k.2.2 ∧ (k.1 = [] ↔ ∀ i, i < k.2.2 → (-1 - (i : Int)) ∉ t)) (fun k => 24 - k.2.2) ([], .slice none 0 0, 0) [.ow [.slice none 0 0] ([] : List Int)] (by kernel_rfl) ⟨by decide, by simp, by simp⟩ rfl ?_
  intro ⟨ys, sy, k⟩ u l' hl' ⟨hk, hyl, hyv⟩
  simp only [patch, List.map_cons, List.map_nil, List.set_cons_zero, List.set_cons_succ] at hl'
  subst hl'
  simp only [List.cons_append, List.nil_append] at hk hyl hyv ⊢
  repeat' (first | refine red ?_ | refine reds ?_ | refine redc fun r => ?_ | refine redv fun sv => ?_ | (refine redi (fun hc => ?_) (fun hc => ?_) <;> try first | (exfalso; omega) | exact absurd rfl hc) | fail)
  · refine wq_next (ys ++ [(k : Int)], sv, k + 1) ⟨by simp only; omega, by simp; omega, ⟨fun e => by simp at e, fun h => ?_⟩⟩ (by simp only; omega) (by kernel_rfl) ent_e
    exact absurd hc (h k (by simp only; omega))
  · refine wq_next (ys, sy, k + 1) ⟨by simp only; omega, by simp only; omega, ?_⟩ (by simp only; omega) (by kernel_rfl) ent_e
    simp only
    rw [hyv]
    constructor
    · intro h1 i hi
      by_cases he : i = k
      · rw [he]; exact hc
      · exact h1 i (by omega)
    · intro h1 i hi
      exact h1 i (by omega)
  · obtain rfl : k = 24 := by omega
    refine ⟨(sy, ⟨ys, ?_⟩), rfl, ent_e⟩
    rw [hyv]
    constructor
    · intro h1 i hi
      by_cases hneg : 0 ≤ t.getD i 0
      · exact hneg
      · have h2 := ht _ (getK hi)
        have := h1 (-1 - t.getD i 0).toNat (by omega)
        rw [show -1 - (((-1 - t.getD i 0).toNat : Nat) : Int) = t.getD i 0 by omega] at this
        exact absurd (getK hi) this
    · intro h1 i hi hm
      obtain ⟨j, hj, hjn⟩ := List.getElem_of_mem hm
      have := h1 j hj
      rw [List.getD_eq_getElem?_getD, List.getElem?_eq_getElem hj] at this
      simp only [Option.getD_some] at this
      omega
instance varsIn_ctr {Γ : List Atom} {v : Value} {t : List Int} [h : HasRd (List Int) repList Γ [v] t] :
    CtrC Tryz.prog 133 [v] Γ ((t.length ≤ 60) ∧ (∀ x ∈ t, -24 ≤ x)) (Value × VarsT t) (fun p : Value × VarsT t => p.1) (fun p => .ow [p.1] p.2.1 :: Γ) := ⟨fun s w0 => varsIn_spec s.1 s.2⟩

/-- A ground term. -/
def GrP (a t : List Int) : Prop := termOk a t = true ∧ ∀ i, i < t.length → 0 ≤ t.getD i 0
theorem vars_zero {a t ys : List Int} (hok : termOk a t = true) (h : ys = [] ↔ ∀ i, i < t.length → 0 ≤ t.getD i 0) : ((ys.length : Nat) : Int) = 0 ↔ GrP a t := by
  rw [show ((ys.length : Nat) : Int) = 0 ↔ ys = [] from ⟨fun e => List.eq_nil_of_length_eq_zero (by omega), fun e => by rw [e]; rfl⟩, h]
  exact ⟨fun h => ⟨hok, h⟩, fun h => h.2⟩
theorem spec_GroundIn_spec {w0 : World} {Γ : List Atom} {v v1 : Value} {a t : List Int} [h : HasRd (List Int) repList Γ [v] a] [h1 : HasRd (List Int) repList Γ [v1] t] : CJ Tryz.prog 130 [.agg #[v], v1] w0 Γ (fun _ : Unit => .bool (decC (GrP a t))) (fun _ => Γ) := by
  refine cj_lift (R := [.rd [v] a, .rd [v1] t]) (A := fun _ => []) (fun w1 => ?_) (reads_cons h (reads_cons h1 (inferInstance))) (fun _ => inferInstance)
  simp only [List.cons_append, List.nil_append]
  have hl : termOk a t = true → t.length ≤ 60 := fun h => (termOk_len h).2
  have hm : termOk a t = true → ∀ x ∈ t, -24 ≤ x := fun h x hx => (termOk_mem h hx).1
  by_cases hok : termOk a t = true
  · have hl' := hl hok
    have hm' := hm hok
    refine cj_enter Tryz.func130 Tryz.ntmps130 ?_
    repeat' (first | refine red ?_ | refine redc fun r => ?_ | refine redn fun b => ?_ | (refine redi (fun hc => ?_) (fun hc => ?_) <;> try first | (exfalso; omega) | exact absurd rfl hc) | fail)
    · exact ⟨(), ret_bool (decC_of (vars_zero hok r.2.2)).symm, ent_e⟩
    · rw [hok] at hc; cases hc
  · refine cj_enter Tryz.func130 Tryz.ntmps130 ?_
    repeat' (first | refine red ?_ | refine redc fun r => ?_ | refine redn fun b => ?_ | (refine redi (fun hc => ?_) (fun hc => ?_) <;> try first | (exfalso; omega) | exact absurd rfl hc) | fail)
    all_goals first
      | exact ⟨(), ret_bool (decC_f fun h => hok h.1), ent_e⟩
      | exact absurd hc hok
instance spec_GroundIn_ctr {Γ : List Atom} {v v1 : Value} {a t : List Int} [h : HasRd (List Int) repList Γ [v] a] [h1 : HasRd (List Int) repList Γ [v1] t] :
    CtrC Tryz.prog 130 [.agg #[v], v1] Γ (True) (Unit) (fun _ : Unit => .bool (decC (GrP a t))) (fun _ => Γ) := ⟨fun s w0 => spec_GroundIn_spec⟩

theorem impl_GroundIn_spec {w0 : World} {Γ : List Atom} {v v1 : Value} {a t : List Int} [h : HasRd (List Int) repList Γ [v] a] [h1 : HasRd (List Int) repList Γ [v1] t] : CJ Tryz.prog 81 [.agg #[v], v1] w0 Γ (fun _ : Unit => .bool (decC (GrP a t))) (fun _ => Γ) := by
  refine cj_lift (R := [.rd [v] a, .rd [v1] t]) (A := fun _ => []) (fun w1 => ?_) (reads_cons h (reads_cons h1 (inferInstance))) (fun _ => inferInstance)
  simp only [List.cons_append, List.nil_append]
  have hl : termOk a t = true → t.length ≤ 60 := fun h => (termOk_len h).2
  have hm : termOk a t = true → ∀ x ∈ t, -24 ≤ x := fun h x hx => (termOk_mem h hx).1
  by_cases hok : termOk a t = true
  · have hl' := hl hok
    have hm' := hm hok
    refine cj_enter Tryz.func81 Tryz.ntmps81 ?_
    repeat' (first | refine red ?_ | refine redc fun r => ?_ | refine redn fun b => ?_ | (refine redi (fun hc => ?_) (fun hc => ?_) <;> try first | (exfalso; omega) | exact absurd rfl hc) | fail)
    · exact ⟨(), ret_bool (decC_of (vars_zero hok r.2.2)).symm, ent_e⟩
    · rw [hok] at hc; cases hc
  · refine cj_enter Tryz.func81 Tryz.ntmps81 ?_
    repeat' (first | refine red ?_ | refine redc fun r => ?_ | refine redn fun b => ?_ | (refine redi (fun hc => ?_) (fun hc => ?_) <;> try first | (exfalso; omega) | exact absurd rfl hc) | fail)
    all_goals first
      | exact ⟨(), ret_bool (decC_f fun h => hok h.1), ent_e⟩
      | exact absurd hc hok
instance impl_GroundIn_ctr {Γ : List Atom} {v v1 : Value} {a t : List Int} [h : HasRd (List Int) repList Γ [v] a] [h1 : HasRd (List Int) repList Γ [v1] t] :
    CtrC Tryz.prog 81 [.agg #[v], v1] Γ (True) (Unit) (fun _ : Unit => .bool (decC (GrP a t))) (fun _ => Γ) := ⟨fun s w0 => impl_GroundIn_spec⟩

end Go.Proofs.YtbbdjjlnachnlaaGreat
namespace Go.Proofs.YtbbdjjlnachnlaaGreat
open Go Go.Eng
set_option linter.unusedVariables false
set_option linter.unusedSimpArgs false
set_option synthInstance.maxHeartbeats 400000
set_option synthInstance.maxSize 1000

/-- The place behind i terms from p on. -/
def kidN (a t : List Int) (p : Nat) : Nat → Nat
  | 0 => p
  | i + 1 => kidN a t p i + sz a t (kidN a t p i)
theorem kid_inv {a t : List Int} {p n : Nat} (h : (skp a (badS a) (t.drop p) n).1 = true) : ∀ i, i ≤ n → (skp a (badS a) (t.drop (kidN a t p i)) (n - i)).1 = true ∧ p ≤ kidN a t p i
  | 0, _ => ⟨h, Nat.le_refl _⟩
  | i + 1, hi => by
    obtain ⟨h1, h2⟩ := kid_inv h i (by omega)
    rw [show n - i = (n - (i + 1)) + 1 by omega] at h1
    have h3 := skp_one _ _ _ _ h1
    have h4 := skp_split a (badS a) (t.drop (kidN a t p i)) 1 (n - (i + 1))
    rw [Nat.add_comm 1, if_pos h3.1] at h4
    rw [h4] at h1
    refine ⟨?_, ?_⟩
    · show (skp a (badS a) (t.drop (kidN a t p i + sz a t (kidN a t p i))) _).1 = true
      unfold sz
      rw [← List.drop_drop]
      exact h1
    · show p ≤ kidN a t p i + sz a t (kidN a t p i)
      omega
theorem kid_in {a t : List Int} {p n : Nat} (h : (skp a (badS a) (t.drop p) n).1 = true) {i : Nat} (hi : i < n) : kidN a t p i < t.length ∧ p ≤ kidN a t p i := by
  obtain ⟨h1, h2⟩ := kid_inv h i (by omega)
  refine ⟨?_, h2⟩
  by_cases hl : kidN a t p i < t.length
  · exact hl
  · rw [List.drop_eq_nil_of_le (by omega), show n - i = (n - i - 1) + 1 by omega] at h1
    cases h1
/-- How many arguments stand behind the symbol at k. -/
def arK (a t : List Int) (k : Nat) : Nat := (ar a (t.getD k 0)).toNat
theorem kids_skp {a t : List Int} (h : termOk a t = true) {k : Nat} (hk : k < t.length) : (skp a (badS a) (t.drop (k + 1)) (arK a t k)).1 = true := by
  have h1 := (term_at h hk).1
  rw [drop_get hk, show 1 = 0 + 1 from rfl] at h1
  unfold skp at h1
  split at h1
  · cases h1
  · unfold arK
    simp only [Nat.zero_add] at h1
    exact h1
theorem kid_lt {a t : List Int} (h : termOk a t = true) {k : Nat} (hk : k < t.length) {i : Nat} (hi : i < arK a t k) : k < kidN a t (k + 1) i ∧ kidN a t (k + 1) i < t.length := by
  have := kid_in (kids_skp h hk) hi
  omega
theorem arK_le {a t : List Int} (h : termOk a t = true) {k : Nat} (hk : k < t.length) : arK a t k ≤ 3 ∧ ar a (t.getD k 0) = (arK a t k : Int) ∧ ar1 a (t.getD k 0) = (arK a t k : Int) := by
  have h1 := termOk_get h hk
  have h2 := ar_bounds (termOk_sig h) h1.2
  unfold arK
  refine ⟨by omega, by omega, ?_⟩
  unfold ar1
  rw [if_neg (by unfold badS; rw [decide_eq_true_iff]; omega)]
  omega
def kidL (a t : List Int) (k n : Nat) : List Int := (List.range n).map (fun i => ((kidN a t (k + 1) i : Nat) : Int))
theorem kidL_succ (a t : List Int) (k n : Nat) : kidL a t k (n + 1) = kidL a t k n ++ [((kidN a t (k + 1) n : Nat) : Int)] := by
  unfold kidL; rw [List.range_succ, List.map_append]; rfl
theorem kidL_len (a t : List Int) (k n : Nat) : (kidL a t k n).length = n := by unfold kidL; simp
theorem kidL_get {a t : List Int} {k n i : Nat} (hi : i < n) : (kidL a t k n).getD i 0 = ((kidN a t (k + 1) i : Nat) : Int) := by
  unfold kidL; simp [List.getD_eq_getElem?_getD, hi]
theorem l1Args_spec {w0 : World} {Γ : List Atom} {v v1 : Value} {a t : List Int} {k : Int} {m : Nat} [hm : ToN k m] [h : HasRd (List Int) repList Γ [v] a] [h1 : HasRd (List Int) repList Γ [v1] t] (ht : termOk a t = true) (hk : 0 ≤ k ∧ k < t.length) : CJ Tryz.prog 198 [.agg #[v], v1, .int .i64 k] w0 Γ (fun q : Value => q) (fun q => .ow [q] (kidL a t m (arK a t m)) :: Γ) := by
  refine cj_lift (R := [.rd [v] a, .rd [v1] t]) (A := fun q => [.ow [q] (kidL a t m (arK a t m))]) (fun w1 => ?_) (reads_cons h (reads_cons h1 inferInstance)) (fun _ => inferInstance)
  simp only [List.cons_append, List.nil_append]
  obtain rfl : k = (m : Int) := by have := hm.eq; omega
  have hs := termOk_sig ht
  have hl := termOk_len ht
  obtain ⟨h3, _, har⟩ := arK_le ht (k := m) (by omega)
  refine cj_enter Tryz.func198 Tryz.ntmps198 ?_
  repeat' (first | refine red ?_ | refine reds ?_ | refine redv fun sv => ?_ | refine redn fun b => ?_ | ((refine wa_begin 3 [false, false, false, false, false, false, false] [] ?_ <;> refine wa_p 0 ?_ <;> refine wa_p 1 ?_ <;> refine wa_p 2 ?_ <;> refine wa_p 3 ?_ <;> (first | refine wa_f 4 fun hbi => ?_ | fail) <;> (refine wa_do 5 ?_ <;> (repeat' (first | refine red ?_ | refine redc fun r => ?_ | fail))) <;> refine wa_p 6 ?_) <;> (refine wa_end ?_)) | fail)
  rw [har]
  refine wc_loop_p [7, 8, 9] [19, 20, 23, 24, 25, 26, 27, 28, 29, 30, 21, 22] (ι := Nat × Value) (fun j => [j.2, .int .i64 (kidN a t (m + 1) j.1 : Nat), .int .i64 ((arK a t m - j.1 : Nat) : Int)]) (fun j => [.ow [j.2] (kidL a t m j.1)]) (fun j => j.1 ≤ arK a t m) (fun j => arK a t m - j.1) (0, sv) [.ow [sv] ([] : List Int)] (by kernel_rfl) (Nat.zero_le _) rfl ?_
  intro ⟨j, sw⟩ u l' hl' hj
  simp only [patch, List.map_cons, List.map_nil, List.set_cons_zero, List.set_cons_succ] at hl'
  subst hl'
  simp only [List.cons_append, List.nil_append] at hj ⊢
  have hkl := kidL_len a t m j
  have hks := kidL_succ a t m j
  have hkn : j < arK a t m → kidN a t (m + 1) j < t.length := fun h => (kid_lt ht (k := m) (by omega) h).2
  by_cases hjl : j < arK a t m
  · have hkn' := hkn hjl
    have he := end_S ht hkn'
    repeat' (first | refine red ?_ | refine reds ?_ | refine redc fun r => ?_ | refine redv fun sv => ?_ | (refine redi (fun hc => ?_) (fun hc => ?_) <;> try first | (exfalso; omega) | exact absurd rfl hc) | fail)
    rw [← hks]
    refine wq_next (j + 1, sv) (by simp only; omega) (by simp only; omega) ?_ ent_e
    simp only [kidN]
    rw [he, show ((arK a t m - j : Nat) : Int) - 1 = ((arK a t m - (j + 1) : Nat) : Int) by omega]
    kernel_rfl
  · repeat' (first | refine red ?_ | (refine redi (fun hc => ?_) (fun hc => ?_) <;> try first | (exfalso; omega) | exact absurd rfl hc) | fail)
    rw [show j = arK a t m by omega]
    exact ⟨_, rfl, ent_e⟩
instance l1Args_ctr {Γ : List Atom} {v v1 : Value} {a t : List Int} {k : Int} {m : Nat} [hm : ToN k m] [h : HasRd (List Int) repList Γ [v] a] [h1 : HasRd (List Int) repList Γ [v1] t] :
    CtrC Tryz.prog 198 [.agg #[v], v1, .int .i64 k] Γ ((termOk a t = true) ∧ (0 ≤ k ∧ k < t.length)) (Value) (fun q : Value => q) (fun q => .ow [q] (kidL a t m (arK a t m)) :: Γ) := ⟨fun s w0 => l1Args_spec s.1 s.2⟩

theorem argsAtK_spec {w0 : World} {Γ : List Atom} {v v1 : Value} {a t : List Int} {k : Int} {m : Nat} [hm : ToN k m] [h : HasRd (List Int) repList Γ [v] a] [h1 : HasRd (List Int) repList Γ [v1] t] (ht : termOk a t = true) (hk : 0 ≤ k ∧ k < t.length) : CJ Tryz.prog 201 [.agg #[v], v1, .int .i64 k] w0 Γ (fun q : Value => q) (fun q => .ow [q] (kidL a t m (arK a t m)) :: Γ) := by
  refine cj_lift (R := [.rd [v] a, .rd [v1] t]) (A := fun q => [.ow [q] (kidL a t m (arK a t m))]) (fun w1 => ?_) (reads_cons h (reads_cons h1 inferInstance)) (fun _ => inferInstance)
  simp only [List.cons_append, List.nil_append]
  obtain rfl : k = (m : Int) := by have := hm.eq; omega
  have hs := termOk_sig ht
  have hl := termOk_len ht
  have htk := termOk_get ht (k := m) (by omega)
  obtain ⟨h3, har, _⟩ := arK_le ht (k := m) (by omega)
  refine cj_enter Tryz.func201 Tryz.ntmps201 ?_
  repeat' (first | refine red ?_ | refine reds ?_ | refine redn fun b => ?_ | ((refine wa_begin 3 [false, false, false, false, false, false, false] [] ?_ <;> refine wa_p 0 ?_ <;> refine wa_p 1 ?_ <;> refine wa_p 2 ?_ <;> refine wa_p 3 ?_ <;> (first | refine wa_f 4 fun hbi => ?_ | fail) <;> (refine wa_do 5 ?_ <;> (repeat' (first | refine red ?_ | refine redc fun r => ?_ | fail))) <;> refine wa_p 6 ?_) <;> (refine wa_end ?_)) | fail)
  rw [har]
  refine wc_loop_p [7, 8, 9] [18, 19, 22, 23, 24, 25, 26, 27, 28, 29, 20, 21] (ι := Nat × Value) (fun j => [j.2, .int .i64 (kidN a t (m + 1) j.1 : Nat), .int .i64 ((arK a t m - j.1 : Nat) : Int)]) (fun j => [.ow [j.2] (kidL a t m j.1)]) (fun j => j.1 ≤ arK a t m) (fun j => arK a t m - j.1) (0, .slice none 0 0) [.ow [.slice none 0 0] ([] : List Int)] (by kernel_rfl) (Nat.zero_le _) rfl ?_
  intro ⟨j, sw⟩ u l' hl' hj
  simp only [patch, List.map_cons, List.map_nil, List.set_cons_zero, List.set_cons_succ] at hl'
  subst hl'
  simp only [List.cons_append, List.nil_append] at hj ⊢
  have hkl := kidL_len a t m j
  have hks := kidL_succ a t m j
  have hkn : j < arK a t m → kidN a t (m + 1) j < t.length := fun h => (kid_lt ht (k := m) (by omega) h).2
  by_cases hjl : j < arK a t m
  · have hkn' := hkn hjl
    have he := end_I ht hkn'
    repeat' (first | refine red ?_ | refine reds ?_ | refine redc fun r => ?_ | refine redv fun sv => ?_ | (refine redi (fun hc => ?_) (fun hc => ?_) <;> try first | (exfalso; omega) | exact absurd rfl hc) | fail)
    rw [← hks]
    refine wq_next (j + 1, sv) (by simp only; omega) (by simp only; omega) ?_ ent_e
    simp only [kidN]
    rw [he, show ((arK a t m - j : Nat) : Int) - 1 = ((arK a t m - (j + 1) : Nat) : Int) by omega]
    kernel_rfl
  · repeat' (first | refine red ?_ | (refine redi (fun hc => ?_) (fun hc => ?_) <;> try first | (exfalso; omega) | exact absurd rfl hc) | fail)
    rw [show j = arK a t m by omega]
    exact ⟨_, rfl, ent_e⟩
instance argsAtK_ctr {Γ : List Atom} {v v1 : Value} {a t : List Int} {k : Int} {m : Nat} [hm : ToN k m] [h : HasRd (List Int) repList Γ [v] a] [h1 : HasRd (List Int) repList Γ [v1] t] :
    CtrC Tryz.prog 201 [.agg #[v], v1, .int .i64 k] Γ ((termOk a t = true) ∧ (0 ≤ k ∧ k < t.length)) (Value) (fun q : Value => q) (fun q => .ow [q] (kidL a t m (arK a t m)) :: Γ) := ⟨fun s w0 => argsAtK_spec s.1 s.2⟩

end Go.Proofs.YtbbdjjlnachnlaaGreat
namespace Go.Proofs.YtbbdjjlnachnlaaGreat
open Go Go.Eng
set_option linter.unusedVariables false
set_option linter.unusedSimpArgs false
set_option synthInstance.maxHeartbeats 400000
set_option synthInstance.maxSize 1000

noncomputable def pL (P : Int → Prop) : List Int := ((List.range 16).filter (fun i => decC (P (Int.ofNat i)))).map Int.ofNat
theorem listN_pL {P : Int → Prop} {s : Nat} (h : ∀ i : Nat, i < 16 → (s.testBit i = true ↔ P (i : Int))) : listN s 16 = pL P := by
  unfold listN pL
  congr 1
  refine List.filter_congr (fun i hi => ?_)
  rw [Bool.eq_iff_iff, decC_iff]
  exact h i (by simpa using hi)
theorem pL_of {P : Int → Prop} {xs : List Int} (hi : ∀ q, P q → 0 ≤ q ∧ q < 16) (h : xs.Pairwise (· < ·)) (hm : ∀ q, q ∈ xs ↔ P q) : xs = pL P := by
  refine sorted_ext h ?_ (fun q => ?_)
  · unfold pL
    refine List.Pairwise.map _ (fun a b (hab : a < b) => ?_) (List.Pairwise.filter _ List.pairwise_lt_range)
    show (a : Int) < (b : Int)
    omega
  · rw [hm]
    unfold pL
    rw [List.mem_map]
    constructor
    · intro hq
      have := hi q hq
      refine ⟨q.toNat, ?_, ?_⟩
      · rw [List.mem_filter, decC_iff, List.mem_range]
        refine ⟨by omega, ?_⟩
        rw [show Int.ofNat q.toNat = q by show ((q.toNat : Nat) : Int) = q; omega]
        exact hq
      · show ((q.toNat : Nat) : Int) = q
        omega
    · rintro ⟨i, hi, rfl⟩
      rw [List.mem_filter, decC_iff] at hi
      exact hi.2
theorem pL_len (P : Int → Prop) : (pL P).length ≤ 16 := by
  unfold pL
  rw [List.length_map]
  exact Nat.le_trans (List.length_filter_le _ _) (by simp)
/-- The transition leads from these arguments. -/
def Fit (sym : Int) (P : Nat → Int → Prop) (n : Nat) (r : STrans) : Prop := r.1 = sym ∧ ∀ i, i < n → P i (r.2.1.getD i 0)
def Img (rs : List STrans) (m : Nat) (sym : Int) (P : Nat → Int → Prop) (n : Nat) (q : Int) : Prop := ∃ j, j < m ∧ Fit sym P n (rs.getD j default) ∧ (rs.getD j default).2.2 = q
theorem img_zero {rs : List STrans} {sym : Int} {P : Nat → Int → Prop} {n : Nat} {q : Int} : ¬ Img rs 0 sym P n q := fun ⟨j, hj, _⟩ => by omega
theorem img_yes {rs : List STrans} {m : Nat} {sym : Int} {P : Nat → Int → Prop} {n : Nat} {q : Int} (h : Fit sym P n (rs.getD m default)) : Img rs (m + 1) sym P n q ↔ q = (rs.getD m default).2.2 ∨ Img rs m sym P n q := by
  constructor
  · rintro ⟨j, hj, h1, h2⟩
    by_cases e : j = m
    · exact .inl (by rw [← h2, e])
    · exact .inr ⟨j, by omega, h1, h2⟩
  · rintro (e | ⟨j, hj, h1, h2⟩)
    · exact ⟨m, by omega, h, e.symm⟩
    · exact ⟨j, by omega, h1, h2⟩
theorem img_no {rs : List STrans} {m : Nat} {sym : Int} {P : Nat → Int → Prop} {n : Nat} {q : Int} (h : ¬ Fit sym P n (rs.getD m default)) : Img rs (m + 1) sym P n q ↔ Img rs m sym P n q := by
  constructor
  · rintro ⟨j, hj, h1, h2⟩
    by_cases e : j = m
    · rw [e] at h1; exact absurd h1 h
    · exact ⟨j, by omega, h1, h2⟩
  · rintro ⟨j, hj, h1, h2⟩
    exact ⟨j, by omega, h1, h2⟩
theorem img_in {rs : List STrans} (hi : InS rs) {m : Nat} (hm : m ≤ rs.length) {sym : Int} {P : Nat → Int → Prop} {n : Nat} {q : Int} (h : Img rs m sym P n q) : 0 ≤ q ∧ q < 16 := by
  obtain ⟨j, hj, _, rfl⟩ := h
  exact (hi _ (getT (by omega))).2
inductive Rs (a t : List Int) (rs : List STrans) : Nat → Int → Prop
  | mk (k j : Nat) (hj : j < rs.length) (hs : (rs.getD j default).1 = t.getD k 0) (h : ∀ i, i < arK a t k → Rs a t rs (kidN a t (k + 1) i) ((rs.getD j default).2.1.getD i 0)) : Rs a t rs k (rs.getD j default).2.2
theorem rs_img {a t : List Int} {rs : List STrans} {k : Nat} {P : Nat → Int → Prop} (hP : ∀ i, i < arK a t k → ∀ q, P i q ↔ Rs a t rs (kidN a t (k + 1) i) q) (q : Int) : Img rs rs.length (t.getD k 0) P (arK a t k) q ↔ Rs a t rs k q := by
  constructor
  · rintro ⟨j, hj, ⟨h1, h2⟩, rfl⟩
    exact Rs.mk k j hj h1 (fun i hi => (hP i hi _).1 (h2 i hi))
  · rintro ⟨k, j, hj, hs, h⟩
    exact ⟨j, hj, ⟨hs, fun i hi => (hP i hi _).2 (h i hi)⟩, rfl⟩
theorem rs_cast {a t : List Int} {rs : List STrans} {k k' : Nat} {q : Int} (e : k = k') : Rs a t rs k q ↔ Rs a t rs k' q := by rw [e]
theorem auto_args {a t : List Int} {x : SAuto} (h : AutoP a x) {k : Nat} (hk : 0 ≤ t.getD k 0) : ∀ j, j < x.2.1.length → (x.2.1.getD j default).1 = t.getD k 0 → (x.2.1.getD j default).2.1.length = arK a t k := by
  intro j hj he
  have h1 := ((h.2.2.2.2 j hj).1).2.1
  unfold arK ar
  rw [if_neg (by omega), ← he]
  omega
abbrev ImgT (rs : List STrans) (sym : Int) (P : Nat → Int → Prop) (n : Nat) : Type := { ys : List Int // ys.Pairwise (· < ·) ∧ ∀ q, q ∈ ys ↔ Img rs rs.length sym P n q }
def InL (args : List (List Int)) (i : Nat) (q : Int) : Prop := q ∈ args.getD i default
theorem l23Image_spec {w0 : World} {Γ : List Atom} {v0 v1 va : Value} {x : SAuto} {sym : Int} {args : List (List Int)} [h0 : HasRd (List STrans) repList Γ [v0] x.2.1] [h1 : HasRd (List Int) repList Γ [v1] x.2.2] [h2 : HasRd (List (List Int)) repList Γ [va] args] (hx : InS x.2.1 ∧ ∀ j, j < x.2.1.length → (x.2.1.getD j default).1 = sym → (x.2.1.getD j default).2.1.length = args.length) : CJ Tryz.prog 63 [.agg #[.int .i64 x.1, v0, v1], .int .i64 sym, va] w0 Γ (fun p : Value × ImgT x.2.1 sym (InL args) args.length => p.1) (fun p => .ow [p.1] p.2.1 :: Γ) := by
  refine cj_lift (R := [.rd [v0] x.2.1, .rd [v1] x.2.2, .rd [va] args]) (A := fun p : Value × ImgT x.2.1 sym (InL args) args.length => [.ow [p.1] p.2.1]) (fun w1 => ?_) (reads_cons h0 (reads_cons h1 (reads_cons h2 inferInstance))) (fun _ => inferInstance)
  simp only [List.cons_append, List.nil_append]
  obtain ⟨hin, hlen⟩ := hx
  refine cj_len v0 fun hly => ?_
  refine cj_len va fun hlz => ?_
  refine cj_enter Tryz.func63 Tryz.ntmps63 ?_
  repeat' (first | refine red ?_ | refine redv fun sv => ?_ | refine redn fun b => ?_ | fail)
  refine wc_loop_p [7, 8] [13, 14, 15, 16, 17, 20, 21, 22, 23, 24, 9, 25, 26, 27, 28, 10, 11, 29, 30, 31, 32, 33, 34, 35, 38, 39, 40, 41, 42, 43, 44, 45, 46, 47, 36, 37, 48, 49, 50, 51, 52, 18, 19] (ι := (List Int × Value) × Nat) (fun k => [k.1.2, .int .i64 k.2]) (fun k => [.ow [k.1.2] k.1.1]) (fun k => k.2 ≤ x.2.1.length ∧ k.1.1.Pairwise (· < ·) ∧ ∀ q, q ∈ k.1.1 ↔ Img x.2.1 k.2 sym (InL args) args.length q) (fun k => x.2.1.length - k.2) (([], sv), 0) [.ow [sv] ([] : List Int)] (by kernel_rfl) ⟨Nat.zero_le _, List.Pairwise.nil, fun q => ⟨fun h => by simp at h, fun h => absurd h img_zero⟩⟩ rfl ?_
  intro ⟨⟨ys, sy⟩, k⟩ u l' hl' ⟨hk, hp, hm⟩
  simp only [patch, List.map_cons, List.map_nil, List.set_cons_zero, List.set_cons_succ] at hl'
  subst hl'
  simp only [List.cons_append, List.nil_append] at hk hp hm ⊢
  have hyl := sorted_len hp (fun q hq => img_in hin hk ((hm q).1 hq))
  by_cases hkl : k < x.2.1.length
  · obtain ⟨hx1, hx2, hx3⟩ := hin _ (getT hkl)
    have hln := hlen k hkl
    repeat' (first | refine red ?_ | refine redn fun b => ?_ | (refine redd fun p cs as_ hcs has hf => ?_; simp only [Un.cells, Un.atoms, Un.fact, List.cons_append, List.nil_append] at hcs has hf; subst hcs has) | (refine redi (fun hc => ?_) (fun hc => ?_) <;> try first | (exfalso; omega) | exact absurd rfl hc) | fail)
    refine wc_loop_c [10, 11] [29, 30, 31, 32, 33, 34, 35, 38, 39, 40, 41, 42, 43, 44, 45, 46, 47, 36, 37] (ι := Bool × Nat) (fun j => [.bool j.1, .int .i64 j.2]) (fun j => j.2 ≤ args.length ∧ (j.1 = true ↔ Fit sym (InL args) j.2 (x.2.1.getD k default))) (fun j => args.length - j.2) (decide ((x.2.1.getD k default).1 = sym), 0) (by kernel_rfl) ⟨Nat.zero_le _, by simp [Fit]⟩ ?_
    intro ⟨is, j⟩ u l' hl' ⟨hj, hjs⟩
    simp only [patch, List.map_cons, List.map_nil, List.set_cons_zero, List.set_cons_succ] at hl'
    subst hl'
    simp only at hj hjs
    cases is
    · have hno : ¬ Fit sym (InL args) args.length (x.2.1.getD k default) := fun h => by
        have := hjs.2 ⟨h.1, fun i hi => h.2 i (by omega)⟩
        cases this
      repeat' (first | refine red ?_ | refine reds ?_ | (refine redi (fun hc => ?_) (fun hc => ?_) <;> try first | (exfalso; omega) | exact absurd rfl hc) | fail)
      all_goals exact wq_next ((ys, sy), k + 1) ⟨by simp only; omega, hp, fun q => (hm q).trans (img_no hno).symm⟩ (by simp only; omega) (by kernel_rfl) ent_e
    · obtain ⟨hts, hta⟩ := hjs.1 rfl
      have hln2 := hln hts
      repeat' (first | refine red ?_ | refine reds ?_ | refine redc fun r => ?_ | (refine redi (fun hc => ?_) (fun hc => ?_) <;> try first | (exfalso; omega) | exact absurd rfl hc) | ((refine wa_begin 10 [false, false, false, false, false, false, false, false, false, false, false] [] ?_ <;> refine wa_p 0 ?_ <;> refine wa_p 1 ?_ <;> (first | (refine wa_deep 2 fun p cs as_ asb_ hcs has hasb hf => ?_; simp only [Un.cells, Un.atoms, Un.fact, List.cons_append, List.nil_append] at hcs has hasb hf; subst hcs has hasb) | fail) <;> (first | refine wa_p 3 ?_ | fail) <;> (first | refine wa_p 4 ?_ | fail) <;> (first | refine wa_p 5 ?_ | fail) <;> refine wa_p 6 ?_ <;> refine wa_p 7 ?_ <;> (first | refine wa_f 8 fun hbi => ?_ | fail) <;> (refine wa_do 9 ?_ <;> (repeat' (first | refine red ?_ | refine redc fun r => ?_ | fail))) <;> refine wa_p 10 ?_) <;> (refine wa_end ?_)) | fail)
      · refine wq_next (decide ((x.2.1.getD k default).2.1.getD j 0 ∈ args.getD j default), j + 1) ⟨by simp only; omega, ?_⟩ (by simp only; omega) (by kernel_rfl) ent_e
        simp only
        rw [decide_eq_true_iff]
        constructor
        · refine fun h => ⟨hts, fun i hi => ?_⟩
          by_cases e : i = j
          · rw [e]; exact h
          · exact hta i (by omega)
        · exact fun h => h.2 j (by omega)
      · have hri := r.2.2
        have hyes : Fit sym (InL args) args.length (x.2.1.getD k default) := ⟨hts, fun i hi => hta i (by omega)⟩
        exact wq_next ((r.2.1, r.1), k + 1) ⟨by simp only; omega, hri.1, fun q => by simp only; rw [hri.2.1, img_yes hyes, hm]⟩ (by simp only; omega) (by kernel_rfl) ent_e
  · repeat' (first | refine red ?_ | (refine redi (fun hc => ?_) (fun hc => ?_) <;> try first | (exfalso; omega) | exact absurd rfl hc) | fail)
    obtain rfl : k = x.2.1.length := by omega
    exact ⟨(sy, ⟨ys, hp, hm⟩), rfl, ent_e⟩
instance l23Image_ctr {Γ : List Atom} {v0 v1 va : Value} {x : SAuto} {sym : Int} {args : List (List Int)} [h0 : HasRd (List STrans) repList Γ [v0] x.2.1] [h1 : HasRd (List Int) repList Γ [v1] x.2.2] [h2 : HasRd (List (List Int)) repList Γ [va] args] :
    CtrC Tryz.prog 63 [.agg #[.int .i64 x.1, v0, v1], .int .i64 sym, va] Γ (InS x.2.1 ∧ ∀ j, j < x.2.1.length → (x.2.1.getD j default).1 = sym → (x.2.1.getD j default).2.1.length = args.length) (Value × ImgT x.2.1 sym (InL args) args.length) (fun p : Value × ImgT x.2.1 sym (InL args) args.length => p.1) (fun p => .ow [p.1] p.2.1 :: Γ) := ⟨fun s w0 => l23Image_spec s⟩

structure AG (a : List Int) (x : SAuto) (t : List Int) : Prop where
  au : AutoP a x
  gr : GrP a t
abbrev StT (a t : List Int) (rs : List STrans) (m : Nat) : Type := { ys : List Int // ys.Pairwise (· < ·) ∧ ∀ q, q ∈ ys ↔ Rs a t rs m q }
theorem l23States_rec (n : Nat) : ∀ {w0 : World} {Γ : List Atom} {v v0 v1 vt : Value} {a t : List Int} {x : SAuto} {k : Int} {m : Nat} [hm : ToN k m] [h : HasRd (List Int) repList Γ [v] a] [h0 : HasRd (List STrans) repList Γ [v0] x.2.1] [h1 : HasRd (List Int) repList Γ [v1] x.2.2] [h2 : HasRd (List Int) repList Γ [vt] t] (hs : AG a x t ∧ (0 ≤ k ∧ k < t.length) ∧ (t.length : Int) - k ≤ n), CJ Tryz.prog 131 [.agg #[v], .agg #[.int .i64 x.1, v0, v1], vt, .int .i64 k] w0 Γ (fun p : Value × StT a t x.2.1 m => p.1) (fun p => .ow [p.1] p.2.1 :: Γ) := by
  induction n with
  | zero =>
    intro w0 Γ v v0 v1 vt a t x k m hm h h0 h1 h2 hs
    omega
  | succ n ih =>
    intro w0 Γ v v0 v1 vt a t x k m hm h h0 h1 h2 hs
    haveI hI : ∀ (Δ : List Atom) (v v0 v1 vt : Value) (a t : List Int) (x : SAuto) (k : Int) (m : Nat) [ToN k m] [HasRd (List Int) repList Δ [v] a] [HasRd (List STrans) repList Δ [v0] x.2.1] [HasRd (List Int) repList Δ [v1] x.2.2] [HasRd (List Int) repList Δ [vt] t], CtrC Tryz.prog 131 [.agg #[v], .agg #[.int .i64 x.1, v0, v1], vt, .int .i64 k] Δ (AG a x t ∧ (0 ≤ k ∧ k < t.length) ∧ (t.length : Int) - k ≤ n) (Value × StT a t x.2.1 m) (fun p => p.1) (fun p => .ow [p.1] p.2.1 :: Δ) := fun Δ _ _ _ _ _ _ _ _ _ _ _ _ _ _ => ⟨fun s w0 => ih s⟩
    refine cj_lift (R := [.rd [v] a, .rd [v0] x.2.1, .rd [v1] x.2.2, .rd [vt] t]) (A := fun p : Value × StT a t x.2.1 m => [.ow [p.1] p.2.1]) (fun w1 => ?_) (reads_cons h (reads_cons h0 (reads_cons h1 (reads_cons h2 (inferInstance))))) (fun _ => inferInstance)
    simp only [List.cons_append, List.nil_append]
    obtain ⟨hag, hk, hkn⟩ := hs
    have hx := hag.au
    have hg := hag.gr
    obtain rfl : k = (m : Int) := by have := hm.eq; omega
    have ht := hg.1
    have hl := termOk_len ht
    have hg0 := hg.2 m (by omega)
    have hin := inS_of hx
    obtain ⟨h3, _, _⟩ := arK_le ht (k := m) (by omega)
    have hkl := kidL_len a t m (arK a t m)
    refine cj_enter Tryz.func131 Tryz.ntmps131 ?_
    repeat' (first | refine red ?_ | refine redc fun r => ?_ | refine redv fun sv => ?_ | refine redn fun b => ?_ | fail)
    refine wc_share r ?_
    refine wc_loop_p [9, 11] [17, 18, 19, 20, 23, 24, 25, 26, 27, 28, 29, 30, 31, 32, 33, 21, 22] (ι := (List (List Int) × Value) × Nat) (fun i => [i.1.2, .int .i64 i.2]) (fun i => [.ow [i.1.2] i.1.1]) (fun i => i.2 ≤ arK a t m ∧ i.1.1.length = i.2 ∧ ∀ j, j < i.2 → ∀ q, InL i.1.1 j q ↔ Rs a t x.2.1 (kidN a t (m + 1) j) q) (fun i => arK a t m - i.2) (([], sv), 0) [.ow [sv] ([] : List (List Int))] (by kernel_rfl) ⟨Nat.zero_le _, rfl, fun j hj => by omega⟩ rfl ?_
    intro ⟨⟨ys, sy⟩, i⟩ u l' hl' ⟨hi, hyl, hys⟩
    simp only [patch, List.map_cons, List.map_nil, List.set_cons_zero, List.set_cons_succ] at hl'
    subst hl'
    simp only [List.cons_append, List.nil_append] at hi hyl hys ⊢
    by_cases hil : i < arK a t m
    · have hga := kidL_get (a := a) (t := t) (k := m) hil
      have hki := kid_lt ht (k := m) (by omega) hil
      have hkt : ((kidL a t m (arK a t m)).getD i 0).toNat = kidN a t (m + 1) i := by rw [hga, Int.toNat_natCast]
      repeat' (first | refine red ?_ | refine reds ?_ | (refine redi (fun hc => ?_) (fun hc => ?_) <;> try first | (exfalso; omega) | exact absurd rfl hc) | ((refine wa_begin 6 [false, false, false, false, false, false, false, false, false, false, false, false] [10] ?_ <;> refine wa_p 0 ?_ <;> refine wa_p 1 ?_ <;> (first | refine wa_p 2 ?_ | fail) <;> refine wa_p 3 ?_ <;> refine wa_p 4 ?_ <;> refine wa_p 5 ?_ <;> refine wa_p 6 ?_ <;> (first | refine wa_f 7 fun hbi => ?_ | fail) <;> (refine wa_do 8 ?_ <;> (repeat' (first | refine red ?_ | refine redc fun r => ?_ | fail))) <;> (refine wa_do 9 ?_ <;> (repeat' (first | refine red ?_ | refine redv fun sv => ?_ | fail))) <;> (refine wa_do 10 ?_ <;> (repeat' (first | refine red ?_ | refine redv fun sv => ?_ | fail))) <;> refine wa_p0 11 ?_) <;> (refine wa_end ?_)) | fail)
      refine wq_next ((ys ++ [r.2.1], sv), i + 1) ⟨by simp only; omega, by simp [hyl], fun j hj q => ?_⟩ (by simp only; omega) (by kernel_rfl) ent_e
      simp only at hj
      unfold InL
      by_cases e : j = i
      · subst e
        have h5 := (r.2.2.2 q).trans (rs_cast hkt)
        rw [← h5, List.getD_eq_getElem?_getD, List.getElem?_append_right (by omega), hyl, Nat.sub_self]
        rfl
      · rw [List.getD_eq_getElem?_getD, List.getElem?_append_left (by omega), ← List.getD_eq_getElem?_getD]
        exact hys j (by omega) q
    · obtain rfl : i = arK a t m := by omega
      have hcond : InS x.2.1 ∧ ∀ j, j < x.2.1.length → (x.2.1.getD j default).1 = t.getD m 0 → (x.2.1.getD j default).2.1.length = ys.length := ⟨hin, by rw [hyl]; exact auto_args hx hg0⟩
      repeat' (first | refine red ?_ | (refine redi (fun hc => ?_) (fun hc => ?_) <;> try first | (exfalso; omega) | exact absurd rfl hc) | ((refine wa_begin 7 [false, false, false, false, false, false, false, false] [] ?_ <;> (first | refine wa_p 0 ?_ | fail) <;> refine wa_p 1 ?_ <;> refine wa_p 2 ?_ <;> refine wa_p 3 ?_ <;> (first | refine wa_f 4 fun hbi => ?_ | fail) <;> refine wa_p 5 ?_ <;> (refine wa_do 6 ?_ <;> (repeat' (first | refine red ?_ | refine redc fun r => ?_ | fail))) <;> refine wa_p 7 ?_) <;> (refine wa_end ?_)) | fail)
      refine ⟨(r.1, ⟨r.2.1, r.2.2.1, fun q => ?_⟩), rfl, ent_e⟩
      rw [r.2.2.2 q, hyl]
      exact rs_img (fun j hj q => hys j hj q) q
theorem l23States_spec {w0 : World} {Γ : List Atom} {v v0 v1 vt : Value} {a t : List Int} {x : SAuto} {k : Int} {m : Nat} [hm : ToN k m] [h : HasRd (List Int) repList Γ [v] a] [h0 : HasRd (List STrans) repList Γ [v0] x.2.1] [h1 : HasRd (List Int) repList Γ [v1] x.2.2] [h2 : HasRd (List Int) repList Γ [vt] t] (hs : AG a x t ∧ (0 ≤ k ∧ k < t.length)) : CJ Tryz.prog 131 [.agg #[v], .agg #[.int .i64 x.1, v0, v1], vt, .int .i64 k] w0 Γ (fun p : Value × StT a t x.2.1 m => p.1) (fun p => .ow [p.1] p.2.1 :: Γ) := by
  exact l23States_rec 60 ⟨hs.1, hs.2, by have := (termOk_len hs.1.gr.1).2; omega⟩
instance l23States_ctr {Γ : List Atom} {v v0 v1 vt : Value} {a t : List Int} {x : SAuto} {k : Int} {m : Nat} [hm : ToN k m] [h : HasRd (List Int) repList Γ [v] a] [h0 : HasRd (List STrans) repList Γ [v0] x.2.1] [h1 : HasRd (List Int) repList Γ [v1] x.2.2] [h2 : HasRd (List Int) repList Γ [vt] t] :
    CtrC Tryz.prog 131 [.agg #[v], .agg #[.int .i64 x.1, v0, v1], vt, .int .i64 k] Γ (AG a x t ∧ (0 ≤ k ∧ k < t.length)) (Value × StT a t x.2.1 m) (fun p : Value × StT a t x.2.1 m => p.1) (fun p => .ow [p.1] p.2.1 :: Γ) := ⟨fun s w0 => l23States_spec s⟩

theorem rs_in {a t : List Int} {rs : List STrans} (hi : InS rs) {k : Nat} {q : Int} (h : Rs a t rs k q) : 0 ≤ q ∧ q < 16 := by
  cases h with
  | mk _ j hj _ _ => exact (hi _ (getT hj)).2
noncomputable def statesOf (a : List Int) (x : SAuto) (t : List Int) : List Int := if decC (AutoP a x ∧ GrP a t) = true then pL (Rs a t x.2.1 0) else []
theorem st_yes {a t : List Int} {x : SAuto} (h : AutoP a x) (h' : GrP a t) : statesOf a x t = pL (Rs a t x.2.1 0) := by unfold statesOf; rw [if_pos (decC_t ⟨h, h'⟩)]
theorem st_no {a t : List Int} {x : SAuto} (h : ¬ (AutoP a x ∧ GrP a t)) : statesOf a x t = [] := by unfold statesOf; rw [if_neg (by rw [decC_f h]; decide)]
theorem statesOf_len (a : List Int) (x : SAuto) (t : List Int) : (statesOf a x t).length ≤ 16 := by
  unfold statesOf
  split
  · exact pL_len _
  · simp
theorem spec_StatesOf_spec {w0 : World} {Γ : List Atom} {v v0 v1 vt : Value} {a t : List Int} {x : SAuto} [h : HasRd (List Int) repList Γ [v] a] [h0 : HasRd (List STrans) repList Γ [v0] x.2.1] [h1 : HasRd (List Int) repList Γ [v1] x.2.2] [h2 : HasRd (List Int) repList Γ [vt] t] : CJ Tryz.prog 80 [.agg #[v], .agg #[.int .i64 x.1, v0, v1], vt] w0 Γ (fun q : Value => q) (fun q => .ow [q] (statesOf a x t) :: Γ) := by
  refine cj_lift (R := [.rd [v] a, .rd [v0] x.2.1, .rd [v1] x.2.2, .rd [vt] t]) (A := fun q => [.ow [q] (statesOf a x t)]) (fun w1 => ?_) (reads_cons h (reads_cons h0 (reads_cons h1 (reads_cons h2 (inferInstance))))) (fun _ => inferInstance)
  simp only [List.cons_append, List.nil_append]
  by_cases hok : AutoP a x ∧ GrP a t
  · obtain ⟨hx, hg⟩ := hok
    have hag : AG a x t := ⟨hx, hg⟩
    have hl := termOk_len hg.1
    rw [st_yes hx hg]
    refine cj_enter Tryz.func80 Tryz.ntmps80 ?_
    repeat' (first | refine red ?_ | refine redc fun r => ?_ | refine redv fun sv => ?_ | refine redn fun b => ?_ | (refine redi (fun hc => ?_) (fun hc => ?_) <;> try first | (exfalso; omega) | exact absurd rfl hc) | fail)
    all_goals first
      | (exfalso; exact ‹¬ AutoP a x› hx)
      | (exfalso; exact ‹¬ GrP a t› hg)
      | skip
    have hri := r.2.2
    rw [← pL_of (fun q hq => rs_in (inS_of hx) hq) hri.1 hri.2]
    exact ⟨_, rfl, ent_e⟩
  · rw [st_no hok]
    refine cj_enter Tryz.func80 Tryz.ntmps80 ?_
    repeat' (first | refine red ?_ | refine redc fun r => ?_ | refine redv fun sv => ?_ | refine redn fun b => ?_ | (refine redi (fun hc => ?_) (fun hc => ?_) <;> try first | (exfalso; omega) | exact absurd rfl hc) | fail)
    all_goals first
      | exact ⟨_, rfl, ent_e⟩
      | (exfalso; exact hok ⟨by assumption, by assumption⟩)
instance spec_StatesOf_ctr {Γ : List Atom} {v v0 v1 vt : Value} {a t : List Int} {x : SAuto} [h : HasRd (List Int) repList Γ [v] a] [h0 : HasRd (List STrans) repList Γ [v0] x.2.1] [h1 : HasRd (List Int) repList Γ [v1] x.2.2] [h2 : HasRd (List Int) repList Γ [vt] t] :
    CtrC Tryz.prog 80 [.agg #[v], .agg #[.int .i64 x.1, v0, v1], vt] Γ (True) (Value) (fun q : Value => q) (fun q => .ow [q] (statesOf a x t) :: Γ) := ⟨fun s w0 => spec_StatesOf_spec⟩

end Go.Proofs.YtbbdjjlnachnlaaGreat
