/- Sets that are grown in place; ground terms. -/
import Derived.Test.YtbbdjjlnachnlaaGreatDoorEngZ
import Derived.Test.YtbbdjjlnachnlaaGreatDoorReach2
namespace Go.Proofs.YtbbdjjlnachnlaaGreatDoor
open Go Go.Eng
set_option linter.unusedVariables false
set_option linter.unusedSimpArgs false
set_option synthInstance.maxHeartbeats 400000
set_option synthInstance.maxSize 1000

theorem l1Into_old {w0 : World} {Γ : List Atom} {v : Value} {xs : List Int} {n : Int} [h : HasRd (List Int) repList Γ [v] xs] (hn : n ∈ xs) (hs : xs.Pairwise (· < ·)) : CJ Tryz.prog 104 [v, .int .i64 n] w0 Γ (fun _ : Unit => v) (fun _ => Γ) := by
  refine cj_lift (R := [.rd [v] xs]) (A := fun _ => []) (fun w1 => ?_) (reads_cons h inferInstance) (fun _ => inferInstance)
  simp only [List.cons_append, List.nil_append]
  refine cj_len v fun hlx => ?_
  have hpw := List.pairwise_iff_getElem.1 hs
  refine cj_enter Tryz.func104 Tryz.ntmps104 ?_
  repeat' (first | refine red ?_ | fail)
  refine wc_loop_c [5] [7, 8, 9, 10, 11, 12, 13, 14, 15, 16, 17, 18, 19, 20] (ι := Nat) (fun k => [.int .i64 k]) (fun k => k ≤ xs.length ∧ ∀ i, i < k → xs.getD i 0 < n) (fun k => xs.length - k) 0 (by kernel_rfl) ⟨Nat.zero_le _, fun i hi => by omega⟩ ?_
  intro k u l' hl' ⟨hk, hkk⟩
  simp only [patch, List.map_cons, List.map_nil, List.set_cons_zero, List.set_cons_succ] at hl'
  subst hl'
  have hin : k < xs.length ∧ (¬ xs.getD k 0 < n → xs.getD k 0 = n) := by
    obtain ⟨j, hj, hjn⟩ := List.getElem_of_mem hn
    have hjd : xs.getD j 0 = n := by rw [List.getD_eq_getElem?_getD, List.getElem?_eq_getElem hj]; exact hjn
    have hkj : k ≤ j := by
      by_cases h : j < k
      · have := hkk j h; omega
      · omega
    refine ⟨by omega, fun hge => ?_⟩
    by_cases he : k = j
    · rw [he]; exact hjd
    · have := hpw k j (by omega) hj (by omega)
      rw [List.getD_eq_getElem?_getD, List.getElem?_eq_getElem (by omega)] at hge ⊢
      simp only [Option.getD_some] at hge ⊢
      omega
  obtain ⟨hin1, hin2⟩ := hin
  repeat' (first | refine red ?_ | refine redf fun hbi => ?_ | refine reds ?_ | (refine redi (fun hc => ?_) (fun hc => ?_) <;> try first | (exfalso; omega) | exact absurd rfl hc) | fail)
  · refine wq_next (k + 1) ⟨by omega, fun i hi => ?_⟩ (by omega) (by kernel_rfl) ent_e
    by_cases he : i = k
    · rw [he]; exact hc
    · exact hkk i (by omega)
  · exact ⟨(), rfl, ent_e⟩
abbrev IntoU (xs : List Int) (n : Int) : Type := { ys : List Int // ys.Pairwise (· < ·) ∧ (∀ q, q ∈ ys ↔ q = n ∨ q ∈ xs) ∧ ys.length ≤ xs.length + 1 }
theorem l1IntoOw_spec {w0 : World} {Γ Δ : List Atom} {v : Value} {xs : List Int} {n : Int} [hp : PullOw (List Int) repList Γ [v] xs Δ] (hs : xs.Pairwise (· < ·)) (hl : xs.length ≤ 1000) (hi : -9223372036854775808 ≤ n ∧ n ≤ 9223372036854775807) : CJ Tryz.prog 104 [v, .int .i64 n] w0 Γ (fun p : Value × IntoU xs n => p.1) (fun p => .ow [p.1] p.2.1 :: Δ) := by
  refine cj_perm hp.perm ?_
  intro w hw
  by_cases hn : n ∈ xs
  · refine (l1Into_old (xs := xs) hn hs w hw).mono fun e w' ⟨p, he, hs'⟩ => ⟨(v, ⟨xs, hs, fun q => ⟨fun h => .inr h, fun h => ?_⟩, by omega⟩), he, hs'⟩
    rcases h with h | h
    · rw [h]; exact hn
    · exact h
  · refine (l1Into_spec (xs := xs) hn hl hi w hw).mono fun e w' ⟨p, he, hs'⟩ => ⟨(p.1, ⟨p.2.1, p.2.2.2.2 hs, p.2.2.2.1, by have := p.2.2.1; omega⟩), he, ?_⟩
    have h2 : Ent w0 (.ow [p.1] p.2.1 :: .ow [v] xs :: Δ) (.ow [p.1] p.2.1 :: Δ) := ent_e
    exact h2 _ hs'
instance l1IntoOw_ctr {Γ Δ : List Atom} {v : Value} {xs : List Int} {n : Int} [hp : PullOw (List Int) repList Γ [v] xs Δ] :
    CtrC Tryz.prog 104 [v, .int .i64 n] Γ ((xs.Pairwise (· < ·)) ∧ (xs.length ≤ 1000) ∧ (-9223372036854775808 ≤ n ∧ n ≤ 9223372036854775807)) (Value × IntoU xs n) (fun p : Value × IntoU xs n => p.1) (fun p => .ow [p.1] p.2.1 :: Δ) := ⟨fun s w0 => l1IntoOw_spec s.1 s.2.1 s.2.2⟩

attribute [instance 2000] l1IntoOw_ctr
theorem vars_next {t : List Int} {k : Nat} {ys zs : List Int} {n : Int} (hk : k < t.length) (h : ys = [] ↔ ∀ i, i < k → 0 ≤ t.getD i 0) (hneg : t.getD k 0 < 0) (hz : zs ≠ []) : zs = [] ↔ ∀ i, i < k + 1 → 0 ≤ t.getD i 0 :=
  ⟨fun e => absurd e hz, fun h' => by have := h' k (by omega); omega⟩
theorem vars_same {t : List Int} {k : Nat} {ys : List Int} (h : ys = [] ↔ ∀ i, i < k → 0 ≤ t.getD i 0) (hpos : 0 ≤ t.getD k 0) : ys = [] ↔ ∀ i, i < k + 1 → 0 ≤ t.getD i 0 := by
  rw [h]
  constructor
  · intro h1 i hi
    by_cases he : i = k
    · rw [he]; exact hpos
    · exact h1 i (by omega)
  · intro h1 i hi
    exact h1 i (by omega)
abbrev VarsT (t : List Int) : Type := { ys : List Int // ys = [] ↔ ∀ i, i < t.length → 0 ≤ t.getD i 0 }
theorem l2Vars_spec {w0 : World} {Γ : List Atom} {v : Value} {t : List Int} [h : HasRd (List Int) repList Γ [v] t] (hl : t.length ≤ 60) (ht : ∀ x ∈ t, -24 ≤ x) : CJ Tryz.prog 48 [v] w0 Γ (fun p : Value × VarsT t => p.1) (fun p => .ow [p.1] p.2.1 :: Γ) := by
  refine cj_lift (R := [.rd [v] t]) (A := fun p : Value × VarsT t => [.ow [p.1] p.2.1]) (fun w1 => ?_) (reads_cons h inferInstance) (fun _ => inferInstance)
  simp only [List.cons_append, List.nil_append]
  refine cj_enter Tryz.func48 Tryz.ntmps48 ?_
  repeat' (first | refine red ?_ | refine redv fun sv => ?_ | fail)
  refine wc_loop_p [3, 4] [6, 7, 8, 9, 12, 13, 14, 15, 16, 17, 18, 19, 20, 21, 22, 23, 10, 11] (ι := List Int × Value × Nat) (fun k => [k.2.1, .int .i64 k.2.2]) (fun k => [.ow [k.2.1] k.1]) (fun k => k.2.2 ≤ t.length ∧ k.1.Pairwise (· < ·) ∧ k.1.length ≤ k.2.2 ∧ (k.1 = [] ↔ ∀ i, i < k.2.2 → 0 ≤ t.getD i 0)) (fun k => t.length - k.2.2) ([], sv, 0) [.ow [sv] ([] : List Int)] (by kernel_rfl) ⟨Nat.zero_le _, List.Pairwise.nil, by simp, by simp⟩ rfl ?_
  intro ⟨ys, sy, k⟩ u l' hl' ⟨hk, hp, hyl, hyv⟩
  simp only [patch, List.map_cons, List.map_nil, List.set_cons_zero, List.set_cons_succ] at hl'
  subst hl'
  simp only [List.cons_append, List.nil_append] at hk hp hyl hyv ⊢
  have htk : k < t.length → -24 ≤ t.getD k 0 := fun h => ht _ (getK h)
  repeat' (first | refine red ?_ | refine redf fun hbi => ?_ | refine reds ?_ | refine redc fun r => ?_ | (refine redi (fun hc => ?_) (fun hc => ?_) <;> try first | (exfalso; omega) | exact absurd rfl hc) | fail)
  · have hri := r.2.2
    refine wq_next (r.2.1, r.1, k + 1) ⟨by simp only; omega, hri.1, by simp only; omega, vars_next (n := 0) (by omega) hyv hc (fun e => ?_)⟩ (by simp only; omega) (by kernel_rfl) ent_e
    have := (hri.2.1 (-1 - t.getD k 0)).2 (.inl rfl)
    rw [show r.2.1 = [] from e] at this
    cases this
  · exact wq_next (ys, sy, k + 1) ⟨by simp only; omega, hp, by simp only; omega, vars_same hyv hc⟩ (by simp only; omega) (by kernel_rfl) ent_e
  · obtain rfl : k = t.length := by omega
    exact ⟨(sy, ⟨ys, hyv⟩), rfl, ent_e⟩
instance l2Vars_ctr {Γ : List Atom} {v : Value} {t : List Int} [h : HasRd (List Int) repList Γ [v] t] :
    CtrC Tryz.prog 48 [v] Γ ((t.length ≤ 60) ∧ (∀ x ∈ t, -24 ≤ x)) (Value × VarsT t) (fun p : Value × VarsT t => p.1) (fun p => .ow [p.1] p.2.1 :: Γ) := ⟨fun s w0 => l2Vars_spec s.1 s.2⟩

theorem varsIn_spec {w0 : World} {Γ : List Atom} {v : Value} {t : List Int} [h : HasRd (List Int) repList Γ [v] t] (hl : t.length ≤ 60) (ht : ∀ x ∈ t, -24 ≤ x) : CJ Tryz.prog 97 [v] w0 Γ (fun p : Value × VarsT t => p.1) (fun p => .ow [p.1] p.2.1 :: Γ) := by
  refine cj_lift (R := [.rd [v] t]) (A := fun p : Value × VarsT t => [.ow [p.1] p.2.1]) (fun w1 => ?_) (reads_cons h inferInstance) (fun _ => inferInstance)
  simp only [List.cons_append, List.nil_append]
  refine cj_enter Tryz.func97 Tryz.ntmps97 ?_
  repeat' (first | refine red ?_ | fail)
  refine wc_loop_p [3, 4] [5, 6, 9, 10, 11, 12, 13, 14, 15, 16, 7, 8] (ι := List Int × Value × Nat) (fun k => [k.2.1, .int .i64 k.2.2]) (fun k => [.ow [k.2.1] k.1]) (fun k => k.2.2 ≤ 24 ∧ k.1.length ≤ k.2.2 ∧ (k.1 = [] ↔ ∀ i, i < k.2.2 → (-1 - (i : Int)) ∉ t)) (fun k => 24 - k.2.2) ([], .slice none 0 0, 0) [.ow [.slice none 0 0] ([] : List Int)] (by kernel_rfl) ⟨by decide, by simp, by simp⟩ rfl ?_
  intro ⟨ys, sy, k⟩ u l' hl' ⟨hk, hyl, hyv⟩
  simp only [patch, List.map_cons, List.map_nil, List.set_cons_zero, List.set_cons_succ] at hl'
  subst hl'
  simp only [List.cons_append, List.nil_append] at hk hyl hyv ⊢
  repeat' (first | refine red ?_ | refine reds ?_ | refine redc fun r => ?_ | refine redv fun sv => ?_ | (refine redi (fun hc => ?_) (fun hc => ?_) <;> try first | (exfalso; omega) | exact absurd rfl hc) | fail)
  · refine wq_next (ys ++ [(k : Int)], sv, k + 1) ⟨by simp only; omega, by simp; omega, ⟨fun e => by simp at e, fun h => ?_⟩⟩ (by simp only; omega) (by kernel_rfl) ent_e
    exact absurd hc (h k (by simp only; omega))
  · refine wq_next (ys, sy, k + 1) ⟨by simp only; omega, by simp only; omega, ?_⟩ (by simp only; omega) (by kernel_rfl) ent_e
    simp only
    rw [hyv]
    constructor
    · intro h1 i hi
      by_cases he : i = k
      · rw [he]; exact hc
      · exact h1 i (by omega)
    · intro h1 i hi
      exact h1 i (by omega)
  · obtain rfl : k = 24 := by omega
    refine ⟨(sy, ⟨ys, ?_⟩), rfl, ent_e⟩
    rw [hyv]
    constructor
    · intro h1 i hi
      by_cases hneg : 0 ≤ t.getD i 0
      · exact hneg
      · have h2 := ht _ (getK hi)
        have := h1 (-1 - t.getD i 0).toNat (by omega)
        rw [show -1 - (((-1 - t.getD i 0).toNat : Nat) : Int) = t.getD i 0 by omega] at this
        exact absurd (getK hi) this
    · intro h1 i hi hm
      obtain ⟨j, hj, hjn⟩ := List.getElem_of_mem hm
      have := h1 j hj
      rw [List.getD_eq_getElem?_getD, List.getElem?_eq_getElem hj] at this
      simp only [Option.getD_some] at this
      omega
instance varsIn_ctr {Γ : List Atom} {v : Value} {t : List Int} [h : HasRd (List Int) repList Γ [v] t] :
    CtrC Tryz.prog 97 [v] Γ ((t.length ≤ 60) ∧ (∀ x ∈ t, -24 ≤ x)) (Value × VarsT t) (fun p : Value × VarsT t => p.1) (fun p => .ow [p.1] p.2.1 :: Γ) := ⟨fun s w0 => varsIn_spec s.1 s.2⟩

/-- A ground term. -/
def GrP (a t : List Int) : Prop := termOk a t = true ∧ ∀ i, i < t.length → 0 ≤ t.getD i 0
theorem vars_zero {a t ys : List Int} (hok : termOk a t = true) (h : ys = [] ↔ ∀ i, i < t.length → 0 ≤ t.getD i 0) : ((ys.length : Nat) : Int) = 0 ↔ GrP a t := by
  rw [show ((ys.length : Nat) : Int) = 0 ↔ ys = [] from ⟨fun e => List.eq_nil_of_length_eq_zero (by omega), fun e => by rw [e]; rfl⟩, h]
  exact ⟨fun h => ⟨hok, h⟩, fun h => h.2⟩
theorem spec_GroundIn_spec {w0 : World} {Γ : List Atom} {v v1 : Value} {a t : List Int} [h : HasRd (List Int) repList Γ [v] a] [h1 : HasRd (List Int) repList Γ [v1] t] : CJ Tryz.prog 14 [.agg #[v], v1] w0 Γ (fun _ : Unit => .bool (decC (GrP a t))) (fun _ => Γ) := by
  refine cj_lift (R := [.rd [v] a, .rd [v1] t]) (A := fun _ => []) (fun w1 => ?_) (reads_cons h (reads_cons h1 (inferInstance))) (fun _ => inferInstance)
  simp only [List.cons_append, List.nil_append]
  have hl : termOk a t = true → t.length ≤ 60 := fun h => (termOk_len h).2
  have hm : termOk a t = true → ∀ x ∈ t, -24 ≤ x := fun h x hx => (termOk_mem h hx).1
  by_cases hok : termOk a t = true
  · have hl' := hl hok
    have hm' := hm hok
    refine cj_enter Tryz.func14 Tryz.ntmps14 ?_
    repeat' (first | refine red ?_ | refine redc fun r => ?_ | refine redn fun b => ?_ | (refine redi (fun hc => ?_) (fun hc => ?_) <;> try first | (exfalso; omega) | exact absurd rfl hc) | fail)
    · exact ⟨(), ret_bool (decC_of (vars_zero hok r.2.2)).symm, ent_e⟩
    · rw [hok] at hc; cases hc
  · refine cj_enter Tryz.func14 Tryz.ntmps14 ?_
    repeat' (first | refine red ?_ | refine redc fun r => ?_ | refine redn fun b => ?_ | (refine redi (fun hc => ?_) (fun hc => ?_) <;> try first | (exfalso; omega) | exact absurd rfl hc) | fail)
    all_goals first
      | exact ⟨(), ret_bool (decC_f fun h => hok h.1), ent_e⟩
      | exact absurd hc hok
instance spec_GroundIn_ctr {Γ : List Atom} {v v1 : Value} {a t : List Int} [h : HasRd (List Int) repList Γ [v] a] [h1 : HasRd (List Int) repList Γ [v1] t] :
    CtrC Tryz.prog 14 [.agg #[v], v1] Γ (True) (Unit) (fun _ : Unit => .bool (decC (GrP a t))) (fun _ => Γ) := ⟨fun s w0 => spec_GroundIn_spec⟩

theorem impl_GroundIn_spec {w0 : World} {Γ : List Atom} {v v1 : Value} {a t : List Int} [h : HasRd (List Int) repList Γ [v] a] [h1 : HasRd (List Int) repList Γ [v1] t] : CJ Tryz.prog 38 [.agg #[v], v1] w0 Γ (fun _ : Unit => .bool (decC (GrP a t))) (fun _ => Γ) := by
  refine cj_lift (R := [.rd [v] a, .rd [v1] t]) (A := fun _ => []) (fun w1 => ?_) (reads_cons h (reads_cons h1 (inferInstance))) (fun _ => inferInstance)
  simp only [List.cons_append, List.nil_append]
  have hl : termOk a t = true → t.length ≤ 60 := fun h => (termOk_len h).2
  have hm : termOk a t = true → ∀ x ∈ t, -24 ≤ x := fun h x hx => (termOk_mem h hx).1
  by_cases hok : termOk a t = true
  · have hl' := hl hok
    have hm' := hm hok
    refine cj_enter Tryz.func38 Tryz.ntmps38 ?_
    repeat' (first | refine red ?_ | refine redc fun r => ?_ | refine redn fun b => ?_ | (refine redi (fun hc => ?_) (fun hc => ?_) <;> try first | (exfalso; omega) | exact absurd rfl hc) | fail)
    · exact ⟨(), ret_bool (decC_of (vars_zero hok r.2.2)).symm, ent_e⟩
    · rw [hok] at hc; cases hc
  · refine cj_enter Tryz.func38 Tryz.ntmps38 ?_
    repeat' (first | refine red ?_ | refine redc fun r => ?_ | refine redn fun b => ?_ | (refine redi (fun hc => ?_) (fun hc => ?_) <;> try first | (exfalso; omega) | exact absurd rfl hc) | fail)
    all_goals first
      | exact ⟨(), ret_bool (decC_f fun h => hok h.1), ent_e⟩
      | exact absurd hc hok
instance impl_GroundIn_ctr {Γ : List Atom} {v v1 : Value} {a t : List Int} [h : HasRd (List Int) repList Γ [v] a] [h1 : HasRd (List Int) repList Γ [v1] t] :
    CtrC Tryz.prog 38 [.agg #[v], v1] Γ (True) (Unit) (fun _ : Unit => .bool (decC (GrP a t))) (fun _ => Γ) := ⟨fun s w0 => impl_GroundIn_spec⟩

end Go.Proofs.YtbbdjjlnachnlaaGreatDoor
namespace Go.Proofs.YtbbdjjlnachnlaaGreatDoor
open Go Go.Eng
set_option linter.unusedVariables false
set_option linter.unusedSimpArgs false
set_option synthInstance.maxHeartbeats 400000
set_option synthInstance.maxSize 1000

/-- The place behind i terms from p on. -/
def kidN (a t : List Int) (p : Nat) : Nat → Nat
  | 0 => p
  | i + 1 => kidN a t p i + sz a t (kidN a t p i)
theorem kid_inv {a t : List Int} {p n : Nat} (h : (skp a (badS a) (t.drop p) n).1 = true) : ∀ i, i ≤ n → (skp a (badS a) (t.drop (kidN a t p i)) (n - i)).1 = true ∧ p ≤ kidN a t p i
  | 0, _ => ⟨h, Nat.le_refl _⟩
  | i + 1, hi => by
    obtain ⟨h1, h2⟩ := kid_inv h i (by omega)
    rw [show n - i = (n - (i + 1)) + 1 by omega] at h1
    have h3 := skp_one _ _ _ _ h1
    have h4 := skp_split a (badS a) (t.drop (kidN a t p i)) 1 (n - (i + 1))
    rw [Nat.add_comm 1, if_pos h3.1] at h4
    rw [h4] at h1
    refine ⟨?_, ?_⟩
    · show (skp a (badS a) (t.drop (kidN a t p i + sz a t (kidN a t p i))) _).1 = true
      unfold sz
      rw [← List.drop_drop]
      exact h1
    · show p ≤ kidN a t p i + sz a t (kidN a t p i)
      omega
theorem kid_in {a t : List Int} {p n : Nat} (h : (skp a (badS a) (t.drop p) n).1 = true) {i : Nat} (hi : i < n) : kidN a t p i < t.length ∧ p ≤ kidN a t p i := by
  obtain ⟨h1, h2⟩ := kid_inv h i (by omega)
  refine ⟨?_, h2⟩
  by_cases hl : kidN a t p i < t.length
  · exact hl
  · rw [List.drop_eq_nil_of_le (by omega), show n - i = (n - i - 1) + 1 by omega] at h1
    cases h1
/-- How many arguments stand behind the symbol at k. -/
def arK (a t : List Int) (k : Nat) : Nat := (ar a (t.getD k 0)).toNat
theorem kids_skp {a t : List Int} (h : termOk a t = true) {k : Nat} (hk : k < t.length) : (skp a (badS a) (t.drop (k + 1)) (arK a t k)).1 = true := by
  have h1 := (term_at h hk).1
  rw [drop_get hk, show 1 = 0 + 1 from rfl] at h1
  unfold skp at h1
  split at h1
  · cases h1
  · unfold arK
    simp only [Nat.zero_add] at h1
    exact h1
theorem kid_lt {a t : List Int} (h : termOk a t = true) {k : Nat} (hk : k < t.length) {i : Nat} (hi : i < arK a t k) : k < kidN a t (k + 1) i ∧ kidN a t (k + 1) i < t.length := by
  have := kid_in (kids_skp h hk) hi
  omega
theorem arK_le {a t : List Int} (h : termOk a t = true) {k : Nat} (hk : k < t.length) : arK a t k ≤ 3 ∧ ar a (t.getD k 0) = (arK a t k : Int) ∧ ar1 a (t.getD k 0) = (arK a t k : Int) := by
  have h1 := termOk_get h hk
  have h2 := ar_bounds (termOk_sig h) h1.2
  unfold arK
  refine ⟨by omega, by omega, ?_⟩
  unfold ar1
  rw [if_neg (by unfold badS; rw [decide_eq_true_iff]; omega)]
  omega
def kidL (a t : List Int) (k n : Nat) : List Int := (List.range n).map (fun i => ((kidN a t (k + 1) i : Nat) : Int))
theorem kidL_succ (a t : List Int) (k n : Nat) : kidL a t k (n + 1) = kidL a t k n ++ [((kidN a t (k + 1) n : Nat) : Int)] := by
  unfold kidL; rw [List.range_succ, List.map_append]; rfl
theorem kidL_len (a t : List Int) (k n : Nat) : (kidL a t k n).length = n := by unfold kidL; simp
theorem kidL_get {a t : List Int} {k n i : Nat} (hi : i < n) : (kidL a t k n).getD i 0 = ((kidN a t (k + 1) i : Nat) : Int) := by
  unfold kidL; simp [List.getD_eq_getElem?_getD, hi]
theorem l1Args_spec {w0 : World} {Γ : List Atom} {v v1 : Value} {a t : List Int} {k : Int} {m : Nat} [hm : ToN k m] [h : HasRd (List Int) repList Γ [v] a] [h1 : HasRd (List Int) repList Γ [v1] t] (ht : termOk a t = true) (hk : 0 ≤ k ∧ k < t.length) : CJ Tryz.prog 149 [.agg #[v], v1, .int .i64 k] w0 Γ (fun q : Value => q) (fun q => .ow [q] (kidL a t m (arK a t m)) :: Γ) := by
  refine cj_lift (R := [.rd [v] a, .rd [v1] t]) (A := fun q => [.ow [q] (kidL a t m (arK a t m))]) (fun w1 => ?_) (reads_cons h (reads_cons h1 inferInstance)) (fun _ => inferInstance)
  simp only [List.cons_append, List.nil_append]
  obtain rfl : k = (m : Int) := by have := hm.eq; omega
  have hs := termOk_sig ht
  have hl := termOk_len ht
  obtain ⟨h3, _, har⟩ := arK_le ht (k := m) (by omega)
  refine cj_enter Tryz.func149 Tryz.ntmps149 ?_
  repeat' (first | refine red ?_ | refine reds ?_ | refine redv fun sv => ?_ | refine redn fun b => ?_ | ((refine wa_begin 3 [false, false, false, false, false, false, false] [] ?_ <;> refine wa_p 0 ?_ <;> refine wa_p 1 ?_ <;> refine wa_p 2 ?_ <;> refine wa_p 3 ?_ <;> (first | refine wa_f 4 fun hbi => ?_ | fail) <;> (refine wa_do 5 ?_ <;> (repeat' (first | refine red ?_ | refine redc fun r => ?_ | fail))) <;> refine wa_p 6 ?_) <;> (refine wa_end ?_)) | fail)
  rw [har]
  refine wc_loop_p [7, 8, 9] [19, 20, 23, 24, 25, 26, 27, 28, 29, 30, 21, 22] (ι := Nat × Value) (fun j => [j.2, .int .i64 (kidN a t (m + 1) j.1 : Nat), .int .i64 ((arK a t m - j.1 : Nat) : Int)]) (fun j => [.ow [j.2] (kidL a t m j.1)]) (fun j => j.1 ≤ arK a t m) (fun j => arK a t m - j.1) (0, sv) [.ow [sv] ([] : List Int)] (by kernel_rfl) (Nat.zero_le _) rfl ?_
  intro ⟨j, sw⟩ u l' hl' hj
  simp only [patch, List.map_cons, List.map_nil, List.set_cons_zero, List.set_cons_succ] at hl'
  subst hl'
  simp only [List.cons_append, List.nil_append] at hj ⊢
  have hkl := kidL_len a t m j
  have hks := kidL_succ a t m j
  have hkn : j < arK a t m → kidN a t (m + 1) j < t.length := fun h => (kid_lt ht (k := m) (by omega) h).2
  by_cases hjl : j < arK a t m
  · have hkn' := hkn hjl
    have he := end_S ht hkn'
    repeat' (first | refine red ?_ | refine reds ?_ | refine redc fun r => ?_ | refine redv fun sv => ?_ | (refine redi (fun hc => ?_) (fun hc => ?_) <;> try first | (exfalso; omega) | exact absurd rfl hc) | fail)
    rw [← hks]
    refine wq_next (j + 1, sv) (by simp only; omega) (by simp only; omega) ?_ ent_e
    simp only [kidN]
    rw [he, show ((arK a t m - j : Nat) : Int) - 1 = ((arK a t m - (j + 1) : Nat) : Int) by omega]
    kernel_rfl
  · repeat' (first | refine red ?_ | (refine redi (fun hc => ?_) (fun hc => ?_) <;> try first | (exfalso; omega) | exact absurd rfl hc) | fail)
    rw [show j = arK a t m by omega]
    exact ⟨_, rfl, ent_e⟩
instance l1Args_ctr {Γ : List Atom} {v v1 : Value} {a t : List Int} {k : Int} {m : Nat} [hm : ToN k m] [h : HasRd (List Int) repList Γ [v] a] [h1 : HasRd (List Int) repList Γ [v1] t] :
    CtrC Tryz.prog 149 [.agg #[v], v1, .int .i64 k] Γ ((termOk a t = true) ∧ (0 ≤ k ∧ k < t.length)) (Value) (fun q : Value => q) (fun q => .ow [q] (kidL a t m (arK a t m)) :: Γ) := ⟨fun s w0 => l1Args_spec s.1 s.2⟩

theorem argsAtK_spec {w0 : World} {Γ : List Atom} {v v1 : Value} {a t : List Int} {k : Int} {m : Nat} [hm : ToN k m] [h : HasRd (List Int) repList Γ [v] a] [h1 : HasRd (List Int) repList Γ [v1] t] (ht : termOk a t = true) (hk : 0 ≤ k ∧ k < t.length) : CJ Tryz.prog 98 [.agg #[v], v1, .int .i64 k] w0 Γ (fun q : Value => q) (fun q => .ow [q] (kidL a t m (arK a t m)) :: Γ) := by
  refine cj_lift (R := [.rd [v] a, .rd [v1] t]) (A := fun q => [.ow [q] (kidL a t m (arK a t m))]) (fun w1 => ?_) (reads_cons h (reads_cons h1 inferInstance)) (fun _ => inferInstance)
  simp only [List.cons_append, List.nil_append]
  obtain rfl : k = (m : Int) := by have := hm.eq; omega
  have hs := termOk_sig ht
  have hl := termOk_len ht
  have htk := termOk_get ht (k := m) (by omega)
  obtain ⟨h3, har, _⟩ := arK_le ht (k := m) (by omega)
  refine cj_enter Tryz.func98 Tryz.ntmps98 ?_
  repeat' (first | refine red ?_ | refine reds ?_ | refine redn fun b => ?_ | ((refine wa_begin 3 [false, false, false, false, false, false, false] [] ?_ <;> refine wa_p 0 ?_ <;> refine wa_p 1 ?_ <;> refine wa_p 2 ?_ <;> refine wa_p 3 ?_ <;> (first | refine wa_f 4 fun hbi => ?_ | fail) <;> (refine wa_do 5 ?_ <;> (repeat' (first | refine red ?_ | refine redc fun r => ?_ | fail))) <;> refine wa_p 6 ?_) <;> (refine wa_end ?_)) | fail)
  rw [har]
  refine wc_loop_p [7, 8, 9] [18, 19, 22, 23, 24, 25, 26, 27, 28, 29, 20, 21] (ι := Nat × Value) (fun j => [j.2, .int .i64 (kidN a t (m + 1) j.1 : Nat), .int .i64 ((arK a t m - j.1 : Nat) : Int)]) (fun j => [.ow [j.2] (kidL a t m j.1)]) (fun j => j.1 ≤ arK a t m) (fun j => arK a t m - j.1) (0, .slice none 0 0) [.ow [.slice none 0 0] ([] : List Int)] (by kernel_rfl) (Nat.zero_le _) rfl ?_
  intro ⟨j, sw⟩ u l' hl' hj
  simp only [patch, List.map_cons, List.map_nil, List.set_cons_zero, List.set_cons_succ] at hl'
  subst hl'
  simp only [List.cons_append, List.nil_append] at hj ⊢
  have hkl := kidL_len a t m j
  have hks := kidL_succ a t m j
  have hkn : j < arK a t m → kidN a t (m + 1) j < t.length := fun h => (kid_lt ht (k := m) (by omega) h).2
  by_cases hjl : j < arK a t m
  · have hkn' := hkn hjl
    have he := end_I ht hkn'
    repeat' (first | refine red ?_ | refine reds ?_ | refine redc fun r => ?_ | refine redv fun sv => ?_ | (refine redi (fun hc => ?_) (fun hc => ?_) <;> try first | (exfalso; omega) | exact absurd rfl hc) | fail)
    rw [← hks]
    refine wq_next (j + 1, sv) (by simp only; omega) (by simp only; omega) ?_ ent_e
    simp only [kidN]
    rw [he, show ((arK a t m - j : Nat) : Int) - 1 = ((arK a t m - (j + 1) : Nat) : Int) by omega]
    kernel_rfl
  · repeat' (first | refine red ?_ | (refine redi (fun hc => ?_) (fun hc => ?_) <;> try first | (exfalso; omega) | exact absurd rfl hc) | fail)
    rw [show j = arK a t m by omega]
    exact ⟨_, rfl, ent_e⟩
instance argsAtK_ctr {Γ : List Atom} {v v1 : Value} {a t : List Int} {k : Int} {m : Nat} [hm : ToN k m] [h : HasRd (List Int) repList Γ [v] a] [h1 : HasRd (List Int) repList Γ [v1] t] :
    CtrC Tryz.prog 98 [.agg #[v], v1, .int .i64 k] Γ ((termOk a t = true) ∧ (0 ≤ k ∧ k < t.length)) (Value) (fun q : Value => q) (fun q => .ow [q] (kidL a t m (arK a t m)) :: Γ) := ⟨fun s w0 => argsAtK_spec s.1 s.2⟩

end Go.Proofs.YtbbdjjlnachnlaaGreatDoor
