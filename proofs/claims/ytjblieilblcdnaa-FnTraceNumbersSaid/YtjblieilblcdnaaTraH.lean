/- Forms of terms: the reference. -/
import Derived.Test.YtjblieilblcdnaaTraG
namespace Go.Proofs.Ytjblieilblcdnaa
open Go Go.Eng
set_option linter.unusedVariables false
set_option linter.unusedSimpArgs false
set_option synthInstance.maxHeartbeats 400000
set_option synthInstance.maxSize 1000
set_option maxHeartbeats 4000000
set_option maxRecDepth 20000

def PolyP (q : SPoly) (n : Int) : Prop := (0 ≤ q.1 ∧ q.1 ≤ 9) ∧ (q.2.length : Int) = n ∧ ∀ i, i < q.2.length → 0 ≤ q.2.getD i 0 ∧ q.2.getD i 0 ≤ 9
theorem l15Poly_spec {w0 : World} {Γ : List Atom} {v : Value} {q : SPoly} {n : Int} [h : HasRd (List Int) repList Γ [v] q.2] (hn : n ≤ 64) :
    CJ Try.prog 88 [.agg #[.int .i64 q.1, v], .int .i64 n] w0 Γ (fun _ : Unit => .bool (dcP (PolyP q n))) (fun _ => Γ) := by
  refine cj_lift (R := [.rd [v] q.2]) (A := fun _ => []) (fun w1 => ?_) (reads_cons h (inferInstance)) (fun _ => inferInstance)
  simp only [List.cons_append, List.nil_append]
  refine cj_len v fun hln => ?_
  refine cj_enter Try.func88 Try.ntmps88 ?_
  repeat' (first | refine red ?_ | (refine redc fun r => ?_; try have hr := Subtype.property r) | refine redn fun b => ?_ | (refine redi (fun hc => ?_) (fun hc => ?_) <;> try first | (exfalso; omega) | with_reducible first | exact absurd rfl hc | exact absurd hc Bool.false_ne_true | exact absurd hc Bool.false_ne_true.symm) | fail)
  · exact ⟨(), ret_bool (dcP_f fun h => hc h.1), ent_e⟩
  · exact ⟨(), ret_bool (dcP_f fun h => hc h.2.1), ent_e⟩
  have h1 : 0 ≤ q.1 ∧ q.1 ≤ 9 := by assumption
  have h2 : (q.2.length : Int) = n := by assumption
  refine wc_loop_c [5] [17, 18, 19, 20, 21, 24, 25, 26, 27, 28, 29, 30, 4, 22, 23] (ι := Nat) (fun k => [.int .i64 k]) (fun k => k ≤ q.2.length ∧ ∀ i, i < k → 0 ≤ q.2.getD i 0 ∧ q.2.getD i 0 ≤ 9) (fun k => q.2.length - k) 0 (by kernel_rfl) ⟨Nat.zero_le _, fun f hf => absurd hf (Nat.not_lt_zero f)⟩ ?_
  intro k u l' hl' ⟨hk, hI⟩
  simp only [patch, List.map_cons, List.map_nil, List.set_cons_zero, List.set_cons_succ] at hl'
  subst hl'
  by_cases hkl : k < q.2.length
  · repeat' (first | refine red ?_ | refine redf fun hbi => ?_ | refine reds ?_ | (refine redc fun r => ?_; try have hr := Subtype.property r) | (refine redi (fun hc => ?_) (fun hc => ?_) <;> try first | (exfalso; omega) | with_reducible first | exact absurd rfl hc | exact absurd hc Bool.false_ne_true | exact absurd hc Bool.false_ne_true.symm) | fail)
    · exact ⟨(), ret_bool (dcP_f fun h => hc (h.2.2 k hkl)), ent_e⟩
    · exact wq_next (k + 1) ⟨by omega, fun f hf => by
        by_cases e : f = k
        · subst e; exact hc
        · exact hI f (by omega)⟩ (by omega) (by kernel_rfl) ent_e
  · obtain rfl : k = q.2.length := by omega
    repeat' (first | refine red ?_ | (refine redi (fun hc => ?_) (fun hc => ?_) <;> try first | (exfalso; omega) | with_reducible first | exact absurd rfl hc | exact absurd hc Bool.false_ne_true | exact absurd hc Bool.false_ne_true.symm) | fail)
    exact ⟨(), ret_bool (dcP_t ⟨h1, h2, hI⟩), ent_e⟩
instance l15Poly_ctr {Γ : List Atom} {v : Value} {q : SPoly} {n : Int} [h : HasRd (List Int) repList Γ [v] q.2] :
    CtrC Try.prog 88 [.agg #[.int .i64 q.1, v], .int .i64 n] Γ (n ≤ 64) (Unit) (fun _ : Unit => .bool (dcP (PolyP q n))) (fun _ => Γ) := ⟨fun s w0 => l15Poly_spec s⟩

/-- Polys for a signature. -/
def PolysP (a : List Int) (ps : List SPoly) : Prop := sigOk a = true ∧ ps.length = a.length ∧ ∀ f, f < ps.length → PolyP (ps.getD f default) (a.getD f 0)
theorem PolysOk_spec {w0 : World} {Γ : List Atom} {va v : Value} {a : List Int} {ps : List SPoly} [h0 : HasRd (List Int) repList Γ [va] a] [h : HasRd (List SPoly) repList Γ [v] ps] :
    CJ Try.prog 83 [.agg #[va], v] w0 Γ (fun _ : Unit => .bool (dcP (PolysP a ps))) (fun _ => Γ) := by
  refine cj_lift (R := [.rd [va] a, .rd [v] ps]) (A := fun _ => []) (fun w1 => ?_) (reads_cons h0 (reads_cons h (inferInstance))) (fun _ => inferInstance)
  simp only [List.cons_append, List.nil_append]
  by_cases hs : sigOk a = true ∧ ps.length = a.length
  · have hsg := sigOk_len hs.1
    obtain ⟨hsa, hpl⟩ := hs
    refine cj_enter Try.func83 Try.ntmps83 ?_
    repeat' (first | refine red ?_ | (refine redc fun r => ?_; try have hr := Subtype.property r) | refine redn fun b => ?_ | (refine redi (fun hc => ?_) (fun hc => ?_) <;> try first | (exfalso; omega) | with_reducible first | exact absurd rfl hc | exact absurd hc Bool.false_ne_true | exact absurd hc Bool.false_ne_true.symm) | fail)
    · rw [hsa] at hc; cases hc
    refine wc_loop_c [5] [17, 18, 19, 20, 23, 24, 25, 26, 27, 28, 29, 30, 31, 32, 33, 4, 21, 22] (ι := Nat) (fun k => [.int .i64 k]) (fun k => k ≤ ps.length ∧ ∀ f, f < k → PolyP (ps.getD f default) (a.getD f 0)) (fun k => ps.length - k) 0 (by kernel_rfl) ⟨Nat.zero_le _, fun f hf => absurd hf (Nat.not_lt_zero f)⟩ ?_
    intro k u l' hl' ⟨hk, hI⟩
    simp only [patch, List.map_cons, List.map_nil, List.set_cons_zero, List.set_cons_succ] at hl'
    subst hl'
    by_cases hkl : k < ps.length
    · have hak := sigOk_get hsa (k := k) (by omega)
      repeat' (first | refine red ?_ | refine reds ?_ | (refine redi (fun hc => ?_) (fun hc => ?_) <;> try first | (exfalso; omega) | with_reducible first | exact absurd rfl hc | exact absurd hc Bool.false_ne_true | exact absurd hc Bool.false_ne_true.symm) | ((refine wa_begin 6 [false, false, false, false, false, false, false, false, false, false, false] [] ?_ <;> refine wa_p 0 ?_ <;> refine wa_p 1 ?_ <;> (first | (refine wa_deep 2 fun p cs as_ asb_ hcs has hasb hf => ?_; simp only [Un.cells, Un.atoms, Un.fact, List.cons_append, List.nil_append] at hcs has hasb hf; subst hcs has hasb) | fail) <;> (first | refine wa_p 3 ?_ | fail) <;> (first | refine wa_p 4 ?_ | fail) <;> (first | refine wa_p 5 ?_ | fail) <;> refine wa_p 6 ?_ <;> refine wa_p 7 ?_ <;> (first | refine wa_f 8 fun hbi => ?_ | fail) <;> (refine wa_do 9 ?_ <;> (repeat' (first | refine red ?_ | (refine redc fun r => ?_; try have hr := Subtype.property r) | fail))) <;> (first | refine wa_p 10 ?_ | fail)) <;> (refine wa_end ?_)) | fail)
      · exact ⟨(), ret_bool (dcP_f fun h => hc (h.2.2 k hkl)), ent_e⟩
      · exact wq_next (k + 1) ⟨by omega, fun f hf => by
          by_cases e : f = k
          · subst e; exact hc
          · exact hI f (by omega)⟩ (by omega) (by kernel_rfl) ent_e
    · obtain rfl : k = ps.length := by omega
      repeat' (first | refine red ?_ | (refine redi (fun hc => ?_) (fun hc => ?_) <;> try first | (exfalso; omega) | with_reducible first | exact absurd rfl hc | exact absurd hc Bool.false_ne_true | exact absurd hc Bool.false_ne_true.symm) | fail)
      exact ⟨(), ret_bool (dcP_t ⟨hsa, hpl, hI⟩), ent_e⟩
  · refine cj_enter Try.func83 Try.ntmps83 ?_
    repeat' (first | refine red ?_ | (refine redc fun r => ?_; try have hr := Subtype.property r) | refine redn fun b => ?_ | (refine redi (fun hc => ?_) (fun hc => ?_) <;> try first | (exfalso; omega) | with_reducible first | exact absurd rfl hc | exact absurd hc Bool.false_ne_true | exact absurd hc Bool.false_ne_true.symm) | fail)
    · exact ⟨(), ret_bool (dcP_f fun h => hs ⟨h.1, h.2.1⟩), ent_e⟩
    · exact ⟨(), ret_bool (dcP_f fun h => hs ⟨h.1, h.2.1⟩), ent_e⟩
    · exact absurd ⟨by assumption, by omega⟩ hs
instance PolysOk_ctr {Γ : List Atom} {va v : Value} {a : List Int} {ps : List SPoly} [h0 : HasRd (List Int) repList Γ [va] a] [h : HasRd (List SPoly) repList Γ [v] ps] :
    CtrC Try.prog 83 [.agg #[va], v] Γ (True) (Unit) (fun _ : Unit => .bool (dcP (PolysP a ps))) (fun _ => Γ) := ⟨fun s w0 => PolysOk_spec⟩

/-- No factor of the first is greater. -/
def MostP (z y : List Int) : Prop := ∀ i, i < z.length → 0 < z.getD i 0 → i < y.length ∧ z.getD i 0 ≤ y.getD i 0
theorem l15Most_spec {w0 : World} {Γ : List Atom} {v1 v2 : Value} {n1 n2 : Int} {z y : List Int} [h : HasRd (List Int) repList Γ [v1] z] [h' : HasRd (List Int) repList Γ [v2] y] :
    CJ Try.prog 90 [.agg #[.int .i64 n1, v1], .agg #[.int .i64 n2, v2]] w0 Γ (fun _ : Unit => .bool (dcP (MostP z y))) (fun _ => Γ) := by
  refine cj_lift (R := [.rd [v1] z, .rd [v2] y]) (A := fun _ => []) (fun w1 => ?_) (reads_cons h (reads_cons h' (inferInstance))) (fun _ => inferInstance)
  simp only [List.cons_append, List.nil_append]
  refine cj_len v1 fun hlz => ?_
  refine cj_len v2 fun hly => ?_
  refine cj_enter Try.func90 Try.ntmps90 ?_
  repeat' (first | refine red ?_ | refine redn fun b => ?_ | fail)
  refine wc_loop_c [5] [6, 7, 8, 9, 10, 13, 14, 15, 16, 17, 18, 19, 20, 21, 22, 23, 24, 25, 26, 27, 28, 29, 30, 31, 32, 33, 34, 35, 36, 37, 38, 4, 11, 12] (ι := Nat) (fun k => [.int .i64 k]) (fun k => k ≤ z.length ∧ ∀ i, i < k → 0 < z.getD i 0 → i < y.length ∧ z.getD i 0 ≤ y.getD i 0) (fun k => z.length - k) 0 (by kernel_rfl) ⟨Nat.zero_le _, fun f hf => absurd hf (Nat.not_lt_zero f)⟩ ?_
  intro k u l' hl' ⟨hk, hI⟩
  simp only [patch, List.map_cons, List.map_nil, List.set_cons_zero, List.set_cons_succ] at hl'
  subst hl'
  have hnx : (0 < z.getD k 0 → k < y.length ∧ z.getD k 0 ≤ y.getD k 0) → ∀ i, i < k + 1 → 0 < z.getD i 0 → i < y.length ∧ z.getD i 0 ≤ y.getD i 0 := fun h i hi => by
    by_cases e : i = k
    · subst e; exact h
    · exact hI i (by omega)
  by_cases hkl : k < z.length
  · repeat' (first | refine red ?_ | refine reds ?_ | (refine redi (fun hc => ?_) (fun hc => ?_) <;> try first | (exfalso; omega) | with_reducible first | exact absurd rfl hc | exact absurd hc Bool.false_ne_true | exact absurd hc Bool.false_ne_true.symm) | ((refine wa_begin 4 [false, false, false, false, false, false, false, false, false, false, false, false, false, false, false, false, false, false, false, false, false, false, false, false, false, false] [] ?_ <;> (first | refine wa_p 0 ?_ | fail) <;> (first | refine wa_p 1 ?_ | fail) <;> refine wa_p 2 ?_ <;> refine wa_p 3 ?_ <;> (first | refine wa_f 4 fun hbi => ?_ | fail) <;> refine wa_p 5 ?_ <;> refine wa_p 6 ?_ <;> (first | (refine wa_if 19 (fun hc => ?_) (fun hc => ?_) <;> (try first | (exfalso; omega) | with_reducible first | exact absurd rfl hc | exact absurd hc Bool.false_ne_true | exact absurd hc Bool.false_ne_true.symm) <;> first | refine wa_pg 7 ?_ | refine wa_no 7 ?_) | fail) <;> (first | refine wa_pg 8 ?_ | refine wa_no 8 ?_ | fail) <;> (first | refine wa_pg 9 ?_ | refine wa_no 9 ?_ | fail) <;> (first | refine wa_pg 10 ?_ | refine wa_no 10 ?_ | fail) <;> (first | refine wa_pg 11 ?_ | refine wa_no 11 ?_ | fail) <;> (first | refine wa_pg 12 ?_ | refine wa_no 12 ?_ | fail) <;> (first | refine wa_no 13 ?_ | (refine wa_if 25 (fun hc => ?_) (fun hc => ?_) <;> (try first | (exfalso; omega) | with_reducible first | exact absurd rfl hc | exact absurd hc Bool.false_ne_true | exact absurd hc Bool.false_ne_true.symm) <;> first | refine wa_pg 13 ?_ | refine wa_no 13 ?_) | fail) <;> (first | refine wa_pg 14 ?_ | refine wa_no 14 ?_ | fail) <;> (first | refine wa_pg 15 ?_ | refine wa_no 15 ?_ | fail) <;> (first | refine wa_pg 16 ?_ | refine wa_no 16 ?_ | fail) <;> (first | refine wa_pg 17 ?_ | refine wa_no 17 ?_ | fail) <;> (first | refine wa_pg 18 ?_ | refine wa_no 18 ?_ | fail) <;> (first | refine wa_pg 19 ?_ | refine wa_no 19 ?_ | fail) <;> (first | refine wa_pg 20 ?_ | refine wa_no 20 ?_ | fail) <;> (first | refine wa_pg 21 ?_ | refine wa_no 21 ?_ | fail) <;> (first | refine wa_pg 22 ?_ | refine wa_no 22 ?_ | fail) <;> (first | refine wa_pg 23 ?_ | refine wa_no 23 ?_ | fail) <;> (first | refine wa_pg 24 ?_ | refine wa_no 24 ?_ | fail) <;> (first | refine wa_p 25 ?_ | fail)) <;> (refine wa_end ?_)) | fail)
    all_goals first
      | exact ⟨(), ret_bool (dcP_f fun h => by have := h k hkl (by omega); omega), ent_e⟩
      | exact wq_next (k + 1) ⟨by omega, hnx fun _ => by omega⟩ (by omega) (by kernel_rfl) ent_e
      | exact wq_next (k + 1) ⟨by omega, hnx fun _ => by constructor <;> omega⟩ (by omega) (by kernel_rfl) ent_e
  · obtain rfl : k = z.length := by omega
    repeat' (first | refine red ?_ | (refine redi (fun hc => ?_) (fun hc => ?_) <;> try first | (exfalso; omega) | with_reducible first | exact absurd rfl hc | exact absurd hc Bool.false_ne_true | exact absurd hc Bool.false_ne_true.symm) | fail)
    exact ⟨(), ret_bool (dcP_t hI), ent_e⟩
instance l15Most_ctr {Γ : List Atom} {v1 v2 : Value} {n1 n2 : Int} {z y : List Int} [h : HasRd (List Int) repList Γ [v1] z] [h' : HasRd (List Int) repList Γ [v2] y] :
    CtrC Try.prog 90 [.agg #[.int .i64 n1, v1], .agg #[.int .i64 n2, v2]] Γ (True) (Unit) (fun _ : Unit => .bool (dcP (MostP z y))) (fun _ => Γ) := ⟨fun s w0 => l15Most_spec⟩

/-- The sum of two lists, the second taken m times, so far as its first n. -/
def addL (z y : List Int) (m : Int) (n : Nat) : List Int := (List.range (max z.length n)).map fun i => z.getD i 0 + if i < n then m * y.getD i 0 else 0
theorem addL_len (z y : List Int) (m : Int) (n : Nat) : (addL z y m n).length = max z.length n := by unfold addL; rw [List.length_map, List.length_range]
theorem addL_get {z y : List Int} {m : Int} {n i : Nat} (hi : i < max z.length n) : (addL z y m n).getD i 0 = z.getD i 0 + if i < n then m * y.getD i 0 else 0 := by
  unfold addL
  rw [List.getD_eq_getElem?_getD, List.getElem?_map, List.getElem?_range hi]
  rfl
theorem eq_getD {s t : List Int} (hl : s.length = t.length) (h : ∀ i, i < s.length → s.getD i 0 = t.getD i 0) : s = t := by
  refine List.ext_getElem hl fun i h1 h2 => ?_
  have := h i h1
  rw [List.getD_eq_getElem?_getD, List.getD_eq_getElem?_getD, List.getElem?_eq_getElem h1, List.getElem?_eq_getElem h2] at this
  exact this
theorem getD_big {z : List Int} {i : Nat} (h : z.length ≤ i) : z.getD i 0 = 0 := by rw [List.getD_eq_getElem?_getD, List.getElem?_eq_none h]; rfl
theorem addL_zero (z y : List Int) (m : Int) : addL z y m 0 = z := by
  refine eq_getD (by rw [addL_len]; omega) fun i hi => ?_
  rw [addL_len] at hi
  rw [addL_get hi, if_neg (by omega)]; omega
theorem addL_in {z y : List Int} {m : Int} {n : Nat} (hn : n < z.length) : (addL z y m n).set n ((addL z y m n).getD n 0 + m * y.getD n 0) = addL z y m (n + 1) := by
  refine eq_getD (by rw [List.length_set, addL_len, addL_len]; omega) fun i hi => ?_
  rw [List.length_set, addL_len] at hi
  rw [addL_get (n := n + 1) (by omega), List.getD_eq_getElem?_getD, List.getElem?_set, addL_len]
  by_cases e : n = i
  · subst e
    rw [if_pos rfl, if_pos (by omega), addL_get (by omega), if_neg (Nat.lt_irrefl _), if_pos (Nat.lt_succ_self _)]
    show z.getD n 0 + 0 + m * y.getD n 0 = _
    omega
  · rw [if_neg e, ← List.getD_eq_getElem?_getD, addL_get (by omega)]
    by_cases h : i < n
    · rw [if_pos h, if_pos (by omega)]
    · rw [if_neg h, if_neg (by omega)]
theorem addL_out {z y : List Int} {m : Int} {n : Nat} (hn : z.length ≤ n) : (addL z y m n ++ [0]).set n ((addL z y m n ++ [0]).getD n 0 + m * y.getD n 0) = addL z y m (n + 1) := by
  have hal := addL_len z y m n
  have h0 : (addL z y m n ++ [0]).getD n 0 = 0 := by
    rw [List.getD_eq_getElem?_getD, List.getElem?_append_right (by omega), show n - (addL z y m n).length = 0 by omega]; rfl
  refine eq_getD (by rw [List.length_set, List.length_append, addL_len, addL_len, List.length_singleton]; omega) fun i hi => ?_
  rw [List.length_set, List.length_append, addL_len, List.length_singleton] at hi
  rw [addL_get (n := n + 1) (by omega), List.getD_eq_getElem?_getD, List.getElem?_set, List.length_append, addL_len, List.length_singleton]
  by_cases e : n = i
  · subst e
    rw [if_pos rfl, if_pos (by omega), if_pos (Nat.lt_succ_self _), h0, getD_big hn]
    rfl
  · rw [if_neg e, List.getElem?_append_left (by omega), ← List.getD_eq_getElem?_getD, addL_get (by omega)]
    rw [if_pos (by omega), if_pos (by omega)]
theorem addL_app (z y : List Int) (m : Int) (n : Nat) : (addL z y m n ++ [0]).getD n 0 = z.getD n 0 := by
  have hal := addL_len z y m n
  by_cases h : n < z.length
  · rw [List.getD_eq_getElem?_getD, List.getElem?_append_left (by omega), ← List.getD_eq_getElem?_getD, addL_get (by omega), if_neg (Nat.lt_irrefl _)]; omega
  · rw [show z.getD n 0 = 0 from getD_big (by omega), List.getD_eq_getElem?_getD, List.getElem?_append_right (by omega), show n - (addL z y m n).length = 0 by omega]; rfl
/-- A form: its numbers are not too great. -/
structure FormB (q : SPoly) : Prop where
  c : 0 ≤ q.1 ∧ q.1 ≤ 1000000000000
  l : q.2.length ≤ 24
  g : ∀ i, 0 ≤ q.2.getD i 0 ∧ q.2.getD i 0 ≤ 1000000000000
def AddP (z y : SPoly) (m : Int) : Prop := (∀ i, i < (addL z.2 y.2 m y.2.length).length → (addL z.2 y.2 m y.2.length).getD i 0 ≤ 1000000000000) ∧ z.1 + m * y.1 ≤ 1000000000000
abbrev AddT (z y : SPoly) (m : Int) : Type := { t : SPoly × Bool // t.2 = dcP (AddP z y m) ∧ (t.2 = true → t.1 = (z.1 + m * y.1, addL z.2 y.2 m y.2.length)) }
theorem mul_in {m c : Int} (hm : 0 ≤ m ∧ m ≤ 9) (hc : 0 ≤ c ∧ c ≤ 1000000000000) : 0 ≤ m * c ∧ m * c ≤ 9000000000000 :=
  ⟨Int.mul_nonneg hm.1 hc.1, Int.le_trans (Int.mul_le_mul hm.2 hc.2 hc.1 (by decide)) (by decide)⟩
/-- The place for a form that is not there yet. -/
instance (priority := 2000) keepDForm {Γ Δ : List Atom} {b : Nat} [h : KeepD Γ Δ] : KeepD (.bk b [.int .i64 0, .slice none 0 0] :: Γ) Δ := ⟨sub_skip h.sub⟩
theorem l15Add_spec {w0 : World} {Γ : List Atom} {v1 v2 : Value} {z y : SPoly} {m : Int} [h : HasRd (List Int) repList Γ [v1] z.2] [h' : HasRd (List Int) repList Γ [v2] y.2] (hs : FormB z ∧ FormB y ∧ 0 ≤ m ∧ m ≤ 9) :
    CJ Try.prog 95 [.agg #[.int .i64 z.1, v1], .agg #[.int .i64 y.1, v2], .int .i64 m] w0 Γ (fun q : Value × AddT z y m => .tuple #[.agg #[.int .i64 q.2.1.1.1, q.1], .bool q.2.1.2]) (fun q => .ow [q.1] q.2.1.1.2 :: Γ) := by
  refine cj_lift (R := [.rd [v1] z.2, .rd [v2] y.2]) (A := fun q : Value × AddT z y m => [.ow [q.1] q.2.1.1.2]) (fun w1 => ?_) (reads_cons h (reads_cons h' (inferInstance))) (fun _ => inferInstance)
  simp only [List.cons_append, List.nil_append]
  obtain ⟨hz, hy, hm⟩ := hs
  have hzl := hz.l
  have hyl := hy.l
  have hz1 := hz.c
  have hy1 := hy.c
  have hmy := mul_in hm hy1
  refine cj_enter Try.func95 Try.ntmps95 ?_
  repeat' (first | refine red ?_ | refine redn fun b => ?_ | ((refine wa_begin1 1 [false, false, false, false, false, false, false, false, false, false, false, false, false, false] [] ?_ <;> (first | refine wa_p 0 ?_ | fail) <;> (first | refine wa_p 1 ?_ | fail) <;> refine wa_p 2 ?_ <;> (first | refine wa_p 3 ?_ | fail) <;> (first | refine wa_p 4 ?_ | fail) <;> (first | refine wa_p 5 ?_ | fail) <;> (first | refine wa_p 6 ?_ | fail) <;> (first | refine wa_p 8 ?_ | fail) <;> (first | refine wa_p 9 ?_ | fail) <;> (refine wa_two 7 12 ?_ ?_; rotate_right; (focus ((repeat' (first | refine red ?_ | refine redn fun b => ?_ | fail)) <;> (refine wa_do 7 ?_ <;> (repeat' (first | refine red ?_ | refine redv fun sv => ?_ | fail))) <;> (refine wa_do 10 ?_ <;> (repeat' (first | refine red ?_ | refine redv fun sv => ?_ | fail))) <;> (refine wa_do 11 ?_ <;> (repeat' (first | refine red ?_ | fail))) <;> (refine wa_do 13 ?_ <;> (repeat' (first | refine red ?_ | fail))))); rotate_right; (focus ((repeat' (first | refine red ?_ | refine redv fun sv => ?_ | fail)) <;> (refine wa_two 10 12 ?_ ?_; rotate_right; (focus ((repeat' (first | refine red ?_ | refine redn fun b => ?_ | fail)) <;> (refine wa_do 10 ?_ <;> (repeat' (first | refine red ?_ | refine redv fun sv => ?_ | fail))) <;> (refine wa_do 11 ?_ <;> (repeat' (first | refine red ?_ | fail))) <;> (refine wa_do 13 ?_ <;> (repeat' (first | refine red ?_ | fail))))); rotate_right; (focus ((repeat' (first | refine red ?_ | refine redv fun sv => ?_ | fail)) <;> (refine wa_two 11 12 ?_ ?_; rotate_right; (focus ((repeat' (first | refine red ?_ | refine redn fun b => ?_ | fail)) <;> (refine wa_do 11 ?_ <;> (repeat' (first | refine red ?_ | fail))) <;> (refine wa_do 13 ?_ <;> (repeat' (first | refine red ?_ | fail))))); rotate_right; (focus ((repeat' (first | refine red ?_ | fail)) <;> (refine wa_do 12 ?_ <;> (repeat' (first | refine red ?_ | refine redn fun b => ?_ | fail))) <;> (refine wa_do 13 ?_ <;> (repeat' (first | refine red ?_ | fail))))))))))))) <;> (refine wa_end ?_)) | fail)
  all_goals
    refine wc_loop_p [9] [23, 24, 25, 26, 27, 30, 31, 32, 33, 34, 35, 36, 37, 38, 39, 40, 41, 42, 43, 44, 45, 46, 47, 48, 49, 50, 51, 52, 53, 54, 55, 56, 28, 29] (ι := Value × Nat) (fun k => [.int .i64 k.2]) (fun k => [.bk b [.int .i64 (z.1 + m * y.1), k.1], .ow [k.1] (addL z.2 y.2 m k.2)]) (fun k => k.2 ≤ y.2.length) (fun k => y.2.length - k.2) (sv, 0) [.bk b [.int .i64 (z.1 + m * y.1), sv], .ow [sv] z.2] (by kernel_rfl) (Nat.zero_le _) (by simp only [addL_zero]) ?_
    intro ⟨so, i⟩ u l' hl' hi
    simp only [patch, List.map_cons, List.map_nil, List.set_cons_zero, List.set_cons_succ] at hl'
    subst hl'
    simp only [List.cons_append, List.nil_append] at hi ⊢
    have hal := addL_len z.2 y.2 m i
    by_cases hil : i < y.2.length
    · have hmi := mul_in hm (hy.g i)
      have hzi := hz.g i
      have hai : (addL z.2 y.2 m i ++ [0]).getD i 0 = z.2.getD i 0 := addL_app z.2 y.2 m i
      have hai2 : i < z.2.length → (addL z.2 y.2 m i).getD i 0 = z.2.getD i 0 := fun h => by rw [addL_get (by omega), if_neg (Nat.lt_irrefl _)]; omega
      repeat' (first | refine red ?_ | refine reds ?_ | refine redv fun sv => ?_ | (refine redi (fun hc => ?_) (fun hc => ?_) <;> try first | (exfalso; omega) | with_reducible first | exact absurd rfl hc | exact absurd hc Bool.false_ne_true | exact absurd hc Bool.false_ne_true.symm) | ((refine wa_begin 7 [false, false, false, false, false, false, false, false, false, false, false, false, false, false, false, false, false, false] [17] ?_ <;> (first | refine wa_p 0 ?_ | fail) <;> (first | refine wa_p 1 ?_ | fail) <;> refine wa_p 2 ?_ <;> (first | refine wa_p 3 ?_ | fail) <;> (first | refine wa_p 4 ?_ | fail) <;> refine wa_p 5 ?_ <;> refine wa_p 6 ?_ <;> (first | refine wa_f 7 fun hbi => ?_ | fail) <;> refine wa_p 8 ?_ <;> (first | refine wa_p 9 ?_ | fail) <;> (first | refine wa_p 10 ?_ | fail) <;> refine wa_p 11 ?_ <;> refine wa_p 12 ?_ <;> (first | refine wa_f 13 fun hbi => ?_ | fail) <;> (first | refine wa_p 14 ?_ | fail) <;> (first | refine wa_p 15 ?_ | fail) <;> refine wa_p 16 ?_ <;> (refine wa_do 17 ?_ <;> (repeat' (first | refine red ?_ | refine reds ?_ | fail)))) <;> (refine wa_end ?_)) | fail)
      · exact wq_next (sv, i + 1) (by simp only; omega) (by simp only; omega) (by kernel_rfl) (by simp only [← addL_out (y := y.2) (m := m) (show z.2.length ≤ i by omega)]; exact ent_e)
      · exact wq_next (so, i + 1) (by simp only; omega) (by simp only; omega) (by kernel_rfl) (by simp only [← addL_in (y := y.2) (m := m) (show i < z.2.length by omega)]; exact ent_e)
    · obtain rfl : i = y.2.length := by omega
      repeat' (first | refine red ?_ | (refine redi (fun hc => ?_) (fun hc => ?_) <;> try first | (exfalso; omega) | with_reducible first | exact absurd rfl hc | exact absurd hc Bool.false_ne_true | exact absurd hc Bool.false_ne_true.symm) | fail)
      refine wc_loop_c [10] [57, 58, 59, 60, 61, 64, 65, 66, 67, 68, 69, 70, 7, 62, 63] (ι := Nat) (fun k => [.int .i64 k]) (fun k => k ≤ (addL z.2 y.2 m y.2.length).length ∧ ∀ j, j < k → (addL z.2 y.2 m y.2.length).getD j 0 ≤ 1000000000000) (fun k => (addL z.2 y.2 m y.2.length).length - k) 0 (by kernel_rfl) ⟨Nat.zero_le _, fun f hf => absurd hf (Nat.not_lt_zero f)⟩ ?_
      intro k u l' hl' ⟨hk, hI⟩
      simp only [patch, List.map_cons, List.map_nil, List.set_cons_zero, List.set_cons_succ] at hl'
      subst hl'
      by_cases hkl : k < (addL z.2 y.2 m y.2.length).length
      · repeat' (first | refine red ?_ | refine redf fun hbi => ?_ | refine reds ?_ | (refine redi (fun hc => ?_) (fun hc => ?_) <;> try first | (exfalso; omega) | with_reducible first | exact absurd rfl hc | exact absurd hc Bool.false_ne_true | exact absurd hc Bool.false_ne_true.symm) | fail)
        · have hno : ¬ AddP z y m := fun h => by have := h.1 k hkl; omega
          exact ⟨(.slice none 0 0, ⟨((0, []), false), (dcP_f hno).symm, fun h => nomatch h⟩), rfl, ent_e⟩
        · exact wq_next (k + 1) ⟨by omega, fun j hj => by
            by_cases e : j = k
            · subst e; omega
            · exact hI j (by omega)⟩ (by omega) (by kernel_rfl) ent_e
      · obtain rfl : k = (addL z.2 y.2 m y.2.length).length := by omega
        have e : decide (z.1 + m * y.1 ≤ 1000000000000) = dcP (AddP z y m) := by
          by_cases hh : z.1 + m * y.1 ≤ 1000000000000
          · rw [decide_eq_true hh, dcP_t ⟨hI, hh⟩]
          · rw [decide_eq_false hh, dcP_f fun h => hh h.2]
        repeat' (first | refine red ?_ | (refine redi (fun hc => ?_) (fun hc => ?_) <;> try first | (exfalso; omega) | with_reducible first | exact absurd rfl hc | exact absurd hc Bool.false_ne_true | exact absurd hc Bool.false_ne_true.symm) | fail)
        ((refine wa_begind 13 [false, false, false, false, false, false] [] ?_ <;> (first | refine wa_p 0 ?_ | fail) <;> (first | refine wa_p 1 ?_ | fail) <;> (first | refine wa_p 2 ?_ | fail) <;> refine wa_p 3 ?_ <;> (refine wa_do 4 ?_ <;> (repeat' (first | refine red ?_ | fail))) <;> refine wa_p 5 ?_) <;> (refine wa_end ?_))
        repeat' (first | refine red ?_ | fail)
        exact ⟨(so, ⟨((z.1 + m * y.1, addL z.2 y.2 m y.2.length), decide (z.1 + m * y.1 ≤ 1000000000000)), e, fun _ => rfl⟩), rfl, ent_e⟩
instance l15Add_ctr {Γ : List Atom} {v1 v2 : Value} {z y : SPoly} {m : Int} [h : HasRd (List Int) repList Γ [v1] z.2] [h' : HasRd (List Int) repList Γ [v2] y.2] :
    CtrC Try.prog 95 [.agg #[.int .i64 z.1, v1], .agg #[.int .i64 y.1, v2], .int .i64 m] Γ (FormB z ∧ FormB y ∧ 0 ≤ m ∧ m ≤ 9) (Value × AddT z y m) (fun q : Value × AddT z y m => .tuple #[.agg #[.int .i64 q.2.1.1.1, q.1], .bool q.2.1.2]) (fun q => .ow [q.1] q.2.1.1.2 :: Γ) := ⟨fun s w0 => l15Add_spec s⟩

end Go.Proofs.Ytjblieilblcdnaa
