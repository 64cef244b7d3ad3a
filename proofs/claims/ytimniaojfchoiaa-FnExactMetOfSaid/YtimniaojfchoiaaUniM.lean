/- Terms whose variables are kept apart; where two terms meet. -/
import Derived.Test.YtimniaojfchoiaaUniL
import Derived.Test.YtimniaojfchoiaaL02m
namespace Go.Proofs.Ytimniaojfchoiaa
open Go Go.Eng
set_option linter.unusedVariables false
set_option linter.unusedSimpArgs false
set_option synthInstance.maxHeartbeats 400000
set_option synthInstance.maxSize 1000

def bhT (t : List Int) (k : Nat) : Int := (t.take k).foldl (fun m n => max m (-n)) 0
theorem bhT_succ {t : List Int} {k : Nat} (h : k < t.length) : bhT t (k + 1) = max (bhT t k) (-(t.getD k 0)) := by
  unfold bhT
  rw [List.take_succ_eq_append_getElem h, List.foldl_append, List.getD_eq_getElem?_getD, List.getElem?_eq_getElem h]; rfl
theorem bhT_le {t : List Int} {c : Int} : ∀ k, k ≤ t.length → (bhT t k ≤ c ↔ 0 ≤ c ∧ ∀ i, i < k → -(t.getD i 0) ≤ c)
  | 0, _ => by simp [bhT]
  | k + 1, h => by
    rw [bhT_succ (by omega)]
    have ih := bhT_le (t := t) (c := c) k (by omega)
    constructor
    · intro h1
      obtain ⟨h2, h3⟩ := ih.1 (by omega)
      refine ⟨h2, fun i hi => ?_⟩
      by_cases e : i = k
      · rw [e]; omega
      · exact h3 i (by omega)
    · rintro ⟨h2, h3⟩
      have h4 := ih.2 ⟨h2, fun i hi => h3 i (by omega)⟩
      have h5 := h3 k (by omega)
      omega
def bh (t : List Int) : Int := bhT t t.length
theorem bh_min {t : List Int} (h : 1 ≤ t.length) : max 0 (-(minL t)) = bh t := by
  have key : ∀ c : Int, max 0 (-(minL t)) ≤ c ↔ bh t ≤ c := fun c => by
    unfold bh
    rw [bhT_le t.length (Nat.le_refl _)]
    have h1 := minL_le h (-c)
    constructor
    · intro h2
      refine ⟨by omega, fun i hi => ?_⟩
      have := h1.1 (by omega) _ (getD_mem hi)
      omega
    · rintro ⟨h2, h3⟩
      have := h1.2 (fun x hx => by
        obtain ⟨i, hi, rfl⟩ := List.getElem_of_mem hx
        have := h3 i hi
        rw [List.getD_eq_getElem?_getD, List.getElem?_eq_getElem hi] at this
        simp only [Option.getD_some] at this
        omega)
      omega
  have h1 := (key (bh t)).2 (Int.le_refl _)
  have h2 := (key (max 0 (-(minL t)))).1 (Int.le_refl _)
  omega
theorem bh_ok {a t : List Int} (h : termOk a t = true) : 0 ≤ bh t ∧ bh t ≤ 24 := by
  have h1 := (bhT_le (t := t) (c := 24) t.length (Nat.le_refl _)).2 ⟨by decide, fun i hi => by have := (termOk_get h hi).1; omega⟩
  have h2 := (bhT_le (t := t) (c := bh t) t.length (Nat.le_refl _)).1 (Int.le_refl _)
  exact ⟨h2.1, h1⟩
theorem l1Max_spec {w0 : World} {Γ : List Atom} {x y : Int} : CJ Try.prog 113 [.int .i64 x, .int .i64 y] w0 Γ (fun _ : Unit => .int .i64 (max x y)) (fun _ => Γ) := by
  refine cj_enter Try.func113 Try.ntmps113 ?_
  repeat' (first
    | refine red ?_
    | refine redf fun hbi => ?_
    | refine reds ?_
    | refine redc fun r => ?_
    | refine redp (fun r => ?_) (fun r => ?_)
    | refine redv fun sv => ?_
    | refine redn fun b => ?_
    | refine redz fun zs => ?_
    | refine redq (fun hc => ?_) (fun hc => ?_)
    | with_reducible refine wq_blk_o rfl ?_
    | (refine redd fun p cs as_ hcs has hf => ?_; simp only [Un.cells, Un.atoms, Un.fact, List.cons_append, List.nil_append] at hcs has hf; subst hcs has)
    | (refine redi (fun hc => ?_) (fun hc => ?_) <;> try first | (exfalso; omega) | exact absurd rfl hc)
    | fail)
  all_goals exact ⟨(), ret_int (by omega), ent_e⟩
instance l1Max_ctr {Γ : List Atom} {x y : Int} :
    CtrC Try.prog 113 [.int .i64 x, .int .i64 y] Γ (True) (Unit) (fun _ : Unit => .int .i64 (max x y)) (fun _ => Γ) := ⟨fun s w0 => l1Max_spec⟩

theorem l5Behind_spec {w0 : World} {Γ : List Atom} {v : Value} {t : List Int} [h : HasRd (List Int) repList Γ [v] t] (hm : ∀ n ∈ t, -24 ≤ n) : CJ Try.prog 64 [v] w0 Γ (fun _ : Unit => .int .i64 (bh t)) (fun _ => Γ) := by
  refine cj_lift (R := [.rd [v] t]) (A := fun _ => []) (fun w1 => ?_) (reads_cons h (inferInstance)) (fun _ => inferInstance)
  simp only [List.cons_append, List.nil_append]
  refine cj_len v fun hlx => ?_
  refine cj_enter Try.func64 Try.ntmps64 ?_
  repeat' (first
    | refine red ?_
    | refine redf fun hbi => ?_
    | refine reds ?_
    | refine redc fun r => ?_
    | refine redp (fun r => ?_) (fun r => ?_)
    | refine redv fun sv => ?_
    | refine redn fun b => ?_
    | refine redz fun zs => ?_
    | refine redq (fun hc => ?_) (fun hc => ?_)
    | with_reducible refine wq_blk_o rfl ?_
    | (refine redd fun p cs as_ hcs has hf => ?_; simp only [Un.cells, Un.atoms, Un.fact, List.cons_append, List.nil_append] at hcs has hf; subst hcs has)
    | (refine redi (fun hc => ?_) (fun hc => ?_) <;> try first | (exfalso; omega) | exact absurd rfl hc)
    | fail)
  refine wc_loop_c [3, 4] [5, 6, 7, 8, 11, 12, 13, 14, 15, 16, 17, 9, 10] (ι := Nat) (fun k => [.int .i64 (bhT t k), .int .i64 k]) (fun k => k ≤ t.length) (fun k => t.length - k) 0 (by kernel_rfl) (Nat.zero_le _) ?_
  intro k u l' hl' hk
  simp only [patch, List.map_cons, List.map_nil, List.set_cons_zero, List.set_cons_succ] at hl'
  subst hl'
  have htk : k < t.length → -24 ≤ t.getD k 0 := fun h => hm _ (getD_mem h)
  have hbs : k < t.length → max (bhT t k) (-(t.getD k 0)) = bhT t (k + 1) := fun h => (bhT_succ h).symm
  repeat' (first
    | refine red ?_
    | refine redf fun hbi => ?_
    | refine reds ?_
    | refine redc fun r => ?_
    | refine redp (fun r => ?_) (fun r => ?_)
    | refine redv fun sv => ?_
    | refine redn fun b => ?_
    | refine redz fun zs => ?_
    | refine redq (fun hc => ?_) (fun hc => ?_)
    | with_reducible refine wq_blk_o rfl ?_
    | (refine redd fun p cs as_ hcs has hf => ?_; simp only [Un.cells, Un.atoms, Un.fact, List.cons_append, List.nil_append] at hcs has hf; subst hcs has)
    | (refine redi (fun hc => ?_) (fun hc => ?_) <;> try first | (exfalso; omega) | exact absurd rfl hc)
    | fail)
  · rw [hbs (by omega)]
    exact wq_next (k + 1) (by omega) (by omega) (by kernel_rfl) ent_e
  · exact ⟨(), ret_int (by rw [show k = t.length by omega]; rfl), ent_e⟩
instance l5Behind_ctr {Γ : List Atom} {v : Value} {t : List Int} [h : HasRd (List Int) repList Γ [v] t] :
    CtrC Try.prog 64 [v] Γ (∀ n ∈ t, -24 ≤ n) (Unit) (fun _ : Unit => .int .i64 (bh t)) (fun _ => Γ) := ⟨fun s w0 => l5Behind_spec s⟩

theorem behind_spec {w0 : World} {Γ : List Atom} {v : Value} {t : List Int} [h : HasRd (List Int) repList Γ [v] t] (hl : 1 ≤ t.length) (hm : (∀ n ∈ t, -24 ≤ n) ∧ t.getD 0 0 ≤ 8) : CJ Try.prog 115 [v] w0 Γ (fun _ : Unit => .int .i64 (bh t)) (fun _ => Γ) := by
  refine cj_lift (R := [.rd [v] t]) (A := fun _ => []) (fun w1 => ?_) (reads_cons h (inferInstance)) (fun _ => inferInstance)
  simp only [List.cons_append, List.nil_append]
  have h1 := (minL_le hl (-24)).2 hm.1
  have h3 := (minL_le hl (minL t)).1 (Int.le_refl _) _ (getD_mem (k := 0) (by omega))
  have h4 := hm.2
  have h5 := bh_min hl
  refine cj_len v fun hlx => ?_
  refine cj_enter Try.func115 Try.ntmps115 ?_
  repeat' (first
    | refine red ?_
    | refine redf fun hbi => ?_
    | refine reds ?_
    | refine redc fun r => ?_
    | refine redp (fun r => ?_) (fun r => ?_)
    | refine redv fun sv => ?_
    | refine redn fun b => ?_
    | refine redz fun zs => ?_
    | refine redq (fun hc => ?_) (fun hc => ?_)
    | with_reducible refine wq_blk_o rfl ?_
    | (refine redd fun p cs as_ hcs has hf => ?_; simp only [Un.cells, Un.atoms, Un.fact, List.cons_append, List.nil_append] at hcs has hf; subst hcs has)
    | (refine redi (fun hc => ?_) (fun hc => ?_) <;> try first | (exfalso; omega) | exact absurd rfl hc)
    | fail)
  exact ⟨(), ret_int h5.symm, ent_e⟩
instance behind_ctr {Γ : List Atom} {v : Value} {t : List Int} [h : HasRd (List Int) repList Γ [v] t] :
    CtrC Try.prog 115 [v] Γ ((1 ≤ t.length) ∧ ((∀ n ∈ t, -24 ≤ n) ∧ t.getD 0 0 ≤ 8)) (Unit) (fun _ : Unit => .int .i64 (bh t)) (fun _ => Γ) := ⟨fun s w0 => behind_spec s.1 s.2⟩

def shN (k n : Int) : Int := if n < 0 then n - k else n
def shL (k : Int) (t : List Int) : List Int := t.map (shN k)
def shOk (k : Int) (t : List Int) : Bool := decide (∀ n ∈ t, -24 ≤ shN k n)
theorem shL_len (k : Int) (t : List Int) : (shL k t).length = t.length := by simp [shL]
theorem shL_take {k : Int} {t : List Int} {j : Nat} (h : j < t.length) : shL k (t.take (j + 1)) = shL k (t.take j) ++ [shN k (t.getD j 0)] := by
  unfold shL
  rw [List.take_succ_eq_append_getElem h, List.map_append, List.getD_eq_getElem?_getD, List.getElem?_eq_getElem h]; rfl
theorem shOk_no {k : Int} {t : List Int} {j : Nat} (h : j < t.length) (h2 : shN k (t.getD j 0) < -24) : shOk k t = false := decide_eq_false fun h' => by
  have := h' _ (getD_mem h); omega
theorem shOk_yes {k : Int} {t : List Int} {j : Nat} (h : t.length ≤ j) (h2 : ∀ i, i < j → -24 ≤ shN k (t.getD i 0)) : shOk k t = true := decide_eq_true fun n hn => by
  obtain ⟨i, hi, rfl⟩ := List.getElem_of_mem hn
  have := h2 i (by omega)
  rwa [List.getD_eq_getElem?_getD, List.getElem?_eq_getElem hi] at this
def shRes (k : Int) (t : List Int) : List Int := if shOk k t = true then shL k t else []
def shMid (k : Int) (t : List Int) (j : Nat) : List Int := shL k (t.take j) ++ t.drop j
theorem shMid_len {k : Int} {t : List Int} {j : Nat} (h : j ≤ t.length) : (shMid k t j).length = t.length := by
  unfold shMid
  rw [List.length_append, shL_len, List.length_take, List.length_drop]; omega
theorem shMid_get {k : Int} {t : List Int} {j : Nat} (h : j < t.length) : (shMid k t j).getD j 0 = t.getD j 0 := by
  unfold shMid
  rw [List.getD_eq_getElem?_getD, List.getElem?_append_right (by rw [shL_len, List.length_take]; omega), shL_len, List.length_take, List.getElem?_drop, List.getD_eq_getElem?_getD]
  congr 2; omega
theorem shMid_set {k : Int} {t : List Int} {j : Nat} (h : j < t.length) : (shMid k t j).set j (shN k (t.getD j 0)) = shMid k t (j + 1) := by
  unfold shMid
  rw [shL_take h, List.set_append_right _ _ (by rw [shL_len, List.length_take]; omega), shL_len, List.length_take, show j - min j t.length = 0 by omega, drop_get h, List.set_cons_zero, List.append_assoc]; rfl
theorem shMid_keep {k : Int} {t : List Int} {j : Nat} (h : j < t.length) (h0 : 0 ≤ t.getD j 0) : shMid k t (j + 1) = shMid k t j := by
  unfold shMid
  rw [shL_take h, drop_get h, List.append_assoc]
  unfold shN
  rw [if_neg (by omega)]; rfl
theorem shift_spec {w0 : World} {Γ : List Atom} {v : Value} {t : List Int} {k : Int} [h : HasRd (List Int) repList Γ [v] t] (hl : t.length ≤ 60) (hk : 0 ≤ k ∧ k ≤ 24) (hm : ∀ n ∈ t, -24 ≤ n) : CJ Try.prog 114 [v, .int .i64 k] w0 Γ (fun q : Value => .tuple #[q, .bool (shOk k t)]) (fun q => .ow [q] (shRes k t) :: Γ) := by
  refine cj_lift (R := [.rd [v] t]) (A := fun q : Value => [.ow [q] (shRes k t)]) (fun w1 => ?_) (reads_cons h (inferInstance)) (fun _ => inferInstance)
  simp only [List.cons_append, List.nil_append]
  refine cj_enter Try.func114 Try.ntmps114 ?_
  repeat' (first
    | refine red ?_
    | refine redf fun hbi => ?_
    | refine reds ?_
    | refine redc fun r => ?_
    | refine redp (fun r => ?_) (fun r => ?_)
    | refine redv fun sv => ?_
    | refine redn fun b => ?_
    | refine redz fun zs => ?_
    | refine redq (fun hc => ?_) (fun hc => ?_)
    | with_reducible refine wq_blk_o rfl ?_
    | (refine redd fun p cs as_ hcs has hf => ?_; simp only [Un.cells, Un.atoms, Un.fact, List.cons_append, List.nil_append] at hcs has hf; subst hcs has)
    | (refine redi (fun hc => ?_) (fun hc => ?_) <;> try first | (exfalso; omega) | exact absurd rfl hc)
    | fail)
  have hz : shMid k t 0 = t := by simp [shMid, shL]
  refine wc_loop_p [13] [14, 15, 16, 17, 7, 8, 18, 19, 20, 21, 22, 23, 24, 25, 26, 27, 28, 29, 30, 4, 5, 31] (ι := Nat) (fun j => [.int .i64 j]) (fun j => [.ow [r] (shMid k t j)]) (fun j => j ≤ t.length ∧ ∀ i, i < j → -24 ≤ shN k (t.getD i 0)) (fun j => t.length - j) 0 [.ow [r] t] (by kernel_rfl) ⟨Nat.zero_le _, fun i hi => absurd hi (Nat.not_lt_zero _)⟩ (by simp only [hz]) ?_
  intro j u l' hl' ⟨hj, hjj⟩
  simp only [patch, List.map_cons, List.map_nil, List.set_cons_zero, List.set_cons_succ] at hl'
  subst hl'
  simp only [List.cons_append, List.nil_append] at hj hjj ⊢
  have hml := shMid_len (k := k) hj
  by_cases hlt : j < t.length
  · have hge := shMid_get (k := k) hlt
    have htj := hm _ (getD_mem hlt)
    have hst : t.getD j 0 < 0 → (shMid k t j).set j ((shMid k t j).getD j 0 - k) = shMid k t (j + 1) := fun h0 => by
      rw [hge, ← shMid_set hlt]
      unfold shN
      rw [if_pos h0]
    have hgs : ((shMid k t j).set j ((shMid k t j).getD j 0 - k)).getD j 0 = t.getD j 0 - k := by
      rw [hge, List.getD_eq_getElem?_getD, List.getElem?_set, if_pos rfl, if_pos (by omega)]; rfl
    have hsn : t.getD j 0 < 0 → shN k (t.getD j 0) = t.getD j 0 - k := fun h => if_pos h
    repeat' (first
      | refine red ?_
      | refine redf fun hbi => ?_
      | refine reds ?_
      | refine redc fun r => ?_
      | refine redp (fun r => ?_) (fun r => ?_)
      | refine redv fun sv => ?_
      | refine redn fun b => ?_
      | refine redz fun zs => ?_
      | refine redq (fun hc => ?_) (fun hc => ?_)
      | with_reducible refine wq_blk_o rfl ?_
      | (refine redd fun p cs as_ hcs has hf => ?_; simp only [Un.cells, Un.atoms, Un.fact, List.cons_append, List.nil_append] at hcs has hf; subst hcs has)
      | (refine redi (fun hc => ?_) (fun hc => ?_) <;> try first | (exfalso; omega) | exact absurd rfl hc)
      | fail)
    · rw [hge] at hc
      rw [← shMid_keep hlt hc]
      refine wq_next (j + 1) ⟨by omega, fun i hi => ?_⟩ (by omega) (by kernel_rfl) ent_e
      by_cases e : i = j
      · rw [e]; unfold shN; rw [if_neg (by omega)]; omega
      · exact hjj i (by omega)
    · have h0 : (shMid k t j).getD j 0 < 0 := by assumption
      rw [hge] at h0
      rw [hgs] at hc
      have e := shOk_no (k := k) hlt (by rw [hsn h0]; exact hc)
      have e2 : shRes k t = [] := by unfold shRes; rw [e]; rfl
      rw [e, e2]
      exact ⟨_, rfl, ent_e⟩
    · have h0 : (shMid k t j).getD j 0 < 0 := by assumption
      rw [hge] at h0
      rw [hgs] at hc
      rw [hst h0]
      refine wq_next (j + 1) ⟨by omega, fun i hi => ?_⟩ (by omega) (by kernel_rfl) ent_e
      by_cases e : i = j
      · rw [e, hsn h0]; exact hc
      · exact hjj i (by omega)
  · repeat' (first
      | refine red ?_
      | refine redf fun hbi => ?_
      | refine reds ?_
      | refine redc fun r => ?_
      | refine redp (fun r => ?_) (fun r => ?_)
      | refine redv fun sv => ?_
      | refine redn fun b => ?_
      | refine redz fun zs => ?_
      | refine redq (fun hc => ?_) (fun hc => ?_)
      | with_reducible refine wq_blk_o rfl ?_
      | (refine redd fun p cs as_ hcs has hf => ?_; simp only [Un.cells, Un.atoms, Un.fact, List.cons_append, List.nil_append] at hcs has hf; subst hcs has)
      | (refine redi (fun hc => ?_) (fun hc => ?_) <;> try first | (exfalso; omega) | exact absurd rfl hc)
      | fail)
    have e := shOk_yes (k := k) (t := t) (by omega) hjj
    have e2 : shRes k t = shMid k t j := by unfold shRes shMid; rw [e, List.take_of_length_le (by omega), List.drop_eq_nil_of_le (by omega), List.append_nil]; rfl
    rw [e, e2]
    exact ⟨_, rfl, ent_e⟩
instance shift_ctr {Γ : List Atom} {v : Value} {t : List Int} {k : Int} [h : HasRd (List Int) repList Γ [v] t] :
    CtrC Try.prog 114 [v, .int .i64 k] Γ ((t.length ≤ 60) ∧ (0 ≤ k ∧ k ≤ 24) ∧ (∀ n ∈ t, -24 ≤ n)) (Value) (fun q : Value => .tuple #[q, .bool (shOk k t)]) (fun q => .ow [q] (shRes k t) :: Γ) := ⟨fun s w0 => shift_spec s.1 s.2.1 s.2.2⟩

theorem Shifted_spec {w0 : World} {Γ : List Atom} {v vt : Value} {a t : List Int} {k : Int} [h : HasRd (List Int) repList Γ [v] a] [h2 : HasRd (List Int) repList Γ [vt] t] (hk : 0 ≤ k ∧ k ≤ 24) : CJ Try.prog 63 [.agg #[v], vt, .int .i64 k] w0 Γ (fun q : Value => .tuple #[q, .bool (termOk a t && shOk k t)]) (fun q => .ow [q] (if termOk a t = true then shRes k t else []) :: Γ) := by
  refine cj_lift (R := [.rd [v] a, .rd [vt] t]) (A := fun q => [.ow [q] (if termOk a t = true then shRes k t else [])]) (fun w1 => ?_) (reads_cons h (reads_cons h2 (inferInstance))) (fun _ => inferInstance)
  simp only [List.cons_append, List.nil_append]
  refine cj_len vt fun hlx => ?_
  refine cj_enter Try.func63 Try.ntmps63 ?_
  repeat' (first
    | refine red ?_
    | refine redf fun hbi => ?_
    | refine reds ?_
    | refine redc fun r => ?_
    | refine redp (fun r => ?_) (fun r => ?_)
    | refine redv fun sv => ?_
    | refine redn fun b => ?_
    | refine redz fun zs => ?_
    | refine redq (fun hc => ?_) (fun hc => ?_)
    | with_reducible refine wq_blk_o rfl ?_
    | (refine redd fun p cs as_ hcs has hf => ?_; simp only [Un.cells, Un.atoms, Un.fact, List.cons_append, List.nil_append] at hcs has hf; subst hcs has)
    | (refine redi (fun hc => ?_) (fun hc => ?_) <;> try first | (exfalso; omega) | exact absurd rfl hc)
    | fail)
  · rw [hc]
    simp only [Bool.false_and, Bool.false_eq_true, if_false]
    exact ⟨_, rfl, ent_e⟩
  have hok : termOk a t = true := by assumption
  rw [hok]
  simp only [Bool.true_and, if_true]
  have htl := termOk_len hok
  refine wc_loop_p [8, 9] [22, 23, 24, 25, 28, 29, 30, 31, 10, 32, 33, 34, 35, 36, 37, 38, 39, 6, 7, 40, 41, 42, 43, 26, 27] (ι := Value × Nat) (fun j => [j.1, .int .i64 j.2]) (fun j => [.ow [j.1] (shL k (t.take j.2))]) (fun j => j.2 ≤ t.length ∧ ∀ i, i < j.2 → -24 ≤ shN k (t.getD i 0)) (fun j => t.length - j.2) (sv, 0) [.ow [sv] ([] : List Int)] (by kernel_rfl) ⟨Nat.zero_le _, fun i hi => absurd hi (Nat.not_lt_zero _)⟩ rfl ?_
  intro ⟨sw, j⟩ u l' hl' ⟨hj, hjj⟩
  simp only [patch, List.map_cons, List.map_nil, List.set_cons_zero, List.set_cons_succ] at hl'
  subst hl'
  simp only [List.cons_append, List.nil_append] at hj hjj ⊢
  have hsl := shL_len k (t.take j)
  have htk := List.length_take (i := j) (l := t)
  by_cases hlt : j < t.length
  · have htj := termOk_get hok hlt
    have hsn : t.getD j 0 < 0 → shN k (t.getD j 0) = t.getD j 0 - k := fun h => if_pos h
    have hsp : 0 ≤ t.getD j 0 → shN k (t.getD j 0) = t.getD j 0 := fun h => if_neg (by omega)
    have hst := shL_take (k := k) hlt
    repeat' (first
      | refine red ?_
      | refine redf fun hbi => ?_
      | refine reds ?_
      | refine redc fun r => ?_
      | refine redp (fun r => ?_) (fun r => ?_)
      | refine redv fun sv => ?_
      | refine redn fun b => ?_
      | refine redz fun zs => ?_
      | refine redq (fun hc => ?_) (fun hc => ?_)
      | with_reducible refine wq_blk_o rfl ?_
      | (refine redd fun p cs as_ hcs has hf => ?_; simp only [Un.cells, Un.atoms, Un.fact, List.cons_append, List.nil_append] at hcs has hf; subst hcs has)
      | (refine redi (fun hc => ?_) (fun hc => ?_) <;> try first | (exfalso; omega) | exact absurd rfl hc)
      | fail)
    · have h0 : t.getD j 0 < 0 := by assumption
      have e := shOk_no (k := k) hlt (by rw [hsn h0]; exact hc)
      have e2 : shRes k t = [] := by unfold shRes; rw [e]; rfl
      rw [e, e2]
      exact ⟨_, rfl, ent_e⟩
    · have h0 : t.getD j 0 < 0 := by assumption
      rw [← hsn h0, ← hst]
      refine wq_next (sv, j + 1) ⟨by simp only; omega, fun i hi => ?_⟩ (by simp only; omega) ?_ ent_e
      · by_cases e : i = j
        · rw [e, hsn h0]; exact hc
        · exact hjj i (by simp only at hi; omega)
      · kernel_rfl
    · have h0 : 0 ≤ t.getD j 0 := by assumption
      have hst' : shL k (t.take j) ++ [t.getD j 0] = shL k (t.take (j + 1)) := by rw [hst, hsp h0]
      rw [hst']
      refine wq_next (sv, j + 1) ⟨by simp only; omega, fun i hi => ?_⟩ (by simp only; omega) (by kernel_rfl) ent_e
      by_cases e : i = j
      · rw [e, hsp h0]; exact hc
      · exact hjj i (by simp only at hi; omega)
  · repeat' (first
      | refine red ?_
      | refine redf fun hbi => ?_
      | refine reds ?_
      | refine redc fun r => ?_
      | refine redp (fun r => ?_) (fun r => ?_)
      | refine redv fun sv => ?_
      | refine redn fun b => ?_
      | refine redz fun zs => ?_
      | refine redq (fun hc => ?_) (fun hc => ?_)
      | with_reducible refine wq_blk_o rfl ?_
      | (refine redd fun p cs as_ hcs has hf => ?_; simp only [Un.cells, Un.atoms, Un.fact, List.cons_append, List.nil_append] at hcs has hf; subst hcs has)
      | (refine redi (fun hc => ?_) (fun hc => ?_) <;> try first | (exfalso; omega) | exact absurd rfl hc)
      | fail)
    have e := shOk_yes (k := k) (t := t) (by omega) hjj
    have e2 : shRes k t = shL k (t.take j) := by unfold shRes; rw [e, List.take_of_length_le (by omega)]; rfl
    rw [e, e2]
    exact ⟨_, rfl, ent_e⟩

instance Shifted_ctr {Γ : List Atom} {v vt : Value} {a t : List Int} {k : Int} [h : HasRd (List Int) repList Γ [v] a] [h2 : HasRd (List Int) repList Γ [vt] t] :
    CtrC Try.prog 63 [.agg #[v], vt, .int .i64 k] Γ (0 ≤ k ∧ k ≤ 24) (Value) (fun q : Value => .tuple #[q, .bool (termOk a t && shOk k t)]) (fun q => .ow [q] (if termOk a t = true then shRes k t else []) :: Γ) := ⟨fun s w0 => Shifted_spec s⟩

/-! ### Apart -/
theorem skp_map {a : List Int} {g : Int → Int} : ∀ (l : List Int) (m : Nat), (∀ n ∈ l, badS a n = false → badS a (g n) = false ∧ ar a (g n) = ar a n) → skp a (badS a) l m = (true, l.length) → skp a (badS a) (l.map g) m = (true, (l.map g).length)
  | [], 0, _, _ => by simp [skp]
  | x :: xs, 0, _, e => by simp [skp] at e
  | [], m + 1, _, e => by simp [skp] at e
  | x :: xs, m + 1, h, e => by
    unfold skp at e
    by_cases hb : badS a x = true
    · simp [hb] at e
    · rw [if_neg hb] at e
      have e1 : skp a (badS a) xs (m + (ar a x).toNat) = (true, xs.length) := by
        injection e with e2 e3
        ext
        · exact e2
        · simp only [List.length_cons] at e3 ⊢; omega
      obtain ⟨h1, h2⟩ := h x (by simp) (by simpa using hb)
      have ih := skp_map xs _ (fun n hn => h n (List.mem_cons_of_mem _ hn)) e1
      rw [List.map_cons]
      unfold skp
      rw [h1, h2, ih]
      simp
theorem shL_ok {a t : List Int} {k : Int} (hk : 0 ≤ k) (h : termOk a t = true) (ho : shOk k t = true) : termOk a (shL k t) = true := by
  obtain ⟨h1, h2, h3, h4⟩ := termOk_iff.1 h
  unfold shOk at ho
  rw [decide_eq_true_iff] at ho
  refine termOk_iff.2 ⟨h1, by rw [shL_len]; exact h2, by rw [shL_len]; exact h3, skp_map t 1 (fun n hn hb => ?_) h4⟩
  have h5 := ho n hn
  have h6 := termOk_mem h hn
  unfold shN at h5 ⊢
  by_cases h0 : n < 0
  · rw [if_pos h0] at h5 ⊢
    refine ⟨?_, by rw [ar_var h0, ar_var (by omega)]⟩
    unfold badS
    rw [decide_eq_false_iff_not]
    omega
  · rw [if_neg h0]
    exact ⟨hb, rfl⟩
noncomputable def apartOf (a s t : List Int) : Option (List (List Int)) := if shOk (bh s) t = true then uniOf a s (shL (bh s) t) else none
noncomputable def apart (a s t : List Int) : Option (List (List Int)) := if termOk a s = true ∧ termOk a t = true then apartOf a s t else none
theorem ap_yes {a s t : List Int} (h1 : termOk a s = true) (h2 : termOk a t = true) : apart a s t = apartOf a s t := if_pos ⟨h1, h2⟩
theorem ap_no1 {a s t : List Int} (h1 : termOk a s = false) : apart a s t = none := if_neg (fun h => by rw [h1] at h; exact absurd h.1 (by simp))
theorem ap_no2 {a s t : List Int} (h1 : termOk a t = false) : apart a s t = none := if_neg (fun h => by rw [h1] at h; exact absurd h.2 (by simp))
theorem apOf_yes {a s t : List Int} (h : shOk (bh s) t = true) : apartOf a s t = uniOf a s (shL (bh s) t) := if_pos h
theorem apOf_no {a s t : List Int} (h : shOk (bh s) t = false) : apartOf a s t = none := if_neg (by rw [h]; simp)
theorem unifyApart_spec {w0 : World} {Γ : List Atom} {v va vb : Value} {a s t : List Int} [h : HasRd (List Int) repList Γ [v] a] [h1 : HasRd (List Int) repList Γ [va] s] [h2 : HasRd (List Int) repList Γ [vb] t] (hs : termOk a s = true ∧ termOk a t = true) :
    CJ Try.prog 65 [.agg #[v], va, vb] w0 Γ (fun q : Value => .tuple #[.agg #[q], .bool (apartOf a s t).isSome]) (fun q => .ow [q] ((apartOf a s t).getD []) :: Γ) := by
  refine cj_lift (R := [.rd [v] a, .rd [va] s, .rd [vb] t]) (A := fun q => [.ow [q] ((apartOf a s t).getD [])]) (fun w1 => ?_) (reads_cons h (reads_cons h1 (reads_cons h2 (inferInstance)))) (fun _ => inferInstance)
  simp only [List.cons_append, List.nil_append]
  obtain ⟨hso, hto⟩ := hs
  have hsl := termOk_len hso
  have htl := termOk_len hto
  have hsm : ∀ n ∈ s, -24 ≤ n := fun n hn => (termOk_mem hso hn).1
  have htm : ∀ n ∈ t, -24 ≤ n := fun n hn => (termOk_mem hto hn).1
  have hs8 : s.getD 0 0 ≤ 8 := by have h3 := termOk_get hso (k := 0) (by omega); have h4 := sigOk_len (termOk_sig hso); omega
  have hbh := bh_ok hso
  refine cj_enter Try.func65 Try.ntmps65 ?_
  repeat' (first
    | refine red ?_
    | refine redf fun hbi => ?_
    | refine reds ?_
    | refine redc fun r => ?_
    | refine redp (fun r => ?_) (fun r => ?_)
    | refine redv fun sv => ?_
    | refine redn fun b => ?_
    | refine redz fun zs => ?_
    | refine redq (fun hc => ?_) (fun hc => ?_)
    | with_reducible refine wq_blk_o rfl ?_
    | (refine redd fun p cs as_ hcs has hf => ?_; simp only [Un.cells, Un.atoms, Un.fact, List.cons_append, List.nil_append] at hcs has hf; subst hcs has)
    | (refine redi (fun hc => ?_) (fun hc => ?_) <;> try first | (exfalso; omega) | exact absurd rfl hc)
    | fail)
  · rw [apOf_no hc]
    simp only [Option.getD_none, Option.isSome_none]
    exact ⟨_, rfl, ent_e⟩
  · have hsh := shL_ok hbh.1 hto hc
    have e2 : shRes (bh s) t = shL (bh s) t := by unfold shRes; rw [hc]; rfl
    rw [apOf_yes hc, e2]
    repeat' (first
      | refine red ?_
      | refine redf fun hbi => ?_
      | refine reds ?_
      | refine redc fun r => ?_
      | refine redp (fun r => ?_) (fun r => ?_)
      | refine redv fun sv => ?_
      | refine redn fun b => ?_
      | refine redz fun zs => ?_
      | refine redq (fun hc => ?_) (fun hc => ?_)
      | with_reducible refine wq_blk_o rfl ?_
      | (refine redd fun p cs as_ hcs has hf => ?_; simp only [Un.cells, Un.atoms, Un.fact, List.cons_append, List.nil_append] at hcs has hf; subst hcs has)
      | (refine redi (fun hc => ?_) (fun hc => ?_) <;> try first | (exfalso; omega) | exact absurd rfl hc)
      | fail)
    exact ⟨_, rfl, ent_e⟩
instance unifyApart_ctr {Γ : List Atom} {v va vb : Value} {a s t : List Int} [h : HasRd (List Int) repList Γ [v] a] [h1 : HasRd (List Int) repList Γ [va] s] [h2 : HasRd (List Int) repList Γ [vb] t] :
    CtrC Try.prog 65 [.agg #[v], va, vb] Γ (termOk a s = true ∧ termOk a t = true) (Value) (fun q : Value => .tuple #[.agg #[q], .bool (apartOf a s t).isSome]) (fun q => .ow [q] ((apartOf a s t).getD []) :: Γ) := ⟨fun s w0 => unifyApart_spec s⟩

theorem impl_UnifiedApart_spec {w0 : World} {Γ : List Atom} {v vs vt : Value} {a s t : List Int} [h : HasRd (List Int) repList Γ [v] a] [h1 : HasRd (List Int) repList Γ [vs] s] [h2 : HasRd (List Int) repList Γ [vt] t] :
    CJ Try.prog 32 [.agg #[v], vs, vt] w0 Γ (fun q : Value => .tuple #[.agg #[q], .bool (apart a s t).isSome]) (fun q => .ow [q] ((apart a s t).getD []) :: Γ) := by
  refine cj_lift (R := [.rd [v] a, .rd [vs] s, .rd [vt] t]) (A := fun q => [.ow [q] ((apart a s t).getD [])]) (fun w1 => ?_) (reads_cons h (reads_cons h1 (reads_cons h2 (inferInstance)))) (fun _ => inferInstance)
  simp only [List.cons_append, List.nil_append]
  refine cj_enter Try.func32 Try.ntmps32 ?_
  repeat' (first
    | refine red ?_
    | refine redf fun hbi => ?_
    | refine reds ?_
    | refine redc fun r => ?_
    | refine redp (fun r => ?_) (fun r => ?_)
    | refine redv fun sv => ?_
    | refine redn fun b => ?_
    | refine redz fun zs => ?_
    | refine redq (fun hc => ?_) (fun hc => ?_)
    | with_reducible refine wq_blk_o rfl ?_
    | (refine redd fun p cs as_ hcs has hf => ?_; simp only [Un.cells, Un.atoms, Un.fact, List.cons_append, List.nil_append] at hcs has hf; subst hcs has)
    | (refine redi (fun hc => ?_) (fun hc => ?_) <;> try first | (exfalso; omega) | exact absurd rfl hc)
    | fail)
  · rw [ap_no1 hc]
    simp only [Option.getD_none, Option.isSome_none]
    exact ⟨_, rfl, ent_e⟩
  · rw [ap_no2 hc]
    simp only [Option.getD_none, Option.isSome_none]
    exact ⟨_, rfl, ent_e⟩
  · rw [ap_yes (by assumption) hc]
    exact ⟨_, rfl, ent_e⟩
instance impl_UnifiedApart_ctr {Γ : List Atom} {v vs vt : Value} {a s t : List Int} [h : HasRd (List Int) repList Γ [v] a] [h1 : HasRd (List Int) repList Γ [vs] s] [h2 : HasRd (List Int) repList Γ [vt] t] :
    CtrC Try.prog 32 [.agg #[v], vs, vt] Γ (True) (Value) (fun q : Value => .tuple #[.agg #[q], .bool (apart a s t).isSome]) (fun q => .ow [q] ((apart a s t).getD []) :: Γ) := ⟨fun s w0 => impl_UnifiedApart_spec⟩

theorem spec_UnifiedApart_spec {w0 : World} {Γ : List Atom} {v vs vt : Value} {a s t : List Int} [h : HasRd (List Int) repList Γ [v] a] [h1 : HasRd (List Int) repList Γ [vs] s] [h2 : HasRd (List Int) repList Γ [vt] t] :
    CJ Try.prog 31 [.agg #[v], vs, vt] w0 Γ (fun q : Value => .tuple #[.agg #[q], .bool (apart a s t).isSome]) (fun q => .ow [q] ((apart a s t).getD []) :: Γ) := by
  refine cj_lift (R := [.rd [v] a, .rd [vs] s, .rd [vt] t]) (A := fun q => [.ow [q] ((apart a s t).getD [])]) (fun w1 => ?_) (reads_cons h (reads_cons h1 (reads_cons h2 (inferInstance)))) (fun _ => inferInstance)
  simp only [List.cons_append, List.nil_append]
  by_cases hso : termOk a s = true
  · have hsm : ∀ n ∈ s, -24 ≤ n := fun n hn => (termOk_mem hso hn).1
    have hbh := bh_ok hso
    refine cj_enter Try.func31 Try.ntmps31 ?_
    repeat' (first
      | refine red ?_
      | refine redf fun hbi => ?_
      | refine reds ?_
      | refine redc fun r => ?_
      | refine redp (fun r => ?_) (fun r => ?_)
      | refine redv fun sv => ?_
      | refine redn fun b => ?_
      | refine redz fun zs => ?_
      | refine redq (fun hc => ?_) (fun hc => ?_)
      | with_reducible refine wq_blk_o rfl ?_
      | (refine redd fun p cs as_ hcs has hf => ?_; simp only [Un.cells, Un.atoms, Un.fact, List.cons_append, List.nil_append] at hcs has hf; subst hcs has)
      | (refine redi (fun hc => ?_) (fun hc => ?_) <;> try first | (exfalso; omega) | exact absurd rfl hc)
      | ((refine wa_begin 3 [false, false, false, false, false, false, false, false, false, false] [] ?_ <;> (first | refine wa_f 0 fun hbi => ?_ | refine wa_p 0 ?_ | fail) <;> (first | refine wa_p 1 ?_ | refine wa_p0 1 ?_ | fail) <;> (first | refine wa_p 2 ?_ | refine wa_p0 2 ?_ | (refine wa_do 2 ?_ <;> (repeat' (first | refine red ?_ | refine redc fun r => ?_ | refine redv fun sv => ?_ | refine redf fun hbi => ?_ | refine redn fun b => ?_ | refine reds ?_ | refine redi (fun hc => ?_) (fun hc => ?_) | refine redq (fun hc => ?_) (fun hc => ?_) | refine redp (fun r => ?_) (fun r => ?_) | fail))) | fail) <;> (refine wa_do 3 ?_ <;> (repeat' (first | refine red ?_ | refine redc fun r => ?_ | refine redv fun sv => ?_ | refine redf fun hbi => ?_ | refine redn fun b => ?_ | refine reds ?_ | refine redi (fun hc => ?_) (fun hc => ?_) | refine redq (fun hc => ?_) (fun hc => ?_) | refine redp (fun r => ?_) (fun r => ?_) | fail))) <;> (refine wa_do 4 ?_ <;> (repeat' (first | refine red ?_ | refine redc fun r => ?_ | refine redv fun sv => ?_ | refine redf fun hbi => ?_ | refine redn fun b => ?_ | refine reds ?_ | refine redi (fun hc => ?_) (fun hc => ?_) | refine redq (fun hc => ?_) (fun hc => ?_) | refine redp (fun r => ?_) (fun r => ?_) | fail))) <;> (first | refine wa_p 5 ?_ | refine wa_p0 5 ?_ | (refine wa_do 5 ?_ <;> (repeat' (first | refine red ?_ | refine redc fun r => ?_ | refine redv fun sv => ?_ | refine redf fun hbi => ?_ | refine redn fun b => ?_ | refine reds ?_ | refine redi (fun hc => ?_) (fun hc => ?_) | refine redq (fun hc => ?_) (fun hc => ?_) | refine redp (fun r => ?_) (fun r => ?_) | fail))) | fail) <;> (first | refine wa_p 6 ?_ | refine wa_p0 6 ?_ | fail) <;> (first | refine wa_p 7 ?_ | refine wa_p0 7 ?_ | fail) <;> (first | refine wa_p 8 ?_ | refine wa_p0 8 ?_ | (refine wa_do 8 ?_ <;> (repeat' (first | refine red ?_ | refine redc fun r => ?_ | refine redv fun sv => ?_ | refine redf fun hbi => ?_ | refine redn fun b => ?_ | refine reds ?_ | refine redi (fun hc => ?_) (fun hc => ?_) | refine redq (fun hc => ?_) (fun hc => ?_) | refine redp (fun r => ?_) (fun r => ?_) | fail))) | fail) <;> (first | refine wa_p 9 ?_ | refine wa_p0 9 ?_ | (refine wa_do 9 ?_ <;> (repeat' (first | refine red ?_ | refine redc fun r => ?_ | refine redv fun sv => ?_ | refine redf fun hbi => ?_ | refine redn fun b => ?_ | refine reds ?_ | refine redi (fun hc => ?_) (fun hc => ?_) | refine redq (fun hc => ?_) (fun hc => ?_) | refine redp (fun r => ?_) (fun r => ?_) | fail))) | fail)) <;> (first | refine wa_end ?_ | with_reducible refine wq_keep ?_))
      | fail)
    · rw [hso] at hc; cases hc
    · have e : apart a s t = none := by
        by_cases hto : termOk a t = true
        · rw [ap_yes hso hto]
          refine apOf_no ?_
          by_cases h5 : shOk (bh s) t = true
          · exact absurd ⟨hto, h5⟩ hc
          · simpa using h5
        · exact ap_no2 (by simpa using hto)
      rw [e]
      simp only [Option.getD_none, Option.isSome_none]
      exact ⟨_, rfl, ent_e⟩
    · obtain ⟨hto, hsh⟩ := hc
      have e2 : shRes (bh s) t = shL (bh s) t := by unfold shRes; rw [hsh]; rfl
      have e : unified a s (if termOk a t = true then shRes (bh s) t else []) = apart a s t := by
        rw [if_pos hto, e2, un_yes hso (shL_ok hbh.1 hto hsh), ap_yes hso hto, apOf_yes hsh]
      rw [e]
      exact ⟨_, rfl, ent_e⟩
  · have hso' : termOk a s = false := by simpa using hso
    rw [ap_no1 hso']
    simp only [Option.getD_none, Option.isSome_none]
    refine cj_enter Try.func31 Try.ntmps31 ?_
    repeat' (first
      | refine red ?_
      | refine redf fun hbi => ?_
      | refine reds ?_
      | refine redc fun r => ?_
      | refine redp (fun r => ?_) (fun r => ?_)
      | refine redv fun sv => ?_
      | refine redn fun b => ?_
      | refine redz fun zs => ?_
      | refine redq (fun hc => ?_) (fun hc => ?_)
      | with_reducible refine wq_blk_o rfl ?_
      | (refine redd fun p cs as_ hcs has hf => ?_; simp only [Un.cells, Un.atoms, Un.fact, List.cons_append, List.nil_append] at hcs has hf; subst hcs has)
      | (refine redi (fun hc => ?_) (fun hc => ?_) <;> try first | (exfalso; omega) | exact absurd rfl hc)
      | ((refine wa_begin 3 [false, false, false, false, false, false, false, false, false, false] [] ?_ <;> (first | refine wa_f 0 fun hbi => ?_ | refine wa_p 0 ?_ | fail) <;> (first | refine wa_p 1 ?_ | refine wa_p0 1 ?_ | fail) <;> (first | refine wa_p 2 ?_ | refine wa_p0 2 ?_ | (refine wa_do 2 ?_ <;> (repeat' (first | refine red ?_ | refine redc fun r => ?_ | refine redv fun sv => ?_ | refine redf fun hbi => ?_ | refine redn fun b => ?_ | refine reds ?_ | refine redi (fun hc => ?_) (fun hc => ?_) | refine redq (fun hc => ?_) (fun hc => ?_) | refine redp (fun r => ?_) (fun r => ?_) | fail))) | fail) <;> (refine wa_do 3 ?_ <;> (repeat' (first | refine red ?_ | refine redc fun r => ?_ | refine redv fun sv => ?_ | refine redf fun hbi => ?_ | refine redn fun b => ?_ | refine reds ?_ | refine redi (fun hc => ?_) (fun hc => ?_) | refine redq (fun hc => ?_) (fun hc => ?_) | refine redp (fun r => ?_) (fun r => ?_) | fail))) <;> (refine wa_do 4 ?_ <;> (repeat' (first | refine red ?_ | refine redc fun r => ?_ | refine redv fun sv => ?_ | refine redf fun hbi => ?_ | refine redn fun b => ?_ | refine reds ?_ | refine redi (fun hc => ?_) (fun hc => ?_) | refine redq (fun hc => ?_) (fun hc => ?_) | refine redp (fun r => ?_) (fun r => ?_) | fail))) <;> (first | refine wa_p 5 ?_ | refine wa_p0 5 ?_ | (refine wa_do 5 ?_ <;> (repeat' (first | refine red ?_ | refine redc fun r => ?_ | refine redv fun sv => ?_ | refine redf fun hbi => ?_ | refine redn fun b => ?_ | refine reds ?_ | refine redi (fun hc => ?_) (fun hc => ?_) | refine redq (fun hc => ?_) (fun hc => ?_) | refine redp (fun r => ?_) (fun r => ?_) | fail))) | fail) <;> (first | refine wa_p 6 ?_ | refine wa_p0 6 ?_ | fail) <;> (first | refine wa_p 7 ?_ | refine wa_p0 7 ?_ | fail) <;> (first | refine wa_p 8 ?_ | refine wa_p0 8 ?_ | (refine wa_do 8 ?_ <;> (repeat' (first | refine red ?_ | refine redc fun r => ?_ | refine redv fun sv => ?_ | refine redf fun hbi => ?_ | refine redn fun b => ?_ | refine reds ?_ | refine redi (fun hc => ?_) (fun hc => ?_) | refine redq (fun hc => ?_) (fun hc => ?_) | refine redp (fun r => ?_) (fun r => ?_) | fail))) | fail) <;> (first | refine wa_p 9 ?_ | refine wa_p0 9 ?_ | (refine wa_do 9 ?_ <;> (repeat' (first | refine red ?_ | refine redc fun r => ?_ | refine redv fun sv => ?_ | refine redf fun hbi => ?_ | refine redn fun b => ?_ | refine reds ?_ | refine redi (fun hc => ?_) (fun hc => ?_) | refine redq (fun hc => ?_) (fun hc => ?_) | refine redp (fun r => ?_) (fun r => ?_) | fail))) | fail)) <;> (first | refine wa_end ?_ | with_reducible refine wq_keep ?_))
      | fail)
    · exact ⟨_, rfl, ent_e⟩
    · exact absurd (by assumption) hso
instance spec_UnifiedApart_ctr {Γ : List Atom} {v vs vt : Value} {a s t : List Int} [h : HasRd (List Int) repList Γ [v] a] [h1 : HasRd (List Int) repList Γ [vs] s] [h2 : HasRd (List Int) repList Γ [vt] t] :
    CtrC Try.prog 31 [.agg #[v], vs, vt] Γ (True) (Value) (fun q : Value => .tuple #[.agg #[q], .bool (apart a s t).isSome]) (fun q => .ow [q] ((apart a s t).getD []) :: Γ) := ⟨fun s w0 => spec_UnifiedApart_spec⟩

theorem apart_bound (a s t : List Int) : ((apart a s t).getD []).length ≤ 24 ∧ ∀ x ∈ (apart a s t).getD [], x.length ≤ 60 := by
  unfold apart
  split
  · unfold apartOf
    split
    · exact uni_bound a s _
    · simp
  · simp

/-! ### Where they meet -/
theorem strip_get : ∀ (l : List (List Int)) (i : Nat), (strip l).getD i [] = l.getD i []
  | [], i => rfl
  | x :: xs, i => by
    have ih := strip_get xs
    unfold strip
    split
    · rename_i h
      cases i with
      | zero => simp [h.2]
      | succ i =>
        have := ih i
        rw [h.1] at this
        simpa using this
    · cases i with
      | zero => simp
      | succ i => simpa using ih i
theorem trivL_get : ∀ (k : Nat) (l : List (List Int)) (i : Nat), (trivL k l).getD i [] = triv (k + i) (l.getD i [])
  | k, [], i => by simp [trivL, triv]
  | k, x :: xs, i => by
    unfold trivL
    cases i with
    | zero => simp
    | succ i =>
      have := trivL_get (k + 1) xs i
      simp only [List.getD_cons_succ]
      rw [this, show k + 1 + i = k + (i + 1) by omega]
theorem gives_getD (ts : List (List Int)) (i : Nat) : gives ts i = if ts.getD i [] = [] then [-1 - (i : Int)] else ts.getD i [] := by
  unfold gives
  by_cases h : ts.getD i [] = []
  · rw [if_pos h, if_neg]
    rintro ⟨_, h2⟩
    have : (ts.getD i default).length = 0 := by show (ts.getD i []).length = 0; rw [h]; rfl
    omega
  · rw [if_neg h, if_pos]
    · rfl
    · refine ⟨?_, List.length_pos_iff.2 h⟩
      by_cases hl : i < ts.length
      · exact hl
      · rw [List.getD_eq_getElem?_getD, List.getElem?_eq_none (by omega)] at h
        exact absurd rfl h
theorem gives_plain (ts : List (List Int)) (i : Nat) : gives (plainOf ts) i = gives ts i := by
  have key : (plainOf ts).getD i [] = triv i (ts.getD i []) := by
    unfold plainOf
    rw [strip_get, trivL_get, Nat.zero_add]
  rw [gives_getD, gives_getD, key]
  generalize ts.getD i [] = x
  unfold triv
  by_cases h1 : x = []
  · simp [h1]
  · by_cases h2 : x = [-1 - (i : Int)]
    · simp [h2]
    · simp [h1, h2]
theorem fe_tab {σ : Int → List Int} {a : List Int} (h : Sb a σ) {n : Int} (hn : -24 ≤ n) : fe (plainOf (tabOf σ)) n = σ n := by
  by_cases h0 : n < 0
  · rw [fe_gives h0, gives_plain, gives_getD, tab_get (by omega), show -1 - (((-1 - n).toNat : Nat) : Int) = n by omega, if_neg]
    have := tm_pos (h.tm n hn h0)
    intro e
    rw [e] at this
    simp at this
  · rw [h.pos n (by omega)]
    exact if_neg h0
theorem uni_fill {a s t : List Int} (hs : termOk a s = true) {ts : List (List Int)} (h : uniOf a s t = some ts) : (fm (fe ts) s).length ≤ 60 := by
  by_cases hx : ∃ σ, IOM a s t σ ∧ LenOk σ s
  · obtain ⟨σ, h1, h2⟩ := hx
    rw [uni_some h1 h2] at h
    injection h with h
    rw [← h, fm_congr (g := σ) (fun n hn => fe_tab h1.1.sb (termOk_mem hs hn).1)]
    exact h2.1
  · rw [uni_none fun σ h1 h2 => hx ⟨σ, h1, h2⟩] at h
    cases h
theorem apart_fill {a s t : List Int} {ts : List (List Int)} (h : apart a s t = some ts) : termOk a s = true ∧ (fm (fe ts) s).length ≤ 60 := by
  unfold apart at h
  split at h
  · rename_i h1
    unfold apartOf at h
    split at h
    · exact ⟨h1.1, uni_fill h1.1 h⟩
    · cases h
  · cases h
noncomputable def metOf (a s t : List Int) : Option (List Int) := (apart a s t).map fun ts => renOf (fm (fe ts) s)
theorem renamedOw_spec {w0 : World} {Γ : List Atom} {v : Value} {t : List Int} [h : HasIm (List Int) repList Γ [v] t] (hl : t.length ≤ 1048576) : CJ Try.prog 69 [v] w0 Γ (fun q : Value => q) (fun q => .ow [q] (renOf t) :: Γ) := by
  refine cj_enter Try.func69 Try.ntmps69 ?_
  repeat' (first
    | refine red ?_
    | refine redf fun hbi => ?_
    | refine reds ?_
    | refine redc fun r => ?_
    | refine redo fun sv => ?_
    | refine redp (fun r => ?_) (fun r => ?_)
    | refine redv fun sv => ?_
    | refine redn fun b => ?_
    | refine redz fun zs => ?_
    | refine redq (fun hc => ?_) (fun hc => ?_)
    | with_reducible refine wq_blk_o rfl ?_
    | (refine redd fun p cs as_ hcs has hf => ?_; simp only [Un.cells, Un.atoms, Un.fact, List.cons_append, List.nil_append] at hcs has hf; subst hcs has)
    | (refine redi (fun hc => ?_) (fun hc => ?_) <;> try first | (exfalso; omega) | exact absurd rfl hc)
    | fail)
  simp only [List.getD_cons_zero]
  exact ⟨_, rfl, ent_e⟩
instance renamedOw_ctr {Γ : List Atom} {v : Value} {t : List Int} [h : HasIm (List Int) repList Γ [v] t] :
    CtrC Try.prog 69 [v] Γ (t.length ≤ 1048576) (Value) (fun q : Value => q) (fun q => .ow [q] (renOf t) :: Γ) := ⟨fun s w0 => renamedOw_spec s⟩

theorem impl_MetOf_spec {w0 : World} {Γ : List Atom} {v vs vt : Value} {a s t : List Int} [h : HasRd (List Int) repList Γ [v] a] [h1 : HasRd (List Int) repList Γ [vs] s] [h2 : HasRd (List Int) repList Γ [vt] t] :
    CJ Try.prog 34 [.agg #[v], vs, vt] w0 Γ (fun q : Value => .tuple #[q, .bool (metOf a s t).isSome]) (fun q => .ow [q] ((metOf a s t).getD []) :: Γ) := by
  refine cj_lift (R := [.rd [v] a, .rd [vs] s, .rd [vt] t]) (A := fun q => [.ow [q] ((metOf a s t).getD [])]) (fun w1 => ?_) (reads_cons h (reads_cons h1 (reads_cons h2 (inferInstance)))) (fun _ => inferInstance)
  simp only [List.cons_append, List.nil_append]
  obtain ⟨hb1, hb2⟩ := apart_bound a s t
  haveI hR : ∀ (Δ : List Atom) (v : Value) (t : List Int) [HasIm (List Int) repList Δ [v] t], CtrC Try.prog 69 [v] Δ (t.length ≤ 1048576) Value (fun q => q) (fun q => .ow [q] (renOf t) :: Δ) := fun Δ v t _ => ⟨fun s w0 => renamedOw_spec s⟩
  refine cj_enter Try.func34 Try.ntmps34 ?_
  repeat' (first
    | refine red ?_
    | refine redf fun hbi => ?_
    | refine reds ?_
    | refine redc fun r => ?_
    | refine redp (fun r => ?_) (fun r => ?_)
    | refine redv fun sv => ?_
    | refine redn fun b => ?_
    | refine redz fun zs => ?_
    | refine redq (fun hc => ?_) (fun hc => ?_)
    | with_reducible refine wq_blk_o rfl ?_
    | (refine redd fun p cs as_ hcs has hf => ?_; simp only [Un.cells, Un.atoms, Un.fact, List.cons_append, List.nil_append] at hcs has hf; subst hcs has)
    | (refine redi (fun hc => ?_) (fun hc => ?_) <;> try first | (exfalso; omega) | exact absurd rfl hc)
    | fail)
  · have e : metOf a s t = none := by
      unfold metOf
      cases he : apart a s t with
      | none => rfl
      | some ts => rw [he] at hc; cases hc
    rw [e]
    simp only [Option.getD_none, Option.isSome_none]
    exact ⟨_, rfl, ent_e⟩
  · obtain ⟨ts, he⟩ := Option.isSome_iff_exists.1 hc
    obtain ⟨hso, hfl⟩ := apart_fill he
    have hsl := termOk_len hso
    have e : metOf a s t = some (renOf (fm (fe ts) s)) := by unfold metOf; rw [he]; rfl
    have hfo : fillOf ts s = some (fm (fe ts) s) := by rw [fillOf_fm, if_pos hfl]
    rw [e]
    rw [he] at hb1 hb2 ⊢
    simp only [Option.getD_some, Option.isSome_some] at hb1 hb2 ⊢
    repeat' (first
      | refine red ?_
      | refine redf fun hbi => ?_
      | refine reds ?_
      | refine redc fun r => ?_
      | refine redp (fun r => ?_) (fun r => ?_)
      | refine redv fun sv => ?_
      | refine redn fun b => ?_
      | refine redz fun zs => ?_
      | refine redq (fun hc => ?_) (fun hc => ?_)
      | with_reducible refine wq_blk_o rfl ?_
      | (refine redd fun p cs as_ hcs has hf => ?_; simp only [Un.cells, Un.atoms, Un.fact, List.cons_append, List.nil_append] at hcs has hf; subst hcs has)
      | (refine redi (fun hc => ?_) (fun hc => ?_) <;> try first | (exfalso; omega) | exact absurd rfl hc)
      | fail)
    · rw [hfo] at hc; cases hc
    rw [hfo]
    simp only [Option.getD_some, Option.isSome_some]
    refine wl_share r ?_
    repeat' (first
      | refine red ?_
      | refine redf fun hbi => ?_
      | refine reds ?_
      | refine redc fun r => ?_
      | refine redp (fun r => ?_) (fun r => ?_)
      | refine redv fun sv => ?_
      | refine redn fun b => ?_
      | refine redz fun zs => ?_
      | refine redq (fun hc => ?_) (fun hc => ?_)
      | with_reducible refine wq_blk_o rfl ?_
      | (refine redd fun p cs as_ hcs has hf => ?_; simp only [Un.cells, Un.atoms, Un.fact, List.cons_append, List.nil_append] at hcs has hf; subst hcs has)
      | (refine redi (fun hc => ?_) (fun hc => ?_) <;> try first | (exfalso; omega) | exact absurd rfl hc)
      | fail)
    exact ⟨_, rfl, ent_e⟩
instance impl_MetOf_ctr {Γ : List Atom} {v vs vt : Value} {a s t : List Int} [h : HasRd (List Int) repList Γ [v] a] [h1 : HasRd (List Int) repList Γ [vs] s] [h2 : HasRd (List Int) repList Γ [vt] t] :
    CtrC Try.prog 34 [.agg #[v], vs, vt] Γ (True) (Value) (fun q : Value => .tuple #[q, .bool (metOf a s t).isSome]) (fun q => .ow [q] ((metOf a s t).getD []) :: Γ) := ⟨fun s w0 => impl_MetOf_spec⟩

theorem spec_MetOf_spec {w0 : World} {Γ : List Atom} {v vs vt : Value} {a s t : List Int} [h : HasRd (List Int) repList Γ [v] a] [h1 : HasRd (List Int) repList Γ [vs] s] [h2 : HasRd (List Int) repList Γ [vt] t] :
    CJ Try.prog 33 [.agg #[v], vs, vt] w0 Γ (fun q : Value => .tuple #[q, .bool (metOf a s t).isSome]) (fun q => .ow [q] ((metOf a s t).getD []) :: Γ) := by
  refine cj_lift (R := [.rd [v] a, .rd [vs] s, .rd [vt] t]) (A := fun q => [.ow [q] ((metOf a s t).getD [])]) (fun w1 => ?_) (reads_cons h (reads_cons h1 (reads_cons h2 (inferInstance)))) (fun _ => inferInstance)
  simp only [List.cons_append, List.nil_append]
  obtain ⟨hb1, hb2⟩ := apart_bound a s t
  refine cj_enter Try.func33 Try.ntmps33 ?_
  repeat' (first
    | refine red ?_
    | refine redf fun hbi => ?_
    | refine reds ?_
    | refine redc fun r => ?_
    | refine redp (fun r => ?_) (fun r => ?_)
    | refine redv fun sv => ?_
    | refine redn fun b => ?_
    | refine redz fun zs => ?_
    | refine redq (fun hc => ?_) (fun hc => ?_)
    | with_reducible refine wq_blk_o rfl ?_
    | (refine redd fun p cs as_ hcs has hf => ?_; simp only [Un.cells, Un.atoms, Un.fact, List.cons_append, List.nil_append] at hcs has hf; subst hcs has)
    | (refine redi (fun hc => ?_) (fun hc => ?_) <;> try first | (exfalso; omega) | exact absurd rfl hc)
    | fail)
  · have e : metOf a s t = none := by
      unfold metOf
      cases he : apart a s t with
      | none => rfl
      | some ts => rw [he] at hc; cases hc
    rw [e]
    simp only [Option.getD_none, Option.isSome_none]
    exact ⟨_, rfl, ent_e⟩
  · obtain ⟨ts, he⟩ := Option.isSome_iff_exists.1 hc
    obtain ⟨hso, hfl⟩ := apart_fill he
    have hsl := termOk_len hso
    have hsm : ∀ n ∈ s, -24 ≤ n := fun n hn => (termOk_mem hso hn).1
    have e : metOf a s t = some (renOf (fm (fe ts) s)) := by unfold metOf; rw [he]; rfl
    have hfo : fillOf ts s = some (fm (fe ts) s) := by rw [fillOf_fm, if_pos hfl]
    have hfl2 : ((fillOf ts s).getD []).length ≤ 60 := by rw [hfo]; exact hfl
    rw [e]
    rw [he] at hb1 hb2 ⊢
    simp only [Option.getD_some, Option.isSome_some] at hb1 hb2 ⊢
    repeat' (first
      | refine red ?_
      | refine redf fun hbi => ?_
      | refine reds ?_
      | refine redc fun r => ?_
      | refine redp (fun r => ?_) (fun r => ?_)
      | refine redv fun sv => ?_
      | refine redn fun b => ?_
      | refine redz fun zs => ?_
      | refine redq (fun hc => ?_) (fun hc => ?_)
      | with_reducible refine wq_blk_o rfl ?_
      | (refine redd fun p cs as_ hcs has hf => ?_; simp only [Un.cells, Un.atoms, Un.fact, List.cons_append, List.nil_append] at hcs has hf; subst hcs has)
      | (refine redi (fun hc => ?_) (fun hc => ?_) <;> try first | (exfalso; omega) | exact absurd rfl hc)
      | fail)
    rw [hfo]
    simp only [Option.getD_some, Option.isSome_some]
    exact ⟨_, rfl, ent_e⟩
instance spec_MetOf_ctr {Γ : List Atom} {v vs vt : Value} {a s t : List Int} [h : HasRd (List Int) repList Γ [v] a] [h1 : HasRd (List Int) repList Γ [vs] s] [h2 : HasRd (List Int) repList Γ [vt] t] :
    CtrC Try.prog 33 [.agg #[v], vs, vt] Γ (True) (Value) (fun q : Value => .tuple #[q, .bool (metOf a s t).isSome]) (fun q => .ow [q] ((metOf a s t).getD []) :: Γ) := ⟨fun s w0 => spec_MetOf_spec⟩

theorem metOf_len (a s t : List Int) : ((metOf a s t).getD []).length ≤ 60 := by
  unfold metOf
  cases he : apart a s t with
  | none => simp
  | some ts =>
    have := (apart_fill he).2
    simp only [Option.map_some, Option.getD_some]
    unfold renOf
    rw [List.length_map]
    exact this
set_option maxHeartbeats 0 in
set_option synthInstance.maxHeartbeats 400000 in
set_option synthInstance.maxSize 1000 in
theorem FnExactUnifiedApart_law {w0 : World} {Γ : List Atom} {x0 : SSig} {x1 : List Int} {x2 : List Int} {v0_0 v1_0 v2_0 : Value} [h0_0 : HasRd (List Int) repList Γ [v0_0] x0] [h1_0 : HasRd (List Int) repList Γ [v1_0] x1] [h2_0 : HasRd (List Int) repList Γ [v2_0] x2] (hf0 : x0.length ≤ 9223372036854775807) (hf1 : x1.length ≤ 9223372036854775807) (hf2 : x2.length ≤ 9223372036854775807) :
    CJ Try.prog 6 [.agg #[v0_0], v1_0, v2_0] w0 Γ (fun _ : Unit => .bool true) (fun _ => Γ) := by
  have hz0 := lft_spec 1048576 (Siz.size x0)
  have hb0_0 := cntL_le x0
  have hl0_0 := siz_ints x0
  have hb1_0 := cntL_le x1
  have hl1_0 := siz_ints x1
  have hb2_0 := cntL_le x2
  have hl2_0 := siz_ints x2
  obtain ⟨hm1, hm2⟩ := apart_bound x0 x1 x2
  have hm3 := siz_le hm2
  have hm4 := cntL_le ((apart x0 x1 x2).getD [])
  refine cj_enter Try.func6 Try.ntmps6 ?_
  repeat' (first
    | refine red ?_
    | refine redf fun hbi => ?_
    | refine reds ?_
    | refine redc fun r => ?_
    | refine redp (fun r => ?_) (fun r => ?_)
    | refine redv fun sv => ?_
    | refine redn fun b => ?_
    | refine redz fun zs => ?_
    | refine redq (fun hc => ?_) (fun hc => ?_)
    | with_reducible refine wq_blk_o rfl ?_
    | (refine redd fun p cs as_ hcs has hf => ?_; simp only [Un.cells, Un.atoms, Un.fact, List.cons_append, List.nil_append] at hcs has hf; subst hcs has)
    | (refine redi (fun hc => ?_) (fun hc => ?_) <;> try first | (exfalso; omega) | exact absurd rfl hc)
    | ((refine wa_begin 16 [false, false, false, false, false] [] ?_ <;> (first | refine wa_f 0 fun hbi => ?_ | refine wa_p 0 ?_ | fail) <;> (first | refine wa_f 1 fun hbi => ?_ | refine wa_p 1 ?_ | (refine wa_do 1 ?_ <;> (repeat' (first | refine red ?_ | refine redc fun r => ?_ | refine redv fun sv => ?_ | refine redf fun hbi => ?_ | refine redn fun b => ?_ | refine reds ?_ | refine redi (fun hc => ?_) (fun hc => ?_) | refine redq (fun hc => ?_) (fun hc => ?_) | refine redp (fun r => ?_) (fun r => ?_) | fail))) | fail) <;> (refine wa_do 2 ?_ <;> (repeat' (first | refine red ?_ | refine redc fun r => ?_ | refine redv fun sv => ?_ | refine redf fun hbi => ?_ | refine redn fun b => ?_ | refine reds ?_ | refine redi (fun hc => ?_) (fun hc => ?_) | refine redq (fun hc => ?_) (fun hc => ?_) | refine redp (fun r => ?_) (fun r => ?_) | fail))) <;> (refine wa_do 3 ?_ <;> (repeat' (first | refine red ?_ | refine redc fun r => ?_ | refine redv fun sv => ?_ | refine redf fun hbi => ?_ | refine redn fun b => ?_ | refine reds ?_ | refine redi (fun hc => ?_) (fun hc => ?_) | refine redq (fun hc => ?_) (fun hc => ?_) | refine redp (fun r => ?_) (fun r => ?_) | fail))) <;> (first | refine wa_p 4 ?_ | refine wa_p0 4 ?_ | (refine wa_do 4 ?_ <;> (repeat' (first | refine red ?_ | refine redc fun r => ?_ | refine redv fun sv => ?_ | refine redf fun hbi => ?_ | refine redn fun b => ?_ | refine reds ?_ | refine redi (fun hc => ?_) (fun hc => ?_) | refine redq (fun hc => ?_) (fun hc => ?_) | refine redp (fun r => ?_) (fun r => ?_) | fail))) | fail)) <;> (first | refine wa_end ?_ | with_reducible refine wq_keep ?_))
    | fail)
  all_goals exact ⟨(), rfl, ent_e⟩

set_option maxHeartbeats 0 in
set_option synthInstance.maxHeartbeats 400000 in
set_option synthInstance.maxSize 1000 in
theorem FnExactMetOf_law {w0 : World} {Γ : List Atom} {x0 : SSig} {x1 : List Int} {x2 : List Int} {v0_0 v1_0 v2_0 : Value} [h0_0 : HasRd (List Int) repList Γ [v0_0] x0] [h1_0 : HasRd (List Int) repList Γ [v1_0] x1] [h2_0 : HasRd (List Int) repList Γ [v2_0] x2] (hf0 : x0.length ≤ 9223372036854775807) (hf1 : x1.length ≤ 9223372036854775807) (hf2 : x2.length ≤ 9223372036854775807) :
    CJ Try.prog 7 [.agg #[v0_0], v1_0, v2_0] w0 Γ (fun _ : Unit => .bool true) (fun _ => Γ) := by
  have hz0 := lft_spec 1048576 (Siz.size x0)
  have hb0_0 := cntL_le x0
  have hl0_0 := siz_ints x0
  have hb1_0 := cntL_le x1
  have hl1_0 := siz_ints x1
  have hb2_0 := cntL_le x2
  have hl2_0 := siz_ints x2
  have hm1 := metOf_len x0 x1 x2
  have hm2 := cntL_ints ((metOf x0 x1 x2).getD [])
  refine cj_enter Try.func7 Try.ntmps7 ?_
  repeat' (first
    | refine red ?_
    | refine redf fun hbi => ?_
    | refine reds ?_
    | refine redc fun r => ?_
    | refine redp (fun r => ?_) (fun r => ?_)
    | refine redv fun sv => ?_
    | refine redn fun b => ?_
    | refine redz fun zs => ?_
    | refine redq (fun hc => ?_) (fun hc => ?_)
    | with_reducible refine wq_blk_o rfl ?_
    | (refine redd fun p cs as_ hcs has hf => ?_; simp only [Un.cells, Un.atoms, Un.fact, List.cons_append, List.nil_append] at hcs has hf; subst hcs has)
    | (refine redi (fun hc => ?_) (fun hc => ?_) <;> try first | (exfalso; omega) | exact absurd rfl hc)
    | ((refine wa_begin 16 [false, false, false, false, false] [] ?_ <;> (first | refine wa_f 0 fun hbi => ?_ | refine wa_p 0 ?_ | fail) <;> (first | refine wa_f 1 fun hbi => ?_ | refine wa_p 1 ?_ | (refine wa_do 1 ?_ <;> (repeat' (first | refine red ?_ | refine redc fun r => ?_ | refine redv fun sv => ?_ | refine redf fun hbi => ?_ | refine redn fun b => ?_ | refine reds ?_ | refine redi (fun hc => ?_) (fun hc => ?_) | refine redq (fun hc => ?_) (fun hc => ?_) | refine redp (fun r => ?_) (fun r => ?_) | fail))) | fail) <;> (refine wa_do 2 ?_ <;> (repeat' (first | refine red ?_ | refine redc fun r => ?_ | refine redv fun sv => ?_ | refine redf fun hbi => ?_ | refine redn fun b => ?_ | refine reds ?_ | refine redi (fun hc => ?_) (fun hc => ?_) | refine redq (fun hc => ?_) (fun hc => ?_) | refine redp (fun r => ?_) (fun r => ?_) | fail))) <;> (refine wa_do 3 ?_ <;> (repeat' (first | refine red ?_ | refine redc fun r => ?_ | refine redv fun sv => ?_ | refine redf fun hbi => ?_ | refine redn fun b => ?_ | refine reds ?_ | refine redi (fun hc => ?_) (fun hc => ?_) | refine redq (fun hc => ?_) (fun hc => ?_) | refine redp (fun r => ?_) (fun r => ?_) | fail))) <;> (first | refine wa_p 4 ?_ | refine wa_p0 4 ?_ | (refine wa_do 4 ?_ <;> (repeat' (first | refine red ?_ | refine redc fun r => ?_ | refine redv fun sv => ?_ | refine redf fun hbi => ?_ | refine redn fun b => ?_ | refine reds ?_ | refine redi (fun hc => ?_) (fun hc => ?_) | refine redq (fun hc => ?_) (fun hc => ?_) | refine redp (fun r => ?_) (fun r => ?_) | fail))) | fail)) <;> (first | refine wa_end ?_ | with_reducible refine wq_keep ?_))
    | fail)
  all_goals exact ⟨(), rfl, ent_e⟩

end Go.Proofs.Ytimniaojfchoiaa
