/- Linear terms, linear systems. -/
import Derived.Test.YtbbdjjlnachnlaaGreatDoorL06
import Derived.Test.YtbbdjjlnachnlaaGreatDoorAuto
namespace Go.Proofs.YtbbdjjlnachnlaaGreatDoor
open Go Go.Eng
set_option linter.unusedVariables false
set_option linter.unusedSimpArgs false
set_option synthInstance.maxHeartbeats 400000
set_option synthInstance.maxSize 1000
def LinP (t : List Int) (k : Nat) : Prop := ∀ i, i < k → t.getD i 0 < 0 → t.getD i 0 ∉ t.take i
theorem lin_next {t : List Int} {k : Nat} (h : LinP t k) (h1 : t.getD k 0 < 0 → t.getD k 0 ∉ t.take k) : LinP t (k + 1) := fun i hi => by
  by_cases e : i = k
  · rw [e]; exact h1
  · exact h i (by omega)
/-! the number of times that a number stands in a list -/
def cntT (t : List Int) (n : Int) : Nat → Nat
  | 0 => 0
  | k + 1 => cntT t n k + if t.getD k 0 = n then 1 else 0
theorem cntT_le (t : List Int) (n : Int) : ∀ k, cntT t n k ≤ k
  | 0 => Nat.le_refl _
  | k + 1 => by
    have := cntT_le t n k
    unfold cntT
    split <;> omega
theorem cntT_pos {t : List Int} {n : Int} : ∀ {k : Nat}, k ≤ t.length → (1 ≤ cntT t n k ↔ n ∈ t.take k)
  | 0, _ => by simp [cntT]
  | k + 1, h => by
    rw [mem_take_succ (by omega), ← cntT_pos (by omega)]
    show 1 ≤ cntT t n k + (if t.getD k 0 = n then 1 else 0) ↔ _
    split
    · rename_i e; exact ⟨fun _ => .inr e.symm, fun _ => by omega⟩
    · rename_i e; exact ⟨fun h => .inl (by omega), fun h => h.elim (fun h => by omega) (fun h => absurd h.symm e)⟩
theorem lin_cnt {t : List Int} : LinP t t.length ↔ ∀ i, i < t.length → t.getD i 0 < 0 → cntT t (t.getD i 0) t.length ≤ 1 := by
  constructor
  · intro h i hi h0
    have key : ∀ k, k ≤ t.length → cntT t (t.getD i 0) k ≤ 1 := fun k => by
      induction k with
      | zero => intro _; exact Nat.zero_le _
      | succ k ih =>
        intro hk
        have h1 := ih (by omega)
        show cntT t (t.getD i 0) k + (if t.getD k 0 = t.getD i 0 then 1 else 0) ≤ 1
        split
        · rename_i e
          have h2 := h k (by omega) (by rw [e]; exact h0)
          rw [e] at h2
          have h3 : ¬ 1 ≤ cntT t (t.getD i 0) k := fun h4 => h2 ((cntT_pos (t := t) (n := t.getD i 0) (k := k) (by omega)).1 h4)
          omega
        · omega
    exact key _ (Nat.le_refl _)
  · intro h i hi h0 hm
    have h1 := h i hi h0
    have h2 := (cntT_pos (t := t) (n := t.getD i 0) (k := i) (by omega)).2 hm
    have key : ∀ j, i + 1 + j ≤ t.length → 2 ≤ cntT t (t.getD i 0) (i + 1 + j) := fun j => by
      induction j with
      | zero =>
        intro _
        show 2 ≤ cntT t (t.getD i 0) i + _
        rw [if_pos rfl]; omega
      | succ j ih =>
        intro hj
        have := ih (by omega)
        show 2 ≤ cntT t (t.getD i 0) (i + 1 + j) + _
        split <;> omega
    have := key (t.length - (i + 1)) (by omega)
    rw [show i + 1 + (t.length - (i + 1)) = t.length by omega] at this
    omega
theorem l1Count_spec {w0 : World} {Γ : List Atom} {v : Value} {t : List Int} {n : Int} [h : HasRd (List Int) repList Γ [v] t] (hl : t.length ≤ 1048576) : CJ Tryz.prog 160 [v, .int .i64 n] w0 Γ (fun _ : Unit => .int .i64 (cntT t n t.length : Nat)) (fun _ => Γ) := by
  refine cj_lift (R := [.rd [v] t]) (A := fun _ => []) (fun w1 => ?_) (reads_cons h (inferInstance)) (fun _ => inferInstance)
  simp only [List.cons_append, List.nil_append]
  refine cj_enter Tryz.func160 Tryz.ntmps160 ?_
  repeat' (first | refine red ?_ | fail)
  refine wc_loop_c [5, 6] [7, 8, 9, 10, 13, 14, 15, 16, 17, 18, 19, 20, 11, 12] (ι := Nat) (fun k => [.int .i64 (cntT t n k : Nat), .int .i64 k]) (fun k => k ≤ t.length) (fun k => t.length - k) 0 (by kernel_rfl) (Nat.zero_le _) ?_
  intro k u l' hl' hk
  simp only [patch, List.map_cons, List.map_nil, List.set_cons_zero, List.set_cons_succ] at hl'
  subst hl'
  have hle := cntT_le t n k
  repeat' (first | refine red ?_ | refine redf fun hbi => ?_ | refine reds ?_ | (refine redi (fun hc => ?_) (fun hc => ?_) <;> try first | (exfalso; omega) | exact absurd rfl hc) | fail)
  · have e : cntT t n (k + 1) = cntT t n k + 1 := by show _ + _ = _; rw [if_pos hc]
    refine wq_next (k + 1) (by omega) (by omega) ?_ ent_e
    rw [e]
    kernel_rfl
  · have e : cntT t n (k + 1) = cntT t n k := by show _ + _ = _; rw [if_neg hc]; rfl
    refine wq_next (k + 1) (by omega) (by omega) ?_ ent_e
    rw [e]
    kernel_rfl
  · exact ⟨(), ret_int (by rw [show k = t.length by omega]), ent_e⟩
instance l1Count_ctr {Γ : List Atom} {v : Value} {t : List Int} {n : Int} [h : HasRd (List Int) repList Γ [v] t] :
    CtrC Tryz.prog 160 [v, .int .i64 n] Γ (t.length ≤ 1048576) (Unit) (fun _ : Unit => .int .i64 (cntT t n t.length : Nat)) (fun _ => Γ) := ⟨fun s w0 => l1Count_spec s⟩

theorem l2Linear_spec {w0 : World} {Γ : List Atom} {v : Value} {t : List Int} [h : HasRd (List Int) repList Γ [v] t] (hl : t.length ≤ 1048576) : CJ Tryz.prog 121 [v] w0 Γ (fun _ : Unit => .bool (decC (LinP t t.length))) (fun _ => Γ) := by
  refine cj_lift (R := [.rd [v] t]) (A := fun _ => []) (fun w1 => ?_) (reads_cons h (inferInstance)) (fun _ => inferInstance)
  simp only [List.cons_append, List.nil_append]
  refine cj_enter Tryz.func121 Tryz.ntmps121 ?_
  repeat' (first | refine red ?_ | fail)
  refine wc_loop_c [3] [4, 5, 6, 7, 10, 11, 12, 13, 14, 15, 16, 17, 18, 19, 20, 21, 22, 23, 2, 8, 9] (ι := Nat) (fun k => [.int .i64 k]) (fun k => k ≤ t.length ∧ ∀ i, i < k → t.getD i 0 < 0 → cntT t (t.getD i 0) t.length ≤ 1) (fun k => t.length - k) 0 (by kernel_rfl) ⟨Nat.zero_le _, fun i hi => by omega⟩ ?_
  intro k u l' hl' ⟨hk, hkk⟩
  simp only [patch, List.map_cons, List.map_nil, List.set_cons_zero, List.set_cons_succ] at hl'
  subst hl'
  repeat' (first | refine red ?_ | refine redf fun hbi => ?_ | refine reds ?_ | refine redc fun r => ?_ | (refine redi (fun hc => ?_) (fun hc => ?_) <;> try first | (exfalso; omega) | exact absurd rfl hc) | fail)
  · exact ⟨(), ret_bool (decC_f fun h => by have := lin_cnt.1 h k (by omega) (by omega); omega), ent_e⟩
  · refine wq_next (k + 1) ⟨by omega, fun i hi h0 => ?_⟩ (by omega) (by kernel_rfl) ent_e
    by_cases e : i = k
    · rw [e]; omega
    · exact hkk i (by omega) h0
  · refine wq_next (k + 1) ⟨by omega, fun i hi h0 => ?_⟩ (by omega) (by kernel_rfl) ent_e
    by_cases e : i = k
    · rw [e] at h0; omega
    · exact hkk i (by omega) h0
  · exact ⟨(), ret_bool (decC_t (lin_cnt.2 (by rw [show t.length = k by omega] at hkk ⊢; exact hkk))), ent_e⟩
instance l2Linear_ctr {Γ : List Atom} {v : Value} {t : List Int} [h : HasRd (List Int) repList Γ [v] t] :
    CtrC Tryz.prog 121 [v] Γ (t.length ≤ 1048576) (Unit) (fun _ : Unit => .bool (decC (LinP t t.length))) (fun _ => Γ) := ⟨fun s w0 => l2Linear_spec s⟩

theorem impl_linear_spec {w0 : World} {Γ : List Atom} {v : Value} {t : List Int} [h : HasRd (List Int) repList Γ [v] t] : CJ Tryz.prog 129 [v] w0 Γ (fun _ : Unit => .bool (decC (LinP t t.length))) (fun _ => Γ) := by
  refine cj_lift (R := [.rd [v] t]) (A := fun _ => []) (fun w1 => ?_) (reads_cons h inferInstance) (fun _ => inferInstance)
  simp only [List.cons_append, List.nil_append]
  refine cj_len v fun hlx => ?_
  refine cj_enter Tryz.func129 Tryz.ntmps129 ?_
  repeat' (first | refine red ?_ | fail)
  refine wc_loop_c [7] [8, 9, 10, 11, 3, 4, 12, 13, 14, 15, 16, 17, 18, 19, 20, 2, 21] (ι := Nat) (fun k => [.int .i64 k]) (fun k => k ≤ t.length ∧ LinP t k) (fun k => t.length - k) 0 (by kernel_rfl) ⟨Nat.zero_le _, fun i hi => by omega⟩ ?_
  intro k u l' hl' ⟨hk, hkk⟩
  simp only [patch, List.map_cons, List.map_nil, List.set_cons_zero, List.set_cons_succ] at hl'
  subst hl'
  repeat' (first | refine red ?_ | refine redf fun hbi => ?_ | refine reds ?_ | refine redc fun r => ?_ | refine redv fun sv => ?_ | (refine redi (fun hc => ?_) (fun hc => ?_) <;> try first | (exfalso; omega) | exact absurd rfl hc) | fail)
  · exact ⟨(), ret_bool (decC_f fun h => h k (by omega) (by assumption) hc), ent_e⟩
  · exact wq_next (k + 1) ⟨by omega, lin_next hkk (fun _ => hc)⟩ (by omega) (by kernel_rfl) ent_e
  · exact wq_next (k + 1) ⟨by omega, lin_next hkk (fun h => by omega)⟩ (by omega) (by kernel_rfl) ent_e
  · exact ⟨(), ret_bool (decC_t (by rw [show t.length = k by omega]; exact hkk)), ent_e⟩

instance impl_linear_ctr {Γ : List Atom} {v : Value} {t : List Int} [h : HasRd (List Int) repList Γ [v] t] :
    CtrC Tryz.prog 129 [v] Γ (True) (Unit) (fun _ : Unit => .bool (decC (LinP t t.length))) (fun _ => Γ) := ⟨fun s w0 => impl_linear_spec⟩

def LinS (rs : List SRule) (k : Nat) : Prop := ∀ i, i < k → LinP (rs.getD i default).1 (rs.getD i default).1.length
theorem linS_next {rs : List SRule} {k : Nat} (h : LinS rs k) (h1 : LinP (rs.getD k default).1 (rs.getD k default).1.length) : LinS rs (k + 1) := fun i hi => by
  by_cases e : i = k
  · rw [e]; exact h1
  · exact h i (by omega)
/-- A right system whose left sides are linear. -/
def LlP (x : SSystem) : Prop := sysOk x = true ∧ LinS x.2 x.2.length
end Go.Proofs.YtbbdjjlnachnlaaGreatDoor
