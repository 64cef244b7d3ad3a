/- Proofs that are well formed. -/
import Derived.Test.YtcaljjkmaffedaaDoorNodeOk
namespace Go.Proofs.YtcaljjkmaffedaaDoor
open Go Go.Eng
set_option linter.unusedVariables false
set_option linter.unusedSimpArgs false

def AllN (ps : List SNode) (n : Nat) : Prop := ∀ i, i < n → NodeP (ps.getD i default) i
instance {ps : List SNode} {n : Nat} : Decidable (AllN ps n) := by unfold AllN; infer_instance
theorem all_next {ps : List SNode} {n : Nat} (h : AllN ps n) (h2 : NodeP (ps.getD n default) n) : AllN ps (n + 1) := fun i hi => by
  by_cases he : i = n
  · rw [he]; exact h2
  · exact h i (by omega)
theorem ProofOk_spec {w0 : World} {Γ : List Atom} {v : Value} {ps : List SNode} [ha : HasRd (List SNode) repList Γ [v] ps] : CJ Tryd.prog 67 [.agg #[v]] w0 Γ (fun _ : Unit => .bool (decide (AllN ps ps.length ∧ 1 ≤ ps.length ∧ ps.length ≤ 64))) (fun _ => Γ) := by
  refine cj_lift (R := [.rd [v] ps]) (A := fun _ => []) (fun w1 => ?_) (reads_cons ha (inferInstance)) (fun _ => inferInstance)
  simp only [List.cons_append, List.nil_append]
  refine cj_len v fun hlv => ?_
  refine cj_enter Tryd.func67 Tryd.ntmps67 ?_
  repeat' (first | refine red ?_ | refine redf fun hbi => ?_ | refine reds ?_ | refine redc fun r => ?_ | refine redp (fun r => ?_) (fun r => ?_) | refine redv fun sv => ?_ | refine redn fun b => ?_ | refine redz fun zs => ?_ | refine redq (fun hc => ?_) (fun hc => ?_) | with_reducible refine wq_blk_o rfl ?_ | (refine redd fun p cs as_ hcs has hf => ?_; simp only [Un.cells, Un.atoms, Un.fact, List.cons_append, List.nil_append] at hcs has hf; subst hcs has) | (refine redi (fun hc => ?_) (fun hc => ?_) <;> try first | (exfalso; omega) | exact absurd rfl hc) | fail)
  refine wc_loop_c [8] [9, 10, 11, 12, 4, 3, 13, 14, 15, 16, 2, 17] (ι := Nat) (fun k => [.int .i64 k]) (fun k => k ≤ ps.length ∧ AllN ps k) (fun k => ps.length - k) 0 (by kernel_rfl) ⟨Nat.zero_le _, fun i hi => by omega⟩ ?_
  intro k u l' hl' ⟨hk, hkk⟩
  simp only [patch, List.map_cons, List.map_nil, List.set_cons_zero, List.set_cons_succ] at hl'
  subst hl'
  repeat' (first | refine red ?_ | refine redf fun hbi => ?_ | refine reds ?_ | refine redc fun r => ?_ | refine redp (fun r => ?_) (fun r => ?_) | refine redv fun sv => ?_ | refine redn fun b => ?_ | refine redz fun zs => ?_ | refine redq (fun hc => ?_) (fun hc => ?_) | with_reducible refine wq_blk_o rfl ?_ | (refine redd fun p cs as_ hcs has hf => ?_; simp only [Un.cells, Un.atoms, Un.fact, List.cons_append, List.nil_append] at hcs has hf; subst hcs has) | (refine redi (fun hc => ?_) (fun hc => ?_) <;> try first | (exfalso; omega) | exact absurd rfl hc) | fail)
  · exact ⟨(), ret_bool (decide_eq_false fun h => hc (h.1 k (by omega))), ent_e⟩
  · exact wq_next (k + 1) ⟨by omega, all_next hkk hc⟩ (by omega) (by kernel_rfl) ent_e
  all_goals have hkl : k = ps.length := by omega
  all_goals subst hkl
  · exact ⟨(), ret_bool (decide_eq_decide.2 ⟨fun h => by omega, fun h => ⟨hkk, by omega⟩⟩), ent_e⟩
  · exact ⟨(), ret_bool (decide_eq_false fun h => by omega), ent_e⟩
instance ProofOk_ctr {Γ : List Atom} {v : Value} {ps : List SNode} [ha : HasRd (List SNode) repList Γ [v] ps] :
    CtrC Tryd.prog 67 [.agg #[v]] Γ (True) (Unit) (fun _ : Unit => .bool (decide (AllN ps ps.length ∧ 1 ≤ ps.length ∧ ps.length ≤ 64))) (fun _ => Γ) := ⟨fun s w0 => ProofOk_spec⟩

theorem l29Nodes_spec {w0 : World} {Γ : List Atom} {v : Value} {ps : List SNode} [ha : HasRd (List SNode) repList Γ [v] ps] (hl : ps.length ≤ 1048576) : CJ Tryd.prog 91 [.agg #[v]] w0 Γ (fun _ : Unit => .bool (decide (AllN ps ps.length))) (fun _ => Γ) := by
  refine cj_lift (R := [.rd [v] ps]) (A := fun _ => []) (fun w1 => ?_) (reads_cons ha (inferInstance)) (fun _ => inferInstance)
  simp only [List.cons_append, List.nil_append]
  refine cj_enter Tryd.func91 Tryd.ntmps91 ?_
  repeat' (first | refine red ?_ | refine redf fun hbi => ?_ | refine reds ?_ | refine redc fun r => ?_ | refine redp (fun r => ?_) (fun r => ?_) | refine redv fun sv => ?_ | refine redn fun b => ?_ | refine redz fun zs => ?_ | refine redq (fun hc => ?_) (fun hc => ?_) | with_reducible refine wq_blk_o rfl ?_ | (refine redd fun p cs as_ hcs has hf => ?_; simp only [Un.cells, Un.atoms, Un.fact, List.cons_append, List.nil_append] at hcs has hf; subst hcs has) | (refine redi (fun hc => ?_) (fun hc => ?_) <;> try first | (exfalso; omega) | exact absurd rfl hc) | fail)
  refine wc_loop_c [3] [4, 5, 6, 7, 8, 11, 12, 13, 14, 15, 16, 17, 18, 2, 9, 10] (ι := Nat) (fun k => [.int .i64 k]) (fun k => k ≤ ps.length ∧ AllN ps k) (fun k => ps.length - k) 0 (by kernel_rfl) ⟨Nat.zero_le _, fun i hi => by omega⟩ ?_
  intro k u l' hl' ⟨hk, hkk⟩
  simp only [patch, List.map_cons, List.map_nil, List.set_cons_zero, List.set_cons_succ] at hl'
  subst hl'
  repeat' (first | refine red ?_ | refine redf fun hbi => ?_ | refine reds ?_ | refine redc fun r => ?_ | refine redp (fun r => ?_) (fun r => ?_) | refine redv fun sv => ?_ | refine redn fun b => ?_ | refine redz fun zs => ?_ | refine redq (fun hc => ?_) (fun hc => ?_) | with_reducible refine wq_blk_o rfl ?_ | (refine redd fun p cs as_ hcs has hf => ?_; simp only [Un.cells, Un.atoms, Un.fact, List.cons_append, List.nil_append] at hcs has hf; subst hcs has) | (refine redi (fun hc => ?_) (fun hc => ?_) <;> try first | (exfalso; omega) | exact absurd rfl hc) | fail)
  · exact ⟨(), ret_bool (decide_eq_false fun h => hc (h k (by omega))), ent_e⟩
  · exact wq_next (k + 1) ⟨by omega, all_next hkk hc⟩ (by omega) (by kernel_rfl) ent_e
  · exact ⟨(), ret_bool (decide_eq_true (by rw [show ps.length = k by omega]; exact hkk)), ent_e⟩
instance l29Nodes_ctr {Γ : List Atom} {v : Value} {ps : List SNode} [ha : HasRd (List SNode) repList Γ [v] ps] :
    CtrC Tryd.prog 91 [.agg #[v]] Γ (ps.length ≤ 1048576) (Unit) (fun _ : Unit => .bool (decide (AllN ps ps.length))) (fun _ => Γ) := ⟨fun s w0 => l29Nodes_spec s⟩

theorem spec_ProofOk_spec {w0 : World} {Γ : List Atom} {v : Value} {ps : List SNode} [ha : HasRd (List SNode) repList Γ [v] ps] : CJ Tryd.prog 65 [.agg #[v]] w0 Γ (fun _ : Unit => .bool (decide (AllN ps ps.length ∧ 1 ≤ ps.length ∧ ps.length ≤ 64))) (fun _ => Γ) := by
  refine cj_len v fun hlv => ?_
  refine cj_enter Tryd.func65 Tryd.ntmps65 ?_
  repeat' (first | refine red ?_ | refine redf fun hbi => ?_ | refine reds ?_ | refine redc fun r => ?_ | refine redp (fun r => ?_) (fun r => ?_) | refine redv fun sv => ?_ | refine redn fun b => ?_ | refine redz fun zs => ?_ | refine redq (fun hc => ?_) (fun hc => ?_) | with_reducible refine wq_blk_o rfl ?_ | (refine redi (fun hc => ?_) (fun hc => ?_) <;> try first | (exfalso; omega) | exact absurd rfl hc) | fail)
  · exact ⟨(), ret_bool (decide_eq_decide.2 ⟨fun h => h.1, fun h => ⟨h, by omega⟩⟩), ent_e⟩
  · exact ⟨(), ret_bool (decide_eq_false fun h => by omega), ent_e⟩
instance spec_ProofOk_ctr {Γ : List Atom} {v : Value} {ps : List SNode} [ha : HasRd (List SNode) repList Γ [v] ps] :
    CtrC Tryd.prog 65 [.agg #[v]] Γ (True) (Unit) (fun _ : Unit => .bool (decide (AllN ps ps.length ∧ 1 ≤ ps.length ∧ ps.length ≤ 64))) (fun _ => Γ) := ⟨fun s w0 => spec_ProofOk_spec⟩

end Go.Proofs.YtcaljjkmaffedaaDoor
