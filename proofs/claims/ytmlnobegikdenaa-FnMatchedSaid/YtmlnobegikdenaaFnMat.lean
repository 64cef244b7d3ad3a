/- The law FnMatched: the walk. -/
import Derived.Test.YtmlnobegikdenaaFnMat0
namespace Go.Proofs.Ytmlnobegikdenaa
open Go Go.Eng
set_option linter.unusedVariables false
set_option linter.unusedSimpArgs false
set_option synthInstance.maxHeartbeats 400000
set_option synthInstance.maxSize 1000
set_option maxHeartbeats 4000000

theorem FnMatched_spec {w0 : World} {Γ : List Atom} {v : Value} {code : List UInt8} [hv : HasRd (List UInt8) repList Γ [v] code] :
    CJ Try.prog 4 [v] w0 Γ (fun _ : Unit => .bool true) (fun _ => Γ) := by
  refine cj_enter Try.func4 Try.ntmps4 ?_
  repeat' (first
    | refine red ?_
    | refine redf fun hbi => ?_
    | refine reds ?_
    | (refine redc fun r => ?_; try have hr := Subtype.property r)
    | refine redp (fun r => ?_) (fun r => ?_)
    | refine redv fun sv => ?_
    | refine redn fun b => ?_
    | refine redz fun zs => ?_
    | refine redq (fun hc => ?_) (fun hc => ?_)
    | with_reducible refine wq_blk_o rfl ?_
    | (refine redd fun p cs as_ hcs has hf => ?_; simp only [Un.cells, Un.atoms, Un.fact, List.cons_append, List.nil_append] at hcs has hf; subst hcs has)
    | (refine redi (fun hc => ?_) (fun hc => ?_) <;> try first | (exfalso; omega) | exact absurd rfl hc)
    | fail)
  · exact ⟨(), rfl, ent_e⟩
  · have hm := matched_sub hc
    have hm1 := hm.1
    refine redc (fun r => ?_) hm1
    repeat' (first
      | refine red ?_
      | refine redf fun hbi => ?_
      | refine reds ?_
      | (refine redc fun r => ?_; try have hr := Subtype.property r)
      | refine redp (fun r => ?_) (fun r => ?_)
      | refine redv fun sv => ?_
      | refine redn fun b => ?_
      | refine redz fun zs => ?_
      | refine redq (fun hc => ?_) (fun hc => ?_)
      | with_reducible refine wq_blk_o rfl ?_
      | (refine redd fun p cs as_ hcs has hf => ?_; simp only [Un.cells, Un.atoms, Un.fact, List.cons_append, List.nil_append] at hcs has hf; subst hcs has)
      | (refine redi (fun hc => ?_) (fun hc => ?_) <;> try first | (exfalso; omega) | exact absurd rfl hc)
      | fail)
    all_goals first
      | exact Bool.noConfusion (hc : true = false)
      | exact (inst_fill (by assumption) hc).elim
      | exact Bool.noConfusion (hc.symm.trans (by assumption : (matchedOf _ _ _).isSome = true))
      | (rw [hm.2] at hc; cases hc; done)
      | (rw [hm.2]; exact ⟨(), ret_bool (by simp), ent_e⟩)
      | skip
  all_goals first
    | exact (inst_fill (by assumption) hc).elim
    | exact Bool.noConfusion ((by assumption : (matchedOf _ _ _).isSome = false).symm.trans hc)
    | exact ⟨(), ret_bool (by unfold instanceIn; rw [hc]; rfl), ent_e⟩
    | exact Bool.noConfusion ((by assumption : (matchedOf _ _ _).isSome = false).symm.trans (by assumption : (matchedOf _ _ _).isSome = true))
instance FnMatched_ctr {Γ : List Atom} {v : Value} {code : List UInt8} [hv : HasRd (List UInt8) repList Γ [v] code] :
    CtrC Try.prog 4 [v] Γ (True) (Unit) (fun _ : Unit => .bool true) (fun _ => Γ) := ⟨fun s w0 => FnMatched_spec⟩

theorem FnMatched_law {w0 : World} {Γ : List Atom} {x0 : List UInt8} {v0_0 : Value} [h0_0 : HasRd (List UInt8) repList Γ [v0_0] x0] (hf0 : x0.length ≤ 9223372036854775807) :
    CJ Try.prog 4 [v0_0] w0 Γ (fun _ : Unit => .bool true) (fun _ => Γ) := FnMatched_spec
end Go.Proofs.Ytmlnobegikdenaa
