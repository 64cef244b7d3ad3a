/- The law FnExactTheoryRules returns true for every input: from its contract (the walk) to its row. -/
import Derived.Test.YtcaljjkmaffedaaDoorCards
import Derived.Test.YtcaljjkmaffedaaDoorTie
import Derived.Test.YtcaljjkmaffedaaDoorFnThe
import Derived.ProofKit
import Derived.LaidMore
import Derived.OpenShut
import Derived.Stop.Joined
import Derived.SevenTiedAt
namespace Go.Proofs.YtcaljjkmaffedaaDoor.fnExactTheoryRules
open Go Go.Eng Go.ChangeShapes Go.WideShapes Go.ChangeAt Go.RowKit
set_option linter.unusedVariables false
theorem own : ownKnob Tryd.prog.godebug = none := by kernel_rfl
theorem laidOut : laidOutB Tryd.prog = true := by kernel_rfl
theorem door_met (os : Os) (args : Array Value) : laidMetH Tryd.prog Rows.fnExactTheoryRulesRow.laid ((World.doorLaid Tryd.prog 24 os).forCall (fun _ _ => 0) ⟨#[], args, []⟩).memory :=
  laidMetH_of_parts3 (fuel := 8) (laidMet_of_run' 8 (by kernel_rfl) (by kernel_rfl)) (by kernel_rfl) (by kernel_rfl)
set_option maxRecDepth 100000 in
theorem lifted (os : Os) (started : os.Started) (H : Type) (enc : TypeId × Value → H) :
    ReturnsInHanded {} Tryd.checked os 4 .any (fun w args => (Rows.fnExactTheoryRulesSpec.pre enc Tryd.prog Tryd.f4 [] false w args ∧ laidMetH Tryd.prog Rows.fnExactTheoryRulesRow.laid w) ∧ sizedMet enc Tryd.prog Tryd.f4 (OpenSpec.ofChange Rows.fnExactTheoryRulesSpec) false w args) (Rows.fnExactTheoryRulesSpec.post enc Tryd.prog Tryd.f4 false true false false) := by
  refine wrap_laid_shaped (C := Tryd.checked) (X := fun w _ => laidMetH Tryd.prog Rows.fnExactTheoryRulesRow.laid w) (fun _ _ _ hh h => h.of_heap hh) own started (by kernel_rfl) Tryd.func4
    (ChangeSpec.witness_shaped (enc := enc) (C := Tryd.checked) (os := os) (X := fun w _ => laidMetH Tryd.prog Rows.fnExactTheoryRulesRow.laid w) false (World.doorLaid Tryd.prog 24 os) #[.int .i64 (0)] 8 rfl (World.shaped_of_RefB (by kernel_rfl) (by kernel_rfl)) (by kernel_rfl) (by kernel_rfl) (by kernel_rfl) (door_met os _)) ?_
  intro W base args ds gs before hval0 hW hL hSh
  have hval : ∀ (j : Nat) t v, Tryd.f4.params[j]? = some t → args[j]? = some v → Value.okWide Tryd.prog W .any base t v := hval0
  have hW' := hW
  obtain ⟨p, q, hA0, hV, rfl, hfz, hnd⟩ := hW
  have hA : DataW.TrodAll enc Tryd.prog W 0 (fun _ => true) true Tryd.f4.params.toList args.toList ds p := hA0
  rw [Tryd.params4] at hA hval
  obtain ⟨v0, vs0, d0, ds0, p0, q0, hargs, rfl, rfl, h0, r0⟩ := trodAll_cons hA
  obtain ⟨rfl, rfl, rfl⟩ := trodAll_nil r0
  obtain rfl : args = #[v0] := by cases args; simp_all
  obtain ⟨rfl, rfl⟩ := trodVars_none hV
  have k0 := h0
  have lt0 : ∀ x ∈ p0, x.block < W.heap.size := by obtain ⟨m, hm⟩ := k0; exact DataW.trod_lt m _ _ _ hm
  obtain ⟨u0, hu0⟩ := h0
  obtain ⟨x0, hx0⟩ := (inferInstance : Op_ Tryd.prog 2 _ _).rd hu0
  obtain ⟨z0, hc0, hs0, hf0⟩ := Un.law hx0
  obtain ⟨n0, rfl⟩ := okWide_int Tryd.underlying2 (hval 0 2 v0 rfl rfl)
  obtain rfl : n0 = x0 := by simpa [Value.cells] using (show [Value.int .i64 n0] = [Value.int .i64 x0] from hc0)
  clear hA0 hval0
  obtain ⟨mm, hmx⟩ := mx_rd hSh
  obtain ⟨_, _, hst, _⟩ := sat_app hs0 (sat_cons hmx (sat_start W))
  have hst' : Sat W W [@Atom.rd GI repGI [mxV] (GI.mk mm)] := hst
  refine (calls_of_cj (FnExactTheoryRules_law hf0) hst').mono fun e W' ⟨he, bel⟩ => ?_
  subst he
  exact ⟨_, rfl, _, _, _, [], _, [], hW', trodAll_mk1 (shut_bool Tryd.underlying4 _), (trodAll_cons_mk (Below.trod laidOut (by kernel_rfl) (of_decide_eq_true (by kernel_rfl)) k0 bel lt0) trodAll_mk0), rfl, bel.frame _, fun h => by cases h⟩
theorem closed : joinedFacts Tryd.prog 4 Tryd.f4 Rows.fnExactTheoryRulesSpec Rows.fnExactTheoryRulesRow = true := by kernel_rfl
theorem named : Tryd.pinned.checked.prog.funcNamed Rows.fnExactTheoryRulesRow.func = some 4 := by kernel_rfl
theorem wrapped : Tryd.f4.isWrapper Tryd.pinned.checked.prog Rows.fnExactTheoryRulesRow.wrapper Rows.fnExactTheoryRulesRow.mainSum := by unfold Func.isWrapper; first | (rw [if_neg (by decide +kernel)]; exact ⟨rfl, rfl⟩) | (rw [if_pos (by decide +kernel)]; kernel_rfl)
theorem over : Rows.fnExactTheoryRulesRow.holds Tryd.pinned (OpenSpec.ofChange Rows.fnExactTheoryRulesSpec) :=
  OpenClaim.holds_of_wide 4 Tryd.f4 rfl rfl rfl rfl rfl rfl rfl ⟨rfl, rfl, rfl, rfl, rfl⟩ rfl rfl rfl rfl rfl named Tryd.func4 closed
    (of_decide_eq_true (by as_aux_lemma => kernel_rfl)) wrapped
    (fun os started H enc _ => lifted os started H enc)
/-- The statement. -/
theorem proved : Rows.FnExactTheoryRulesCardSaid :=
  Claim7.holds_tied_plain_at .later [] [.data, .data, .data] true (true, "8b3fd4f8292f7b5eca3a86040b3d9c014cfcb8b49e55de913cd12f39e09d86b5") false
    over (fun _ h => by cases h) (by kernel_rfl) (fun _ h => by cases h) fnExactTheoryRules_row_tie rfl ⟨rfl, rfl⟩ (by kernel_rfl) rfl
    (fun f fn hf hfn => by
      obtain rfl : f = 4 := Option.some.inj ((show Tryd.prog.funcNamed Rows.fnExactTheoryRulesRow.func = some 4 by kernel_rfl).symm.trans hf) |>.symm
      obtain rfl : fn = Tryd.f4 := (Option.some.inj (Tryd.func4.symm.trans hfn)).symm
      exact ⟨by kernel_rfl, fun j t ht => by
        rw [Tryd.params4] at ht
        have hm : t ∈ [2] := by simpa using Array.mem_of_getElem? ht
        have hall : ([2].all fun u => !Tryd.prog.wantsStandIn u) = true := by kernel_rfl
        exact (show Tryd.prog.wantsStandIn t = false by simpa using List.all_eq_true.1 hall t hm)⟩)
    (by kernel_rfl)
end Go.Proofs.YtcaljjkmaffedaaDoor.fnExactTheoryRules
