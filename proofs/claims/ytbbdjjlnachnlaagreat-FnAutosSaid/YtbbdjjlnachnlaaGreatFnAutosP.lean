/- The law FnAutos returns true for every input: from its contract (the walk) to its row. -/
import Derived.Test.YtbbdjjlnachnlaaGreatRows
import Derived.Test.YtbbdjjlnachnlaaGreatFnAut
import Derived.Conc.Holds
import Derived.Leaving
namespace Go.Proofs.YtbbdjjlnachnlaaGreat.fnAutos
open Go Go.Eng Go.ChangeShapes Go.WideShapes Go.ChangeAt Go.RowKit
set_option linter.unusedVariables false
theorem own : ownKnob Tryz.prog.godebug = none := by kernel_rfl
theorem laidOut : laidOutB Tryz.prog = true := by kernel_rfl
set_option maxRecDepth 100000 in
theorem lifted (os : Os) (started : os.Started) (H : Type) (enc : TypeId × Value → H) :
    ReturnsInHanded {} Tryz.checked os 4 .any (Rows.fnAutosSpec.pre6 enc Tryz.prog Tryz.f4 Rows.fnAutosRow.domain false) (Rows.fnAutosSpec.post enc Tryz.prog Tryz.f4 false true false false) := by
  refine returnsInHanded_of_change (C := Tryz.checked) own started (by kernel_rfl) Tryz.func4
    (ChangeSpec.witness6 (enc := enc) (C := Tryz.checked) false ⟨#[], #[.slice none 0 0], []⟩ 8 (by kernel_rfl) (by kernel_rfl) (by kernel_rfl) (by kernel_rfl)) ?_
  intro W base args ds gs before hval0 hW hcnd _
  have hval : ∀ (j : Nat) t v, Tryz.f4.params[j]? = some t → args[j]? = some v → Value.okWide Tryz.prog W .any base t v := hval0
  have hW' := hW
  obtain ⟨p, q, hA0, hV, rfl, hfz, hnd⟩ := hW
  have hA : DataW.TrodAll enc Tryz.prog W 0 (fun _ => true) true Tryz.f4.params.toList args.toList ds p := hA0
  rw [Tryz.params4] at hA hval
  obtain ⟨v0, vs0, d0, ds0, p0, q0, hargs, rfl, rfl, h0, r0⟩ := trodAll_cons hA
  obtain ⟨rfl, rfl, rfl⟩ := trodAll_nil r0
  obtain rfl : args = #[v0] := by cases args; simp_all
  obtain ⟨rfl, rfl⟩ := trodVars_none hV
  have k0 := h0
  have lt0 : ∀ x ∈ p0, x.block < W.heap.size := by obtain ⟨m, hm⟩ := k0; exact DataW.trod_lt m _ _ _ hm
  obtain ⟨u0, hu0⟩ := h0
  obtain ⟨x0, hx0⟩ := (inferInstance : Op_ Tryz.prog 44 _ _).rd hu0
  obtain ⟨z0, hc0, hs0, hf0⟩ := Un.law hx0
  obtain ⟨sa0, sl0, sc0, hv0⟩ := okWide_slice Tryz.underlying44 (hval 0 44 v0 rfl rfl)
  obtain rfl : z0 = v0 := by rw [hv0] at hc0 ⊢; simpa [Value.cells, eq_comm] using (show [Value.slice sa0 sl0 sc0] = [z0] from hc0)
  clear hA0 hval0
  obtain ⟨_, _, hst, _⟩ := sat_app hs0 (sat_start W)
  have hst' : Sat W W [.rd [z0] x0] := hst
  refine (calls_of_cj (FnAutos_law hf0) hst').mono fun e W' ⟨he, bel⟩ => ?_
  subst he
  exact ⟨_, rfl, _, _, _, [], _, [], hW', trodAll_mk1 (shut_bool Tryz.underlying4 _), (trodAll_cons_mk (Below.trod laidOut (by kernel_rfl) (of_decide_eq_true (by kernel_rfl)) k0 bel lt0) trodAll_mk0), rfl, bel.frame _, fun h => by cases h⟩
theorem closed : joinedFacts Tryz.prog 4 Tryz.f4 Rows.fnAutosSpec Rows.fnAutosRow = true := by kernel_rfl
theorem named : Tryz.pinned.checked.prog.funcNamed Rows.fnAutosRow.func = some 4 := by kernel_rfl
theorem wrapped : Tryz.f4.isWrapper Tryz.pinned.checked.prog Rows.fnAutosRow.wrapper Rows.fnAutosRow.mainSum := by unfold Func.isWrapper; first | (rw [if_neg (by decide +kernel)]; exact ⟨rfl, rfl⟩) | (rw [if_pos (by decide +kernel)]; kernel_rfl)
/-- Where nobody else is left, nobody else does more than leave. -/
theorem leaves {a : Assume} {C : Checked} {os : Os} {f : FuncId} {r : Reach} {Pre : World → Array Value → Prop} {Post : World → Array Value → Value → World → Prop} (h : ReturnsInHanded a C os f r Pre Post) : ReturnsInLeavingWide a C os f r Pre Post :=
  fun enter => ReturnsInOpen.mono (fun _ _ _ x => ⟨x.2.1, onlyLeaving_of_quiet x.1, x.2.2⟩) (fun _ x => x) (h enter)
theorem over : Rows.fnAutosRow.holds Tryz.pinned (OpenSpec.ofChange Rows.fnAutosSpec) :=
  OpenClaim.holds_of_wide_leaving 4 Tryz.f4 rfl rfl rfl rfl rfl rfl rfl ⟨rfl, rfl, rfl, rfl, rfl⟩ rfl rfl rfl rfl rfl named Tryz.func4 closed
    (of_decide_eq_true (by as_aux_lemma => kernel_rfl)) wrapped
    (fun os started H enc _ => leaves (lifted os started H enc))
/-- The statement. -/
theorem proved : Rows.FnAutosSaid := over
end Go.Proofs.YtbbdjjlnachnlaaGreat.fnAutos
