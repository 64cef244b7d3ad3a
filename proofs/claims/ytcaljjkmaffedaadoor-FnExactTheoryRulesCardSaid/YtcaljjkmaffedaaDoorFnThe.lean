/- The laws FnExactTheoryEqs and FnExactTheoryRules. -/
import Derived.Test.YtcaljjkmaffedaaDoorTheoE
import Derived.HandedShaped
namespace Go.Proofs.YtcaljjkmaffedaaDoor
open Go Go.Eng Go.RowKit
set_option linter.unusedVariables false
set_option linter.unusedSimpArgs false
set_option synthInstance.maxHeartbeats 400000
set_option synthInstance.maxSize 1000
set_option maxHeartbeats 2000000
set_option maxRecDepth 20000
/-- The wrap of a row that lists variables, the world's shape kept. -/
theorem wrap_laid_shaped {H : Type} {enc : TypeId × Value → H} {a : Assume} {C : Checked} {os : Os} {f : FuncId} {fn : Func} {s : ChangeSpec} {conds : List PathCond} {apart fresh handsOn again : Bool} {X : World → Array Value → Prop}
    (hX : ∀ (w w' : World) (args : Array Value), w.heap = w'.heap → X w args → X w' args) (own : ownKnob C.prog.godebug = none) (started : os.Started) (noInit : C.prog.inits.idxOf? f = none) (hfn : C.prog.funcs[f]? = some fn)
    (witness : ∃ (w : World) (tape : Tape) (i : Input), w.os = os ∧ (w.forCall tape i).Shaped C.prog ∧ i.vars = [] ∧ Input.okWide C.prog (w.forCall tape i) .any w.heap.size f i ∧
      ((s.pre enc C.prog fn conds apart (w.forCall tape i).memory i.args ∧ X (w.forCall tape i).memory i.args) ∧ sizedMet enc C.prog fn (OpenSpec.ofChange s) apart (w.forCall tape i).memory i.args) ∧ a.holds C.prog (lone (Frame.enter C.prog f i.args .normal) [] (w.forCall tape i)))
    (walk : ∀ (W : World) (base : Nat) (args : Array Value) (ds gs : List (DataW H)) (before : List MemPlace),
      (∀ (j : Nat) t v, fn.params[j]? = some t → args[j]? = some v → Value.okWide C.prog W .any base t v) → DataW.Whole enc C.prog fn.params.toList s.vars apart W args.toList ds gs before → X W args → W.ShapedOpen C.prog →
      Calls C.prog f args W fun e W' => ∃ v, e = .returned v ∧ s.post enc C.prog fn apart fresh handsOn again W args v W') :
    ReturnsInHanded a C os f .any (fun w args => (s.pre enc C.prog fn conds apart w args ∧ X w args) ∧ sizedMet enc C.prog fn (OpenSpec.ofChange s) apart w args) (s.post enc C.prog fn apart fresh handsOn again) := by
  refine returnsInHanded_of_calls own started noInit witness fun w tape i _ hsh _ hok hpre hholds => ?_
  obtain ⟨⟨⟨ds, gs, before, hw, hc⟩, hx⟩, hz⟩ := hpre
  obtain ⟨_, _, _, g, hg, _, _, _, _, hval⟩ := hok
  cases Option.some.inj (hg.symm.trans hfn)
  have hw1 := DataW.Whole.of_heap (w' := w.forCall tape i) (by rfl) hw
  refine (walk _ w.heap.size i.args ds gs before hval hw1 (hX _ _ _ (by rfl) hx) hsh).mono fun e W' ⟨v, he, hp⟩ => ?_
  rw [he]
  exact ChangeSpec.post_blind hp
def thS (k : Int) : SSystem := if 0 ≤ k ∧ k < 7 then ([2, 1, 0], thE k ++ thM k) else ([], [])
theorem thE_out {k : Int} (h : ¬ (0 ≤ k ∧ k < 7)) : thE k = [] := thE7 (by omega) (by omega) (by omega) (by omega) (by omega) (by omega) (by omega)
theorem thS_1 (k : Int) : (thS k).1 = if 0 ≤ k ∧ k < 7 then ([2, 1, 0] : List Int) else [] := by unfold thS; split <;> rfl
theorem thS_2 (k : Int) : (thS k).2 = if 0 ≤ k ∧ k < 7 then (thE k ++ thM k : List SRule) else [] := by unfold thS; split <;> rfl
theorem thR_in {k : Int} (h : 0 ≤ k ∧ k < 7) : thR k.toNat = thE k ++ thM k := by
  have := thR_eq ⟨k.toNat, by omega⟩
  simp only [show ((k.toNat : Nat) : Int) = k by omega] at this
  exact this
theorem thE_in {k : Int} (h : 0 ≤ k ∧ k < 7) : (thR k.toNat).take (thTx k.toNat).2 = thE k := by
  have := thE_eq ⟨k.toNat, by omega⟩
  simp only [show ((k.toNat : Nat) : Int) = k by omega] at this
  exact this
theorem impl_TheoryEqsE_spec {w0 : World} {Γ : List Atom} {k m : Int} [hg : HasRd (GI) repGI Γ [mxV] (GI.mk m)] :
    CJ Tryd.prog 8 [.int .i64 k] w0 Γ (fun q : Value => q) (fun q => .ow [q] (thE k) :: Γ) := by
  have h := impl_TheoryEqs_spec (w0 := w0) (Γ := Γ) (k := k) (m := m)
  by_cases hk : 0 ≤ k ∧ k < 7
  · rw [if_pos hk, thE_in hk] at h
    exact h
  · rw [if_neg hk] at h
    rw [thE_out hk]
    exact h
instance impl_TheoryEqsE_ctr {Γ : List Atom} {k m : Int} [hg : HasRd (GI) repGI Γ [mxV] (GI.mk m)] :
    CtrC Tryd.prog 8 [.int .i64 k] Γ (True) (Value) (fun q : Value => q) (fun q => .ow [q] (thE k) :: Γ) := ⟨fun s w0 => impl_TheoryEqsE_spec⟩

theorem impl_TheoryRulesS_spec {w0 : World} {Γ : List Atom} {k m : Int} [hg : HasRd (GI) repGI Γ [mxV] (GI.mk m)] :
    CJ Tryd.prog 13 [.int .i64 k] w0 Γ (fun q : Value × Value => .agg #[q.1, q.2]) (fun q => .ow [q.1] (thS k).1 :: .ow [q.2] (thS k).2 :: Γ) := by
  have h := impl_TheoryRules_spec (w0 := w0) (Γ := Γ) (k := k) (m := m)
  rw [thS_1, thS_2]
  by_cases hk : 0 ≤ k ∧ k < 7
  · rw [if_pos hk, if_pos hk, thR_in hk] at h
    rw [if_pos hk, if_pos hk]
    exact h
  · rw [if_neg hk, if_neg hk] at h
    rw [if_neg hk, if_neg hk]
    exact h
instance impl_TheoryRulesS_ctr {Γ : List Atom} {k m : Int} [hg : HasRd (GI) repGI Γ [mxV] (GI.mk m)] :
    CtrC Tryd.prog 13 [.int .i64 k] Γ (True) (Value × Value) (fun q : Value × Value => .agg #[q.1, q.2]) (fun q => .ow [q.1] (thS k).1 :: .ow [q.2] (thS k).2 :: Γ) := ⟨fun s w0 => impl_TheoryRulesS_spec⟩

theorem spec_TheoryRulesS_spec {w0 : World} {Γ : List Atom} {k : Int} : CJ Tryd.prog 12 [.int .i64 k] w0 Γ (fun q : Value × Value => .agg #[q.1, q.2]) (fun q => .ow [q.1] (thS k).1 :: .ow [q.2] (thS k).2 :: Γ) := by
  rw [thS_1, thS_2]
  exact spec_TheoryRules_spec
instance spec_TheoryRulesS_ctr {Γ : List Atom} {k : Int} :
    CtrC Tryd.prog 12 [.int .i64 k] Γ (True) (Value × Value) (fun q : Value × Value => .agg #[q.1, q.2]) (fun q => .ow [q.1] (thS k).1 :: .ow [q.2] (thS k).2 :: Γ) := ⟨fun s w0 => spec_TheoryRulesS_spec⟩

attribute [local instance 2000] impl_TheoryEqsE_ctr impl_TheoryRulesS_ctr spec_TheoryRulesS_ctr
theorem thE_cnt : ∀ n : Fin 7, cntL (thE (n.val : Int)) ≤ 1000 ∧ cntL (thE (n.val : Int) ++ thM (n.val : Int) : List SRule) ≤ 1000 := by decide +kernel
theorem thE_cn (k : Int) : cntL (thE k) ≤ 1000 := by
  by_cases hk : 0 ≤ k ∧ k < 7
  · have := (thE_cnt ⟨k.toNat, by omega⟩).1
    simp only [show ((k.toNat : Nat) : Int) = k by omega] at this
    exact this
  · rw [thE_out hk]; decide
set_option maxHeartbeats 0 in
set_option synthInstance.maxHeartbeats 400000 in
set_option synthInstance.maxSize 1000 in
theorem FnExactTheoryEqs_law {w0 : World} {Γ : List Atom} {x0 : Int} {mm : Int} [hmx : HasRd (GI) repGI Γ [mxV] (GI.mk mm)] (hf0 : -9223372036854775808 ≤ x0 ∧ x0 ≤ 9223372036854775807) :
    CJ Tryd.prog 3 [.int .i64 x0] w0 Γ (fun _ : Unit => .bool true) (fun _ => Γ) := by
  have hct := thE_cn x0
  refine cj_enter Tryd.func3 Tryd.ntmps3 ?_
  repeat' (first | refine red ?_ | refine redf fun hbi => ?_ | refine reds ?_ | refine redc fun r => ?_ | refine redp (fun r => ?_) (fun r => ?_) | refine redv fun sv => ?_ | refine redn fun b => ?_ | refine redz fun zs => ?_ | refine redq (fun hc => ?_) (fun hc => ?_) | with_reducible refine wq_blk_o rfl ?_ | (refine redi (fun hc => ?_) (fun hc => ?_) <;> try first | (exfalso; omega) | exact absurd rfl hc) | fail)
  all_goals exact ⟨(), rfl, ent_e⟩

theorem thS_cn (k : Int) : cntL (thS k).1 ≤ 1000 ∧ cntL (thS k).2 ≤ 1000 := by
  rw [thS_1, thS_2]
  by_cases hk : 0 ≤ k ∧ k < 7
  · have := (thE_cnt ⟨k.toNat, by omega⟩).2
    simp only [show ((k.toNat : Nat) : Int) = k by omega] at this
    rw [if_pos hk, if_pos hk]
    exact ⟨by decide, this⟩
  · rw [if_neg hk, if_neg hk]; decide
set_option maxHeartbeats 0 in
set_option synthInstance.maxHeartbeats 400000 in
set_option synthInstance.maxSize 1000 in
theorem FnExactTheoryRules_law {w0 : World} {Γ : List Atom} {x0 : Int} {mm : Int} [hmx : HasRd (GI) repGI Γ [mxV] (GI.mk mm)] (hf0 : -9223372036854775808 ≤ x0 ∧ x0 ≤ 9223372036854775807) :
    CJ Tryd.prog 4 [.int .i64 x0] w0 Γ (fun _ : Unit => .bool true) (fun _ => Γ) := by
  have hct := thS_cn x0
  refine cj_enter Tryd.func4 Tryd.ntmps4 ?_
  repeat' (first | refine red ?_ | refine redf fun hbi => ?_ | refine reds ?_ | refine redc fun r => ?_ | refine redp (fun r => ?_) (fun r => ?_) | refine redv fun sv => ?_ | refine redn fun b => ?_ | refine redz fun zs => ?_ | refine redq (fun hc => ?_) (fun hc => ?_) | with_reducible refine wq_blk_o rfl ?_ | (refine redi (fun hc => ?_) (fun hc => ?_) <;> try first | (exfalso; omega) | exact absurd rfl hc) | fail)
  all_goals exact ⟨(), rfl, ent_e⟩

end Go.Proofs.YtcaljjkmaffedaaDoor
