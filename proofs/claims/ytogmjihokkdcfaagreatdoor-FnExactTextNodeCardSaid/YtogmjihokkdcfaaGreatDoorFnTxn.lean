/- The law: a node is read from a text. -/
import Derived.Test.YtogmjihokkdcfaaGreatDoorTnF
import Derived.ProofKit
import Derived.LaidMore
import Derived.OpenShut
import Derived.Stop.Joined
import Derived.SevenTiedAt
namespace Go.Proofs.YtogmjihokkdcfaaGreatDoor
open Go Go.Eng Go.ChangeShapes Go.WideShapes Go.ChangeAt Go.RowKit
set_option linter.unusedVariables false
set_option linter.unusedSimpArgs false
set_option synthInstance.maxHeartbeats 400000
set_option synthInstance.maxSize 1000
set_option maxHeartbeats 2000000
set_option maxRecDepth 20000
/-- The wrap of a row that lists variables, the world's shape kept. -/
theorem wrap_laid_shaped {H : Type} {enc : TypeId × Value → H} {a : Assume} {C : Checked} {os : Os} {f : FuncId} {fn : Func} {s : ChangeSpec} {conds : List PathCond} {apart fresh handsOn again : Bool} {X : World → Array Value → Prop}
    (hX : ∀ (w w' : World) (args : Array Value), w.heap = w'.heap → X w args → X w' args) (own : ownKnob C.prog.godebug = none) (started : os.Started) (noInit : C.prog.inits.idxOf? f = none) (hfn : C.prog.funcs[f]? = some fn)
    (witness : ∃ (w : World) (tape : Tape) (i : Input), w.os = os ∧ (w.forCall tape i).Shaped C.prog ∧ i.vars = [] ∧ Input.okWide C.prog (w.forCall tape i) .any w.heap.size f i ∧
      ((s.pre enc C.prog fn conds apart (w.forCall tape i).memory i.args ∧ X (w.forCall tape i).memory i.args) ∧ sizedMet enc C.prog fn (OpenSpec.ofChange s) apart (w.forCall tape i).memory i.args) ∧ a.holds C.prog (lone (Frame.enter C.prog f i.args .normal) [] (w.forCall tape i)))
    (walk : ∀ (W : World) (base : Nat) (args : Array Value) (ds gs : List (DataW H)) (before : List MemPlace),
      (∀ (j : Nat) t v, fn.params[j]? = some t → args[j]? = some v → Value.okWide C.prog W .any base t v) → DataW.Whole enc C.prog fn.params.toList s.vars apart W args.toList ds gs before → X W args → W.ShapedOpen C.prog →
      Calls C.prog f args W fun e W' => ∃ v, e = .returned v ∧ s.post enc C.prog fn apart fresh handsOn again W args v W') :
    ReturnsInHanded a C os f .any (fun w args => (s.pre enc C.prog fn conds apart w args ∧ X w args) ∧ sizedMet enc C.prog fn (OpenSpec.ofChange s) apart w args) (s.post enc C.prog fn apart fresh handsOn again) := by
  refine returnsInHanded_of_calls own started noInit witness fun w tape i _ hsh _ hok hpre hholds => ?_
  obtain ⟨⟨⟨ds, gs, before, hw, hc⟩, hx⟩, hz⟩ := hpre
  obtain ⟨_, _, _, g, hg, _, _, _, _, hval⟩ := hok
  cases Option.some.inj (hg.symm.trans hfn)
  have hw1 := DataW.Whole.of_heap (w' := w.forCall tape i) (by rfl) hw
  refine (walk _ w.heap.size i.args ds gs before hval hw1 (hX _ _ _ (by rfl) hx) hsh).mono fun e W' ⟨v, he, hp⟩ => ?_
  rw [he]
  exact ChangeSpec.post_blind hp
theorem sumL_ints {m : Nat} : ∀ (xs : List (List Int)), (∀ s ∈ xs, s.length ≤ m) → sumL xs ≤ m * xs.length
  | [], _ => Nat.zero_le _
  | x :: xs, h => by
    have h1 := h x List.mem_cons_self
    have h2 := sumL_ints xs fun t ht => h t (List.mem_cons_of_mem _ ht)
    have h3 : Siz.size x = x.length := siz_ints x
    simp only [sumL, List.length_cons, Nat.mul_add, Nat.mul_one]
    omega
/-- The node of a text is small. -/
theorem tnV_small (a : List Int) (s : ByteArray) : (0 ≤ (tnV a s).1 ∧ (tnV a s).1 ≤ 12) ∧ cntL (tnV a s).2.1 ≤ 200 ∧ cntL (tnV a s).2.2.1 ≤ 8000 ∧ cntL (tnV a s).2.2.2 ≤ 64 ∧ (tnV a s).2.1.length ≤ 200 ∧ (tnV a s).2.2.1.length ≤ 61 ∧ (tnV a s).2.2.2.length ≤ 64 := by
  have key : ∀ n : SNode, (n = (0, [], [], []) ∨ nodeOk n 64 = true) → (0 ≤ n.1 ∧ n.1 ≤ 12) ∧ cntL n.2.1 ≤ 200 ∧ cntL n.2.2.1 ≤ 8000 ∧ cntL n.2.2.2 ≤ 64 ∧ n.2.1.length ≤ 200 ∧ n.2.2.1.length ≤ 61 ∧ n.2.2.2.length ≤ 64 := by
    rintro n (rfl | h)
    · exact ⟨⟨by decide, by decide⟩, by simp [cntL], by simp [cntL], by simp [cntL], by simp, by simp, by simp⟩
    · have hp : NodeP n 64 := of_decide_eq_true h
      obtain ⟨⟨_, h1, h2⟩, ⟨h3, h4, h5⟩, h6, h7⟩ := id hp
      have hb := cntL_le n.2.2.1
      rw [siz_list] at hb
      have hs := sumL_ints (m := 60) n.2.2.1 (fun t ht => by
        obtain ⟨i, hi, rfl⟩ := List.getElem_of_mem ht
        have := ndP60 hp hi
        rwa [List.getD_eq_getElem?_getD, List.getElem?_eq_getElem hi] at this)
      rw [cntL_ints, cntL_ints]
      refine ⟨by omega, by omega, by omega, by omega, h3, h4, h5⟩
  refine key _ ?_
  cases ht : tnO a s with
  | none => exact .inl (by unfold tnV; rw [ht]; rfl)
  | some n =>
    refine .inr ?_
    unfold tnV
    rw [ht, Option.getD_some]
    unfold tnO at ht
    split at ht
    · split at ht
      · rw [tnP] at ht
        split at ht
        · split at ht
          · rename_i h
            injection ht with ht
            rw [← ht]; exact h.2
          · cases ht
        · cases ht
      · cases ht
    · cases ht
set_option maxHeartbeats 0 in
set_option synthInstance.maxHeartbeats 400000 in
set_option synthInstance.maxSize 1000 in
theorem FnExactTextNode_law {w0 : World} {Γ : List Atom} {x0 : SSig} {x1 : ByteArray} {v0_0 : Value} [h0_0 : HasRd (List Int) repList Γ [v0_0] x0] {mm : Int} [hmx : HasRd (GI) repGI Γ [mxV] (GI.mk mm)] {ge1 ge2 : GE} [hes : HasRd (GE) repGE Γ [esV] ge1] [her : HasRd (GE) repGE Γ [erV] ge2] [htab : HasRd (Tab) repTab Γ [tabV] (Tab.mk Lib.pow10Tab)] (hf0 : x0.length ≤ 9223372036854775807) (hf1 : x1.size ≤ 9223372036854775807) :
    CJ Tryz.prog 3 [.agg #[v0_0], .string x1] w0 Γ (fun _ : Unit => .bool true) (fun _ => Γ) := by
  have hz0 := lft_spec 1048576 (Siz.size x0)
  have hb0_0 := cntL_le x0
  have hl0_0 := siz_ints x0
  have hn := tnV_small x0 x1
  refine cj_enter Tryz.func3 Tryz.ntmps3 ?_
  repeat' (first | refine red ?_ | refine redf fun hbi => ?_ | refine reds ?_ | refine redc fun r => ?_ | refine redp (fun r => ?_) (fun r => ?_) | refine redv fun sv => ?_ | refine redn fun b => ?_ | refine redz fun zs => ?_ | refine redq (fun hc => ?_) (fun hc => ?_) | with_reducible refine wq_blk_o rfl ?_ | (refine redi (fun hc => ?_) (fun hc => ?_) <;> try first | (exfalso; omega) | exact absurd rfl hc) | ((refine wa_begin 12 [false, false, false, false, false] [] ?_ <;> refine wa_p 0 ?_ <;> refine wa_p 1 ?_ <;> (refine wa_do 2 ?_ <;> (repeat' (first | refine red ?_ | refine redc fun r => ?_ | refine redv fun sv => ?_ | refine redf fun hbi => ?_ | refine redn fun b => ?_ | refine reds ?_ | refine redi (fun hc => ?_) (fun hc => ?_) | refine redq (fun hc => ?_) (fun hc => ?_) | refine redp (fun r => ?_) (fun r => ?_) | fail))) <;> (refine wa_do 3 ?_ <;> (repeat' (first | refine red ?_ | refine redc fun r => ?_ | refine redv fun sv => ?_ | refine redf fun hbi => ?_ | refine redn fun b => ?_ | refine reds ?_ | refine redi (fun hc => ?_) (fun hc => ?_) | refine redq (fun hc => ?_) (fun hc => ?_) | refine redp (fun r => ?_) (fun r => ?_) | fail))) <;> (first | refine wa_p 4 ?_ | refine wa_p0 4 ?_ | (refine wa_do 4 ?_ <;> (repeat' (first | refine red ?_ | refine redc fun r => ?_ | refine redv fun sv => ?_ | refine redf fun hbi => ?_ | refine redn fun b => ?_ | refine reds ?_ | refine redi (fun hc => ?_) (fun hc => ?_) | refine redq (fun hc => ?_) (fun hc => ?_) | refine redp (fun r => ?_) (fun r => ?_) | fail))) | fail)) <;> (first | refine wa_end ?_ | with_reducible refine wq_keep ?_)) | fail)
  all_goals exact ⟨(), rfl, ent_e⟩

end Go.Proofs.YtogmjihokkdcfaaGreatDoor
