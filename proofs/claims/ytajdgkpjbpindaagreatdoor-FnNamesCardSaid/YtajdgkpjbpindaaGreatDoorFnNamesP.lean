/- The law FnNames returns true for every input: from its contract (the walk) to its row. -/
import Derived.Test.YtajdgkpjbpindaaGreatDoorCards
import Derived.Test.YtajdgkpjbpindaaGreatDoorTie
import Derived.Test.YtajdgkpjbpindaaGreatDoorTbx
import Derived.ProofKit
import Derived.LaidMore
import Derived.OpenShut
import Derived.Stop.Joined
import Derived.SevenTiedAt
import Derived.Lay
import Derived.ChangeOld
import Derived.LaidSub
import Derived.Lib.SmallJoins
import Derived.MakeChecks
import Derived.Shelf.Vars
import Derived.Stop.LaidErr
import Derived.Test.YtajdgkpjbpindaaGreatDoorPA
import Derived.Test.YtajdgkpjbpindaaGreatDoorPB
import Derived.Test.YtajdgkpjbpindaaGreatDoorPC
set_option linter.unusedVariables false
set_option linter.unusedSimpArgs false
set_option linter.unusedSectionVars false
namespace Go.Eng
open Go Go.RowKit
end Go.Eng
namespace Go.Eng
open Go Go.RowKit Go.ChangeShapes Go.WideShapes
theorem calls_of_cj {P : Program} {f : FuncId} {vs : List Value} {W : World} {I Γ' : List Atom} (h : CJ P f vs W I (fun _ : Unit => .bool true) (fun _ => Γ')) (hs : Sat W W I) :
    Calls P f vs.toArray W fun e w' => e = .returned (.bool true) ∧ Below W.heap.size W w' :=
  (h W hs).mono fun e w' ⟨_, he, hs'⟩ => ⟨he, hs'.base.low⟩
theorem sat_nil (W : World) : Sat W W [] := ⟨lK.refl _ _, [], by simp, by simp, rfl⟩
theorem sat_cons {W : World} {I : List Atom} {V : Type} {iα : cB V} {cs : List Value} {x : V} (hr : cB.rd (fun _ => True) W cs x) (h : ∃ F, F = [] ∧ Sat W W I ∧ jT (· ∉ F) W I F) : ∃ F, F = [] ∧ Sat W W (.rd cs x :: I) ∧ jT (· ∉ F) W (.rd cs x :: I) F := by
  obtain ⟨F, rfl, hs, hsep⟩ := h
  have hr' : cB.rd (· ∉ ([] : List Nat)) W cs x := cB.rd_mono hr (fun _ _ _ => ⟨by simp, rfl⟩)
  have hsep' : jT (· ∉ ([] : List Nat)) W (.rd cs x :: I) [] := ⟨[], [], rfl, ⟨rfl, hr'⟩, hsep⟩
  exact ⟨[], rfl, ⟨hs.base, [], by simp, by simp, hsep'⟩, hsep'⟩
theorem sat_app {W : World} {I Y : List Atom} (hd : jT (fun _ => True) W Y []) (h : ∃ F, F = [] ∧ Sat W W I ∧ jT (· ∉ F) W I F) : ∃ F, F = [] ∧ Sat W W (Y ++ I) ∧ jT (· ∉ F) W (Y ++ I) F := by
  obtain ⟨F, rfl, hs, hsep⟩ := h
  have hd' : jT (· ∉ ([] : List Nat)) W Y [] := hd.mono (fun _ _ _ => ⟨by simp, rfl⟩) (Nat.le_refl _) (fun _ hb => by cases hb)
  have hsep' : jT (· ∉ ([] : List Nat)) W (Y ++ I) [] := by simpa using jT.append hsep hd'
  exact ⟨[], rfl, ⟨hs.base, [], by simp, by simp, hsep'⟩, hsep'⟩
theorem sat_start (W : World) : ∃ F, F = [] ∧ Sat W W [] ∧ jT (· ∉ F) W [] F := ⟨[], rfl, sat_nil W, rfl⟩
end Go.Eng
namespace Go.Proofs.YtajdgkpjbpindaaGreatDoor
open Go Go.Eng Go.ChangeShapes Go.WideShapes Go.ChangeAt Go.RowKit
theorem wrap_laid_shaped {H : Type} {enc : TypeId × Value → H} {a : Assume} {C : Checked} {os : Os} {f : FuncId} {fn : Func} {s : ChangeSpec} {conds : List PathCond} {apart fresh handsOn again : Bool} {X : World → Array Value → Prop}
    (hX : ∀ (w w' : World) (args : Array Value), w.heap = w'.heap → X w args → X w' args) (own : ownKnob C.prog.godebug = none) (started : os.Started) (noInit : C.prog.inits.idxOf? f = none) (hfn : C.prog.funcs[f]? = some fn)
    (witness : ∃ (w : World) (tape : Tape) (i : Input), w.os = os ∧ (w.forCall tape i).Shaped C.prog ∧ i.vars = [] ∧ Input.okWide C.prog (w.forCall tape i) .any w.heap.size f i ∧
      ((s.pre enc C.prog fn conds apart (w.forCall tape i).memory i.args ∧ X (w.forCall tape i).memory i.args) ∧ sizedMet enc C.prog fn (OpenSpec.ofChange s) apart (w.forCall tape i).memory i.args) ∧ a.holds C.prog (lone (Frame.enter C.prog f i.args .normal) [] (w.forCall tape i)))
    (walk : ∀ (W : World) (base : Nat) (args : Array Value) (ds gs : List (DataW H)) (before : List MemPlace),
      (∀ (j : Nat) t v, fn.params[j]? = some t → args[j]? = some v → Value.okWide C.prog W .any base t v) → DataW.Whole enc C.prog fn.params.toList s.vars apart W args.toList ds gs before → X W args → W.ShapedOpen C.prog →
      Calls C.prog f args W fun e W' => ∃ v, e = .returned v ∧ s.post enc C.prog fn apart fresh handsOn again W args v W') :
    ReturnsInHanded a C os f .any (fun w args => (s.pre enc C.prog fn conds apart w args ∧ X w args) ∧ sizedMet enc C.prog fn (OpenSpec.ofChange s) apart w args) (s.post enc C.prog fn apart fresh handsOn again) := by
  refine returnsInHanded_of_calls own started noInit witness fun w tape i _ hsh _ hok hpre hholds => ?_
  obtain ⟨⟨⟨ds, gs, before, hw, hc⟩, hx⟩, hz⟩ := hpre
  obtain ⟨_, _, _, g, hg, _, _, _, _, hval⟩ := hok
  cases Option.some.inj (hg.symm.trans hfn)
  have hw1 := DataW.Whole.of_heap (w' := w.forCall tape i) (by rfl) hw
  refine (walk _ w.heap.size i.args ds gs before hval hw1 (hX _ _ _ (by rfl) hx) hsh).mono fun e W' ⟨v, he, hp⟩ => ?_
  rw [he]
  exact ChangeSpec.post_blind hp
end Go.Proofs.YtajdgkpjbpindaaGreatDoor
namespace Go.Proofs.YtajdgkpjbpindaaGreatDoor
open Go Go.Eng
theorem tab_rd {W : World} {l : List (String × DataW Unit)} (h : laidMetH Tryz.prog l W) (hl : (l.filter fun x => x.1 == "internal/strconv.uint64pow10") = [("internal/strconv.uint64pow10", Lib.tabData .u64 Lib.pow10Tab)]) :
    @cB.rd Tab repTab (fun _ => True) W [tabV] (Tab.mk Lib.pow10Tab) := by
  have h1 := h.filter fun x => x.1 == "internal/strconv.uint64pow10"
  rw [hl, MakeChecks.laidMetH_plain _ _ _ (by kernel_rfl)] at h1
  have h2 := Lib.tabIs_of_head (P := Tryz.prog) (W := W) (name := "internal/strconv.uint64pow10") (k := .u64) (zs := Lib.pow10Tab) (rest := []) (g := 5) aS8 (t := 327) (e := 206) (n := 20) (by kernel_rfl) (by kernel_rfl) (by kernel_rfl) (by kernel_rfl) (by kernel_rfl) h1
  unfold Lib.TabIs World.var? at h2
  rw [aS8] at h2
  simp only [Option.bind_some] at h2
  split at h2
  · rename_i cs e fz he
    exact ⟨5, e, fz, rfl, trivial, by rw [he]; simp only [Option.some.injEq] at h2; rw [h2]⟩
  · exact absurd h2 (by simp)
end Go.Proofs.YtajdgkpjbpindaaGreatDoor
namespace Go.Proofs.YtajdgkpjbpindaaGreatDoor
open Go Go.Eng Go.RowKit
theorem mx_rd {W : World} (h : W.ShapedOpen Tryz.prog) : ∃ m, @cB.rd GI repGI (fun _ => True) W [mxV] (GI.mk m) := by
  obtain ⟨m, hm⟩ := cell_of_shapedOpen_int (P := Tryz.prog) (g := 0) (k := .i64) (zero := #[.int .i64 0]) h (of_decide_eq_true (by kernel_rfl)) (by kernel_rfl) (by kernel_rfl) (by kernel_rfl) (by kernel_rfl) (Tryz.underlying3)
  refine ⟨m, ?_⟩
  have h2 := hm
  unfold World.cell? at h2
  split at h2
  · rename_i cs e fz he
    exact ⟨0, cs, e, fz, rfl, trivial, he, hm⟩
  · cases h2
theorem ge_rd {W : World} {g : Nat} {t : TypeId} {p : Value} (h : W.cell? ⟨g, 0, none⟩ = some (.iface t p)) : @cB.rd GE repGE (fun _ => True) W [.pointer (some ⟨g, 0, none⟩)] (GE.mk t p) := by
  have h2 := h
  unfold World.cell? at h2
  split at h2
  · rename_i cs e fz he
    exact ⟨g, cs, e, fz, rfl, trivial, he, h⟩
  · cases h2
theorem err_row (u : TypeId) (h : Tryz.prog.typeName? 3 u = some "*errors.errorString") : u = 323 :=
  typeName_ptr_named (nm := "errors.errorString") (by rw [show "*" ++ "errors.errorString" = "*errors.errorString" by decide]; kernel_rfl) (by kernel_rfl) (by decide) u (by rw [show "*" ++ "errors.errorString" = "*errors.errorString" by decide]; exact h)
theorem es_rd {W : World} {l : List (String × DataW Unit)} (h : laidMetH Tryz.prog l W) {text : List UInt8} (hl : (l.filter fun x => x.1 == "strconv.ErrSyntax") = [("strconv.ErrSyntax", .iface "*errors.errorString" (.ptr (.agg [.lit (.string text)])))]) : ∃ x, @cB.rd GE repGE (fun _ => True) W [esV] x := by
  have h1 := h.filter fun x => x.1 == "strconv.ErrSyntax"
  rw [hl, MakeChecks.laidMetH_plain _ _ _ rfl] at h1
  obtain ⟨a0, s0, hv0, -, -, -⟩ := laid_sentinel (g := 3) (ti := 102) (tp := 323) (te := 325) (ts := 9) h1 (by kernel_rfl) (by kernel_rfl) Tryz.underlying102 err_row Tryz.underlying323 Tryz.underlying325 rfl rfl Tryz.underlying9 (by kernel_rfl) (by kernel_rfl)
  have h2 := World.var?_cell (g := 3) (by kernel_rfl) hv0 0
  exact ⟨_, ge_rd (by simpa using h2)⟩
theorem er_rd {W : World} {l : List (String × DataW Unit)} (h : laidMetH Tryz.prog l W) {text : List UInt8} (hl : (l.filter fun x => x.1 == "strconv.ErrRange") = [("strconv.ErrRange", .iface "*errors.errorString" (.ptr (.agg [.lit (.string text)])))]) : ∃ x, @cB.rd GE repGE (fun _ => True) W [erV] x := by
  have h1 := h.filter fun x => x.1 == "strconv.ErrRange"
  rw [hl, MakeChecks.laidMetH_plain _ _ _ rfl] at h1
  obtain ⟨a0, s0, hv0, -, -, -⟩ := laid_sentinel (g := 4) (ti := 102) (tp := 323) (te := 325) (ts := 9) h1 (by kernel_rfl) (by kernel_rfl) Tryz.underlying102 err_row Tryz.underlying323 Tryz.underlying325 rfl rfl Tryz.underlying9 (by kernel_rfl) (by kernel_rfl)
  have h2 := World.var?_cell (g := 4) (by kernel_rfl) hv0 0
  exact ⟨_, ge_rd (by simpa using h2)⟩
end Go.Proofs.YtajdgkpjbpindaaGreatDoor

namespace Go.Proofs.YtajdgkpjbpindaaGreatDoor.fnNames
open Go Go.Eng Go.ChangeShapes Go.WideShapes Go.ChangeAt Go.RowKit
set_option linter.unusedVariables false
theorem own : ownKnob Tryz.prog.godebug = none := by kernel_rfl
theorem laidOut : laidOutB Tryz.prog = true := by kernel_rfl
set_option maxRecDepth 100000 in
theorem lifted (os : Os) (started : os.Started) (H : Type) (enc : TypeId × Value → H) :
    ReturnsInHanded {} Tryz.checked os 3 .any (fun w args => (Rows.fnNamesSpec.pre enc Tryz.prog Tryz.f3 [] false w args ∧ laidMetH Tryz.prog Rows.fnNamesRow.laid w) ∧ sizedMet enc Tryz.prog Tryz.f3 (OpenSpec.ofChange Rows.fnNamesSpec) false w args) (Rows.fnNamesSpec.post enc Tryz.prog Tryz.f3 false true false false) := by
  refine wrap_laid_shaped (C := Tryz.checked) (X := fun w _ => laidMetH Tryz.prog Rows.fnNamesRow.laid w) (fun _ _ _ hh h => h.of_heap hh) own started (by kernel_rfl) Tryz.func3
    (ChangeSpec.witness_shaped (enc := enc) (C := Tryz.checked) (os := os) (X := fun w _ => laidMetH Tryz.prog Rows.fnNamesRow.laid w) false (World.laidAll Tryz.prog os Rows.fnNamesRow.laid) #[.slice none 0 0] 8 (World.laidAll_os _ _ _) (World.shaped_of_ZipB (by kernel_rfl) (by kernel_rfl)) (by kernel_rfl) (by kernel_rfl) (by kernel_rfl) (by rw [MakeChecks.laidMetH_plain _ _ _ (by kernel_rfl)]; exact laidMet_laidAll _ (by kernel_rfl) (by kernel_rfl))) ?_
  intro W base args ds gs before hval0 hW hL hSh
  have hval : ∀ (j : Nat) t v, Tryz.f3.params[j]? = some t → args[j]? = some v → Value.okWide Tryz.prog W .any base t v := hval0
  have hW' := hW
  obtain ⟨p, q, hA0, hV, rfl, hfz, hnd⟩ := hW
  have hA : DataW.TrodAll enc Tryz.prog W 0 (fun _ => true) true Tryz.f3.params.toList args.toList ds p := hA0
  rw [Tryz.params3] at hA hval
  obtain ⟨v0, vs0, d0, ds0, p0, q0, hargs, rfl, rfl, h0, r0⟩ := trodAll_cons hA
  obtain ⟨rfl, rfl, rfl⟩ := trodAll_nil r0
  obtain rfl : args = #[v0] := by cases args; simp_all
  obtain ⟨rfl, rfl⟩ := trodVars_none hV
  have k0 := h0
  have lt0 : ∀ x ∈ p0, x.block < W.heap.size := by obtain ⟨m, hm⟩ := k0; exact DataW.trod_lt m _ _ _ hm
  obtain ⟨u0, hu0⟩ := h0
  obtain ⟨x0, hx0⟩ := (inferInstance : Op_ Tryz.prog 22 _ _).rd hu0
  obtain ⟨z0, hc0, hs0, hf0⟩ := Un.law hx0
  obtain ⟨sa0, sl0, sc0, hv0⟩ := okWide_slice Tryz.underlying22 (hval 0 22 v0 rfl rfl)
  obtain rfl : z0 = v0 := by rw [hv0] at hc0 ⊢; simpa [Value.cells, eq_comm] using (show [Value.slice sa0 sl0 sc0] = [z0] from hc0)
  clear hA0 hval0
  obtain ⟨mm, hmx⟩ := mx_rd hSh
  obtain ⟨ge1, hge1⟩ := es_rd (text := [105, 110, 118, 97, 108, 105, 100, 32, 115, 121, 110, 116, 97, 120]) hL (by kernel_rfl)
  obtain ⟨ge2, hge2⟩ := er_rd (text := [118, 97, 108, 117, 101, 32, 111, 117, 116, 32, 111, 102, 32, 114, 97, 110, 103, 101]) hL (by kernel_rfl)
  obtain ⟨_, _, hst, _⟩ := sat_app hs0 (sat_cons hge1 (sat_cons hge2 (sat_cons (tab_rd hL (by kernel_rfl)) (sat_cons hmx (sat_start W)))))
  have hst' : Sat W W [.rd [z0] x0, @Atom.rd GE repGE [esV] ge1, @Atom.rd GE repGE [erV] ge2, @Atom.rd Tab repTab [tabV] (Tab.mk Lib.pow10Tab), @Atom.rd GI repGI [mxV] (GI.mk mm)] := hst
  refine (calls_of_cj (FnNames_law hf0) hst').mono fun e W' ⟨he, bel⟩ => ?_
  subst he
  exact ⟨_, rfl, _, _, _, [], _, [], hW', trodAll_mk1 (shut_bool Tryz.underlying4 _), (trodAll_cons_mk (Below.trod laidOut (by kernel_rfl) (of_decide_eq_true (by kernel_rfl)) k0 bel lt0) trodAll_mk0), rfl, bel.frame _, fun h => by cases h⟩
theorem and_t {a b : Bool} (h : a = true) (g : b = true) : (a && b) = true := by rw [h, g]; rfl
theorem closed : joinedFacts Tryz.prog 3 Tryz.f3 Rows.fnNamesSpec Rows.fnNamesRow = true := by
  unfold joinedFacts
  simp only [j1, j2, j3, j4, j5, j6, j7, j8, j9, j10, j11, j12, j13, j14, j15, j16, j17, j18, j19, j20, j21, j22, j23, j24, j25, j26, j27, j28, j30, j31, j32, Bool.and_self, Bool.and_true, Bool.true_and]
  kernel_rfl
theorem isInst : Tryz.f3.isInstance Tryz.pinned.checked.prog Rows.fnNamesRow.origin Rows.fnNamesRow.targs := of_decide_eq_true (by as_aux_lemma => kernel_rfl)
theorem named : Tryz.pinned.checked.prog.funcNamed Rows.fnNamesRow.func = some 3 := by kernel_rfl
theorem wrapped : Tryz.f3.isWrapper Tryz.pinned.checked.prog Rows.fnNamesRow.wrapper Rows.fnNamesRow.mainSum := by unfold Func.isWrapper; first | (rw [if_neg (by decide +kernel)]; exact ⟨rfl, rfl⟩) | (rw [if_pos (by decide +kernel)]; kernel_rfl)
theorem over : Rows.fnNamesRow.holds Tryz.pinned (OpenSpec.ofChange Rows.fnNamesSpec) :=
  OpenClaim.holds_of_wide 3 Tryz.f3 rfl rfl rfl rfl rfl rfl rfl ⟨rfl, rfl, rfl, rfl, rfl⟩ rfl rfl rfl rfl rfl named Tryz.func3 closed
    isInst wrapped
    (fun os started H enc _ => lifted os started H enc)
/-- The statement. -/
theorem proved : Rows.FnNamesCardSaid :=
  Claim7.holds_tied_plain_at .later [] [.data, .data, .data, .data, .sentinel, .sentinel, .pinned] true (true, "e0a2c1dfe25ed634a2b9c9cc83a4d190d0e09599bb526d88b9d51d299b1f0880") true
    over (fun _ h => by cases h) k1 (fun _ h => by cases h) fnNames_row_tie rfl ⟨rfl, rfl⟩ k2 rfl
    (fun f fn hf hfn => by
      obtain rfl : f = 3 := (Option.some.inj (named.symm.trans hf)).symm
      obtain rfl : fn = Tryz.f3 := (Option.some.inj (Tryz.func3.symm.trans hfn)).symm
      exact ⟨k4, fun j t ht => by
        rw [Tryz.params3] at ht
        have hm : t ∈ [22] := by simpa using Array.mem_of_getElem? ht
        obtain rfl : t = 22 := by simpa using hm
        exact k5⟩)
    k6
end Go.Proofs.YtajdgkpjbpindaaGreatDoor.fnNames
