/- Maps of the call's own. -/
import Derived.Test.YtbbdjjlnachnlaaGreatDoorL02m
import Derived.Maps.OwnSet
import Derived.WideKeyMaps
import Derived.Test.YtbbdjjlnachnlaaGreatDoorEngX
import Derived.Test.YtbbdjjlnachnlaaGreatDoorInst
import Derived.Laws.Externs
import Derived.Test.YtbbdjjlnachnlaaGreatDoorTerm
namespace Go.Eng
open Go Go.RowKit Go.Maps
set_option linter.unusedVariables false
set_option linter.unusedSimpArgs false
/-- What keys are. -/
class Ky (κ : Type) where
  dec : DecidableEq κ
  v : κ → Value
  l : κ → Lit
  ok : κ → Prop
  inj : ∀ a b, ok a → ok b → l a = l b → a = b
instance {κ : Type} [h : Ky κ] : DecidableEq κ := h.dec
class KyP (P : Program) (k : TypeId) (κ : Type) [Ky κ] : Prop where
  keyed : Keyed P k
  key : ∀ a : κ, Ky.ok a → keyOf P k (Ky.v a) = some (Ky.l a)
/-- A value that is a key. -/
class KeyIs (κ : Type) [Ky κ] (v : Value) (q : outParam κ) : Prop where
  eq : v = Ky.v q
/-- A map: at most n entries; what it holds. -/
structure Mp (P : Program) (k : TypeId) (κ : Type) where
  n : Nat
  f : κ → Option Value
def heldR (v : Value) : Option (DataW Value × List MemPlace) := some (.held v, [])
def MpAt {P : Program} {k : TypeId} {κ : Type} [Ky κ] (w : World) (b : Nat) (x : Mp P k κ) : Prop :=
  ∃ D : DataW Value, w.ownsMap P k heldR b x.n D ∧ ∀ q : κ, Ky.ok q → (∀ z : Value, D.atKey (Ky.l q) (.held z) = .held ((x.f q).getD z)) ∧ Maps.has D (Ky.l q) = (x.f q).isSome
theorem MpAt.same {P : Program} {k : TypeId} {κ : Type} [Ky κ] {w w' : World} {b : Nat} {x : Mp P k κ} (h : MpAt w b x) (hs : SameB w w' b) : MpAt w' b x := by
  obtain ⟨D, ⟨es, clock, hb, hF, hn, hD⟩, hq⟩ := h
  exact ⟨D, ⟨es, clock, hs.trans hb, hF, hn, hD⟩, hq⟩
theorem MpAt.lt {P : Program} {k : TypeId} {κ : Type} [Ky κ] {w : World} {b : Nat} {x : Mp P k κ} (h : MpAt w b x) : b < w.heap.size := by
  obtain ⟨D, h, _⟩ := h
  exact h.lt
instance repMp {P : Program} {k : TypeId} {κ : Type} [Ky κ] : Rep (Mp P k κ) where
  sz := 1
  rd ok w cells x := ∃ b, cells = [.map (some b)] ∧ ok b ∧ MpAt w b x
  ow _ w F cells x := ∃ b, cells = [.map (some b)] ∧ F = [b] ∧ MpAt w b x
  pos := by decide
  rd_len := by rintro _ _ _ _ ⟨b, rfl, _⟩; rfl
  rd_one := by rintro _ _ _ _ ⟨b, rfl, _⟩ x hx; simp at hx; subst hx; rfl
  rd_mono := by
    rintro _ _ _ _ _ _ ⟨b, h1, h2, h3⟩ hm
    have := hm b h2 h3.lt
    exact ⟨b, h1, this.1, h3.same this.2⟩
  ow_mono := by
    rintro _ _ _ _ _ _ _ ⟨b, h1, h2, h3⟩ hf _
    exact ⟨b, h1, h2, h3.same (hf b (by simp [h2]))⟩
  ow_rd := by
    rintro _ _ _ _ _ x ⟨b, h1, h2, h3⟩ _ ho
    exact ⟨b, h1, ho b (by simp [h2]), h3⟩
  ow_lt := by
    rintro _ _ _ _ _ ⟨_, _, rfl, h3⟩ b hb
    simp at hb; subst hb; exact h3.lt
/-- One entry more. -/
def upd {κ : Type} [Ky κ] (f : κ → Option Value) (q : κ) (v : Value) : κ → Option Value := fun a => if a = q then some v else f a
/-- What stands at a key. -/
class MapAt {κ : Type} [Ky κ] (f : κ → Option Value) (q : κ) (v : outParam (Option Value)) : Prop where
  eq : f q = v
/-- T is a map from k to e, whose zero is z. -/
class MpT (P : Program) (T : TypeId) (k : outParam TypeId) (z : outParam Value) : Prop where
  ex : ∃ e, P.underlying T = some (.map k e) ∧ ∀ w, (zeroValue e).run P w = .ok z w
section
variable {P : Program} {ops : Array Oper} {Q : Exit → Act → World → Prop} {w0 : World} {rest : List Oper} {l l' : List Value} {Γ Γb Δ Ε : List Atom} {ty : TypeId} {pos : String} {after : Array Edge} {d : Nat}
theorem wl_makeMap {T k : TypeId} {z : Value} (κ : Type) [Ky κ] [hT : MpT P T k z] (h : ∀ sv, WL P ops Q w0 rest (l.set d sv) (.ow [sv] (Mp.mk 0 (fun _ => none) : Mp P k κ) :: Γ)) :
    WL P ops Q w0 (⟨some d, .makeMap T none, ty, pos, after, none⟩ :: rest) l Γ := by
  intro w hs
  have hexec : (execOp (E l).eval (⟨some d, .makeMap T none, ty, pos, after, none⟩ : Oper)).run P w = .ok (.value (.map (some w.heap.size))) (w.alloc (.map #[] 0)) := by
    refine run_value (f := Next.value) (s := Instr.makeMap T none) ?_
    rfl
  refine wl_op rfl hexec ?_
  rw [E_put]
  refine h _ _ ?_
  obtain ⟨hb, F, hnd, hl, hsep⟩ := hs
  refine Sat.step' (Δ' := [.ow [_] (Mp.mk 0 (fun _ => none) : Mp P k κ)]) (Γ := Γ) (f := []) (g := F) (w := w) hb (by simpa using hnd) (by simpa using hl) (by simpa using hsep) ⟨rfl, rfl, rfl, by simp, (by first | exact Nat.le_refl _ | exact Nat.le_add_right _ _)⟩ (fun b hlt _ => ?_) [w.heap.size] (by simp) (by simp) (fun ok' _ => ?_)
  · exact Below.heap_alloc w _ b hlt
  · exact ⟨[w.heap.size], [], rfl, ⟨w.heap.size, rfl, rfl, .map [], World.ownsMap_made w P k heldR, fun q _ => ⟨fun z => rfl, rfl⟩⟩, rfl⟩
/-! no draw is undone -/
theorem ask_drawn {α : Type} (a : Ask α) : ∀ w : World, w.drawn ≤ (w.ask a).2.drawn := by
  induction a with
  | done a => exact fun w => Nat.le_refl _
  | ask what range k ih =>
    intro w
    unfold World.ask
    simp only
    split
    · exact ih _ _
    · exact Nat.le_trans (Nat.le_succ _) (ih _ { w with drawn := w.drawn + 1 })
theorem sys_drawn (w : World) (c : Sys) : w.drawn ≤ (w.sys c).2.drawn := by
  have h := ask_drawn (Kernel.perform c w.os) w
  unfold World.sys
  split
  · exact Nat.le_refl _
  · rename_i r os w2 he
    rw [he] at h
    exact h
theorem far_drawn {p : Program} {w w' : World} {a : Addr} {v : Value} {b : Bool} {l : List Addr} (h : w.farStore p a v b = .ok (w', l)) : w'.drawn = w.drawn := by
  unfold World.farStore at h
  split at h
  · split at h
    · rename_i r hr
      injection h with h
      subst h
      unfold World.viewStore at hr
      simp only [bind, Except.bind, pure, Except.pure, throw, throwThe, MonadExceptOf.throw] at hr
      repeat' split at hr
      all_goals first | (cases hr; done) | (injection hr with hr; injection hr with h1 h2; rw [← h1]) | skip
    · cases h
  · cases h
theorem freeze_drawn (w : World) (a : Addr) (n : Nat) : (w.freeze a n).drawn = w.drawn := by unfold World.freeze; split <;> rfl
theorem run_drawn {P : Program} {α : Type} {a : α} {w' : World} (s : Sem α) : ∀ {w : World}, s.run P w = .ok a w' → w.drawn ≤ w'.drawn := by
  induction s with
  | pure a => intro w h; simp only [Sem.run, Result.ok.injEq] at h; rw [h.2]; exact Nat.le_refl _
  | load m p k ih =>
    intro w h
    unfold Sem.run at h
    split at h
    · exact ih _ h
    · split at h
      · exact ih _ h
      · cases h
  | store m p v k ih =>
    intro w h
    cases v <;> simp only [Sem.run] at h <;> first | (cases h; done) | skip
    all_goals
      split at h
      · split at h
        · cases h
        · exact ih (w := w.setCell _ _) h
      · split at h
        · rename_i hf
          have := ih h
          rw [far_drawn hf] at this
          exact this
        · cases h
  | new o k ih => intro w h; exact ih _ (w := { w with heap := w.heap.push o }) h
  | shape r k ih => intro w h; exact ih _ h
  | freeze p n k ih => intro w h; have := ih (w := w.freeze p n) h; rw [freeze_drawn] at this; exact this
  | frozen p k ih => intro w h; exact ih _ h
  | getObj r k ih =>
    intro w h
    unfold Sem.run at h
    split at h <;> first | (cases h; done) | exact ih _ h
  | setObj r o k ih =>
    intro w h
    unfold Sem.run at h
    split at h <;> first | (cases h; done) | exact ih (w := { w with heap := w.heap.setIfInBounds r o }) h
  | choose q k ih =>
    intro w h
    unfold Sem.run at h
    split at h
    · exact ih _ h
    · exact Nat.le_trans (Nat.le_succ _) (ih _ (w := { w with drawn := w.drawn + 1 }) h)
  | sys c k ih => intro w h; exact Nat.le_trans (sys_drawn w c) (ih _ h)
  | program k ih => intro w h; exact ih _ h
  | mark m k ih => intro w h; exact ih h
  | halt x => intro w h; cases h
theorem mp_upd {T k : TypeId} {z : Value} {κ : Type} [Ky κ] [hk : KyP P k κ] [hT : MpT P T k z] {w : World} {b n : Nat} {f : κ → Option Value} {q : κ} {v : Value} (h : MpAt w b (Mp.mk n f : Mp P k κ)) (hq : Ky.ok q) (hn : n < maxLen) :
    ∃ w', (Instr.mapUpdate T (.map (some b)) (Ky.v q) v).run P w = .ok () w' ∧ MpAt w' b (Mp.mk (n + 1) (upd f q v) : Mp P k κ) ∧ w.grownBy w' (some b) := by
  obtain ⟨e, hTe, _⟩ := hT.ex
  obtain ⟨D, hD, ha⟩ := h
  obtain ⟨w', hr, ho, hg⟩ := hD.update (R := heldR) hk.keyed hTe hn (hk.key q hq) (val := v) (d := .held v) (ps := []) rfl
  have hm : IsMap D := by obtain ⟨es, clock, _, _, _, rfl⟩ := hD; exact ⟨_, rfl⟩
  refine ⟨w', hr, ⟨_, ho, fun a hok => ⟨fun z => ?_, ?_⟩⟩, hg⟩
  · by_cases he : a = q
    · subst he
      rw [atKey_put_same hm (hk.keyed.key (hk.key a hq))]
      simp [upd]
    · rw [atKey_put_other (fun h => he (Ky.inj a q hok hq h)), (ha a hok).1 z]
      simp [upd, he]
  · by_cases he : a = q
    · subst he
      rw [has_put_same hm (hk.keyed.key (hk.key a hq))]
      simp [upd]
    · rw [has_put_other (fun h => he (Ky.inj a q hok hq h)), (ha a hok).2]
      simp [upd, he]
theorem run_skip_upd {o : Oper} {w w' : World} {s : Sem Unit} (he : execOp (E l).eval o = (do s; pure Next.skip : Sem Next)) (hr : s.run P w = .ok () w') : (execOp (E l).eval o).run P w = .ok .skip w' := by
  rw [he]
  simp only [Sem.run_bind, hr, Result.andThen_ok]
  rfl
/-- m[k] with ok, at a map whose elements are of type e with zero z. -/
theorem pu_lookup_ok {T k : TypeId} {z : Value} {m x : Operand} {mv kv : Value} {κ : Type} [Ky κ] {q : κ} {n : Nat} {f : κ → Option Value} [hm : Ev l m mv] [hx : Ev l x kv] [hr : HasRd (Mp P k κ) repMp Γ [mv] (Mp.mk n f)] [hT : MpT P T k z] [hk : KyP P k κ] [hq : KeyIs κ kv q] (hS : Ky.ok q) :
    Pu P w0 l Γ (.lookup T m x true) ty (.tuple #[(f q).getD z, .bool (f q).isSome]) :=
  pu_of (s := Instr.lookup T mv (Ky.v q) true) (fun o ho _ => by unfold execOp; rw [ho]; simp only [hm.eq, hx.eq, hq.eq]) (fun w hs => by
    obtain ⟨b, hmv, _, D, hD, hat⟩ := hs.rd (hr := hr)
    simp only [List.cons.injEq, and_true] at hmv
    subst hmv
    obtain ⟨e, hTe, hz⟩ := hT.ex
    obtain ⟨v, ps, hrun, hv⟩ := hD.look_ok hk.keyed hTe (hz w) (zd := .held z) (zp := []) rfl (hk.key q hS)
    rw [(hat q hS).1 z] at hv
    simp only [heldR, Option.some.injEq, Prod.mk.injEq, DataW.held.injEq] at hv
    rw [hrun, hv.1, (hat q hS).2])
instance {T k : TypeId} {z : Value} {m x : Operand} {mv kv v : Value} {κ : Type} [Ky κ] {q : κ} {n : Nat} {f : κ → Option Value} [hm : Ev l m mv] [hx : Ev l x kv] [hr : HasRd (Mp P k κ) repMp Γ [mv] (Mp.mk n f)] [hT : MpT P T k z] [hk : KyP P k κ] [hq : KeyIs κ kv q] [ha : MapAt f q (some v)] :
    PuS P l Γ (.lookup T m x true) ty (.tuple #[v, .bool true]) (Ky.ok q) := ⟨fun s w0 => by
  have := pu_lookup_ok (P := P) (w0 := w0) (l := l) (Γ := Γ) (ty := ty) (T := T) (m := m) (x := x) (z := z) (f := f) (n := n) (mv := mv) (q := q) s
  rw [ha.eq] at this
  exact this⟩
instance {T k : TypeId} {z : Value} {m x : Operand} {mv kv : Value} {κ : Type} [Ky κ] {q : κ} {n : Nat} {f : κ → Option Value} [hm : Ev l m mv] [hx : Ev l x kv] [hr : HasRd (Mp P k κ) repMp Γ [mv] (Mp.mk n f)] [hT : MpT P T k z] [hk : KyP P k κ] [hq : KeyIs κ kv q] [ha : MapAt f q none] :
    PuS P l Γ (.lookup T m x true) ty (.tuple #[z, .bool false]) (Ky.ok q) := ⟨fun s w0 => by
  have := pu_lookup_ok (P := P) (w0 := w0) (l := l) (Γ := Γ) (ty := ty) (T := T) (m := m) (x := x) (z := z) (f := f) (n := n) (mv := mv) (q := q) s
  rw [ha.eq] at this
  exact this⟩
theorem wl_mapUpdate {T k : TypeId} {z : Value} {m x y : Operand} {mv kv v : Value} {κ : Type} [Ky κ] {q : κ} {n : Nat} {f : κ → Option Value} [hm : Ev l m mv] [hx : Ev l x kv] [hy : Ev l y v] [hT : MpT P T k z] [hk : KyP P k κ] [hq : KeyIs κ kv q]
    [hp : PullOw (Mp P k κ) repMp Γ [mv] (Mp.mk n f) Δ] (hS : Ky.ok q ∧ n < maxLen) (h : WL P ops Q w0 rest l (.ow [mv] (Mp.mk (n + 1) (upd f q v) : Mp P k κ) :: Δ)) :
    WL P ops Q w0 (⟨none, .mapUpdate T m x y, ty, pos, after, none⟩ :: rest) l Γ := by
  intro w hs
  obtain ⟨hb, F, hnd, hl, g1, g, rfl, hf, hΔ⟩ := hs.perm hp.perm
  obtain ⟨b, hmv, rfl, hat⟩ := (show Rep.ow (α := Mp P k κ) _ w g1 [mv] (Mp.mk n f) from hf)
  simp only [List.cons.injEq, and_true] at hmv
  obtain ⟨w', hr, hat', hg⟩ := mp_upd (T := T) (v := v) hat hS.1 hS.2
  refine wpList_plain rfl fun K hK => ?_
  unfold Oper.wp
  rw [run_skip_upd (s := Instr.mapUpdate T (.map (some b)) (Ky.v q) v) (by
    unfold execOp
    simp only [hm.eq, hx.eq, hy.eq, hmv, hq.eq]) hr, Oper.upon_skip, E_put_none]
  refine hK _ _ (h w' ?_)
  refine Sat.step' (Δ' := [.ow [mv] (Mp.mk (n + 1) (upd f q v) : Mp P k κ)]) (Γ := Δ) (f := [b]) (g := g) (w := w) hb hnd hl hΔ ⟨hg.os, hg.tape, hg.output, hg.size, run_drawn _ hr⟩ (fun c hlt hne => ?_) [b] (by simp) (by simp) (fun ok' _ => ?_)
  · exact hg.block c hlt (fun e => hne (by simp at e; simp [e]))
  · exact ⟨[b], [], rfl, ⟨b, by rw [hmv], rfl, hat'⟩, rfl⟩
instance {T k : TypeId} {z : Value} {m x y : Operand} {mv kv v : Value} {κ : Type} [Ky κ] {q : κ} {n : Nat} {f : κ → Option Value} [hm : Ev l m mv] [hx : Ev l x kv] [hy : Ev l y v] [hT : MpT P T k z] [hp : PullOw (Mp P k κ) repMp Γ [mv] (Mp.mk n f) Δ] [hk : KyP P k κ] [hq : KeyIs κ kv q] :
    RedS (WL P ops Q w0 (⟨none, .mapUpdate T m x y, ty, pos, after, none⟩ :: rest) l Γ) (Ky.ok q ∧ n < maxLen) (WL P ops Q w0 rest l (.ow [mv] (Mp.mk (n + 1) (upd f q v) : Mp P k κ) :: Δ)) := ⟨fun s h => wl_mapUpdate s h⟩
end
/-- Keys of maps of type T, as Lean has them. -/
class KyT (P : Program) (T : TypeId) (κ : outParam Type) where
  ky : Ky κ
section
variable {P : Program} {ops : Array Oper} {Q : Exit → Act → World → Prop} {w0 : World} {rest : List Oper} {l l' : List Value} {Γ Γb Δ Ε : List Atom} {ty : TypeId} {pos : String} {after : Array Edge} {d : Nat}
instance {T k : TypeId} {z : Value} {κ : Type} [hκ : KyT P T κ] [hT : MpT P T k z] :
    RedV (WL P ops Q w0 (⟨some d, .makeMap T none, ty, pos, after, none⟩ :: rest) l Γ) True (fun sv => WL P ops Q w0 rest (l.set d sv) (@Atom.ow (Mp P k κ) (@repMp P k κ hκ.ky) [sv] (Mp.mk 0 (fun _ => none)) :: Γ)) := ⟨fun _ h => @wl_makeMap P ops Q w0 rest l Γ ty pos after d T k z κ hκ.ky hT h⟩
end
end Go.Eng
namespace Go.Proofs.YtbbdjjlnachnlaaGreatDoor
open Go Go.Eng
set_option linter.unusedVariables false
set_option linter.unusedSimpArgs false
set_option synthInstance.maxHeartbeats 400000
set_option synthInstance.maxSize 1000
abbrev tB : TypeId := 226
abbrev t8 : TypeId := 5
instance : IsTb Tryz.prog 226 := ⟨trivial⟩
instance : BySl Tryz.prog 22 5 := ⟨Tryz.underlying22, Tryz.t5, _, by kernel_rfl, rfl, rfl, rfl, rfl⟩
instance : ByPt Tryz.prog 233 5 := ⟨by kernel_rfl, by kernel_rfl⟩
instance : Op_ Tryz.prog 5 UInt8 repU8 := op_u8 Tryz.underlying5 (by kernel_rfl)
instance : Op_ Tryz.prog 22 (List UInt8) repList := op_slice Tryz.underlying22 (by kernel_rfl) inferInstance
instance : PtrT Tryz.prog 224 := ⟨by kernel_rfl, Tryz.t226, by kernel_rfl, by decide⟩
instance : CvTo Tryz.prog 224 239 := ⟨226, Tryz.t226, Tryz.underlying224, Tryz.underlying239, by kernel_rfl, by decide⟩
instance : CvFrom Tryz.prog 239 224 226 2 := ⟨226, Tryz.t226, Tryz.underlying239, Tryz.underlying224, by kernel_rfl, by kernel_rfl⟩
instance : IsId Tryz.prog 213 := ⟨fun x w => by
  rw [run_callFunc_extern Tryz.func213 (by kernel_rfl) (by kernel_rfl) (by kernel_rfl) (e := Extern.AbiNoEscape.same) (by kernel_rfl)]
  rfl⟩
theorem copyCheck_spec {w0 : World} {Γ Δ : List Atom} {b : Nat} {pv bv : Value} [h : PullTb Γ b tB [pv, bv] Δ] (hp : pv = .pointer none ∨ pv = .pointer (some ⟨b, 0, none⟩)) :
    CJ Tryz.prog 207 [.pointer (some ⟨b, 0, none⟩)] w0 Γ (fun _ : Unit => .tuple #[]) (fun _ => @Atom.ow (TB tB) repTB [.pointer (some ⟨b, 0, none⟩)] (TB.mk [.pointer (some ⟨b, 0, none⟩), bv]) :: Δ) := by
  refine cj_perm h.perm ?_
  rcases hp with rfl | rfl
  · refine cj_enter Tryz.func207 Tryz.ntmps207 ?_
    repeat' (first | refine red ?_ | refine reds ?_ | fail)
    exact ⟨(), rfl, ent_e⟩
  · refine cj_enter Tryz.func207 Tryz.ntmps207 ?_
    repeat' (first | refine red ?_ | fail)
    exact ⟨(), rfl, ent_e⟩
instance copyCheck_ctr {Γ Δ : List Atom} {b : Nat} {pv bv : Value} [h : PullTb Γ b tB [pv, bv] Δ] :
    CtrC Tryz.prog 207 [.pointer (some ⟨b, 0, none⟩)] Γ (pv = .pointer none ∨ pv = .pointer (some ⟨b, 0, none⟩)) (Unit) (fun _ : Unit => .tuple #[]) (fun _ => @Atom.ow (TB tB) repTB [.pointer (some ⟨b, 0, none⟩)] (TB.mk [.pointer (some ⟨b, 0, none⟩), bv]) :: Δ) := ⟨fun s w0 => copyCheck_spec s⟩

theorem WriteString_spec {w0 : World} {Γ Δ1 Δ : List Atom} {b : Nat} {pv bv : Value} {bs : List UInt8} {s : ByteArray} [h : PullTb Γ b tB [pv, bv] Δ1] [h1 : PullOw (TBy t8) repTBy Δ1 [bv] (TBy.mk bs) Δ] (hp : pv = .pointer none ∨ pv = .pointer (some ⟨b, 0, none⟩)) (hl : bs.length + s.size ≤ 140737488355328) :
    CJ Tryz.prog 204 [.pointer (some ⟨b, 0, none⟩), .string s] w0 Γ (fun _ : Value => .tuple #[.int .i64 s.size, .nilIface]) (fun q => @Atom.ow (TB tB) repTB [.pointer (some ⟨b, 0, none⟩)] (TB.mk [.pointer (some ⟨b, 0, none⟩), q]) :: @Atom.ow (TBy t8) repTBy [q] (TBy.mk (bs ++ s.data.toList)) :: Δ) := by
  refine cj_perm (h.perm.trans (h1.perm.cons _)) ?_
  refine cj_enter Tryz.func204 Tryz.ntmps204 ?_
  repeat' (first | refine red ?_ | refine reds ?_ | refine redc fun r => ?_ | refine redv fun sv => ?_ | fail)
  exact ⟨sv, rfl, ent_e⟩
instance WriteString_ctr {Γ Δ1 Δ : List Atom} {b : Nat} {pv bv : Value} {bs : List UInt8} {s : ByteArray} [h : PullTb Γ b tB [pv, bv] Δ1] [h1 : PullOw (TBy t8) repTBy Δ1 [bv] (TBy.mk bs) Δ] :
    CtrC Tryz.prog 204 [.pointer (some ⟨b, 0, none⟩), .string s] Γ ((pv = .pointer none ∨ pv = .pointer (some ⟨b, 0, none⟩)) ∧ (bs.length + s.size ≤ 140737488355328)) (Value) (fun _ : Value => .tuple #[.int .i64 s.size, .nilIface]) (fun q => @Atom.ow (TB tB) repTB [.pointer (some ⟨b, 0, none⟩)] (TB.mk [.pointer (some ⟨b, 0, none⟩), q]) :: @Atom.ow (TBy t8) repTBy [q] (TBy.mk (bs ++ s.data.toList)) :: Δ) := ⟨fun s w0 => WriteString_spec s.1 s.2⟩

theorem String_spec {w0 : World} {Γ Δ1 Δ : List Atom} {b : Nat} {pv bv : Value} {bs : List UInt8} [h : PullTb Γ b tB [pv, bv] Δ1] [h1 : PullOw (TBy t8) repTBy Δ1 [bv] (TBy.mk bs) Δ] (hl : 0 < bs.length) :
    CJ Tryz.prog 205 [.pointer (some ⟨b, 0, none⟩)] w0 Γ (fun _ : Unit => .string ⟨bs.toArray⟩) (fun _ => Δ) := by
  refine cj_perm (h.perm.trans (h1.perm.cons _)) ?_
  refine cj_enter Tryz.func205 Tryz.ntmps205 ?_
  repeat' (first | refine red ?_ | ((refine wa_begin 1 [false, false, false, false, false, false, false, false, false, false, false, false] [10] ?_ <;> refine wa_p 0 ?_ <;> (first | refine wa_p 1 ?_ | fail) <;> (first | refine wa_p 2 ?_ | fail) <;> (first | refine wa_p 3 ?_ | fail) <;> refine wa_p 5 ?_ <;> (first | refine wa_p 6 ?_ | fail) <;> (first | refine wa_p 7 ?_ | fail) <;> (first | refine wa_p 8 ?_ | fail) <;> (first | refine wa_p 9 ?_ | fail) <;> (refine wa_do 4 ?_ <;> (repeat' (first | refine red ?_ | refine reds ?_ | fail))) <;> (refine wa_do 10 ?_ <;> (repeat' (first | refine red ?_ | refine reds ?_ | fail))) <;> refine wa_p0 11 ?_) <;> (refine wa_end ?_)) | fail)
  exact ⟨(), rfl, ent_e⟩
instance String_ctr {Γ Δ1 Δ : List Atom} {b : Nat} {pv bv : Value} {bs : List UInt8} [h : PullTb Γ b tB [pv, bv] Δ1] [h1 : PullOw (TBy t8) repTBy Δ1 [bv] (TBy.mk bs) Δ] :
    CtrC Tryz.prog 205 [.pointer (some ⟨b, 0, none⟩)] Γ (0 < bs.length) (Unit) (fun _ : Unit => .string ⟨bs.toArray⟩) (fun _ => Δ) := ⟨fun s w0 => String_spec s⟩

end Go.Proofs.YtbbdjjlnachnlaaGreatDoor
namespace Go.Proofs.YtbbdjjlnachnlaaGreatDoor
open Go Go.Eng
set_option linter.unusedVariables false
set_option linter.unusedSimpArgs false
set_option synthInstance.maxHeartbeats 400000
set_option synthInstance.maxSize 1000
set_option maxRecDepth 20000

def S (l : List UInt8) : ByteArray := ⟨l.toArray⟩
theorem S_size (l : List UInt8) : (S l).size = l.length := by simp [S, ByteArray.size]
end Go.Proofs.YtbbdjjlnachnlaaGreatDoor
