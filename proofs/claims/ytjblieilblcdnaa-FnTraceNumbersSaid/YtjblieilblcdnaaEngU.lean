/- The rules of the walk: a struct variable whose second field is an array; calls that may panic. -/
import Derived.Test.YtjblieilblcdnaaEngT
namespace Go.Eng
open Go Go.RowKit
set_option linter.unusedVariables false
set_option linter.unusedSimpArgs false
set_option synthInstance.maxHeartbeats 400000
set_option synthInstance.maxSize 1000
/-- T is no interface type. -/
class MkI (P : Program) (T : TypeId) : Prop where
  run : ∀ v w, (Instr.makeInterface T v).run P w = .ok (.iface T v) w
/-- T is a struct type without fields. -/
class Bl0 (P : Program) (T : TypeId) : Prop where
  run : ∀ w, (Instr.build T #[]).run P w = .ok (.agg #[]) w
section u
variable {P : Program} {ops : Array Oper} {Q : Exit → Act → World → Prop} {w0 : World} {rest : List Oper} {l l' : List Value} {Γ Γb Δ Ε : List Atom} {ty : TypeId} {v : Value} {pos : String} {after : Array Edge} {d : Nat} {x y : Operand}

theorem pu_index_arr1 {T n b : Nat} {m : Nat} {k : Int} {kk : IntKind} [h : Ev l x (.pointer (some ⟨b, 1, none⟩))] [hy : Ev l y (.int kk k)] [hm : ToN k m] [hT : ArT P T n] (hk : 0 ≤ k ∧ k < n) : Pu P w0 l Γ (.indexAddr T x y) ty (.pointer (some ⟨b, m + 1, none⟩)) := by
  obtain ⟨e, i, ht, hi, hs, hn⟩ := hT.ex
  refine pu_of (s := Instr.indexAt T (.pointer (some ⟨b, 1, none⟩)) (.int kk k)) (fun o ho _ => by unfold execOp; rw [ho]; simp only [h.eq, hy.eq]) (fun w hs' => ?_)
  have e1 := hm.eq
  simp [Instr.indexAt, asIntOf, run_underlying ht, sizeOf, typeInfo, hi, hs, hk.1, hk.2, Instr.sureAddr, e1, Addr.add, Nat.add_comm]
instance {T n b m : Nat} {k : Int} {kk : IntKind} [h : Ev l x (.pointer (some ⟨b, 1, none⟩))] [hy : Ev l y (.int kk k)] [hm : ToN k m] [hT : ArT P T n] : PuS P l Γ (.indexAddr T x y) ty (.pointer (some ⟨b, m + 1, none⟩)) (0 ≤ k ∧ k < n) := ⟨fun h _ => pu_index_arr1 h⟩
/-- .. and of a slice of that field. -/
theorem pu_index_sl1 {T b by_ n c : Nat} {m : Nat} {k : Int} {kk : IntKind} [h : Ev l x (.slice (some ⟨b, 1, none⟩) n c)] [hy : Ev l y (.int kk k)] [hm : ToN k m] [hT : Sl P T 1 by_] (hk : 0 ≤ k ∧ k < n) : Pu P w0 l Γ (.indexAddr T x y) ty (.pointer (some ⟨b, m + 1, none⟩)) := by
  obtain ⟨el, inf, z, ht, hinf, hks, _⟩ := hT.ex
  refine pu_of (s := Instr.indexAt T (.slice (some ⟨b, 1, none⟩) n c) (.int kk k)) (fun o ho _ => by unfold execOp; rw [ho]; simp only [h.eq, hy.eq]) (fun w hs' => ?_)
  have e1 := hm.eq
  have h1 : k < (n : Int) := hk.2
  simp [Instr.indexAt, asIntOf, run_underlying ht, sizeOf, typeInfo, hinf, hks, hk.1, h1, Instr.sureAddr, e1, Addr.add, Nat.add_comm]
instance {T b by_ n c : Nat} {m : Nat} {k : Int} {kk : IntKind} [h : Ev l x (.slice (some ⟨b, 1, none⟩) n c)] [hy : Ev l y (.int kk k)] [hm : ToN k m] [hT : Sl P T 1 by_] : PuS P l Γ (.indexAddr T x y) ty (.pointer (some ⟨b, m + 1, none⟩)) (0 ≤ k ∧ k < n) := ⟨fun h _ => pu_index_sl1 h⟩
/-- The beginning of that field as a slice. -/
theorem pu_slice_arr1 {T n b : Nat} {m : Nat} {kk : IntKind} {k : Int} [hx : Ev l x (.pointer (some ⟨b, 1, none⟩))] [hy : Ev l y (.int kk k)] [hm : ToN k m] [hT : ArT P T n] (hk : 0 ≤ k ∧ k ≤ n) : Pu P w0 l Γ (.slice T x none (some y) none) ty (.slice (some ⟨b, 1, none⟩) m n) := by
  obtain ⟨e, i, ht, hi, hs1, hn2⟩ := hT.ex
  refine pu_of (s := Instr.sliceAt T (.pointer (some ⟨b, 1, none⟩)) none (some (.int kk k)) none) (fun o ho _ => by unfold execOp; rw [ho]; simp only [Option.map_none, Option.map_some, hx.eq, hy.eq]) (fun w hs' => ?_)
  have e1 := hm.eq
  have h1 : ¬ n = 0 := by omega
  have h2 : m ≤ n := by omega
  have h3 : k = (m : Int) := by omega
  subst h3
  simp [Instr.sliceAt, Instr.sliceBounds, Instr.sureAddr, run_underlying ht, sizeOf, typeInfo, hi, h1, h2, Addr.add, asIntOf, Instr.sliceBound]
instance {T n b : Nat} {m : Nat} {kk : IntKind} {k : Int} [hx : Ev l x (.pointer (some ⟨b, 1, none⟩))] [hy : Ev l y (.int kk k)] [hm : ToN k m] [hT : ArT P T n] : PuS P l Γ (.slice T x none (some y) none) ty (.slice (some ⟨b, 1, none⟩) m n) (0 ≤ k ∧ k ≤ n) := ⟨fun h _ => pu_slice_arr1 h⟩
/-- An element of the array behind the first cell, read. -/
instance (priority := 1200) {T n b m : Nat} {α : Type} {iα : Rep α} [hn : PosN n] {c0 : Value} {cs : List Value} {xs : List (NE α)} [h : Ev l x (.pointer (some ⟨b, m + 1, none⟩))] [hT : Sc P T] [hb : HasBk Γ b (c0 :: cs)] [hr : HasIm (Ar n (NE α)) repAr Γ cs (Ar.mk xs)] :
    RedV (WL P ops Q w0 (⟨some d, .load T x, ty, pos, after, none⟩ :: rest) l Γ) (m < n) (fun v => WL P ops Q w0 rest (l.set d v) (.rd [v] (xs.getD m default).xs :: .rd [v] (xs.getD m default) :: Γ)) := ⟨fun s hw w hs => by
  obtain ⟨hbel, F, hnd, hl, hsep⟩ := hs
  obtain ⟨e, he⟩ := hb.get hsep
  obtain ⟨v, hv, hrd⟩ := ar_get rfl (hr.get hsep) s
  have hc : w.cell? ⟨b, m + 1, none⟩ = some v := by simp [World.cell?, he, hv]
  refine wl_op (v := v) (w' := w) rfl (run_value (f := Next.value) (s := Instr.loadAt T ((E l).eval x)) ?_) ?_
  · rw [h.eq]; simp [Instr.loadAt, Instr.sureAddr, loadVar, Sem.run_bind, hT.agg, load, Sem.run, hc]
  · rw [E_put]
    exact hw v _ ⟨hbel, F, hnd, hl, [], F, rfl, ⟨rfl, NERd.list hrd⟩, [], F, rfl, ⟨rfl, hrd⟩, hsep⟩⟩
theorem wl_store_arr1 {T n b m : Nat} {α : Type} {iα : Rep α} [hn : PosN n] {c0 : Value} {cs : List Value} {xs : List α} {u : α} [hx : Ev l x (.pointer (some ⟨b, m + 1, none⟩))] [hy : Ev l y v] [ho : OneC Γ v] [hT : Sc P T] [hb : PullBk Γ b (c0 :: cs) Δ] [hr : HasIm (Ar n α) repAr Δ cs (Ar.mk xs)] [hsz : SzIs α 1] (hm : m < n)
    (hu : ∀ {ok w F}, Sep ok w Δ F → Rep.rd ok w [v] u) (h : WL P ops Q w0 rest l (.bk b (c0 :: cs.set m v) :: .rd (cs.set m v) (Ar.mk (xs.set m u) : Ar n α) :: Δ)) :
    WL P ops Q w0 (⟨none, .store T x y, ty, pos, after, none⟩ :: rest) l Γ := by
  intro w hs
  have h1 : v.oneCell' = true := by
    obtain ⟨_, F, _, _, hs⟩ := hs
    exact ho.one hs
  have hs1 := hs.perm hb.perm
  obtain ⟨e, he⟩ := hs1.bk (hr := HasBk.here)
  have hlen : cs.length = n := by
    obtain ⟨_, F, _, _, hs⟩ := hs1
    obtain ⟨f, g, _, _, hsep⟩ := hs
    have h2 := hr.get hsep
    have := Rep.rd_len h2
    rw [this]; show n * Rep.sz α = n; rw [← hsz.eq, Nat.mul_one]
  have hs2 := hs1.store (m + 1) v
  rw [List.set_cons_succ] at hs2
  have hcell : w.cell? ⟨b, m + 1, none⟩ = some (cs[m]'(by omega)) := by simp [World.cell?, he, List.getElem?_eq_getElem (show m < cs.length by omega)]
  have hfr : w.frozen? ⟨b, m + 1, none⟩ = false := by simp [World.frozen?, he]
  have hst : (store (⟨b, m + 1, none⟩ : Addr) v).run P w = .ok () (w.setCell ⟨b, m + 1, none⟩ v) := by
    cases v <;> simp_all [store, Sem.run, Value.oneCell']
  refine wpList_plain rfl fun K hK => ?_
  unfold Oper.wp
  have hrun : (execOp (E l).eval ⟨none, .store T x y, ty, pos, after, none⟩).run P w = .ok .skip (w.setCell ⟨b, m + 1, none⟩ v) := by
    show (do Instr.storeAt T ((E l).eval x) ((E l).eval y); pure Next.skip : Sem Next).run P w = _
    simp only [hx.eq, hy.eq, Sem.run_bind, Instr.storeAt, Instr.sureAddr, Sem.run_pure, Result.andThen_ok, storeVar, hT.size, cells_one h1]
    simp only [List.size_toArray, List.length_cons, List.length_nil, Nat.zero_add, ne_eq, not_true_eq_false, if_false, Sem.run_pure, Result.andThen_ok, Sem.run_bind, storeCells]
    have : (⟨b, m + 1, none⟩ : Addr).add 0 = ⟨b, m + 1, none⟩ := by simp [Addr.add]
    rw [this]
    simp only [hst, Result.andThen_ok, Sem.run_pure]
  rw [hrun, Oper.upon_skip, E_put_none]
  refine hK _ _ (h _ ?_)
  obtain ⟨hbel, F, hnd, hl, f, g, rfl, hA, hsep⟩ := hs2
  exact ⟨hbel, f ++ g, hnd, hl, f, g, rfl, hA, [], g, rfl, ⟨rfl, by have := hr.get hsep; exact ⟨by simpa using this.1, this.2.set hsz.eq.symm (hu hsep)⟩⟩, hsep⟩
instance {T n b m : Nat} {α : Type} {iα : Rep α} [hn : PosN n] {c0 : Value} {cs : List Value} {xs : List (NE α)} {ys : List α} [hx : Ev l x (.pointer (some ⟨b, m + 1, none⟩))] [hy : Ev l y v] [ho : OneC Γ v] [hT : Sc P T] [hb : PullBk Γ b (c0 :: cs) Δ] [hr : HasIm (Ar n (NE α)) repAr Δ cs (Ar.mk xs)] [hu : HasIm (List α) repList Δ [v] ys] :
    RedS (WL P ops Q w0 (⟨none, .store T x y, ty, pos, after, none⟩ :: rest) l Γ) (m < n ∧ 0 < ys.length) (WL P ops Q w0 rest l (.bk b (c0 :: cs.set m v) :: .rd (cs.set m v) (Ar.mk (xs.set m ⟨ys⟩) : Ar n (NE α)) :: Δ)) :=
  ⟨fun s h => wl_store_arr1 (u := (⟨ys⟩ : NE α)) (hsz := ⟨rfl⟩) s.1 (fun {ok w F} hsep => show NERd ok w [v] ys from .inr ⟨fun e => by have := s.2; rw [e] at this; simp at this, hu.get hsep⟩) h⟩
/-- A truth value of an array, read. -/
theorem pu_load_arb {T n b m : Nat} [hn : PosN n] {cs : List Value} {xs : List Bool} [h : Ev l x (.pointer (some ⟨b, m, none⟩))] [hT : Sc P T] [hb : HasBk Γ b cs] [hr : HasRd (Ar n Bool) repAr Γ cs (Ar.mk xs)] (hm : m < n) : Pu P w0 l Γ (.load T x) ty (.bool (xs.getD m default)) :=
  pu_of (s := Instr.loadAt T (.pointer (some ⟨b, m, none⟩))) (fun o ho _ => by unfold execOp; rw [ho]; simp only [h.eq]) (fun w hs => by
    obtain ⟨e, he⟩ := hs.bk (hr := hb)
    obtain ⟨v, hv, hrd⟩ := ar_get rfl (hs.rd (hr := hr)) hm
    have hrd' : [v] = [Value.bool _] := hrd
    injection hrd' with hrd' _
    have hc : w.cell? ⟨b, m, none⟩ = some v := by simp [World.cell?, he, hv]
    rw [← hrd']
    simp [Instr.loadAt, Instr.sureAddr, loadVar, Sem.run_bind, hT.agg, load, Sem.run, hc])
instance (priority := 1100) {T n b m : Nat} [hn : PosN n] {cs : List Value} {xs : List Bool} [h : Ev l x (.pointer (some ⟨b, m, none⟩))] [hT : Sc P T] [hb : HasBk Γ b cs] [hr : HasRd (Ar n Bool) repAr Γ cs (Ar.mk xs)] : PuS P l Γ (.load T x) ty (.bool (xs.getD m default)) (m < n) := ⟨fun h _ => pu_load_arb h⟩

/-! ### Calls that may panic -/
/-- From Γ, function f called with vs ends in r p, and leaves Γ' p. -/
def CJP (P : Program) (f : FuncId) (vs : List Value) (w0 : World) (Γ : List Atom) {ρ : Type} (r : ρ → Ending) (Γ' : ρ → List Atom) : Prop :=
  ∀ w, Sat w0 w Γ → Calls P f vs.toArray w (fun e w' => ∃ p, e = r p ∧ Sat w0 w' (Γ' p))
class CtrP (P : Program) (f : FuncId) (vs : List Value) (Γ : List Atom) (S : outParam Prop) (ρ σ : outParam Type) (r : outParam (ρ → Value)) (Γ' : outParam (ρ → List Atom)) (r2 : outParam (σ → List PanicEntry)) (Γ'' : outParam (σ → List Atom)) : Prop where
  run : S → ∀ w0, CJP P f vs w0 Γ (Sum.elim (fun p => Ending.returned (r p)) (fun q => Ending.panicked (r2 q))) (Sum.elim Γ' Γ'')
class RedP (G : Prop) (S : outParam Prop) (ρ σ : outParam Type) (G' : outParam (ρ → Prop)) (G'' : outParam (σ → Prop)) : Prop where
  run : S → (∀ p, G' p) → (∀ q, G'' q) → G
instance {f : FuncId} {xs : List Operand} {vs : List Value} {ts : Array TypeId} {S : Prop} {ρ σ : Type} {r : ρ → Value} {Γ' : ρ → List Atom} {r2 : σ → List PanicEntry} {Γ'' : σ → List Atom} [hx : EvL l xs vs] [hf : IsFn P f] [hc : CtrP P f vs Γ S ρ σ r Γ' r2 Γ''] :
    RedP (WL P ops Q w0 (⟨some d, .call { callee := .value (.func f), args := xs.toArray, argTypes := ts }, ty, pos, after, none⟩ :: rest) l Γ) S ρ σ (fun p => WL P ops Q w0 rest (l.set d (r p)) (Γ' p)) (fun q => WQ Q w0 (.panic (r2 q)) l (Γ'' q)) := ⟨fun s g g' => by
  intro w hs
  refine wpList_plain rfl fun K hK => ?_
  unfold Oper.wp
  rw [run_call w, Oper.upon_enter]
  refine (hc.run s w0 w hs).mono ?_
  rintro e w' ⟨p, rfl, hs'⟩
  cases p with
  | inl p =>
    show K ((E l).put (some d) (r p)) w'
    rw [E_put]
    exact hK _ _ (g p w' hs')
  | inr q => exact g' q w' hs'⟩

/-- A list that is nil if empty, compared with nil the other way. -/
instance (priority := 1100) {T U k by_ : TypeId} {α : Type} {iα : Rep α} {z : NE α} {l1 l2 : List Value} [hx : Ev l x v] [hy : Ev l y (.slice none 0 0)] [hT : Sl P T k by_] [hr : HasNe α iα Γ [v] z] [h1 : Se l d (.bool true) l1] [h2 : Se l d (.bool false) l2] :
    RedQ (WL P ops Q w0 (⟨some d, .binOp .neq T x y U, ty, pos, after, none⟩ :: rest) l Γ) (¬ z.xs = []) (z.xs = []) (WL P ops Q w0 rest l1 Γ) (WL P ops Q w0 rest l2 Γ) := ⟨fun g1 g2 w hs => by
  obtain ⟨e, inf, zz, ht, _⟩ := hT.ex
  obtain ⟨hbel, F, hnd, hl, hsep⟩ := id hs
  have key : ∀ {a : Option Addr} {len cap : Nat}, v = .slice a len cap → Pu P w0 l Γ (.binOp .neq T x y U) ty (.bool (!a.isNone)) := fun {a len cap} hv => by
    subst hv
    refine pu_bin (hx := hx) (hy := hy) eqGuard_slice (fun w => ?_)
    exact run_value (f := fun b => Value.bool (!b)) (run_equal_nil ht 9999 w)
  rcases hr.get hsep with ⟨hv, hz⟩ | ⟨hz, hrd⟩
  · have hv' : v = .slice none 0 0 := by simpa using hv
    exact wl_pure (v := .bool false) (hd := h2) (key hv') (g2 hz) w hs
  · obtain ⟨a, cap, hv, hc1, hc2, hc3, hc4⟩ := (id hrd : Rep.rd _ _ _ _)
    have hv' : v = .slice a z.xs.length cap := by simpa using hv
    have hpos : 0 < z.xs.length := by
      rcases Nat.eq_zero_or_pos z.xs.length with h | h
      · exact absurd (List.eq_nil_of_length_eq_zero h) hz
      · exact h
    obtain ⟨b, off, cells, rfl, _⟩ := hc4 hpos
    exact wl_pure (v := .bool true) (hd := h1) (by have := key hv'; simpa using this) (g1 hz) w hs⟩

/-! ### A function that may panic -/
def RetX (w0 : World) {ρ σ : Type} (r : ρ → Value) (Γ' : ρ → List Atom) (r2 : σ → List PanicEntry) (Γ'' : σ → List Atom) : Ending → World → Prop := fun e w' => (∃ p, e = .returned (r p) ∧ Sat w0 w' (Γ' p)) ∨ ∃ q, e = .panicked (r2 q) ∧ Sat w0 w' (Γ'' q)
instance {fn : Func} {rs : List ResultVar} {vs : List Value} {v : Value} {ρ σ : Type} {r : ρ → Value} {Γ' : ρ → List Atom} {r2 : σ → List PanicEntry} {Γ'' : σ → List Atom} [hf : ResC fn rs] [hr : Rs P Γ l rs vs] [ht : TupC vs v] :
    Red (WQ (bodyPost P fn (RetX w0 r Γ' r2 Γ'')) w0 .ret l Γ) (∃ p, r p = v ∧ Ent w0 Γ (Γ' p)) := ⟨fun ⟨p, h1, h2⟩ w hw => ⟨rfl, _, run_results hf.eq hw, .inl ⟨p, by rw [h1, ht.eq], h2 w hw⟩⟩⟩
instance {fn : Func} {rs : List ResultVar} {vs : List Value} {v : Value} {ρ σ : Type} {r : ρ → Value} {Γ' : ρ → List Atom} {r2 : σ → List PanicEntry} {Γ'' : σ → List Atom} [hf : ResC fn rs] [hr : Rs P Γ l rs vs] [ht : TupC vs v] :
    Red (WQ (bodyPost P fn (RetX w0 r Γ' r2 Γ'')) w0 .normal l Γ) (∃ p, r p = v ∧ Ent w0 Γ (Γ' p)) := ⟨fun ⟨p, h1, h2⟩ w hw => ⟨rfl, _, run_results hf.eq hw, .inl ⟨p, by rw [h1, ht.eq], h2 w hw⟩⟩⟩
/-- panic(v). -/
instance {T : TypeId} {u : Value} [hx : Ev l x (.iface T u)] : Red (WL P ops Q w0 (⟨none, .panic x, ty, pos, after, none⟩ :: rest) l Γ) (WQ Q w0 (.panic [{ v := .iface T u, recovered := false }]) l Γ) := ⟨fun h w hs => by
  refine wpList_plain rfl fun K hK => ?_
  unfold Oper.wp
  have : (execOp (E l).eval ⟨none, .panic x, ty, pos, after, none⟩).run P w = .halt (.panic (.iface T u)) w := by
    unfold execOp
    simp [hx.eq, Instr.panic, goPanic, Sem.run_bind]
  rw [this, Oper.upon_panic]
  exact h w hs⟩
instance {T : TypeId} [hx : Ev l x v] [hd : MkI P T] : PuC P l Γ (.makeInterface T x) ty (.iface T v) := ⟨fun w0 =>
  pu_of (s := Instr.makeInterface T v) (fun o ho _ => by unfold execOp; rw [ho]; simp only [hx.eq]) (fun w hs => hd.run v w)⟩
instance {T : TypeId} [hT : Bl0 P T] : PuC P l Γ (.build T #[]) ty (.agg #[]) := ⟨fun w0 =>
  pu_of (s := Instr.build T #[]) (fun o ho _ => by unfold execOp; rw [ho]; simp) (fun w hs => hT.run w)⟩
end u
end Go.Eng
