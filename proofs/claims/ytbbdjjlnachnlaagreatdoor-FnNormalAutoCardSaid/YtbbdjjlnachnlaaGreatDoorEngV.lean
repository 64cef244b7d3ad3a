/- The rules of the walk: a struct variable whose second field is an array; calls that may panic. -/
import Derived.Test.YtbbdjjlnachnlaaGreatDoorEngZ
import Derived.Laws.Bits128
namespace Go.Eng
open Go Go.RowKit
set_option linter.unusedVariables false
set_option linter.unusedSimpArgs false
set_option synthInstance.maxHeartbeats 400000
set_option synthInstance.maxSize 1000
/-- T is no interface type. -/
class MkI (P : Program) (T : TypeId) : Prop where
  run : ∀ v w, (Instr.makeInterface T v).run P w = .ok (.iface T v) w
/-- T is a struct type without fields. -/
class Bl0 (P : Program) (T : TypeId) : Prop where
  run : ∀ w, (Instr.build T #[]).run P w = .ok (.agg #[]) w
section u
variable {P : Program} {ops : Array Oper} {Q : Exit → Act → World → Prop} {w0 : World} {rest : List Oper} {l l' : List Value} {Γ Γb Δ Ε : List Atom} {ty : TypeId} {v : Value} {pos : String} {after : Array Edge} {d : Nat} {x y : Operand}

theorem pu_index_arr1 {T n b : Nat} {m : Nat} {k : Int} {kk : IntKind} [h : Ev l x (.pointer (some ⟨b, 1, none⟩))] [hy : Ev l y (.int kk k)] [hm : ToN k m] [hT : ArT P T n] (hk : 0 ≤ k ∧ k < n) : Pu P w0 l Γ (.indexAddr T x y) ty (.pointer (some ⟨b, m + 1, none⟩)) := by
  obtain ⟨e, i, ht, hi, hs, hn⟩ := hT.ex
  refine pu_of (s := Instr.indexAt T (.pointer (some ⟨b, 1, none⟩)) (.int kk k)) (fun o ho _ => by unfold execOp; rw [ho]; simp only [h.eq, hy.eq]) (fun w hs' => ?_)
  have e1 := hm.eq
  simp [Instr.indexAt, asIntOf, run_underlying ht, sizeOf, typeInfo, hi, hs, hk.1, hk.2, Instr.sureAddr, e1, Addr.add, Nat.add_comm]
instance {T n b m : Nat} {k : Int} {kk : IntKind} [h : Ev l x (.pointer (some ⟨b, 1, none⟩))] [hy : Ev l y (.int kk k)] [hm : ToN k m] [hT : ArT P T n] : PuS P l Γ (.indexAddr T x y) ty (.pointer (some ⟨b, m + 1, none⟩)) (0 ≤ k ∧ k < n) := ⟨fun h _ => pu_index_arr1 h⟩
/-- .. and of a slice of that field. -/
theorem pu_index_sl1 {T b by_ n c : Nat} {m : Nat} {k : Int} {kk : IntKind} [h : Ev l x (.slice (some ⟨b, 1, none⟩) n c)] [hy : Ev l y (.int kk k)] [hm : ToN k m] [hT : Sl P T 1 by_] (hk : 0 ≤ k ∧ k < n) : Pu P w0 l Γ (.indexAddr T x y) ty (.pointer (some ⟨b, m + 1, none⟩)) := by
  obtain ⟨el, inf, z, ht, hinf, hks, _⟩ := hT.ex
  refine pu_of (s := Instr.indexAt T (.slice (some ⟨b, 1, none⟩) n c) (.int kk k)) (fun o ho _ => by unfold execOp; rw [ho]; simp only [h.eq, hy.eq]) (fun w hs' => ?_)
  have e1 := hm.eq
  have h1 : k < (n : Int) := hk.2
  simp [Instr.indexAt, asIntOf, run_underlying ht, sizeOf, typeInfo, hinf, hks, hk.1, h1, Instr.sureAddr, e1, Addr.add, Nat.add_comm]
instance {T b by_ n c : Nat} {m : Nat} {k : Int} {kk : IntKind} [h : Ev l x (.slice (some ⟨b, 1, none⟩) n c)] [hy : Ev l y (.int kk k)] [hm : ToN k m] [hT : Sl P T 1 by_] : PuS P l Γ (.indexAddr T x y) ty (.pointer (some ⟨b, m + 1, none⟩)) (0 ≤ k ∧ k < n) := ⟨fun h _ => pu_index_sl1 h⟩
/-- The beginning of that field as a slice. -/
theorem pu_slice_arr1 {T n b : Nat} {m : Nat} {kk : IntKind} {k : Int} [hx : Ev l x (.pointer (some ⟨b, 1, none⟩))] [hy : Ev l y (.int kk k)] [hm : ToN k m] [hT : ArT P T n] (hk : 0 ≤ k ∧ k ≤ n) : Pu P w0 l Γ (.slice T x none (some y) none) ty (.slice (some ⟨b, 1, none⟩) m n) := by
  obtain ⟨e, i, ht, hi, hs1, hn2⟩ := hT.ex
  refine pu_of (s := Instr.sliceAt T (.pointer (some ⟨b, 1, none⟩)) none (some (.int kk k)) none) (fun o ho _ => by unfold execOp; rw [ho]; simp only [Option.map_none, Option.map_some, hx.eq, hy.eq]) (fun w hs' => ?_)
  have e1 := hm.eq
  have h1 : ¬ n = 0 := by omega
  have h2 : m ≤ n := by omega
  have h3 : k = (m : Int) := by omega
  subst h3
  simp [Instr.sliceAt, Instr.sliceBounds, Instr.sureAddr, run_underlying ht, sizeOf, typeInfo, hi, h1, h2, Addr.add, asIntOf, Instr.sliceBound]
instance {T n b : Nat} {m : Nat} {kk : IntKind} {k : Int} [hx : Ev l x (.pointer (some ⟨b, 1, none⟩))] [hy : Ev l y (.int kk k)] [hm : ToN k m] [hT : ArT P T n] : PuS P l Γ (.slice T x none (some y) none) ty (.slice (some ⟨b, 1, none⟩) m n) (0 ≤ k ∧ k ≤ n) := ⟨fun h _ => pu_slice_arr1 h⟩
/-- An element of the array behind the first cell, read. -/
instance (priority := 1200) {T n b m : Nat} {α : Type} {iα : Rep α} [hn : PosN n] {c0 : Value} {cs : List Value} {xs : List (NE α)} [h : Ev l x (.pointer (some ⟨b, m + 1, none⟩))] [hT : Sc P T] [hb : HasBk Γ b (c0 :: cs)] [hr : HasIm (Ar n (NE α)) repAr Γ cs (Ar.mk xs)] :
    RedV (WL P ops Q w0 (⟨some d, .load T x, ty, pos, after, none⟩ :: rest) l Γ) (m < n) (fun v => WL P ops Q w0 rest (l.set d v) (.rd [v] (xs.getD m default).xs :: .rd [v] (xs.getD m default) :: Γ)) := ⟨fun s hw w hs => by
  obtain ⟨hbel, F, hnd, hl, hsep⟩ := hs
  obtain ⟨e, he⟩ := hb.get hsep
  obtain ⟨v, hv, hrd⟩ := ar_get rfl (hr.get hsep) s
  have hc : w.cell? ⟨b, m + 1, none⟩ = some v := by simp [World.cell?, he, hv]
  refine wl_op (v := v) (w' := w) rfl (run_value (f := Next.value) (s := Instr.loadAt T ((E l).eval x)) ?_) ?_
  · rw [h.eq]; simp [Instr.loadAt, Instr.sureAddr, loadVar, Sem.run_bind, hT.agg, load, Sem.run, hc]
  · rw [E_put]
    exact hw v _ ⟨hbel, F, hnd, hl, [], F, rfl, ⟨rfl, NERd.list hrd⟩, [], F, rfl, ⟨rfl, hrd⟩, hsep⟩⟩
theorem wl_store_arr1 {T n b m : Nat} {α : Type} {iα : Rep α} [hn : PosN n] {c0 : Value} {cs : List Value} {xs : List α} {u : α} [hx : Ev l x (.pointer (some ⟨b, m + 1, none⟩))] [hy : Ev l y v] [ho : OneC Γ v] [hT : Sc P T] [hb : PullBk Γ b (c0 :: cs) Δ] [hr : HasIm (Ar n α) repAr Δ cs (Ar.mk xs)] [hsz : SzIs α 1] (hm : m < n)
    (hu : ∀ {ok w F}, Sep ok w Δ F → Rep.rd ok w [v] u) (h : WL P ops Q w0 rest l (.bk b (c0 :: cs.set m v) :: .rd (cs.set m v) (Ar.mk (xs.set m u) : Ar n α) :: Δ)) :
    WL P ops Q w0 (⟨none, .store T x y, ty, pos, after, none⟩ :: rest) l Γ := by
  intro w hs
  have h1 : v.oneCell' = true := by
    obtain ⟨_, F, _, _, hs⟩ := hs
    exact ho.one hs
  have hs1 := hs.perm hb.perm
  obtain ⟨e, he⟩ := hs1.bk (hr := HasBk.here)
  have hlen : cs.length = n := by
    obtain ⟨_, F, _, _, hs⟩ := hs1
    obtain ⟨f, g, _, _, hsep⟩ := hs
    have h2 := hr.get hsep
    have := Rep.rd_len h2
    rw [this]; show n * Rep.sz α = n; rw [← hsz.eq, Nat.mul_one]
  have hs2 := hs1.store (m + 1) v
  rw [List.set_cons_succ] at hs2
  have hcell : w.cell? ⟨b, m + 1, none⟩ = some (cs[m]'(by omega)) := by simp [World.cell?, he, List.getElem?_eq_getElem (show m < cs.length by omega)]
  have hfr : w.frozen? ⟨b, m + 1, none⟩ = false := by simp [World.frozen?, he]
  have hst : (store (⟨b, m + 1, none⟩ : Addr) v).run P w = .ok () (w.setCell ⟨b, m + 1, none⟩ v) := by
    cases v <;> simp_all [store, Sem.run, Value.oneCell']
  refine wpList_plain rfl fun K hK => ?_
  unfold Oper.wp
  have hrun : (execOp (E l).eval ⟨none, .store T x y, ty, pos, after, none⟩).run P w = .ok .skip (w.setCell ⟨b, m + 1, none⟩ v) := by
    show (do Instr.storeAt T ((E l).eval x) ((E l).eval y); pure Next.skip : Sem Next).run P w = _
    simp only [hx.eq, hy.eq, Sem.run_bind, Instr.storeAt, Instr.sureAddr, Sem.run_pure, Result.andThen_ok, storeVar, hT.size, cells_one h1]
    simp only [List.size_toArray, List.length_cons, List.length_nil, Nat.zero_add, ne_eq, not_true_eq_false, if_false, Sem.run_pure, Result.andThen_ok, Sem.run_bind, storeCells]
    have : (⟨b, m + 1, none⟩ : Addr).add 0 = ⟨b, m + 1, none⟩ := by simp [Addr.add]
    rw [this]
    simp only [hst, Result.andThen_ok, Sem.run_pure]
  rw [hrun, Oper.upon_skip, E_put_none]
  refine hK _ _ (h _ ?_)
  obtain ⟨hbel, F, hnd, hl, f, g, rfl, hA, hsep⟩ := hs2
  exact ⟨hbel, f ++ g, hnd, hl, f, g, rfl, hA, [], g, rfl, ⟨rfl, by have := hr.get hsep; exact ⟨by simpa using this.1, this.2.set hsz.eq.symm (hu hsep)⟩⟩, hsep⟩
instance {T n b m : Nat} {α : Type} {iα : Rep α} [hn : PosN n] {c0 : Value} {cs : List Value} {xs : List (NE α)} {ys : List α} [hx : Ev l x (.pointer (some ⟨b, m + 1, none⟩))] [hy : Ev l y v] [ho : OneC Γ v] [hT : Sc P T] [hb : PullBk Γ b (c0 :: cs) Δ] [hr : HasIm (Ar n (NE α)) repAr Δ cs (Ar.mk xs)] [hu : HasIm (List α) repList Δ [v] ys] :
    RedS (WL P ops Q w0 (⟨none, .store T x y, ty, pos, after, none⟩ :: rest) l Γ) (m < n ∧ 0 < ys.length) (WL P ops Q w0 rest l (.bk b (c0 :: cs.set m v) :: .rd (cs.set m v) (Ar.mk (xs.set m ⟨ys⟩) : Ar n (NE α)) :: Δ)) :=
  ⟨fun s h => wl_store_arr1 (u := (⟨ys⟩ : NE α)) (hsz := ⟨rfl⟩) s.1 (fun {ok w F} hsep => show NERd ok w [v] ys from .inr ⟨fun e => by have := s.2; rw [e] at this; simp at this, hu.get hsep⟩) h⟩
/-- A truth value of an array, read. -/
theorem pu_load_arb {T n b m : Nat} [hn : PosN n] {cs : List Value} {xs : List Bool} [h : Ev l x (.pointer (some ⟨b, m, none⟩))] [hT : Sc P T] [hb : HasBk Γ b cs] [hr : HasRd (Ar n Bool) repAr Γ cs (Ar.mk xs)] (hm : m < n) : Pu P w0 l Γ (.load T x) ty (.bool (xs.getD m default)) :=
  pu_of (s := Instr.loadAt T (.pointer (some ⟨b, m, none⟩))) (fun o ho _ => by unfold execOp; rw [ho]; simp only [h.eq]) (fun w hs => by
    obtain ⟨e, he⟩ := hs.bk (hr := hb)
    obtain ⟨v, hv, hrd⟩ := ar_get rfl (hs.rd (hr := hr)) hm
    have hrd' : [v] = [Value.bool _] := hrd
    injection hrd' with hrd' _
    have hc : w.cell? ⟨b, m, none⟩ = some v := by simp [World.cell?, he, hv]
    rw [← hrd']
    simp [Instr.loadAt, Instr.sureAddr, loadVar, Sem.run_bind, hT.agg, load, Sem.run, hc])
instance (priority := 1100) {T n b m : Nat} [hn : PosN n] {cs : List Value} {xs : List Bool} [h : Ev l x (.pointer (some ⟨b, m, none⟩))] [hT : Sc P T] [hb : HasBk Γ b cs] [hr : HasRd (Ar n Bool) repAr Γ cs (Ar.mk xs)] : PuS P l Γ (.load T x) ty (.bool (xs.getD m default)) (m < n) := ⟨fun h _ => pu_load_arb h⟩

/-! ### Calls that may panic -/
/-- From Γ, function f called with vs ends in r p, and leaves Γ' p. -/
def CJP (P : Program) (f : FuncId) (vs : List Value) (w0 : World) (Γ : List Atom) {ρ : Type} (r : ρ → Ending) (Γ' : ρ → List Atom) : Prop :=
  ∀ w, Sat w0 w Γ → Calls P f vs.toArray w (fun e w' => ∃ p, e = r p ∧ Sat w0 w' (Γ' p))
class CtrP (P : Program) (f : FuncId) (vs : List Value) (Γ : List Atom) (S : outParam Prop) (ρ σ : outParam Type) (r : outParam (ρ → Value)) (Γ' : outParam (ρ → List Atom)) (r2 : outParam (σ → List PanicEntry)) (Γ'' : outParam (σ → List Atom)) : Prop where
  run : S → ∀ w0, CJP P f vs w0 Γ (Sum.elim (fun p => Ending.returned (r p)) (fun q => Ending.panicked (r2 q))) (Sum.elim Γ' Γ'')
class RedP (G : Prop) (S : outParam Prop) (ρ σ : outParam Type) (G' : outParam (ρ → Prop)) (G'' : outParam (σ → Prop)) : Prop where
  run : S → (∀ p, G' p) → (∀ q, G'' q) → G
instance {f : FuncId} {xs : List Operand} {vs : List Value} {ts : Array TypeId} {S : Prop} {ρ σ : Type} {r : ρ → Value} {Γ' : ρ → List Atom} {r2 : σ → List PanicEntry} {Γ'' : σ → List Atom} [hx : EvL l xs vs] [hf : IsFn P f] [hc : CtrP P f vs Γ S ρ σ r Γ' r2 Γ''] :
    RedP (WL P ops Q w0 (⟨some d, .call { callee := .value (.func f), args := xs.toArray, argTypes := ts }, ty, pos, after, none⟩ :: rest) l Γ) S ρ σ (fun p => WL P ops Q w0 rest (l.set d (r p)) (Γ' p)) (fun q => WQ Q w0 (.panic (r2 q)) l (Γ'' q)) := ⟨fun s g g' => by
  intro w hs
  refine wpList_plain rfl fun K hK => ?_
  unfold Oper.wp
  rw [run_call w, Oper.upon_enter]
  refine (hc.run s w0 w hs).mono ?_
  rintro e w' ⟨p, rfl, hs'⟩
  cases p with
  | inl p =>
    show K ((E l).put (some d) (r p)) w'
    rw [E_put]
    exact hK _ _ (g p w' hs')
  | inr q => exact g' q w' hs'⟩

/-- A list that is nil if empty, compared with nil the other way. -/
instance (priority := 1100) {T U k by_ : TypeId} {α : Type} {iα : Rep α} {z : NE α} {l1 l2 : List Value} [hx : Ev l x v] [hy : Ev l y (.slice none 0 0)] [hT : Sl P T k by_] [hr : HasNe α iα Γ [v] z] [h1 : Se l d (.bool true) l1] [h2 : Se l d (.bool false) l2] :
    RedQ (WL P ops Q w0 (⟨some d, .binOp .neq T x y U, ty, pos, after, none⟩ :: rest) l Γ) (¬ z.xs = []) (z.xs = []) (WL P ops Q w0 rest l1 Γ) (WL P ops Q w0 rest l2 Γ) := ⟨fun g1 g2 w hs => by
  obtain ⟨e, inf, zz, ht, _⟩ := hT.ex
  obtain ⟨hbel, F, hnd, hl, hsep⟩ := id hs
  have key : ∀ {a : Option Addr} {len cap : Nat}, v = .slice a len cap → Pu P w0 l Γ (.binOp .neq T x y U) ty (.bool (!a.isNone)) := fun {a len cap} hv => by
    subst hv
    refine pu_bin (hx := hx) (hy := hy) eqGuard_slice (fun w => ?_)
    exact run_value (f := fun b => Value.bool (!b)) (run_equal_nil ht 9999 w)
  rcases hr.get hsep with ⟨hv, hz⟩ | ⟨hz, hrd⟩
  · have hv' : v = .slice none 0 0 := by simpa using hv
    exact wl_pure (v := .bool false) (hd := h2) (key hv') (g2 hz) w hs
  · obtain ⟨a, cap, hv, hc1, hc2, hc3, hc4⟩ := (id hrd : Rep.rd _ _ _ _)
    have hv' : v = .slice a z.xs.length cap := by simpa using hv
    have hpos : 0 < z.xs.length := by
      rcases Nat.eq_zero_or_pos z.xs.length with h | h
      · exact absurd (List.eq_nil_of_length_eq_zero h) hz
      · exact h
    obtain ⟨b, off, cells, rfl, _⟩ := hc4 hpos
    exact wl_pure (v := .bool true) (hd := h1) (by have := key hv'; simpa using this) (g1 hz) w hs⟩

/-! ### A function that may panic -/
def RetX (w0 : World) {ρ σ : Type} (r : ρ → Value) (Γ' : ρ → List Atom) (r2 : σ → List PanicEntry) (Γ'' : σ → List Atom) : Ending → World → Prop := fun e w' => (∃ p, e = .returned (r p) ∧ Sat w0 w' (Γ' p)) ∨ ∃ q, e = .panicked (r2 q) ∧ Sat w0 w' (Γ'' q)
instance {fn : Func} {rs : List ResultVar} {vs : List Value} {v : Value} {ρ σ : Type} {r : ρ → Value} {Γ' : ρ → List Atom} {r2 : σ → List PanicEntry} {Γ'' : σ → List Atom} [hf : ResC fn rs] [hr : Rs P Γ l rs vs] [ht : TupC vs v] :
    Red (WQ (bodyPost P fn (RetX w0 r Γ' r2 Γ'')) w0 .ret l Γ) (∃ p, r p = v ∧ Ent w0 Γ (Γ' p)) := ⟨fun ⟨p, h1, h2⟩ w hw => ⟨rfl, _, run_results hf.eq hw, .inl ⟨p, by rw [h1, ht.eq], h2 w hw⟩⟩⟩
instance {fn : Func} {rs : List ResultVar} {vs : List Value} {v : Value} {ρ σ : Type} {r : ρ → Value} {Γ' : ρ → List Atom} {r2 : σ → List PanicEntry} {Γ'' : σ → List Atom} [hf : ResC fn rs] [hr : Rs P Γ l rs vs] [ht : TupC vs v] :
    Red (WQ (bodyPost P fn (RetX w0 r Γ' r2 Γ'')) w0 .normal l Γ) (∃ p, r p = v ∧ Ent w0 Γ (Γ' p)) := ⟨fun ⟨p, h1, h2⟩ w hw => ⟨rfl, _, run_results hf.eq hw, .inl ⟨p, by rw [h1, ht.eq], h2 w hw⟩⟩⟩
/-- panic(v). -/
instance {T : TypeId} {u : Value} [hx : Ev l x (.iface T u)] : Red (WL P ops Q w0 (⟨none, .panic x, ty, pos, after, none⟩ :: rest) l Γ) (WQ Q w0 (.panic [{ v := .iface T u, recovered := false }]) l Γ) := ⟨fun h w hs => by
  refine wpList_plain rfl fun K hK => ?_
  unfold Oper.wp
  have : (execOp (E l).eval ⟨none, .panic x, ty, pos, after, none⟩).run P w = .halt (.panic (.iface T u)) w := by
    unfold execOp
    simp [hx.eq, Instr.panic, goPanic, Sem.run_bind]
  rw [this, Oper.upon_panic]
  exact h w hs⟩
instance {T : TypeId} [hx : Ev l x v] [hd : MkI P T] : PuC P l Γ (.makeInterface T x) ty (.iface T v) := ⟨fun w0 =>
  pu_of (s := Instr.makeInterface T v) (fun o ho _ => by unfold execOp; rw [ho]; simp only [hx.eq]) (fun w hs => hd.run v w)⟩
instance {T : TypeId} [hT : Bl0 P T] : PuC P l Γ (.build T #[]) ty (.agg #[]) := ⟨fun w0 =>
  pu_of (s := Instr.build T #[]) (fun o ho _ => by unfold execOp; rw [ho]; simp) (fun w hs => hT.run w)⟩
end u
end Go.Eng
namespace Go.Eng
open Go Go.RowKit
set_option linter.unusedVariables false
set_option linter.unusedSimpArgs false
set_option synthInstance.maxHeartbeats 400000
set_option synthInstance.maxSize 1000
section s
variable {P : Program} {w0 : World} {l : List Value} {Γ : List Atom} {ty : TypeId}

/-- The number of 64 bits that a number comes to. -/
def wr (n : Int) : Int := IntKind.i64.wrap n
def xr (a b : Int) : Int := bits .xor .i64 a b
def sh64 (a : Int) (m : Nat) : Int := a / 2 ^ min m 64
theorem wr_in {n : Int} (h : -9223372036854775808 ≤ n ∧ n ≤ 9223372036854775807) : wr n = n := IntWalk.i64_in _ (by omega)
theorem i64_mask (n : Int) (k : Nat) (hk : k < 63) : bits .and .i64 n ((2 ^ k - 1 : Nat) : Int) = n % ((2 ^ k : Nat) : Int) := by
  have hlt : 2 ^ k < 2 ^ 63 := Nat.pow_lt_pow_right (by omega) hk
  have hp : 0 < 2 ^ k := Nat.two_pow_pos k
  have h127 : (BitVec.ofInt 64 ((2 ^ k - 1 : Nat) : Int)).toNat = 2 ^ k - 1 := by
    rw [BitVec.toNat_ofInt]
    have h2 : (2 ^ 63 : Nat) = 9223372036854775808 := by decide
    have h3 : (2 ^ 64 : Nat) = 18446744073709551616 := by decide
    generalize 2 ^ k = z at *
    omega
  have key : (BitVec.ofInt 64 n &&& BitVec.ofInt 64 ((2 ^ k - 1 : Nat) : Int)).toNat = (n % ((2 ^ 64 : Nat) : Int)).toNat % 2 ^ k := by
    rw [BitVec.toNat_and, BitVec.toNat_ofInt, h127, Nat.and_two_pow_sub_one_eq_mod]
  show IntKind.i64.wrap ((BitVec.ofInt 64 n &&& BitVec.ofInt 64 ((2 ^ k - 1 : Nat) : Int)).toNat : Nat) = n % ((2 ^ k : Nat) : Int)
  rw [key]
  have h1 : (n % ((2 ^ 64 : Nat) : Int)).toNat % 2 ^ k < 2 ^ k := Nat.mod_lt _ hp
  have h2 : (2 ^ 63 : Nat) = 9223372036854775808 := by decide
  rw [IntWalk.i64_in _ (by generalize 2 ^ k = z at *; omega)]
  rw [Int.natCast_emod, Int.toNat_of_nonneg (Int.emod_nonneg _ (by decide))]
  exact Int.emod_emod_of_dvd _ (Int.natCast_dvd_natCast.2 (Nat.pow_dvd_pow 2 (by omega)))
section ops
variable {T U : TypeId} {x y : Operand} {a b : Int} {m : Nat} {k : Int} {yk : IntKind}
theorem pu_add_w [hx : Ev l x (.int .i64 a)] [hy : Ev l y (.int .i64 b)] : Pu P w0 l Γ (.binOp .add T x y U) ty (.int .i64 (wr (a + b))) :=
  pu_bin eqGuard_int (fun w => by simp only [binOp, Op.intArith, ne_eq, not_true_eq_false, if_false]; rfl)
theorem pu_mul_w [hx : Ev l x (.int .i64 a)] [hy : Ev l y (.int .i64 b)] : Pu P w0 l Γ (.binOp .mul T x y U) ty (.int .i64 (wr (a * b))) :=
  pu_bin eqGuard_int (fun w => by simp only [binOp, Op.intArith, ne_eq, not_true_eq_false, if_false]; rfl)
theorem pu_xor64 [hx : Ev l x (.int .i64 a)] [hy : Ev l y (.int .i64 b)] : Pu P w0 l Γ (.binOp .xor T x y U) ty (.int .i64 (xr a b)) :=
  pu_bin eqGuard_int (fun w => by rw [binOp_xor, intBits_xor, Sem.run_pure]; rfl)
theorem pu_shr64 [hx : Ev l x (.int .i64 a)] [hy : Ev l y (.int yk k)] [hm : ToN k m] (h : 0 ≤ k) : Pu P w0 l Γ (.binOp .shr T x y U) ty (.int .i64 (sh64 a m)) :=
  pu_bin eqGuard_int (fun w => by
    have e : binOp .shr T (.int .i64 a) (.int yk k) = Op.shift .shr .i64 a yk k := rfl
    rw [e, shift_shr_any _ _ _ _ h, hm.eq, Sem.run_pure]
    rfl)
theorem pu_and255 [hx : Ev l x (.int .i64 a)] [hy : Ev l y (.int .i64 255)] : Pu P w0 l Γ (.binOp .and T x y U) ty (.int .i64 (a % 256)) :=
  pu_bin eqGuard_int (fun w => by
    rw [binOp_and, intBits_and, show (255 : Int) = ((2 ^ 8 - 1 : Nat) : Int) from rfl, i64_mask _ _ (by omega), Sem.run_pure]
    rfl)
theorem pu_and30 [hx : Ev l x (.int .i64 a)] [hy : Ev l y (.int .i64 1073741823)] : Pu P w0 l Γ (.binOp .and T x y U) ty (.int .i64 (a % 1073741824)) :=
  pu_bin eqGuard_int (fun w => by
    rw [binOp_and, intBits_and, show (1073741823 : Int) = ((2 ^ 30 - 1 : Nat) : Int) from rfl, i64_mask _ _ (by omega), Sem.run_pure]
    rfl)
instance [hx : Ev l x (.int .i64 a)] [hy : Ev l y (.int .i64 b)] : PuS P l Γ (.binOp .xor T x y U) ty (.int .i64 (xr a b)) True := ⟨fun _ _ => pu_xor64⟩
instance [hx : Ev l x (.int .i64 a)] [hy : Ev l y (.int yk k)] [hm : ToN k m] : PuS P l Γ (.binOp .shr T x y U) ty (.int .i64 (sh64 a m)) (0 ≤ k) := ⟨fun h _ => pu_shr64 h⟩
instance [hx : Ev l x (.int .i64 a)] [hy : Ev l y (.int .i64 255)] : PuS P l Γ (.binOp .and T x y U) ty (.int .i64 (a % 256)) True := ⟨fun _ _ => pu_and255⟩
instance [hx : Ev l x (.int .i64 a)] [hy : Ev l y (.int .i64 1073741823)] : PuS P l Γ (.binOp .and T x y U) ty (.int .i64 (a % 1073741824)) True := ⟨fun _ _ => pu_and30⟩
/-- The wrapping sum and product; where they overflow these stand before the others. -/
theorem addW [hx : Ev l x (.int .i64 a)] [hy : Ev l y (.int .i64 b)] : PuS P l Γ (.binOp .add T x y U) ty (.int .i64 (wr (a + b))) True := ⟨fun _ _ => pu_add_w⟩
theorem mulW [hx : Ev l x (.int .i64 a)] [hy : Ev l y (.int .i64 b)] : PuS P l Γ (.binOp .mul T x y U) ty (.int .i64 (wr (a * b))) True := ⟨fun _ _ => pu_mul_w⟩
end ops
/-- T is the type of bytes. -/
class U8T (P : Program) (T : TypeId) : Prop where
  eq : P.underlying T = some (.int .u8)
theorem pu_conv_8 {S T : TypeId} {x : Operand} {n : Nat} [hx : Ev l x (.int .u8 (n : Int))] [hS : U8T P S] [hT : I64T P T] (h : n < 256) : Pu P w0 l Γ (.convert S T x) ty (.int .i64 (n : Int)) :=
  pu_of (s := convert S T (.int .u8 (n : Int))) (fun o ho _ => by unfold execOp; rw [ho]; simp only [hx.eq]) (fun w _ => by
    simp only [convert, Sem.run_bind, run_underlying hS.eq, run_underlying hT.eq, Result.andThen_ok, Conv.intToInt, Sem.run_pure]
    rw [IntWalk.i64_in _ (by omega)])
instance {S T : TypeId} {x : Operand} {b : UInt8} [hx : Ev l x (.int .u8 ((b.toNat : Nat) : Int))] [hS : U8T P S] [hT : I64T P T] : PuS P l Γ (.convert S T x) ty (.int .i64 ((b.toNat : Nat) : Int)) True := ⟨fun _ _ => pu_conv_8 b.toNat_lt⟩
theorem pu_load_u8 {T : TypeId} {x : Operand} {sv : Value} {n : Int} {xs : List UInt8} [h : Ev l x (.pointer (some (elemA sv n 1)))] [hT : Sc P T] [hr : HasRd (List UInt8) repList Γ [sv] xs]
    (hi : 0 ≤ n ∧ n < xs.length) : Pu P w0 l Γ (.load T x) ty (.int .u8 ((((xs.getD n.toNat 0).toNat : Nat)) : Int)) :=
  pu_of (s := Instr.loadAt T (.pointer (some (elemA sv n 1)))) (fun o ho _ => by unfold execOp; rw [ho]; simp only [h.eq]) (fun w hs => by
    obtain ⟨a, cap, b, off, p, c, s, rfl, _, _, hca, hp, he, hrd⟩ := elem_cells (hs.rd (hr := hr)) hi.1 hi.2
    have hrd' : c = [.int .u8 _] := hrd
    subst hrd'
    have he' : elemA (.slice (some ⟨b, off, none⟩) xs.length cap) n 1 = ⟨b, off + p.length, none⟩ := he
    have := hca.part 0 (by simp)
    simp only [Nat.add_zero, List.getElem?_cons_zero] at this
    rw [he', List.getD_eq_getElem?_getD, List.getElem?_eq_getElem (by omega), Option.getD_some]
    simp [Instr.loadAt, Instr.sureAddr, loadVar, Sem.run_bind, hT.agg, load, Sem.run, this])
instance {T : TypeId} {x : Operand} {sv : Value} {n : Int} {m : Nat} {xs : List UInt8} [h : Ev l x (.pointer (some (elemA sv n 1)))] [hm : ToN n m] [hT : Sc P T] [hr : HasRd (List UInt8) repList Γ [sv] xs] : PuS P l Γ (.load T x) ty (.int .u8 (((xs.getD m 0).toNat : Nat) : Int)) (0 ≤ n ∧ n < xs.length) := ⟨fun h _ => hm.eq ▸ pu_load_u8 h⟩
end s
attribute [irreducible] wr xr sh64

/-- What is owned may be read. -/
theorem ent_rd {w0 : World} {Γ Δ Ε : List Atom} {α : Type} {iα : Rep α} (sv : Value) {x : α} [hp : PullOw α iα Γ [sv] x Δ] (h : Ent w0 (.rd [sv] x :: Δ) Ε) : Ent w0 Γ Ε := fun w hs => h w (hs.perm hp.perm).share
theorem OwL.toSh {β : Type} [Rep β] {ok ok' : Nat → Prop} {w : World} (ho : ∀ b, ok b → ok' b) : ∀ {G : List Nat} {cells : List Value} {xs : List β}, OwL ok w G cells xs → (∀ b ∈ G, ok' b) → OwL ok' w [] cells (xs.map Sh.mk)
  | _, _, [], h, _ => ⟨rfl, h.2⟩
  | _, _, x :: xs, ⟨f, g, c, d, e, e', h, h'⟩, hG => ⟨[], [], c, d, rfl, e', ⟨rfl, Rep.ow_rd h ho (fun b hb => hG b (by rw [e]; exact List.mem_append_left _ hb))⟩, OwL.toSh ho h' (fun b hb => hG b (by rw [e]; exact List.mem_append_right _ hb))⟩
/-- The elements of an owned list may be shared. -/
theorem ent_toSh {w0 : World} {Γ Δ : List Atom} {β : Type} {iβ : Rep β} (sv : Value) {xs : List β} [hp : PullOw (List β) repList Γ [sv] xs Δ] : Ent w0 Γ (@Atom.ow (List (Sh β)) repList [sv] (xs.map Sh.mk) :: Δ) := by
  intro w hs
  obtain ⟨hb, F, hnd, hl, f, g, rfl, hA, hsep⟩ := hs.perm hp.perm
  have how : Rep.ow (· ∉ f ++ g) w f [sv] xs := hA
  rw [ow_list] at how
  rcases how with ⟨h0, rfl, rfl⟩ | ⟨b, cap, cur, ee, G, cells, h0, rfl, h1, h2, h3, h4, h5, h6, h7⟩
  · refine ⟨hb, [] ++ g, hnd, hl, [], g, rfl, ?_, hsep⟩
    show Rep.ow (α := List (Sh β)) _ w [] [sv] _
    rw [ow_list]
    exact .inl ⟨h0, rfl, rfl⟩
  · have hp2 : ([b] ++ (G ++ g)).Perm ((b :: G) ++ g) := by simp
    have hmem : ∀ c, c ∈ [b] ++ g → c ∈ (b :: G) ++ g := fun c hc => by
      rcases List.mem_append.1 hc with h | h
      · exact List.mem_append_left _ (by rw [List.mem_singleton] at h; simp [h])
      · exact List.mem_append_right _ h
    have hnd' := hnd
    rw [List.cons_append, List.nodup_cons, List.nodup_append] at hnd'
    have hn2 : ([b] ++ g).Nodup := by
      rw [List.cons_append, List.nil_append, List.nodup_cons]
      exact ⟨fun h => hnd'.1 (List.mem_append_right _ h), hnd'.2.2.1⟩
    refine ⟨hb, [b] ++ g, hn2, fun c hc => hl c (hmem c hc), [b], g, rfl, ?_, hsep.mono (fun c hc _ => ⟨fun hm => hc (hmem c hm), rfl⟩) (Nat.le_refl _) (fun _ _ => rfl)⟩
    show Rep.ow (α := List (Sh β)) _ w [b] [sv] _
    rw [ow_list]
    refine .inr ⟨b, cap, cur, ee, [], cells, by rw [List.length_map]; exact h0, rfl, h1, by rw [List.length_map]; exact h2, h3, by rw [List.length_map]; exact h4, h5, by rw [List.length_map]; exact h6, ?_⟩
    refine h7.toSh (fun c hc hm => hc (hmem c hm)) (fun c hc hm => ?_)
    rcases List.mem_append.1 hm with h | h
    · rw [List.mem_singleton] at h
      exact hnd'.1 (by rw [← h]; exact List.mem_append_left _ hc)
    · exact hnd'.2.2.2 c hc c h rfl
theorem wl_toSh {P : Program} {ops : Array Oper} {Q : Exit → Act → World → Prop} {w0 : World} {rest : List Oper} {l : List Value} {Γ Δ : List Atom} {β : Type} {iβ : Rep β} (sv : Value) {xs : List β} [hp : PullOw (List β) repList Γ [sv] xs Δ] (h : WL P ops Q w0 rest l (@Atom.ow (List (Sh β)) repList [sv] (xs.map Sh.mk) :: Δ)) : WL P ops Q w0 rest l Γ := fun w hs => h w (ent_toSh sv w hs)
/-- Where a cursor over bytes stands. -/
abbrev CurS (code : List UInt8) : Type := { p : Nat × Int // p.1 ≤ code.length }
def cur {code : List UInt8} (vb : Value) (p : CurS code) : List Value := [vb, .int .i64 (p.1.1 : Int), .int .i64 p.1.2]
/-- The atoms but those of a cursor, that calls move. -/
class KeepC (Γ : List Atom) (Δ : outParam (List Atom)) : Prop where
  sub : Sub Γ Δ
instance : KeepC [] [] := ⟨Sub.nil⟩
instance (priority := 2000) {Γ Δ : List Atom} {code : List UInt8} {b : Nat} {vb : Value} {p : CurS code} [h : KeepC Γ Δ] : KeepC (.bk b (cur vb p) :: Γ) Δ := ⟨sub_skip h.sub⟩
instance (priority := 500) {Γ Δ : List Atom} {A : Atom} [h : KeepC Γ Δ] : KeepC (A :: Γ) (A :: Δ) := ⟨sub_keep h.sub⟩
instance (priority := 50) {Γ : List Atom} : KeepC Γ Γ := ⟨Sub.refl⟩
theorem wa_beginc {P : Program} {Q : Exit → Act → World → Prop} {w0 : World} {l : List Value} {Γ Γb : List Atom} [hm : Mixed P] {n : Nat} {ol : List Oper} (id : Nat) (bl : List Bool) (lt : List Nat) [hk : KeepC Γ Γb] (h : WA P ol.toArray Q w0 lt Γb n bl l Γ) (hn : ol.length = n := by rfl) (hbl : List.replicate n false = bl := by rfl) : WC P Q w0 (.region id ol.toArray true) l Γ :=
  wa_start_on lt Γb (fun _ hs => hs.sub hk.sub) hn hbl h
/-- The atoms but those of a cursor, and of a place for an answer that is not there yet. -/
class KeepD (Γ : List Atom) (Δ : outParam (List Atom)) : Prop where
  sub : Sub Γ Δ
instance : KeepD [] [] := ⟨Sub.nil⟩
instance (priority := 2000) {Γ Δ : List Atom} {code : List UInt8} {b : Nat} {vb : Value} {p : CurS code} [h : KeepD Γ Δ] : KeepD (.bk b (cur vb p) :: Γ) Δ := ⟨sub_skip h.sub⟩
instance (priority := 2000) {Γ Δ : List Atom} {b : Nat} [h : KeepD Γ Δ] : KeepD (.bk b [.slice none 0 0] :: Γ) Δ := ⟨sub_skip h.sub⟩
instance (priority := 500) {Γ Δ : List Atom} {A : Atom} [h : KeepD Γ Δ] : KeepD (A :: Γ) (A :: Δ) := ⟨sub_keep h.sub⟩
instance (priority := 50) {Γ : List Atom} : KeepD Γ Γ := ⟨Sub.refl⟩
theorem op_u8 {P : Program} {T : TypeId} (h : P.underlying T = some (.int .u8)) (hs : P.cellsOf T = 1) : Op_ P T UInt8 repU8 := ⟨fun ht => by
  obtain ⟨n, rfl, _, hw⟩ := DataW.trod_int h ht
  have h1 : 0 ≤ n ∧ n < 256 := by
    simp [Lit.wf, IntKind.min, IntKind.max, IntKind.signed, IntKind.bits] at hw
    omega
  refine ⟨UInt8.ofNat n.toNat, ?_⟩
  show [Value.int .u8 n] = [Value.int .u8 (((UInt8.ofNat n.toNat).toNat : Nat) : Int)]
  rw [UInt8.toNat_ofNat', Nat.mod_eq_of_lt (by omega), Int.toNat_of_nonneg h1.1], hs⟩
end Go.Eng
