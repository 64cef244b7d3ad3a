/- The rules of the walk: a struct variable whose second field is an array; calls that may panic. -/
import Derived.Test.YtbbdjjlnachnlaaGreatDoorEngT
import Derived.Laws.Bits128
import Derived.Lib.AppendStr
import Derived.Lib.Builder
import Derived.Lib.UnsafeStr
import Derived.Laws.IdiomStrings
import Derived.Laws.Pointers
namespace Go.Eng
open Go Go.RowKit
set_option linter.unusedVariables false
set_option linter.unusedSimpArgs false
set_option synthInstance.maxHeartbeats 400000
set_option synthInstance.maxSize 1000
/-- T is no interface type. -/
class MkI (P : Program) (T : TypeId) : Prop where
  run : ∀ v w, (Instr.makeInterface T v).run P w = .ok (.iface T v) w
/-- T is a struct type without fields. -/
class Bl0 (P : Program) (T : TypeId) : Prop where
  run : ∀ w, (Instr.build T #[]).run P w = .ok (.agg #[]) w
section u
variable {P : Program} {ops : Array Oper} {Q : Exit → Act → World → Prop} {w0 : World} {rest : List Oper} {l l' : List Value} {Γ Γb Δ Ε : List Atom} {ty : TypeId} {v : Value} {pos : String} {after : Array Edge} {d : Nat} {x y : Operand}

theorem pu_index_arr1 {T n b : Nat} {m : Nat} {k : Int} {kk : IntKind} [h : Ev l x (.pointer (some ⟨b, 1, none⟩))] [hy : Ev l y (.int kk k)] [hm : ToN k m] [hT : ArT P T n] (hk : 0 ≤ k ∧ k < n) : Pu P w0 l Γ (.indexAddr T x y) ty (.pointer (some ⟨b, m + 1, none⟩)) := by
  obtain ⟨e, i, ht, hi, hs, hn⟩ := hT.ex
  refine pu_of (s := Instr.indexAt T (.pointer (some ⟨b, 1, none⟩)) (.int kk k)) (fun o ho _ => by unfold execOp; rw [ho]; simp only [h.eq, hy.eq]) (fun w hs' => ?_)
  have e1 := hm.eq
  simp [Instr.indexAt, asIntOf, run_underlying ht, sizeOf, typeInfo, hi, hs, hk.1, hk.2, Instr.sureAddr, e1, Addr.add, Nat.add_comm]
instance {T n b m : Nat} {k : Int} {kk : IntKind} [h : Ev l x (.pointer (some ⟨b, 1, none⟩))] [hy : Ev l y (.int kk k)] [hm : ToN k m] [hT : ArT P T n] : PuS P l Γ (.indexAddr T x y) ty (.pointer (some ⟨b, m + 1, none⟩)) (0 ≤ k ∧ k < n) := ⟨fun h _ => pu_index_arr1 h⟩
/-- .. and of a slice of that field. -/
theorem pu_index_sl1 {T b by_ n c : Nat} {m : Nat} {k : Int} {kk : IntKind} [h : Ev l x (.slice (some ⟨b, 1, none⟩) n c)] [hy : Ev l y (.int kk k)] [hm : ToN k m] [hT : Sl P T 1 by_] (hk : 0 ≤ k ∧ k < n) : Pu P w0 l Γ (.indexAddr T x y) ty (.pointer (some ⟨b, m + 1, none⟩)) := by
  obtain ⟨el, inf, z, ht, hinf, hks, _⟩ := hT.ex
  refine pu_of (s := Instr.indexAt T (.slice (some ⟨b, 1, none⟩) n c) (.int kk k)) (fun o ho _ => by unfold execOp; rw [ho]; simp only [h.eq, hy.eq]) (fun w hs' => ?_)
  have e1 := hm.eq
  have h1 : k < (n : Int) := hk.2
  simp [Instr.indexAt, asIntOf, run_underlying ht, sizeOf, typeInfo, hinf, hks, hk.1, h1, Instr.sureAddr, e1, Addr.add, Nat.add_comm]
instance {T b by_ n c : Nat} {m : Nat} {k : Int} {kk : IntKind} [h : Ev l x (.slice (some ⟨b, 1, none⟩) n c)] [hy : Ev l y (.int kk k)] [hm : ToN k m] [hT : Sl P T 1 by_] : PuS P l Γ (.indexAddr T x y) ty (.pointer (some ⟨b, m + 1, none⟩)) (0 ≤ k ∧ k < n) := ⟨fun h _ => pu_index_sl1 h⟩
/-- The beginning of that field as a slice. -/
theorem pu_slice_arr1 {T n b : Nat} {m : Nat} {kk : IntKind} {k : Int} [hx : Ev l x (.pointer (some ⟨b, 1, none⟩))] [hy : Ev l y (.int kk k)] [hm : ToN k m] [hT : ArT P T n] (hk : 0 ≤ k ∧ k ≤ n) : Pu P w0 l Γ (.slice T x none (some y) none) ty (.slice (some ⟨b, 1, none⟩) m n) := by
  obtain ⟨e, i, ht, hi, hs1, hn2⟩ := hT.ex
  refine pu_of (s := Instr.sliceAt T (.pointer (some ⟨b, 1, none⟩)) none (some (.int kk k)) none) (fun o ho _ => by unfold execOp; rw [ho]; simp only [Option.map_none, Option.map_some, hx.eq, hy.eq]) (fun w hs' => ?_)
  have e1 := hm.eq
  have h1 : ¬ n = 0 := by omega
  have h2 : m ≤ n := by omega
  have h3 : k = (m : Int) := by omega
  subst h3
  simp [Instr.sliceAt, Instr.sliceBounds, Instr.sureAddr, run_underlying ht, sizeOf, typeInfo, hi, h1, h2, Addr.add, asIntOf, Instr.sliceBound]
instance {T n b : Nat} {m : Nat} {kk : IntKind} {k : Int} [hx : Ev l x (.pointer (some ⟨b, 1, none⟩))] [hy : Ev l y (.int kk k)] [hm : ToN k m] [hT : ArT P T n] : PuS P l Γ (.slice T x none (some y) none) ty (.slice (some ⟨b, 1, none⟩) m n) (0 ≤ k ∧ k ≤ n) := ⟨fun h _ => pu_slice_arr1 h⟩
/-- An element of the array behind the first cell, read. -/
instance (priority := 1200) {T n b m : Nat} {α : Type} {iα : Rep α} [hn : PosN n] {c0 : Value} {cs : List Value} {xs : List (NE α)} [h : Ev l x (.pointer (some ⟨b, m + 1, none⟩))] [hT : Sc P T] [hb : HasBk Γ b (c0 :: cs)] [hr : HasIm (Ar n (NE α)) repAr Γ cs (Ar.mk xs)] :
    RedV (WL P ops Q w0 (⟨some d, .load T x, ty, pos, after, none⟩ :: rest) l Γ) (m < n) (fun v => WL P ops Q w0 rest (l.set d v) (.rd [v] (xs.getD m default).xs :: .rd [v] (xs.getD m default) :: Γ)) := ⟨fun s hw w hs => by
  obtain ⟨hbel, F, hnd, hl, hsep⟩ := hs
  obtain ⟨e, he⟩ := hb.get hsep
  obtain ⟨v, hv, hrd⟩ := ar_get rfl (hr.get hsep) s
  have hc : w.cell? ⟨b, m + 1, none⟩ = some v := by simp [World.cell?, he, hv]
  refine wl_op (v := v) (w' := w) rfl (run_value (f := Next.value) (s := Instr.loadAt T ((E l).eval x)) ?_) ?_
  · rw [h.eq]; simp [Instr.loadAt, Instr.sureAddr, loadVar, Sem.run_bind, hT.agg, load, Sem.run, hc]
  · rw [E_put]
    exact hw v _ ⟨hbel, F, hnd, hl, [], F, rfl, ⟨rfl, NERd.list hrd⟩, [], F, rfl, ⟨rfl, hrd⟩, hsep⟩⟩
theorem wl_store_arr1 {T n b m : Nat} {α : Type} {iα : Rep α} [hn : PosN n] {c0 : Value} {cs : List Value} {xs : List α} {u : α} [hx : Ev l x (.pointer (some ⟨b, m + 1, none⟩))] [hy : Ev l y v] [ho : OneC Γ v] [hT : Sc P T] [hb : PullBk Γ b (c0 :: cs) Δ] [hr : HasIm (Ar n α) repAr Δ cs (Ar.mk xs)] [hsz : SzIs α 1] (hm : m < n)
    (hu : ∀ {ok w F}, Sep ok w Δ F → Rep.rd ok w [v] u) (h : WL P ops Q w0 rest l (.bk b (c0 :: cs.set m v) :: .rd (cs.set m v) (Ar.mk (xs.set m u) : Ar n α) :: Δ)) :
    WL P ops Q w0 (⟨none, .store T x y, ty, pos, after, none⟩ :: rest) l Γ := by
  intro w hs
  have h1 : v.oneCell' = true := by
    obtain ⟨_, F, _, _, hs⟩ := hs
    exact ho.one hs
  have hs1 := hs.perm hb.perm
  obtain ⟨e, he⟩ := hs1.bk (hr := HasBk.here)
  have hlen : cs.length = n := by
    obtain ⟨_, F, _, _, hs⟩ := hs1
    obtain ⟨f, g, _, _, hsep⟩ := hs
    have h2 := hr.get hsep
    have := Rep.rd_len h2
    rw [this]; show n * Rep.sz α = n; rw [← hsz.eq, Nat.mul_one]
  have hs2 := hs1.store (m + 1) v
  rw [List.set_cons_succ] at hs2
  have hcell : w.cell? ⟨b, m + 1, none⟩ = some (cs[m]'(by omega)) := by simp [World.cell?, he, List.getElem?_eq_getElem (show m < cs.length by omega)]
  have hfr : w.frozen? ⟨b, m + 1, none⟩ = false := by simp [World.frozen?, he]
  have hst : (store (⟨b, m + 1, none⟩ : Addr) v).run P w = .ok () (w.setCell ⟨b, m + 1, none⟩ v) := by
    cases v <;> simp_all [store, Sem.run, Value.oneCell']
  refine wpList_plain rfl fun K hK => ?_
  unfold Oper.wp
  have hrun : (execOp (E l).eval ⟨none, .store T x y, ty, pos, after, none⟩).run P w = .ok .skip (w.setCell ⟨b, m + 1, none⟩ v) := by
    show (do Instr.storeAt T ((E l).eval x) ((E l).eval y); pure Next.skip : Sem Next).run P w = _
    simp only [hx.eq, hy.eq, Sem.run_bind, Instr.storeAt, Instr.sureAddr, Sem.run_pure, Result.andThen_ok, storeVar, hT.size, cells_one h1]
    simp only [List.size_toArray, List.length_cons, List.length_nil, Nat.zero_add, ne_eq, not_true_eq_false, if_false, Sem.run_pure, Result.andThen_ok, Sem.run_bind, storeCells]
    have : (⟨b, m + 1, none⟩ : Addr).add 0 = ⟨b, m + 1, none⟩ := by simp [Addr.add]
    rw [this]
    simp only [hst, Result.andThen_ok, Sem.run_pure]
  rw [hrun, Oper.upon_skip, E_put_none]
  refine hK _ _ (h _ ?_)
  obtain ⟨hbel, F, hnd, hl, f, g, rfl, hA, hsep⟩ := hs2
  exact ⟨hbel, f ++ g, hnd, hl, f, g, rfl, hA, [], g, rfl, ⟨rfl, by have := hr.get hsep; exact ⟨by simpa using this.1, this.2.set hsz.eq.symm (hu hsep)⟩⟩, hsep⟩
instance {T n b m : Nat} {α : Type} {iα : Rep α} [hn : PosN n] {c0 : Value} {cs : List Value} {xs : List (NE α)} {ys : List α} [hx : Ev l x (.pointer (some ⟨b, m + 1, none⟩))] [hy : Ev l y v] [ho : OneC Γ v] [hT : Sc P T] [hb : PullBk Γ b (c0 :: cs) Δ] [hr : HasIm (Ar n (NE α)) repAr Δ cs (Ar.mk xs)] [hu : HasIm (List α) repList Δ [v] ys] :
    RedS (WL P ops Q w0 (⟨none, .store T x y, ty, pos, after, none⟩ :: rest) l Γ) (m < n ∧ 0 < ys.length) (WL P ops Q w0 rest l (.bk b (c0 :: cs.set m v) :: .rd (cs.set m v) (Ar.mk (xs.set m ⟨ys⟩) : Ar n (NE α)) :: Δ)) :=
  ⟨fun s h => wl_store_arr1 (u := (⟨ys⟩ : NE α)) (hsz := ⟨rfl⟩) s.1 (fun {ok w F} hsep => show NERd ok w [v] ys from .inr ⟨fun e => by have := s.2; rw [e] at this; simp at this, hu.get hsep⟩) h⟩
/-- A truth value of an array, read. -/
theorem pu_load_arb {T n b m : Nat} [hn : PosN n] {cs : List Value} {xs : List Bool} [h : Ev l x (.pointer (some ⟨b, m, none⟩))] [hT : Sc P T] [hb : HasBk Γ b cs] [hr : HasRd (Ar n Bool) repAr Γ cs (Ar.mk xs)] (hm : m < n) : Pu P w0 l Γ (.load T x) ty (.bool (xs.getD m default)) :=
  pu_of (s := Instr.loadAt T (.pointer (some ⟨b, m, none⟩))) (fun o ho _ => by unfold execOp; rw [ho]; simp only [h.eq]) (fun w hs => by
    obtain ⟨e, he⟩ := hs.bk (hr := hb)
    obtain ⟨v, hv, hrd⟩ := ar_get rfl (hs.rd (hr := hr)) hm
    have hrd' : [v] = [Value.bool _] := hrd
    injection hrd' with hrd' _
    have hc : w.cell? ⟨b, m, none⟩ = some v := by simp [World.cell?, he, hv]
    rw [← hrd']
    simp [Instr.loadAt, Instr.sureAddr, loadVar, Sem.run_bind, hT.agg, load, Sem.run, hc])
instance (priority := 1100) {T n b m : Nat} [hn : PosN n] {cs : List Value} {xs : List Bool} [h : Ev l x (.pointer (some ⟨b, m, none⟩))] [hT : Sc P T] [hb : HasBk Γ b cs] [hr : HasRd (Ar n Bool) repAr Γ cs (Ar.mk xs)] : PuS P l Γ (.load T x) ty (.bool (xs.getD m default)) (m < n) := ⟨fun h _ => pu_load_arb h⟩

/-! ### Calls that may panic -/
/-- From Γ, function f called with vs ends in r p, and leaves Γ' p. -/
def CJP (P : Program) (f : FuncId) (vs : List Value) (w0 : World) (Γ : List Atom) {ρ : Type} (r : ρ → Ending) (Γ' : ρ → List Atom) : Prop :=
  ∀ w, Sat w0 w Γ → Calls P f vs.toArray w (fun e w' => ∃ p, e = r p ∧ Sat w0 w' (Γ' p))
class CtrP (P : Program) (f : FuncId) (vs : List Value) (Γ : List Atom) (S : outParam Prop) (ρ σ : outParam Type) (r : outParam (ρ → Value)) (Γ' : outParam (ρ → List Atom)) (r2 : outParam (σ → List PanicEntry)) (Γ'' : outParam (σ → List Atom)) : Prop where
  run : S → ∀ w0, CJP P f vs w0 Γ (Sum.elim (fun p => Ending.returned (r p)) (fun q => Ending.panicked (r2 q))) (Sum.elim Γ' Γ'')
class RedP (G : Prop) (S : outParam Prop) (ρ σ : outParam Type) (G' : outParam (ρ → Prop)) (G'' : outParam (σ → Prop)) : Prop where
  run : S → (∀ p, G' p) → (∀ q, G'' q) → G
theorem redp {G S : Prop} {ρ σ : Type} {G' : ρ → Prop} {G'' : σ → Prop} [h : RedP G S ρ σ G' G''] (g : ∀ p, G' p) (g' : ∀ q, G'' q) (s : S := by first | exact True.intro | omega | assumption | ((repeat' apply And.intro) <;> first | assumption | omega)) : G := h.run s g g'
instance {f : FuncId} {xs : List Operand} {vs : List Value} {ts : Array TypeId} {S : Prop} {ρ σ : Type} {r : ρ → Value} {Γ' : ρ → List Atom} {r2 : σ → List PanicEntry} {Γ'' : σ → List Atom} [hx : EvL l xs vs] [hf : IsFn P f] [hc : CtrP P f vs Γ S ρ σ r Γ' r2 Γ''] :
    RedP (WL P ops Q w0 (⟨some d, .call { callee := .value (.func f), args := xs.toArray, argTypes := ts }, ty, pos, after, none⟩ :: rest) l Γ) S ρ σ (fun p => WL P ops Q w0 rest (l.set d (r p)) (Γ' p)) (fun q => WQ Q w0 (.panic (r2 q)) l (Γ'' q)) := ⟨fun s g g' => by
  intro w hs
  refine wpList_plain rfl fun K hK => ?_
  unfold Oper.wp
  rw [run_call w, Oper.upon_enter]
  refine (hc.run s w0 w hs).mono ?_
  rintro e w' ⟨p, rfl, hs'⟩
  cases p with
  | inl p =>
    show K ((E l).put (some d) (r p)) w'
    rw [E_put]
    exact hK _ _ (g p w' hs')
  | inr q => exact g' q w' hs'⟩

/-- A list that is nil if empty, compared with nil the other way. -/
instance (priority := 1100) {T U k by_ : TypeId} {α : Type} {iα : Rep α} {z : NE α} {l1 l2 : List Value} [hx : Ev l x v] [hy : Ev l y (.slice none 0 0)] [hT : Sl P T k by_] [hr : HasNe α iα Γ [v] z] [h1 : Se l d (.bool true) l1] [h2 : Se l d (.bool false) l2] :
    RedQ (WL P ops Q w0 (⟨some d, .binOp .neq T x y U, ty, pos, after, none⟩ :: rest) l Γ) (¬ z.xs = []) (z.xs = []) (WL P ops Q w0 rest l1 Γ) (WL P ops Q w0 rest l2 Γ) := ⟨fun g1 g2 w hs => by
  obtain ⟨e, inf, zz, ht, _⟩ := hT.ex
  obtain ⟨hbel, F, hnd, hl, hsep⟩ := id hs
  have key : ∀ {a : Option Addr} {len cap : Nat}, v = .slice a len cap → Pu P w0 l Γ (.binOp .neq T x y U) ty (.bool (!a.isNone)) := fun {a len cap} hv => by
    subst hv
    refine pu_bin (hx := hx) (hy := hy) eqGuard_slice (fun w => ?_)
    exact run_value (f := fun b => Value.bool (!b)) (run_equal_nil ht 9999 w)
  rcases hr.get hsep with ⟨hv, hz⟩ | ⟨hz, hrd⟩
  · have hv' : v = .slice none 0 0 := by simpa using hv
    exact wl_pure (v := .bool false) (hd := h2) (key hv') (g2 hz) w hs
  · obtain ⟨a, cap, hv, hc1, hc2, hc3, hc4⟩ := (id hrd : Rep.rd _ _ _ _)
    have hv' : v = .slice a z.xs.length cap := by simpa using hv
    have hpos : 0 < z.xs.length := by
      rcases Nat.eq_zero_or_pos z.xs.length with h | h
      · exact absurd (List.eq_nil_of_length_eq_zero h) hz
      · exact h
    obtain ⟨b, off, cells, rfl, _⟩ := hc4 hpos
    exact wl_pure (v := .bool true) (hd := h1) (by have := key hv'; simpa using this) (g1 hz) w hs⟩

/-! ### A function that may panic -/
def RetX (w0 : World) {ρ σ : Type} (r : ρ → Value) (Γ' : ρ → List Atom) (r2 : σ → List PanicEntry) (Γ'' : σ → List Atom) : Ending → World → Prop := fun e w' => (∃ p, e = .returned (r p) ∧ Sat w0 w' (Γ' p)) ∨ ∃ q, e = .panicked (r2 q) ∧ Sat w0 w' (Γ'' q)
theorem cjp_enter {f : FuncId} {fn : Func} {c : Code} {vs : List Value} {n : Nat} {ρ σ : Type} {r : ρ → Value} {Γ' : ρ → List Atom} {r2 : σ → List PanicEntry} {Γ'' : σ → List Atom} (hf : P.funcs[f]? = some fn) (hn : fn.ntmps = n) (h : WC P (bodyPost P fn (RetX w0 r Γ' r2 Γ'')) w0 c l Γ)
    (hl : vs ++ List.replicate (n - vs.length) undef = l := by simp only [List.length_cons, List.length_nil, Nat.reduceAdd, Nat.reduceSub, List.replicate_succ, List.replicate_zero, List.cons_append, List.nil_append]; rfl) (hb : fn.body = some c := by rfl) :
    CJP P f vs w0 Γ (Sum.elim (fun p => Ending.returned (r p)) (fun q => Ending.panicked (r2 q))) (Sum.elim Γ' Γ'') := by
  intro w hs
  have h2 : Calls P f vs.toArray w (RetX w0 r Γ' r2 Γ'') := by
    refine calls_of_wp hf hb ?_
    have := h w hs
    rw [← hl, ← hn] at this
    have he : vs.toArray ++ Array.replicate (fn.ntmps - vs.toArray.size) undef = (vs ++ List.replicate (fn.ntmps - vs.length) undef).toArray := by simp
    rw [he]
    exact this
  refine h2.mono ?_
  rintro e w' (⟨p, he, hs'⟩ | ⟨q, he, hs'⟩)
  · exact ⟨.inl p, he, hs'⟩
  · exact ⟨.inr q, he, hs'⟩
instance {fn : Func} {rs : List ResultVar} {vs : List Value} {v : Value} {ρ σ : Type} {r : ρ → Value} {Γ' : ρ → List Atom} {r2 : σ → List PanicEntry} {Γ'' : σ → List Atom} [hf : ResC fn rs] [hr : Rs P Γ l rs vs] [ht : TupC vs v] :
    Red (WQ (bodyPost P fn (RetX w0 r Γ' r2 Γ'')) w0 .ret l Γ) (∃ p, r p = v ∧ Ent w0 Γ (Γ' p)) := ⟨fun ⟨p, h1, h2⟩ w hw => ⟨rfl, _, run_results hf.eq hw, .inl ⟨p, by rw [h1, ht.eq], h2 w hw⟩⟩⟩
instance {fn : Func} {rs : List ResultVar} {vs : List Value} {v : Value} {ρ σ : Type} {r : ρ → Value} {Γ' : ρ → List Atom} {r2 : σ → List PanicEntry} {Γ'' : σ → List Atom} [hf : ResC fn rs] [hr : Rs P Γ l rs vs] [ht : TupC vs v] :
    Red (WQ (bodyPost P fn (RetX w0 r Γ' r2 Γ'')) w0 .normal l Γ) (∃ p, r p = v ∧ Ent w0 Γ (Γ' p)) := ⟨fun ⟨p, h1, h2⟩ w hw => ⟨rfl, _, run_results hf.eq hw, .inl ⟨p, by rw [h1, ht.eq], h2 w hw⟩⟩⟩
theorem wq_panic {fn : Func} {ρ σ : Type} {r : ρ → Value} {Γ' : ρ → List Atom} {r2 : σ → List PanicEntry} {Γ'' : σ → List Atom} {ch : List PanicEntry} (q : σ) (h1 : r2 q = ch) (h2 : Ent w0 Γ (Γ'' q)) : WQ (bodyPost P fn (RetX w0 r Γ' r2 Γ'')) w0 (.panic ch) l Γ := fun w hw => ⟨rfl, .inr ⟨q, by rw [h1], h2 w hw⟩⟩
theorem wq_keep {e : Exit} (h : WQ Q w0 e l Γ) : WQ Q w0 e l Γ := h
/-- panic(v). -/
instance {T : TypeId} {u : Value} [hx : Ev l x (.iface T u)] : Red (WL P ops Q w0 (⟨none, .panic x, ty, pos, after, none⟩ :: rest) l Γ) (WQ Q w0 (.panic [{ v := .iface T u, recovered := false }]) l Γ) := ⟨fun h w hs => by
  refine wpList_plain rfl fun K hK => ?_
  unfold Oper.wp
  have : (execOp (E l).eval ⟨none, .panic x, ty, pos, after, none⟩).run P w = .halt (.panic (.iface T u)) w := by
    unfold execOp
    simp [hx.eq, Instr.panic, goPanic, Sem.run_bind]
  rw [this, Oper.upon_panic]
  exact h w hs⟩
instance {T : TypeId} [hx : Ev l x v] [hd : MkI P T] : PuC P l Γ (.makeInterface T x) ty (.iface T v) := ⟨fun w0 =>
  pu_of (s := Instr.makeInterface T v) (fun o ho _ => by unfold execOp; rw [ho]; simp only [hx.eq]) (fun w hs => hd.run v w)⟩
instance {T : TypeId} [hT : Bl0 P T] : PuC P l Γ (.build T #[]) ty (.agg #[]) := ⟨fun w0 =>
  pu_of (s := Instr.build T #[]) (fun o ho _ => by unfold execOp; rw [ho]; simp) (fun w hs => hT.run w)⟩
end u
end Go.Eng
namespace Go.Eng
open Go Go.RowKit
set_option linter.unusedVariables false
set_option linter.unusedSimpArgs false
set_option synthInstance.maxHeartbeats 400000
set_option synthInstance.maxSize 1000
section s
variable {P : Program} {w0 : World} {l : List Value} {Γ : List Atom} {ty : TypeId}

/-- The number of 64 bits that a number comes to. -/
def wr (n : Int) : Int := IntKind.i64.wrap n
def xr (a b : Int) : Int := bits .xor .i64 a b
def sh64 (a : Int) (m : Nat) : Int := a / 2 ^ min m 64
theorem wr_in {n : Int} (h : -9223372036854775808 ≤ n ∧ n ≤ 9223372036854775807) : wr n = n := IntWalk.i64_in _ (by omega)
theorem i64_mask (n : Int) (k : Nat) (hk : k < 63) : bits .and .i64 n ((2 ^ k - 1 : Nat) : Int) = n % ((2 ^ k : Nat) : Int) := by
  have hlt : 2 ^ k < 2 ^ 63 := Nat.pow_lt_pow_right (by omega) hk
  have hp : 0 < 2 ^ k := Nat.two_pow_pos k
  have h127 : (BitVec.ofInt 64 ((2 ^ k - 1 : Nat) : Int)).toNat = 2 ^ k - 1 := by
    rw [BitVec.toNat_ofInt]
    have h2 : (2 ^ 63 : Nat) = 9223372036854775808 := by decide
    have h3 : (2 ^ 64 : Nat) = 18446744073709551616 := by decide
    generalize 2 ^ k = z at *
    omega
  have key : (BitVec.ofInt 64 n &&& BitVec.ofInt 64 ((2 ^ k - 1 : Nat) : Int)).toNat = (n % ((2 ^ 64 : Nat) : Int)).toNat % 2 ^ k := by
    rw [BitVec.toNat_and, BitVec.toNat_ofInt, h127, Nat.and_two_pow_sub_one_eq_mod]
  show IntKind.i64.wrap ((BitVec.ofInt 64 n &&& BitVec.ofInt 64 ((2 ^ k - 1 : Nat) : Int)).toNat : Nat) = n % ((2 ^ k : Nat) : Int)
  rw [key]
  have h1 : (n % ((2 ^ 64 : Nat) : Int)).toNat % 2 ^ k < 2 ^ k := Nat.mod_lt _ hp
  have h2 : (2 ^ 63 : Nat) = 9223372036854775808 := by decide
  rw [IntWalk.i64_in _ (by generalize 2 ^ k = z at *; omega)]
  rw [Int.natCast_emod, Int.toNat_of_nonneg (Int.emod_nonneg _ (by decide))]
  exact Int.emod_emod_of_dvd _ (Int.natCast_dvd_natCast.2 (Nat.pow_dvd_pow 2 (by omega)))
section ops
variable {T U : TypeId} {x y : Operand} {a b : Int} {m : Nat} {k : Int} {yk : IntKind}
theorem pu_add_w [hx : Ev l x (.int .i64 a)] [hy : Ev l y (.int .i64 b)] : Pu P w0 l Γ (.binOp .add T x y U) ty (.int .i64 (wr (a + b))) :=
  pu_bin eqGuard_int (fun w => by simp only [binOp, Op.intArith, ne_eq, not_true_eq_false, if_false]; rfl)
theorem pu_mul_w [hx : Ev l x (.int .i64 a)] [hy : Ev l y (.int .i64 b)] : Pu P w0 l Γ (.binOp .mul T x y U) ty (.int .i64 (wr (a * b))) :=
  pu_bin eqGuard_int (fun w => by simp only [binOp, Op.intArith, ne_eq, not_true_eq_false, if_false]; rfl)
theorem pu_xor64 [hx : Ev l x (.int .i64 a)] [hy : Ev l y (.int .i64 b)] : Pu P w0 l Γ (.binOp .xor T x y U) ty (.int .i64 (xr a b)) :=
  pu_bin eqGuard_int (fun w => by rw [binOp_xor, intBits_xor, Sem.run_pure]; rfl)
theorem pu_shr64 [hx : Ev l x (.int .i64 a)] [hy : Ev l y (.int yk k)] [hm : ToN k m] (h : 0 ≤ k) : Pu P w0 l Γ (.binOp .shr T x y U) ty (.int .i64 (sh64 a m)) :=
  pu_bin eqGuard_int (fun w => by
    have e : binOp .shr T (.int .i64 a) (.int yk k) = Op.shift .shr .i64 a yk k := rfl
    rw [e, shift_shr_any _ _ _ _ h, hm.eq, Sem.run_pure]
    rfl)
theorem pu_and255 [hx : Ev l x (.int .i64 a)] [hy : Ev l y (.int .i64 255)] : Pu P w0 l Γ (.binOp .and T x y U) ty (.int .i64 (a % 256)) :=
  pu_bin eqGuard_int (fun w => by
    rw [binOp_and, intBits_and, show (255 : Int) = ((2 ^ 8 - 1 : Nat) : Int) from rfl, i64_mask _ _ (by omega), Sem.run_pure]
    rfl)
theorem pu_and30 [hx : Ev l x (.int .i64 a)] [hy : Ev l y (.int .i64 1073741823)] : Pu P w0 l Γ (.binOp .and T x y U) ty (.int .i64 (a % 1073741824)) :=
  pu_bin eqGuard_int (fun w => by
    rw [binOp_and, intBits_and, show (1073741823 : Int) = ((2 ^ 30 - 1 : Nat) : Int) from rfl, i64_mask _ _ (by omega), Sem.run_pure]
    rfl)
instance [hx : Ev l x (.int .i64 a)] [hy : Ev l y (.int .i64 b)] : PuS P l Γ (.binOp .xor T x y U) ty (.int .i64 (xr a b)) True := ⟨fun _ _ => pu_xor64⟩
instance [hx : Ev l x (.int .i64 a)] [hy : Ev l y (.int yk k)] [hm : ToN k m] : PuS P l Γ (.binOp .shr T x y U) ty (.int .i64 (sh64 a m)) (0 ≤ k) := ⟨fun h _ => pu_shr64 h⟩
instance [hx : Ev l x (.int .i64 a)] [hy : Ev l y (.int .i64 255)] : PuS P l Γ (.binOp .and T x y U) ty (.int .i64 (a % 256)) True := ⟨fun _ _ => pu_and255⟩
instance [hx : Ev l x (.int .i64 a)] [hy : Ev l y (.int .i64 1073741823)] : PuS P l Γ (.binOp .and T x y U) ty (.int .i64 (a % 1073741824)) True := ⟨fun _ _ => pu_and30⟩
/-- The wrapping sum and product; where they overflow these stand before the others. -/
theorem addW [hx : Ev l x (.int .i64 a)] [hy : Ev l y (.int .i64 b)] : PuS P l Γ (.binOp .add T x y U) ty (.int .i64 (wr (a + b))) True := ⟨fun _ _ => pu_add_w⟩
theorem mulW [hx : Ev l x (.int .i64 a)] [hy : Ev l y (.int .i64 b)] : PuS P l Γ (.binOp .mul T x y U) ty (.int .i64 (wr (a * b))) True := ⟨fun _ _ => pu_mul_w⟩
end ops
/-- T is the type of bytes. -/
class U8T (P : Program) (T : TypeId) : Prop where
  eq : P.underlying T = some (.int .u8)
theorem pu_conv_8 {S T : TypeId} {x : Operand} {n : Nat} [hx : Ev l x (.int .u8 (n : Int))] [hS : U8T P S] [hT : I64T P T] (h : n < 256) : Pu P w0 l Γ (.convert S T x) ty (.int .i64 (n : Int)) :=
  pu_of (s := convert S T (.int .u8 (n : Int))) (fun o ho _ => by unfold execOp; rw [ho]; simp only [hx.eq]) (fun w _ => by
    simp only [convert, Sem.run_bind, run_underlying hS.eq, run_underlying hT.eq, Result.andThen_ok, Conv.intToInt, Sem.run_pure]
    rw [IntWalk.i64_in _ (by omega)])
instance {S T : TypeId} {x : Operand} {b : UInt8} [hx : Ev l x (.int .u8 ((b.toNat : Nat) : Int))] [hS : U8T P S] [hT : I64T P T] : PuS P l Γ (.convert S T x) ty (.int .i64 ((b.toNat : Nat) : Int)) True := ⟨fun _ _ => pu_conv_8 b.toNat_lt⟩
theorem pu_load_u8 {T : TypeId} {x : Operand} {sv : Value} {n : Int} {xs : List UInt8} [h : Ev l x (.pointer (some (elemA sv n 1)))] [hT : Sc P T] [hr : HasRd (List UInt8) repList Γ [sv] xs]
    (hi : 0 ≤ n ∧ n < xs.length) : Pu P w0 l Γ (.load T x) ty (.int .u8 ((((xs.getD n.toNat 0).toNat : Nat)) : Int)) :=
  pu_of (s := Instr.loadAt T (.pointer (some (elemA sv n 1)))) (fun o ho _ => by unfold execOp; rw [ho]; simp only [h.eq]) (fun w hs => by
    obtain ⟨a, cap, b, off, p, c, s, rfl, _, _, hca, hp, he, hrd⟩ := elem_cells (hs.rd (hr := hr)) hi.1 hi.2
    have hrd' : c = [.int .u8 _] := hrd
    subst hrd'
    have he' : elemA (.slice (some ⟨b, off, none⟩) xs.length cap) n 1 = ⟨b, off + p.length, none⟩ := he
    have := hca.part 0 (by simp)
    simp only [Nat.add_zero, List.getElem?_cons_zero] at this
    rw [he', List.getD_eq_getElem?_getD, List.getElem?_eq_getElem (by omega), Option.getD_some]
    simp [Instr.loadAt, Instr.sureAddr, loadVar, Sem.run_bind, hT.agg, load, Sem.run, this])
instance {T : TypeId} {x : Operand} {sv : Value} {n : Int} {m : Nat} {xs : List UInt8} [h : Ev l x (.pointer (some (elemA sv n 1)))] [hm : ToN n m] [hT : Sc P T] [hr : HasRd (List UInt8) repList Γ [sv] xs] : PuS P l Γ (.load T x) ty (.int .u8 (((xs.getD m 0).toNat : Nat) : Int)) (0 ≤ n ∧ n < xs.length) := ⟨fun h _ => hm.eq ▸ pu_load_u8 h⟩
end s
attribute [irreducible] wr xr sh64

/-- What is owned may be read. -/
theorem ent_rd {w0 : World} {Γ Δ Ε : List Atom} {α : Type} {iα : Rep α} (sv : Value) {x : α} [hp : PullOw α iα Γ [sv] x Δ] (h : Ent w0 (.rd [sv] x :: Δ) Ε) : Ent w0 Γ Ε := fun w hs => h w (hs.perm hp.perm).share
theorem OwL.toSh {β : Type} [Rep β] {ok ok' : Nat → Prop} {w : World} (ho : ∀ b, ok b → ok' b) : ∀ {G : List Nat} {cells : List Value} {xs : List β}, OwL ok w G cells xs → (∀ b ∈ G, ok' b) → OwL ok' w [] cells (xs.map Sh.mk)
  | _, _, [], h, _ => ⟨rfl, h.2⟩
  | _, _, x :: xs, ⟨f, g, c, d, e, e', h, h'⟩, hG => ⟨[], [], c, d, rfl, e', ⟨rfl, Rep.ow_rd h ho (fun b hb => hG b (by rw [e]; exact List.mem_append_left _ hb))⟩, OwL.toSh ho h' (fun b hb => hG b (by rw [e]; exact List.mem_append_right _ hb))⟩
/-- The elements of an owned list may be shared. -/
theorem ent_toSh {w0 : World} {Γ Δ : List Atom} {β : Type} {iβ : Rep β} (sv : Value) {xs : List β} [hp : PullOw (List β) repList Γ [sv] xs Δ] : Ent w0 Γ (@Atom.ow (List (Sh β)) repList [sv] (xs.map Sh.mk) :: Δ) := by
  intro w hs
  obtain ⟨hb, F, hnd, hl, f, g, rfl, hA, hsep⟩ := hs.perm hp.perm
  have how : Rep.ow (· ∉ f ++ g) w f [sv] xs := hA
  rw [ow_list] at how
  rcases how with ⟨h0, rfl, rfl⟩ | ⟨b, cap, cur, ee, G, cells, h0, rfl, h1, h2, h3, h4, h5, h6, h7⟩
  · refine ⟨hb, [] ++ g, hnd, hl, [], g, rfl, ?_, hsep⟩
    show Rep.ow (α := List (Sh β)) _ w [] [sv] _
    rw [ow_list]
    exact .inl ⟨h0, rfl, rfl⟩
  · have hp2 : ([b] ++ (G ++ g)).Perm ((b :: G) ++ g) := by simp
    have hmem : ∀ c, c ∈ [b] ++ g → c ∈ (b :: G) ++ g := fun c hc => by
      rcases List.mem_append.1 hc with h | h
      · exact List.mem_append_left _ (by rw [List.mem_singleton] at h; simp [h])
      · exact List.mem_append_right _ h
    have hnd' := hnd
    rw [List.cons_append, List.nodup_cons, List.nodup_append] at hnd'
    have hn2 : ([b] ++ g).Nodup := by
      rw [List.cons_append, List.nil_append, List.nodup_cons]
      exact ⟨fun h => hnd'.1 (List.mem_append_right _ h), hnd'.2.2.1⟩
    refine ⟨hb, [b] ++ g, hn2, fun c hc => hl c (hmem c hc), [b], g, rfl, ?_, hsep.mono (fun c hc _ => ⟨fun hm => hc (hmem c hm), rfl⟩) (Nat.le_refl _) (fun _ _ => rfl)⟩
    show Rep.ow (α := List (Sh β)) _ w [b] [sv] _
    rw [ow_list]
    refine .inr ⟨b, cap, cur, ee, [], cells, by rw [List.length_map]; exact h0, rfl, h1, by rw [List.length_map]; exact h2, h3, by rw [List.length_map]; exact h4, h5, by rw [List.length_map]; exact h6, ?_⟩
    refine h7.toSh (fun c hc hm => hc (hmem c hm)) (fun c hc hm => ?_)
    rcases List.mem_append.1 hm with h | h
    · rw [List.mem_singleton] at h
      exact hnd'.1 (by rw [← h]; exact List.mem_append_left _ hc)
    · exact hnd'.2.2.2 c hc c h rfl
theorem wl_toSh {P : Program} {ops : Array Oper} {Q : Exit → Act → World → Prop} {w0 : World} {rest : List Oper} {l : List Value} {Γ Δ : List Atom} {β : Type} {iβ : Rep β} (sv : Value) {xs : List β} [hp : PullOw (List β) repList Γ [sv] xs Δ] (h : WL P ops Q w0 rest l (@Atom.ow (List (Sh β)) repList [sv] (xs.map Sh.mk) :: Δ)) : WL P ops Q w0 rest l Γ := fun w hs => h w (ent_toSh sv w hs)
/-- Where a cursor over bytes stands. -/
abbrev CurS (code : List UInt8) : Type := { p : Nat × Int // p.1 ≤ code.length }
def cur {code : List UInt8} (vb : Value) (p : CurS code) : List Value := [vb, .int .i64 (p.1.1 : Int), .int .i64 p.1.2]
/-- The atoms but those of a cursor, that calls move. -/
class KeepC (Γ : List Atom) (Δ : outParam (List Atom)) : Prop where
  sub : Sub Γ Δ
instance : KeepC [] [] := ⟨Sub.nil⟩
instance (priority := 2000) {Γ Δ : List Atom} {code : List UInt8} {b : Nat} {vb : Value} {p : CurS code} [h : KeepC Γ Δ] : KeepC (.bk b (cur vb p) :: Γ) Δ := ⟨sub_skip h.sub⟩
instance (priority := 500) {Γ Δ : List Atom} {A : Atom} [h : KeepC Γ Δ] : KeepC (A :: Γ) (A :: Δ) := ⟨sub_keep h.sub⟩
instance (priority := 50) {Γ : List Atom} : KeepC Γ Γ := ⟨Sub.refl⟩
theorem wa_beginc {P : Program} {Q : Exit → Act → World → Prop} {w0 : World} {l : List Value} {Γ Γb : List Atom} [hm : Mixed P] {n : Nat} {ol : List Oper} (id : Nat) (bl : List Bool) (lt : List Nat) [hk : KeepC Γ Γb] (h : WA P ol.toArray Q w0 lt Γb n bl l Γ) (hn : ol.length = n := by rfl) (hbl : List.replicate n false = bl := by rfl) : WC P Q w0 (.region id ol.toArray true) l Γ :=
  wa_start_on lt Γb (fun _ hs => hs.sub hk.sub) hn hbl h
/-- The atoms but those of a cursor, and of a place for an answer that is not there yet. -/
class KeepD (Γ : List Atom) (Δ : outParam (List Atom)) : Prop where
  sub : Sub Γ Δ
instance : KeepD [] [] := ⟨Sub.nil⟩
instance (priority := 2000) {Γ Δ : List Atom} {code : List UInt8} {b : Nat} {vb : Value} {p : CurS code} [h : KeepD Γ Δ] : KeepD (.bk b (cur vb p) :: Γ) Δ := ⟨sub_skip h.sub⟩
instance (priority := 2000) {Γ Δ : List Atom} {b : Nat} [h : KeepD Γ Δ] : KeepD (.bk b [.slice none 0 0] :: Γ) Δ := ⟨sub_skip h.sub⟩
instance (priority := 500) {Γ Δ : List Atom} {A : Atom} [h : KeepD Γ Δ] : KeepD (A :: Γ) (A :: Δ) := ⟨sub_keep h.sub⟩
instance (priority := 50) {Γ : List Atom} : KeepD Γ Γ := ⟨Sub.refl⟩
theorem wa_begind {P : Program} {Q : Exit → Act → World → Prop} {w0 : World} {l : List Value} {Γ Γb : List Atom} [hm : Mixed P] {n : Nat} {ol : List Oper} (id : Nat) (bl : List Bool) (lt : List Nat) [hk : KeepD Γ Γb] (h : WA P ol.toArray Q w0 lt Γb n bl l Γ) (hn : ol.length = n := by rfl) (hbl : List.replicate n false = bl := by rfl) : WC P Q w0 (.region id ol.toArray true) l Γ :=
  wa_start_on lt Γb (fun _ hs => hs.sub hk.sub) hn hbl h
theorem op_u8 {P : Program} {T : TypeId} (h : P.underlying T = some (.int .u8)) (hs : P.cellsOf T = 1) : Op_ P T UInt8 repU8 := ⟨fun ht => by
  obtain ⟨n, rfl, _, hw⟩ := DataW.trod_int h ht
  have h1 : 0 ≤ n ∧ n < 256 := by
    simp [Lit.wf, IntKind.min, IntKind.max, IntKind.signed, IntKind.bits] at hw
    omega
  refine ⟨UInt8.ofNat n.toNat, ?_⟩
  show [Value.int .u8 n] = [Value.int .u8 (((UInt8.ofNat n.toNat).toNat : Nat) : Int)]
  rw [UInt8.toNat_ofNat', Nat.mod_eq_of_lt (by omega), Int.toNat_of_nonneg h1.1], hs⟩
end Go.Eng
namespace Go.Eng
open Go
set_option linter.unusedVariables false
set_option linter.unusedSimpArgs false
theorem OwL.unsh {β : Type} [Rep β] {ok : Nat → Prop} {w : World} : ∀ {G : List Nat} {cells : List Value} {xs : List (Sh β)}, OwL ok w G cells xs → RdL ok w cells (xs.map Sh.v)
  | _, _, [], h => h.2
  | _, _, x :: xs, ⟨f, g, c, d, _, e', h, h'⟩ => ⟨c, d, e', h.2, OwL.unsh h'⟩
section
variable {P : Program} {ops : Array Oper} {Q : Exit → Act → World → Prop} {w0 : World} {rest : List Oper} {l l' : List Value} {Γ Δ : List Atom} {ty : TypeId} {pos : String} {after : Array Edge} {d : Nat}
theorem wl_load_sh {T : TypeId} {x : Operand} {sv : Value} {n : Int} {m : Nat} {xs : List (Sh (List Int))} [h : Ev l x (.pointer (some (elemA sv n 1)))] [hm : ToN n m] [hT : Sc P T] [hp : PullOw (List (Sh (List Int))) repList Γ [sv] xs Δ] [hr : HasRd (List (Sh (List Int))) repList Γ [sv] xs] (hi : 0 ≤ n ∧ n < xs.length)
    (g : ∀ p, WL P ops Q w0 rest (l.set d p) (.rd [p] (xs.getD m default).v :: Γ)) : WL P ops Q w0 (⟨some d, .load T x, ty, pos, after, none⟩ :: rest) l Γ := by
  intro w hs
  have hn : n.toNat = m := by have := hm.eq; omega
  obtain ⟨a, cap, b, off, p, c, s, rfl, _, _, hca, hp1, he, hrd⟩ := elem_cells (hs.rd (hr := hr)) hi.1 hi.2
  have hs2 := hs.perm hp.perm
  obtain ⟨hb, F, hnd, hl, f, g2, rfl, hf, hrest⟩ := hs2
  have hf := ow_list.1 hf
  rcases hf with ⟨h1, h2, _⟩ | ⟨g0, cap', cur, e, G, cells, h1, h2, h3, h4, h5, h6, h7, h8, h9⟩
  · subst h2; simp at hi; omega
  · obtain ⟨p1, c1, s1, e1, e2, e3⟩ := RdL.get h9.unsh m (by rw [List.length_map]; omega)
    simp only [List.cons.injEq, and_true, Value.slice.injEq, Option.some.injEq, Addr.mk.injEq] at h1
    obtain ⟨⟨rfl, rfl, _⟩, _, _⟩ := h1
    have hsz : Rep.sz (Sh (List Int)) = 1 := rfl
    have hsz2 : Rep.sz (List Int) = 1 := rfl
    obtain ⟨v1, rfl⟩ := List.length_eq_one_iff.1 (show c1.length = 1 from (Rep.rd_len e3).trans hsz2)
    obtain ⟨v2, rfl⟩ := List.length_eq_one_iff.1 (show c.length = 1 from (Rep.rd_len hrd).trans hsz)
    have hcell : w.cell? ⟨b, 0 + p.length, none⟩ = some v2 := by
      have := hca.part 0 (by simp)
      simpa using this
    have hcur : w.cell? ⟨b, 0 + p.length, none⟩ = some v1 := by
      rw [hsz] at hp1
      rw [hsz2] at e2
      have h10 : cur.toList[m]? = some v1 := by
        have : cells[m]? = some v1 := by
          rw [e1, List.append_assoc, List.getElem?_append_right (by omega), e2]; simp
        rw [← h8] at this
        rw [List.getElem?_take] at this
        split at this
        · exact this
        · cases this
      rw [show 0 + p.length = m by omega]
      simp [World.cell?, h3] at h10 ⊢
      exact h10
    rw [hcell] at hcur
    injection hcur with hcur
    subst hcur
    have he' : elemA (.slice (some ⟨b, 0, none⟩) xs.length cap) n 1 = ⟨b, 0 + p.length, none⟩ := he
    have hrun : (execOp (E l).eval (⟨some d, .load T x, ty, pos, after, none⟩ : Oper)).run P w = .ok (.value v2) w := by
      simp only [execOp, h.eq]
      rw [he']
      have hcell' : w.cell? ⟨b, p.length, none⟩ = some v2 := by simpa using hcell
      simp [hcell', Result.andThen, Instr.loadAt, Instr.sureAddr, loadVar, Sem.run_bind, hT.agg, load, Sem.run, hcell]
    refine wl_op rfl hrun ?_
    rw [E_put]
    have e4 : Rep.rd (fun b => b ∉ f ++ g2) w [v2] (xs.getD m default).v := by
      rw [List.getD_eq_getElem?_getD, List.getElem?_eq_getElem (by omega), Option.getD_some]
      rw [List.getElem_map] at e3
      exact e3
    have hsat : Sat w0 w (@Atom.rd (List Int) repList [v2] (xs.getD m default).v :: @Atom.ow (List (Sh (List Int))) repList [.slice (some ⟨b, 0, none⟩) xs.length cap] xs :: Δ) := ⟨hb, f ++ g2, hnd, hl, [], f ++ g2, rfl, ⟨rfl, e4⟩, f, g2, rfl, hf, hrest⟩
    exact g v2 w (hsat.perm (hp.perm.symm.cons _))
instance {T : TypeId} {x : Operand} {sv : Value} {n : Int} {m : Nat} {xs : List (Sh (List Int))} [h : Ev l x (.pointer (some (elemA sv n 1)))] [hm : ToN n m] [hT : Sc P T] [hp : PullOw (List (Sh (List Int))) repList Γ [sv] xs Δ] [hr : HasRd (List (Sh (List Int))) repList Γ [sv] xs] :
    RedV (WL P ops Q w0 (⟨some d, .load T x, ty, pos, after, none⟩ :: rest) l Γ) (0 ≤ n ∧ n < xs.length) (fun p => WL P ops Q w0 rest (l.set d p) (.rd [p] (xs.getD m default).v :: Γ)) := ⟨fun s g => wl_load_sh s g⟩
end
end Go.Eng
namespace Go.Eng
open Go Go.RowKit
set_option linter.unusedVariables false
set_option linter.unusedSimpArgs false
section
variable {P : Program} {ops : Array Oper} {Q : Exit → Act → World → Prop} {w0 : World} {rest : List Oper} {l l' : List Value} {Γ Δ : List Atom} {ty : TypeId} {pos : String} {after : Array Edge} {d : Nat}
variable {T U : TypeId} {x y : Operand} {a b : ByteArray}
theorem pu_add_s [hx : Ev l x (.string a)] [hy : Ev l y (.string b)] (h : a.size + b.size ≤ 9223372036854775807) : Pu P w0 l Γ (.binOp .add T x y U) ty (.string (a ++ b)) :=
  pu_bin eqGuard_str (fun w => by
    simp only [binOp, Op.stringOp]
    rw [if_neg (by have : IntKind.i64.max = 9223372036854775807 := rfl; omega)]; rfl)
instance [hx : Ev l x (.string a)] [hy : Ev l y (.string b)] : PuS P l Γ (.binOp .add T x y U) ty (.string (a ++ b)) (a.size + b.size ≤ 9223372036854775807) := ⟨fun h _ => pu_add_s h⟩
theorem pu_cut_s {i j : Operand} {m n : Int} {k : IntKind} [hT : IsStr P T] [hx : Ev l x (.string a)] [hi : Ev l i (.int k m)] [hj : Ev l j (.int k n)] (h : 0 ≤ m ∧ m ≤ n ∧ n ≤ a.size) : Pu P w0 l Γ (.slice T x (some i) (some j) none) ty (.string (a.extract m.toNat n.toNat)) := by
  obtain ⟨M, rfl⟩ : ∃ M : Nat, m = M := ⟨m.toNat, by omega⟩
  obtain ⟨N, rfl⟩ : ∃ M : Nat, n = M := ⟨n.toNat, by omega⟩
  have h1 : M ≤ N := by omega
  have h2 : N ≤ a.size := by omega
  exact pu_of (s := Instr.sliceAt T (.string a) (some (.int k M)) (some (.int k N)) none) (fun o ho _ => by unfold execOp; rw [ho]; simp only [hx.eq, hi.eq, hj.eq, Option.map]) (fun w _ => by
    simp [Instr.sliceAt, Instr.slice, run_underlying hT.eq, Instr.sliceBounds, Instr.sliceBound, asIntOf, Sem.run_bind, h1, h2])
instance {i j : Operand} {m n : Int} {k : IntKind} [hT : IsStr P T] [hx : Ev l x (.string a)] [hi : Ev l i (.int k m)] [hj : Ev l j (.int k n)] : PuS P l Γ (.slice T x (some i) (some j) none) ty (.string (a.extract m.toNat n.toNat)) (0 ≤ m ∧ m ≤ n ∧ n ≤ a.size) := ⟨fun h _ => pu_cut_s h⟩
end
/-! ### A string behind bytes -/
section
variable {P : Program} {ops : Array Oper} {Q : Exit → Act → World → Prop} {w0 : World} {rest : List Oper} {l l' : List Value} {Γ Δ : List Atom} {ty : TypeId} {pos : String} {after : Array Edge} {d : Nat}
theorem rdl_str (w : World) : ∀ bs : List UInt8, RdL (fun _ => True) w (bs.map fun b => Value.int .u8 b.toNat) bs
  | [] => rfl
  | b :: bs => ⟨[.int .u8 b.toNat], bs.map fun b => Value.int .u8 b.toNat, rfl, rfl, rdl_str w bs⟩
theorem run_append_room_s (w : World) (t u ty e e' : TypeId) (i : TypeInfo) (ht : P.underlying t = some (.slice e)) (hu : P.underlying u = some .string) (hi : P.info? e = some i)
    (g sLen sCap : Nat) (cur : Array Value) (hg : w.heap[g]? = some (.cells cur e' (0, 0)))
    (x : Value) (m : Nat) (news : List Value) (hlen : ∀ w, (Builtin.lenOf x).run P w = .ok m w) (hx : (Builtin.firstCells i.size m x).run P w = .ok news.toArray w) (h1 : ∀ u ∈ news, u.oneCell' = true)
    (hroom : sLen + m ≤ sCap) (hfit : sLen * i.size + news.length ≤ cur.size) :
    (Builtin.append_ #[t, u] ty #[.slice (some ⟨g, 0, none⟩) sLen sCap, x]).run P w =
      .ok (.slice (some ⟨g, 0, none⟩) (sLen + m) sCap) (w.setRow g (cur.toList.take (sLen * i.size) ++ news ++ cur.toList.drop (sLen * i.size + news.length)).toArray) := by
  have hst := run_storeCells_at P g (sLen * i.size) e' news 0 cur w hg (by simpa using hfit) h1
  simp only [Nat.add_zero] at hst
  simp [Builtin.append_, run_underlying ht, run_underlying hu, sizeOf, typeInfo, hi, hlen, hroom, hx, Addr.add_lit, hst]
theorem append_core_str {T U ty k by_ : Nat} [hT : Sl P T k by_] [hU : IsStr P U] (hk : k = Rep.sz UInt8) {w : World} {ok : Nat → Prop} {f : List Nat} {ov : Value} {xs : List UInt8} {s : ByteArray}
    (hf : Rep.ow ok w f [ov] xs) (hnd0 : f.Nodup) (hoky0 : ∀ b ∈ f, ¬ ok b)
    (hbytes0 : (xs.length + s.size) * by_ ≤ 140737488355328) :
    ∃ v' w', (Builtin.append_ #[T, U] ty #[ov, .string s]).run P w = .ok v' w' ∧ (w'.os = w.os ∧ w'.tape = w.tape ∧ w'.output = w.output ∧ w.heap.size ≤ w'.heap.size ∧ w.drawn ≤ w'.drawn) ∧
      (∀ b, b < w.heap.size → b ∉ f → SameB w w' b) ∧ ∃ f', f'.Nodup ∧ (∀ b ∈ f', b ∈ f ∨ w.heap.size ≤ b) ∧ ∀ ok' : Nat → Prop, (∀ b, ok b → b < w.heap.size → ok' b) → Rep.ow ok' w' f' [v'] (xs ++ s.data.toList) := by
  obtain ⟨ys, hys⟩ : ∃ ys : List UInt8, ys = s.data.toList := ⟨_, rfl⟩
  obtain ⟨news, hnews⟩ : ∃ n : List Value, n = Lib.strCells s := ⟨_, rfl⟩
  have hysl : ys.length = s.size := by rw [hys, Array.length_toList]; rfl
  have hbytes : (xs.length + ys.length) * by_ ≤ 140737488355328 := by rw [hysl]; exact hbytes0
  obtain ⟨fy, hfy0⟩ : ∃ fy : List Nat, fy = [] := ⟨_, rfl⟩
  have hnd : (f ++ fy).Nodup := by rw [hfy0, List.append_nil]; exact hnd0
  have hoky : ∀ b ∈ f ++ fy, ¬ ok b := by rw [hfy0, List.append_nil]; exact hoky0
  have hy : OwL ok w fy news ys := by rw [hfy0, hys, hnews]; exact RdL.ow (rdl_str w s.data.toList)
  suffices hres : ∃ v' w', (Builtin.append_ #[T, U] ty #[ov, .string s]).run P w = .ok v' w' ∧ (w'.os = w.os ∧ w'.tape = w.tape ∧ w'.output = w.output ∧ w.heap.size ≤ w'.heap.size ∧ w.drawn ≤ w'.drawn) ∧
      (∀ b, b < w.heap.size → b ∉ f → SameB w w' b) ∧ ∃ f', f'.Nodup ∧ (∀ b ∈ f', b ∈ f ++ fy ∨ w.heap.size ≤ b) ∧ ∀ ok' : Nat → Prop, (∀ b, ok b → b < w.heap.size → ok' b) → Rep.ow ok' w' f' [v'] (xs ++ ys) by
    rw [hfy0, List.append_nil, hys] at hres
    exact hres
  obtain ⟨e, i, z, ht, hi, hik, hib, hz, hzk, hpos⟩ := hT.ex
  have hsz : i.size = Rep.sz UInt8 := hik.trans hk
  have hle : xs.length + ys.length ≤ 140737488355328 := Nat.le_trans (Nat.le_mul_of_pos_right _ hpos) hbytes
  have hnl : news.length = ys.length * i.size := by rw [hsz]; exact hy.len
  have hfy : ∀ b ∈ fy, b < w.heap.size := hy.lt
  have hdis := (List.nodup_append.1 hnd).2.2
  have hcap63 : ∀ old, grownCap w (xs.length + ys.length) old e ≤ maxLen := fun old => grownCap_le_maxLen w _ old e (by simp only [maxLen]; omega)
  have hfc : (Builtin.firstCells i.size s.size (.string s)).run P w = .ok news.toArray w := by rw [hnews]; exact Lib.run_firstCells_string w i.size s
  -- what a new row is good for
  have grown : ∀ (old : Nat) (G : List Nat) (cells : List Value), (∀ b ∈ G, b ∈ f) → G.Nodup → OwL ok w G cells xs → cells.length = xs.length * Rep.sz UInt8 →
      let w' := w.drew.alloc (.cells (cells.toArray ++ news.toArray ++ Builtin.zeroCells z.cells (grownCap w (xs.length + ys.length) old e - (xs.length + ys.length))) e)
      (w'.os = w.os ∧ w'.tape = w.tape ∧ w'.output = w.output ∧ w.heap.size ≤ w'.heap.size ∧ w.drawn ≤ w'.drawn) ∧ (∀ b, b < w.heap.size → b ∉ f → SameB w w' b) ∧
      ∃ f', f'.Nodup ∧ (∀ b ∈ f', b ∈ f ++ fy ∨ w.heap.size ≤ b) ∧ ∀ ok' : Nat → Prop, (∀ b, ok b → b < w.heap.size → ok' b) → Rep.ow ok' w' f' [.slice (some ⟨w.heap.size, 0, none⟩) (xs.length + ys.length) (grownCap w (xs.length + ys.length) old e)] (xs ++ ys) := by
    intro old G cells hG hGn hO hlen w'
    have hsame : ∀ b, b < w.heap.size → SameB w w' b := fun b hb => Below.heap_alloc w.drew _ _ hb
    have hGlt := hO.lt
    have hge := grownCap_ge w (xs.length + ys.length) old e
    refine ⟨⟨rfl, rfl, rfl, by simp [w'], (by first | exact Nat.le_refl _ | exact Nat.le_add_right _ _)⟩, fun b hb _ => hsame b hb, w.heap.size :: (G ++ fy), ?_, ?_, ?_⟩
    · refine List.nodup_cons.2 ⟨fun hm => ?_, ?_⟩
      · rcases List.mem_append.1 hm with h | h
        · exact Nat.lt_irrefl _ (hGlt _ h)
        · exact Nat.lt_irrefl _ (hfy _ h)
      · rw [List.nodup_append]
        exact ⟨hGn, (List.nodup_append.1 hnd).2.1, fun a ha b hb => hdis a (hG a ha) b hb⟩
    · intro b hb
      rcases List.mem_cons.1 hb with rfl | hb
      · exact .inr (Nat.le_refl _)
      · rcases List.mem_append.1 hb with h | h
        · exact .inl (by simp [hG b h])
        · exact .inl (by simp [h])
    · intro ok' hok'
      rw [ow_list]
      refine .inr ⟨w.heap.size, _, _, e, G ++ fy, cells ++ news, by simp, rfl, heap_alloc_new w.drew _, by simpa using hge, hcap63 old, by simp; omega, ?_, ?_, ?_⟩
      · simp only [Array.size_append, List.size_toArray, size_zeroCells, hzk, hlen, hnl, hik, hk]
        rw [← Nat.add_mul, ← Nat.add_mul]
        refine Nat.le_of_eq ?_
        congr 1
        omega
      · simp only [Array.toList_append, List.length_append, List.append_assoc]
        rw [← List.append_assoc, Nat.add_mul, ← hlen, show ys.length * Rep.sz UInt8 = news.length by rw [hnl, hsz], ← List.length_append]
        exact List.take_left
      · exact OwL.append (hy.mono (fun b hb hlt => ⟨hok' b hb hlt, hsame b hlt⟩) (fun b hb => hsame b (hfy b hb))) (hO.mono (fun b hb hlt => ⟨hok' b hb hlt, hsame b hlt⟩) (fun b hb => hsame b (hGlt b hb)))
  rw [ow_list] at hf
  rcases hf with ⟨hov, rfl, rfl⟩ | ⟨g, cap, cur, e', G, cells, hov, rfl, hg, hcap, hcapm, _, hcs, htake, hO⟩
  · simp only [List.cons.injEq, and_true] at hov
    subst hov
    by_cases h0 : ys.length = 0
    · have hy0 : ys = [] := List.eq_nil_of_length_eq_zero h0
      subst hy0
      refine ⟨.slice none 0 0, w, ?_, ⟨rfl, rfl, rfl, Nat.le_refl _, Nat.le_refl _⟩, fun _ _ _ => rfl, [], by simp, by simp, fun ok' _ => ow_list.2 (.inl ⟨rfl, rfl, rfl⟩)⟩
      have hs0 : s.size = 0 := by rw [← hysl]; rfl
      simp only [List.length_nil, hs0] at hfc ⊢
      simp [Builtin.append_, run_underlying ht, run_underlying hU.eq, sizeOf, typeInfo, hi, Builtin.lenOf, hs0, hfc]
    · have hr := run_append_nil_string (P := P) w T U ty e i z ht hU.eq hi hz s (by omega) (by simp at hle; omega) (by rw [hib]; simp at hbytes; rw [← hysl]; omega)
      have hne : s.data.map (fun b => Value.int .u8 b.toNat) = news.toArray := by rw [hnews]; apply Array.ext'; simp [Lib.strCells]
      rw [hne, ← hysl] at hr
      have hgr := grown 0 [] [] (by simp) (by simp) ⟨rfl, rfl⟩ (by simp)
      simp only [List.length_nil, Nat.zero_add, List.nil_append, Array.empty_append, List.append_nil] at hgr ⊢
      exact ⟨_, _, hr, hgr.1, hgr.2.1, hgr.2.2⟩
  · simp only [List.cons.injEq, and_true] at hov
    subst hov
    have hcl : cells.length = xs.length * Rep.sz UInt8 := hO.len
    have hgG : g ∉ G ∧ G.Nodup := List.nodup_cons.1 (List.nodup_append.1 hnd).1
    by_cases hroom : xs.length + ys.length ≤ cap
    · have hfit : xs.length * i.size + news.length ≤ cur.size := by rw [hnl, hsz, ← Nat.add_mul]; exact Nat.le_trans (Nat.mul_le_mul_right _ hroom) hcs
      have hr := run_append_room_s w T U ty e e' i ht hU.eq hi g xs.length cap cur hg (.string s) ys.length news (fun w => by rw [hysl]; rfl) (by rw [hysl]; exact hfc) hy.one hroom hfit
      have hsame : ∀ k, k ≠ g → SameB w (w.setRow g (cur.toList.take (xs.length * i.size) ++ news ++ cur.toList.drop (xs.length * i.size + news.length)).toArray) k := fun k hk => setRow_other w g k _ hk
      have hglt : g < w.heap.size := (Array.getElem?_eq_some_iff.1 hg).1
      refine ⟨_, _, hr, ⟨rfl, rfl, rfl, by simp, (by first | exact Nat.le_refl _ | exact Nat.le_add_right _ _)⟩, fun b _ hb => hsame b (fun h => hb (by simp [h])), (g :: G) ++ fy, hnd, fun b hb => .inl hb, fun ok' hok' => ?_⟩
      rw [ow_list]
      refine .inr ⟨g, cap, _, e', G ++ fy, cells ++ news, by simp, rfl, setRow_heap w g cur _ e' _ hg, by simpa using hroom, hcapm, by simp; omega, ?_, ?_, ?_⟩
      · simp only [List.size_toArray, List.length_append, List.length_take, List.length_drop, Array.length_toList]
        refine Nat.le_trans hcs ?_
        omega
      · simp only [List.toList_toArray, List.length_append]
        rw [hsz, htake, Nat.add_mul, ← hcl, show ys.length * Rep.sz UInt8 = news.length by rw [hnl, hsz], ← List.length_append]
        exact List.take_left
      · refine OwL.append (hy.mono (fun b hb hlt => ⟨hok' b hb hlt, hsame b (fun h => ?_)⟩) (fun b hb => hsame b (fun h => ?_))) (hO.mono (fun b hb hlt => ⟨hok' b hb hlt, hsame b (fun h => ?_)⟩) (fun b hb => hsame b (fun h => hgG.1 (h ▸ hb))))
        · exact hoky g (by simp) (h ▸ hb)
        · exact hdis g (by simp) b hb h.symm
        · exact hoky g (by simp) (h ▸ hb)
    · have hy0 : 0 < ys.length := by omega
      have holds : ∀ j u, cells[j]? = some u → w.cell? ((⟨g, 0, none⟩ : Addr).add j) = some u := fun j u hj => by
        have hjl := (List.getElem?_eq_some_iff.1 hj).1
        rw [add_lit, Nat.zero_add]
        rw [← htake, List.getElem?_take] at hj
        split at hj
        · simpa [World.cell?, hg] using hj
        · cases hj
      have hr := Lib.run_append_grow_string (P := P) w T U ty e i z ht hU.eq hi hz ⟨g, 0, none⟩ xs.length cap cells (by rw [hcl, hsz]) holds s (by omega) (by omega) (by rw [← hysl]; exact growslice_fits (by omega) (by rw [hib]; exact hbytes))
      rw [← hysl, ← hnews] at hr
      have hgr := grown cap G cells (fun b hb => by simp [hb]) hgG.2 hO hcl
      exact ⟨_, _, hr, hgr.1, hgr.2.1, hgr.2.2⟩
theorem wl_append_str {T U k by_ : Nat} {x y : Operand} {ov : Value} {s : ByteArray} {xs : List UInt8} [hx : Ev l x ov] [hy : Ev l y (.string s)] [hT : Sl P T k by_] [hU : IsStr P U] [h1 : PullOw (List UInt8) repList Γ [ov] xs Δ] [hk : SzIs UInt8 k]
    (hbytes : (xs.length + s.size) * by_ ≤ 140737488355328) (h : ∀ sv, WL P ops Q w0 rest (l.set d sv) (.ow [sv] (xs ++ s.data.toList) :: Δ)) :
    WL P ops Q w0 (⟨some d, .call { callee := .builtin .append, args := #[x, y], argTypes := #[T, U] }, ty, pos, after, none⟩ :: rest) l Γ := by
  intro w hs
  have hs1 : Sat w0 w ([.ow [ov] xs] ++ Δ) := hs.perm h1.perm
  obtain ⟨hb, F, hn, hl, f, g, rfl, hf, hrest⟩ := hs1
  obtain ⟨v', w', hr, ho, hsame, fn, hfn, hnew, hrep⟩ := append_core_str (P := P) (T := T) (U := U) (ty := ty) (s := s) hk.eq hf (List.nodup_append.1 hn).1 (fun b hb hok => hok (by simp [hb])) hbytes
  refine wl_op rfl (run_append_op2 hr) ?_
  rw [E_put]
  refine h _ _ ?_
  exact Sat.step' (Δ' := [.ow [v'] (xs ++ s.data.toList)]) (Γ := Δ) hb hn hl hrest ho hsame fn hfn hnew (fun ok' hok' => ⟨fn, [], by simp, hrep ok' hok', rfl⟩)
instance (priority := 1300) {T U k by_ : Nat} {x y : Operand} {ov : Value} {s : ByteArray} {xs : List UInt8} [hx : Ev l x ov] [hy : Ev l y (.string s)] [hT : Sl P T k by_] [hU : IsStr P U] [h1 : PullOw (List UInt8) repList Γ [ov] xs Δ] [hk : SzIs UInt8 k] :
    RedV (WL P ops Q w0 (⟨some d, .call { callee := .builtin .append, args := #[x, y], argTypes := #[T, U] }, ty, pos, after, none⟩ :: rest) l Γ) ((xs.length + s.size) * by_ ≤ 140737488355328) (fun sv => WL P ops Q w0 rest (l.set d sv) (.ow [sv] (xs ++ s.data.toList) :: Δ)) := ⟨fun s h => wl_append_str s h⟩
end
/-! ### A block whose type is known -/
structure TB (T : TypeId) where
  cs : List Value
instance repTB {T : TypeId} : Rep (TB T) where
  sz := 1
  rd _ _ cells x := ∃ b : Nat, cells = [.pointer (some ⟨b, 0, none⟩)]
  ow _ w F cells x := ∃ b : Nat, cells = [.pointer (some ⟨b, 0, none⟩)] ∧ F = [b] ∧ w.heap[b]? = some (.cells x.cs.toArray T (0, 0))
  pos := by decide
  rd_len := by rintro _ _ _ _ ⟨b, rfl⟩; rfl
  rd_one := by rintro _ _ _ _ ⟨b, rfl⟩ x hx; simp at hx; subst hx; rfl
  rd_mono := fun h _ => h
  ow_mono := fun ⟨b, h1, h2, h3⟩ hf _ => ⟨b, h1, h2, (hf b (by simp [h2])).trans h3⟩
  ow_rd := fun ⟨b, h1, _, _⟩ _ _ => ⟨b, h1⟩
  ow_lt := by
    rintro _ _ _ _ _ ⟨b, _, rfl, h3⟩ b' hb
    simp at hb; subst hb
    exact (Array.getElem?_eq_some_iff.1 h3).1
section
variable {P : Program} {ops : Array Oper} {Q : Exit → Act → World → Prop} {w0 : World} {rest : List Oper} {l l' : List Value} {Γ Δ : List Atom} {ty : TypeId} {pos : String} {after : Array Edge} {d : Nat}
instance (priority := 1100) HasBk.tb {Γ : List Atom} {b : Nat} {T : TypeId} {cs : List Value} : HasBk (@Atom.ow (TB T) repTB [.pointer (some ⟨b, 0, none⟩)] (TB.mk cs) :: Γ) b cs := ⟨fun ⟨_, _, _, ⟨b', h1, _, h3⟩, _⟩ => by
  simp only [List.cons.injEq, Value.pointer.injEq, Option.some.injEq, Addr.mk.injEq, and_true] at h1
  subst h1
  exact ⟨T, h3⟩⟩
/-- The typed block is taken out of Γ. -/
class PullTb (Γ : List Atom) (b : Nat) (T : outParam TypeId) (cs : outParam (List Value)) (Δ : outParam (List Atom)) : Prop where
  perm : Γ.Perm (@Atom.ow (TB T) repTB [.pointer (some ⟨b, 0, none⟩)] (TB.mk cs) :: Δ)
instance (priority := 1100) PullTb.here {Γ : List Atom} {b : Nat} {T : TypeId} {cs : List Value} : PullTb (@Atom.ow (TB T) repTB [.pointer (some ⟨b, 0, none⟩)] (TB.mk cs) :: Γ) b T cs Γ := ⟨.refl _⟩
instance (priority := 1000) PullTb.skip {Γ Δ : List Atom} {b : Nat} {T : TypeId} {cs : List Value} {B : Atom} [h : PullTb Γ b T cs Δ] : PullTb (B :: Γ) b T cs (B :: Δ) := ⟨(h.perm.cons B).trans (.swap _ _ _)⟩
theorem sat_tb {w w0 : World} {Γ : List Atom} {b : Nat} {T : TypeId} {cs : List Value} (h : Sat w0 w (@Atom.ow (TB T) repTB [.pointer (some ⟨b, 0, none⟩)] (TB.mk cs) :: Γ)) : w.heap[b]? = some (.cells cs.toArray T (0, 0)) := by
  obtain ⟨_, F, _, _, f, g, _, ⟨b', h1, _, h3⟩, _⟩ := h
  simp only [List.cons.injEq, Value.pointer.injEq, Option.some.injEq, Addr.mk.injEq, and_true] at h1
  subst h1
  exact h3
theorem Sat.storeT {w0 w : World} {Γ : List Atom} {b : Nat} {T : TypeId} {cs : List Value} (h : Sat w0 w (@Atom.ow (TB T) repTB [.pointer (some ⟨b, 0, none⟩)] (TB.mk cs) :: Γ)) (i : Nat) (v : Value) : Sat w0 (w.setCell ⟨b, i, none⟩ v) (@Atom.ow (TB T) repTB [.pointer (some ⟨b, 0, none⟩)] (TB.mk (cs.set i v)) :: Γ) := by
  have hc0 := sat_tb h
  obtain ⟨hb, F, hn, hl, f, g, rfl, ⟨b', h1, rfl, hc⟩, hs⟩ := h
  simp only [List.cons.injEq, Value.pointer.injEq, Option.some.injEq, Addr.mk.injEq, and_true] at h1
  subst h1
  have hlt : b < w.heap.size := (Array.getElem?_eq_some_iff.1 hc).1
  have hg : b ∉ g := by have := hn; simp at this; exact this.1
  have hsame : ∀ k, k ≠ b → SameB w (w.setCell ⟨b, i, none⟩ v) k := fun k hk => Below.heap_setCell _ _ _ _ hk
  refine ⟨hb.setCell (hl b (by simp)) v, [b] ++ g, hn, hl, [b], g, rfl, ⟨b, rfl, rfl, ?_⟩, ?_⟩
  · simp only [World.setCell, Array.getElem?_modify, if_true, hc, Option.map_some]
    simp
  · refine hs.mono (fun k hk _ => ⟨hk, hsame k (fun e => hk (by simp [e]))⟩) (by simp) (fun k hk => hsame k (fun e => hg (e ▸ hk)))
theorem wl_storeT {T U : TypeId} {x y : Operand} {b off : Nat} {cs : List Value} {v : Value} [hx : Ev l x (.pointer (some ⟨b, off, none⟩))] [hy : Ev l y v] [hc : Cs Γ v [v]] [hT : Sz P U 1] [hb : PullTb Γ b T cs Δ] (hlt : off < cs.length)
    (h : WL P ops Q w0 rest l (@Atom.ow (TB T) repTB [.pointer (some ⟨b, 0, none⟩)] (TB.mk (cs.set off v)) :: Δ)) : WL P ops Q w0 (⟨none, .store U x y, ty, pos, after, none⟩ :: rest) l Γ := by
  intro w hs
  obtain ⟨h1, h2⟩ := hs.cs (hc := hc)
  have hs2 := hs.perm hb.perm
  have he := sat_tb hs2
  have hc1 : v.oneCell' = true := h2 v (by simp)
  have hcell : w.cell? ⟨b, off, none⟩ = some (cs[off]'(by omega)) := by simp [World.cell?, he, List.getElem?_eq_getElem (show off < cs.length by omega)]
  have hfr : w.frozen? ⟨b, off, none⟩ = false := by simp [World.frozen?, he]
  have hst : (store ((⟨b, off, none⟩ : Addr).add 0) v).run P w = .ok () (w.setCell ⟨b, off, none⟩ v) := by
    rw [add_lit]
    cases v <;> simp_all [store, Sem.run, Value.oneCell']
  refine wpList_plain rfl fun K hK => ?_
  unfold Oper.wp
  have : (execOp (E l).eval ⟨none, .store U x y, ty, pos, after, none⟩).run P w = .ok .skip (w.setCell ⟨b, off, none⟩ v) := by
    show (do Instr.storeAt U ((E l).eval x) ((E l).eval y); pure Next.skip : Sem Next).run P w = _
    simp only [hx.eq, hy.eq, Sem.run_bind, Instr.storeAt, Instr.sureAddr, Sem.run_pure, Result.andThen_ok, storeVar, hT.size, h1]
    simp [storeCells, Sem.run_bind, hst]
  rw [this, Oper.upon_skip, E_put_none]
  exact hK _ _ (h _ (hs2.storeT off v))
instance (priority := 1500) {T U : TypeId} {x y : Operand} {b off : Nat} {cs cs' : List Value} {v : Value} [hx : Ev l x (.pointer (some ⟨b, off, none⟩))] [hy : Ev l y v] [hc : Cs Γ v [v]] [hT : Sz P U 1] [hb : PullTb Γ b T cs Δ] [hs : Se cs off v cs'] :
    RedS (WL P ops Q w0 (⟨none, .store U x y, ty, pos, after, none⟩ :: rest) l Γ) (off < cs.length) (WL P ops Q w0 rest l (@Atom.ow (TB T) repTB [.pointer (some ⟨b, 0, none⟩)] (TB.mk cs') :: Δ)) := ⟨fun h g => wl_storeT h (hs.eq ▸ g)⟩
/-- Blocks of this type keep their type. -/
class IsTb (P : Program) (T : TypeId) : Prop where
  t : True
theorem Sat.allocT {w0 w : World} {Γ : List Atom} (h : Sat w0 w Γ) (cs : List Value) (T : TypeId) : Sat w0 (w.alloc (.cells cs.toArray T)) (@Atom.ow (TB T) repTB [.pointer (some ⟨w.heap.size, 0, none⟩)] (TB.mk cs) :: Γ) := by
  obtain ⟨hb, F, hn, hl, hs⟩ := h
  have hlt := hs.lt
  refine ⟨hb.alloc hb.size _, w.heap.size :: F, ?_, ?_, [w.heap.size], F, rfl, ⟨w.heap.size, rfl, rfl, heap_alloc_new w _⟩, ?_⟩
  · exact List.nodup_cons.2 ⟨fun hm => Nat.lt_irrefl _ (hlt _ hm), hn⟩
  · intro b hb'
    rcases List.mem_cons.1 hb' with rfl | hb'
    · exact hb.size
    · exact hl b hb'
  · refine hs.mono (fun b hb hlt => ⟨?_, Below.heap_alloc _ _ _ hlt⟩) (by simp) (fun b hb => Below.heap_alloc _ _ _ (hlt b hb))
    intro hm
    rcases List.mem_cons.1 hm with rfl | hm
    · exact Nat.lt_irrefl _ hlt
    · exact hb hm
theorem wl_allocT {T : TypeId} {zs : List Value} [hz : Zr P T zs] (h : ∀ b, WL P ops Q w0 rest (l.set d (.pointer (some ⟨b, 0, none⟩))) (@Atom.ow (TB T) repTB [.pointer (some ⟨b, 0, none⟩)] (TB.mk zs) :: Γ)) :
    WL P ops Q w0 (⟨some d, .alloc T, ty, pos, after, none⟩ :: rest) l Γ := by
  intro w hs
  obtain ⟨z, hz, hc⟩ := hz.zero
  refine wl_op (v := .pointer (some ⟨w.heap.size, 0, none⟩)) (w' := w.alloc (.cells zs.toArray T)) rfl ?_ ?_
  · refine run_value (f := Next.value) (s := Instr.alloc T true (.tuple #[])) ?_
    simp only [Instr.alloc, newVar, newRow, newObj, Sem.run_bind, hz, Result.andThen_ok, hc]
    rfl
  · rw [E_put]; exact h _ _ (hs.allocT zs T)
instance (priority := 2000) {T : TypeId} {zs : List Value} [ht : IsTb P T] [hz : Zr P T zs] : RedN (WL P ops Q w0 (⟨some d, .alloc T, ty, pos, after, none⟩ :: rest) l Γ) (fun b => WL P ops Q w0 rest (l.set d (.pointer (some ⟨b, 0, none⟩))) (@Atom.ow (TB T) repTB [.pointer (some ⟨b, 0, none⟩)] (TB.mk zs) :: Γ)) := ⟨fun h => wl_allocT h⟩
/-! pointers compared -/
theorem eqGuard_ptr {op : BinOp} {T : TypeId} {x y : Operand} {a b : Option Addr} (w : World) : (eqGuard op T x y (.pointer a) (.pointer b)).run P w = .ok () w := by
  unfold eqGuard; split <;> rfl
/-- Pointers of this type are compared by address. -/
class PtrT (P : Program) (T : TypeId) : Prop where
  eq : P.underlying T = some (.pointer (P.pointee T))
  info : ∃ j, P.info? (P.pointee T) = some j ∧ j.size ≠ 0
theorem pu_eql_p {T U : TypeId} {x y : Operand} {a : Option Addr} [hT : PtrT P T] [hx : Ev l x (.pointer a)] [hy : Ev l y (.pointer none)] : Pu P w0 l Γ (.binOp .eql T x y U) ty (.bool a.isNone) :=
  pu_bin eqGuard_ptr (fun w => by
    have := run_equal_pointer_nil (P := P) w T a hT.eq
    cases a <;> simp [binOp, this, Sem.run_bind])
instance {T U : TypeId} {x y : Operand} [hT : PtrT P T] [hx : Ev l x (.pointer none)] [hy : Ev l y (.pointer none)] : PuC P l Γ (.binOp .eql T x y U) ty (.bool true) := ⟨fun _ => pu_eql_p (a := none)⟩
instance {T U : TypeId} {x y : Operand} {a : Addr} [hT : PtrT P T] [hx : Ev l x (.pointer (some a))] [hy : Ev l y (.pointer none)] : PuC P l Γ (.binOp .eql T x y U) ty (.bool false) := ⟨fun _ => pu_eql_p (a := some a)⟩
end
/-! ### Bytes whose row's type is known -/
def byC (bs : List UInt8) : List Value := bs.map fun b => Value.int .u8 b.toNat
theorem byC_one (bs : List UInt8) : ∀ u ∈ byC bs, u.oneCell' = true := by
  intro u hu
  obtain ⟨b, _, rfl⟩ := List.mem_map.1 hu
  rfl
theorem byC_len (bs : List UInt8) : (byC bs).length = bs.length := by simp [byC]
structure TBy (T : TypeId) where
  bs : List UInt8
instance repTBy {T : TypeId} : Rep (TBy T) where
  sz := 1
  rd _ _ cells x := ∃ a cap, cells = [.slice a x.bs.length cap]
  ow _ w F cells x := (cells = [.slice none 0 0] ∧ x.bs = [] ∧ F = []) ∨ ∃ g cap cur, cells = [.slice (some ⟨g, 0, none⟩) x.bs.length cap] ∧ F = [g] ∧ w.heap[g]? = some (.cells cur T (0, 0)) ∧ x.bs.length ≤ cap ∧ cap ≤ maxLen ∧ cap ≤ cur.size ∧ cur.toList.take x.bs.length = byC x.bs
  pos := by decide
  rd_len := by rintro _ _ _ _ ⟨a, c, rfl⟩; rfl
  rd_one := by rintro _ _ _ _ ⟨a, c, rfl⟩ x hx; simp at hx; subst hx; rfl
  rd_mono := fun h _ => h
  ow_mono := by
    rintro _ _ _ _ _ _ _ (h | ⟨g, cap, cur, h1, h2, h3, h4⟩) hf _
    · exact .inl h
    · exact .inr ⟨g, cap, cur, h1, h2, (hf g (by simp [h2])).trans h3, h4⟩
  ow_rd := by
    rintro _ _ _ _ _ x (⟨h1, h2, _⟩ | ⟨g, cap, cur, h1, _⟩) _ _
    · exact ⟨none, 0, by rw [h1, h2]; rfl⟩
    · exact ⟨_, cap, h1⟩
  ow_lt := by
    rintro _ _ _ _ _ (⟨_, _, rfl⟩ | ⟨g, cap, cur, _, rfl, h3, _⟩) b hb
    · cases hb
    · simp at hb; subst hb; exact (Array.getElem?_eq_some_iff.1 h3).1
section
variable {P : Program} {ops : Array Oper} {Q : Exit → Act → World → Prop} {w0 : World} {rest : List Oper} {l l' : List Value} {Γ Δ : List Atom} {ty : TypeId} {pos : String} {after : Array Edge} {d : Nat}
/-- The type is one of slices of bytes, e that of the bytes. -/
class BySl (P : Program) (T : TypeId) (e : outParam TypeId) : Prop where
  eq : P.underlying T = some (.slice e)
  info : ∃ i z, P.info? e = some i ∧ i.size = 1 ∧ i.bytes = 1 ∧ i.zero = some z ∧ z.cells.size = 1
theorem append_str_t {T U ty e : TypeId} [hT : BySl P T e] [hU : IsStr P U] {w : World} {ok : Nat → Prop} {f : List Nat} {ov : Value} {xs : List UInt8} {s : ByteArray}
    (hf : Rep.ow ok w f [ov] (TBy.mk xs : TBy e)) (hnd : f.Nodup) (hoky : ∀ b ∈ f, ¬ ok b) (hbytes : xs.length + s.size ≤ 140737488355328) :
    ∃ v' w', (Builtin.append_ #[T, U] ty #[ov, .string s]).run P w = .ok v' w' ∧ (w'.os = w.os ∧ w'.tape = w.tape ∧ w'.output = w.output ∧ w.heap.size ≤ w'.heap.size ∧ w.drawn ≤ w'.drawn) ∧
      (∀ b, b < w.heap.size → b ∉ f → SameB w w' b) ∧ ∃ f', f'.Nodup ∧ (∀ b ∈ f', b ∈ f ∨ w.heap.size ≤ b) ∧ ∀ ok' : Nat → Prop, (∀ b, ok b → b < w.heap.size → ok' b) → Rep.ow ok' w' f' [v'] (TBy.mk (xs ++ s.data.toList) : TBy e) := by
  obtain ⟨i, z, hi, hs1, hb1, hz, hz1⟩ := hT.info
  have ht := hT.eq
  have hsl : s.data.toList.length = s.size := by rw [Array.length_toList]; rfl
  have hsc : Lib.strCells s = byC s.data.toList := rfl
  have hfc : (Builtin.firstCells i.size s.size (.string s)).run P w = .ok (Lib.strCells s).toArray w := Lib.run_firstCells_string w i.size s
  have grown : ∀ (old : Nat) (cells : List Value), cells = byC xs → 
      let w' := w.drew.alloc (.cells (cells.toArray ++ (Lib.strCells s).toArray ++ Builtin.zeroCells z.cells (grownCap w (xs.length + s.size) old e - (xs.length + s.size))) e)
      (w'.os = w.os ∧ w'.tape = w.tape ∧ w'.output = w.output ∧ w.heap.size ≤ w'.heap.size ∧ w.drawn ≤ w'.drawn) ∧ (∀ b, b < w.heap.size → b ∉ f → SameB w w' b) ∧
      ∃ f', f'.Nodup ∧ (∀ b ∈ f', b ∈ f ∨ w.heap.size ≤ b) ∧ ∀ ok' : Nat → Prop, (∀ b, ok b → b < w.heap.size → ok' b) → Rep.ow ok' w' f' [.slice (some ⟨w.heap.size, 0, none⟩) (xs.length + s.size) (grownCap w (xs.length + s.size) old e)] (TBy.mk (xs ++ s.data.toList) : TBy e) := by
    intro old cells hcells w'
    have hge := grownCap_ge w (xs.length + s.size) old e
    have hcm := grownCap_le_maxLen w (xs.length + s.size) old e (by simp only [maxLen]; omega)
    refine ⟨⟨rfl, rfl, rfl, by simp [w'], (by first | exact Nat.le_refl _ | exact Nat.le_add_right _ _)⟩, fun b hb _ => Below.heap_alloc w.drew _ _ hb, [w.heap.size], by simp, fun b hb => .inr (by simp at hb; omega), fun ok' _ => .inr ⟨w.heap.size, _, _, ?_, rfl, heap_alloc_new w.drew _, ?_, hcm, ?_, ?_⟩⟩
    · simp [hsl]
    · simp [hsl]; exact hge
    · simp only [Array.size_append, List.size_toArray, size_zeroCells, hz1, hcells, byC_len, hsc, hsl]
      omega
    · simp only [Array.toList_append, List.length_append, hsl]
      have e1 : byC (xs ++ s.data.toList) = byC xs ++ byC s.data.toList := by simp [byC]
      rw [hcells, hsc, e1]
      exact List.take_left' (by rw [List.length_append, byC_len, byC_len, hsl])
  rcases hf with ⟨hov, hx0, rfl⟩ | ⟨g, cap, cur, hov, rfl, hg, hcap, hcapm, hcs, htake⟩
  · simp only [List.cons.injEq, and_true] at hov
    subst hov
    have hx0 : xs = [] := hx0
    subst hx0
    by_cases h0 : s.size = 0
    · have hd : s.data.toList = [] := List.eq_nil_of_length_eq_zero (by omega)
      refine ⟨.slice none 0 0, w, ?_, ⟨rfl, rfl, rfl, Nat.le_refl _, Nat.le_refl _⟩, fun _ _ _ => rfl, [], by simp, by simp, fun ok' _ => .inl ⟨rfl, ?_, rfl⟩⟩
      · rw [h0] at hfc
        simp [Builtin.append_, run_underlying ht, run_underlying hU.eq, sizeOf, typeInfo, hi, Builtin.lenOf, h0, hfc]
      · simp [hd]
    · have hr := run_append_nil_string (P := P) w T U ty e i z ht hU.eq hi hz s (by omega) (by omega) (by rw [hb1]; omega)
      have hne : s.data.map (fun b => Value.int .u8 b.toNat) = (Lib.strCells s).toArray := by apply Array.ext'; simp [Lib.strCells]
      rw [hne] at hr
      have hgr := grown 0 [] rfl
      simp only [List.length_nil, Nat.zero_add, List.nil_append, Array.empty_append] at hgr ⊢
      exact ⟨_, _, hr, hgr.1, hgr.2.1, hgr.2.2⟩
  · simp only [List.cons.injEq, and_true] at hov
    subst hov
    have hcap : xs.length ≤ cap := hcap
    have htake : cur.toList.take xs.length = byC xs := htake
    by_cases hroom : xs.length + s.size ≤ cap
    · have hr := Lib.run_append_room_string w T U ty e i ht hU.eq hi hs1 g xs.length cap cur hg s hroom (by omega)
      have hsame : ∀ k, k ≠ g → SameB w (w.setRow g (cur.toList.take xs.length ++ Lib.strCells s ++ cur.toList.drop (xs.length + s.size)).toArray) k := fun k hk => setRow_other w g k _ hk
      refine ⟨_, _, hr, ⟨rfl, rfl, rfl, by simp, (by first | exact Nat.le_refl _ | exact Nat.le_add_right _ _)⟩, fun b _ hb => hsame b (fun h => hb (by simp [h])), [g], by simp, fun b hb => .inl hb, fun ok' _ => .inr ⟨g, cap, _, ?_, rfl, setRow_heap w g cur _ e _ hg, ?_, hcapm, ?_, ?_⟩⟩
      · simp [hsl]
      · simp [hsl]; exact hroom
      · simp only [List.size_toArray, List.length_append, List.length_take, List.length_drop, Array.length_toList, Lib.strCells_length]
        omega
      · have e1 : byC (xs ++ s.data.toList) = byC xs ++ byC s.data.toList := by simp [byC]
        simp only [List.length_append, hsl]
        rw [htake, e1, hsc]
        exact List.take_left' (by rw [List.length_append, byC_len, byC_len, hsl])
    · have holds : ∀ j u, (byC xs)[j]? = some u → w.cell? ((⟨g, 0, none⟩ : Addr).add j) = some u := fun j u hj => by
        rw [add_lit, Nat.zero_add]
        rw [← htake, List.getElem?_take] at hj
        split at hj
        · simpa [World.cell?, hg] using hj
        · cases hj
      have hr := Lib.run_append_grow_string (P := P) w T U ty e i z ht hU.eq hi hz ⟨g, 0, none⟩ xs.length cap (byC xs) (by rw [byC_len, hs1]; omega) holds s (by omega) (by omega) (growslice_fits (by omega) (by rw [hb1]; omega))
      have hgr := grown cap (byC xs) rfl
      exact ⟨_, _, hr, hgr.1, hgr.2.1, hgr.2.2⟩
theorem append_sl_t {T ty e : TypeId} [hT : BySl P T e] {w : World} {ok : Nat → Prop} {f : List Nat} {ov : Value} {xs ys : List UInt8} {a : Addr} {c : Nat}
    (hf : Rep.ow ok w f [ov] (TBy.mk xs : TBy e)) (hnd : f.Nodup) (hoky : ∀ b ∈ f, ¬ ok b) (hnews : ∀ j v, (byC ys)[j]? = some v → w.cell? (a.add j) = some v) (hy0 : 0 < ys.length) (hbytes : xs.length + ys.length ≤ 140737488355328) :
    ∃ v' w', (Builtin.append_ #[T, T] ty #[ov, .slice (some a) ys.length c]).run P w = .ok v' w' ∧ (w'.os = w.os ∧ w'.tape = w.tape ∧ w'.output = w.output ∧ w.heap.size ≤ w'.heap.size ∧ w.drawn ≤ w'.drawn) ∧
      (∀ b, b < w.heap.size → b ∉ f → SameB w w' b) ∧ ∃ f', f'.Nodup ∧ (∀ b ∈ f', b ∈ f ∨ w.heap.size ≤ b) ∧ ∀ ok' : Nat → Prop, (∀ b, ok b → b < w.heap.size → ok' b) → Rep.ow ok' w' f' [v'] (TBy.mk (xs ++ ys) : TBy e) := by
  obtain ⟨i, z, hi, hs1, hb1, hz, hz1⟩ := hT.info
  have ht := hT.eq
  have hyl : (byC ys).length = ys.length * i.size := by rw [byC_len, hs1, Nat.mul_one]
  have hfc : (Builtin.firstCells i.size ys.length (.slice (some a) ys.length c)).run P w = .ok (byC ys).toArray w := run_firstCells_some (P := P) w i.size ys.length a ys.length c (byC ys) hyl hnews
  have grown : ∀ (old : Nat) (cells : List Value), cells = byC xs → 
      let w' := w.drew.alloc (.cells (cells.toArray ++ (byC ys).toArray ++ Builtin.zeroCells z.cells (grownCap w (xs.length + ys.length) old e - (xs.length + ys.length))) e)
      (w'.os = w.os ∧ w'.tape = w.tape ∧ w'.output = w.output ∧ w.heap.size ≤ w'.heap.size ∧ w.drawn ≤ w'.drawn) ∧ (∀ b, b < w.heap.size → b ∉ f → SameB w w' b) ∧
      ∃ f', f'.Nodup ∧ (∀ b ∈ f', b ∈ f ∨ w.heap.size ≤ b) ∧ ∀ ok' : Nat → Prop, (∀ b, ok b → b < w.heap.size → ok' b) → Rep.ow ok' w' f' [.slice (some ⟨w.heap.size, 0, none⟩) (xs.length + ys.length) (grownCap w (xs.length + ys.length) old e)] (TBy.mk (xs ++ ys) : TBy e) := by
    intro old cells hcells w'
    have hge := grownCap_ge w (xs.length + ys.length) old e
    have hcm := grownCap_le_maxLen w (xs.length + ys.length) old e (by simp only [maxLen]; omega)
    refine ⟨⟨rfl, rfl, rfl, by simp [w'], (by first | exact Nat.le_refl _ | exact Nat.le_add_right _ _)⟩, fun b hb _ => Below.heap_alloc w.drew _ _ hb, [w.heap.size], by simp, fun b hb => .inr (by simp at hb; omega), fun ok' _ => .inr ⟨w.heap.size, _, _, ?_, rfl, heap_alloc_new w.drew _, ?_, hcm, ?_, ?_⟩⟩
    · simp
    · simp; exact hge
    · simp only [Array.size_append, List.size_toArray, size_zeroCells, hz1, hcells, byC_len, byC_len]
      omega
    · simp only [Array.toList_append, List.length_append]
      have e1 : byC (xs ++ ys) = byC xs ++ byC ys := by simp [byC]
      rw [hcells, e1]
      exact List.take_left' (by rw [List.length_append, byC_len, byC_len])
  rcases hf with ⟨hov, hx0, rfl⟩ | ⟨g, cap, cur, hov, rfl, hg, hcap, hcapm, hcs, htake⟩
  · simp only [List.cons.injEq, and_true] at hov
    subst hov
    have hx0 : xs = [] := hx0
    subst hx0
    · have hr := run_append_nil (P := P) w T ty e i z ht hi hz a ys.length c (byC ys) hyl hnews hy0 (by omega) (by rw [hb1]; omega)
      have hgr := grown 0 [] rfl
      simp only [List.length_nil, Nat.zero_add, List.nil_append, Array.empty_append] at hgr ⊢
      exact ⟨_, _, hr, hgr.1, hgr.2.1, hgr.2.2⟩
  · simp only [List.cons.injEq, and_true] at hov
    subst hov
    have hcap : xs.length ≤ cap := hcap
    have htake : cur.toList.take xs.length = byC xs := htake
    by_cases hroom : xs.length + ys.length ≤ cap
    · have hr := run_append_room' w T ty e e i ht hi g xs.length cap cur hg (.slice (some a) ys.length c) ys.length (byC ys) (fun w => run_lenOf_slice w) hfc (byC_one ys) hroom (by rw [hyl, hs1]; omega)
      rw [hs1, Nat.mul_one, byC_len] at hr
      have hsame : ∀ k, k ≠ g → SameB w (w.setRow g (cur.toList.take xs.length ++ byC ys ++ cur.toList.drop (xs.length + ys.length)).toArray) k := fun k hk => setRow_other w g k _ hk
      refine ⟨_, _, hr, ⟨rfl, rfl, rfl, by simp, (by first | exact Nat.le_refl _ | exact Nat.le_add_right _ _)⟩, fun b _ hb => hsame b (fun h => hb (by simp [h])), [g], by simp, fun b hb => .inl hb, fun ok' _ => .inr ⟨g, cap, _, ?_, rfl, setRow_heap w g cur _ e _ hg, ?_, hcapm, ?_, ?_⟩⟩
      · simp
      · simp; exact hroom
      · simp only [List.size_toArray, List.length_append, List.length_take, List.length_drop, Array.length_toList, byC_len]
        omega
      · have e1 : byC (xs ++ ys) = byC xs ++ byC ys := by simp [byC]
        simp only [List.length_append]
        rw [htake, e1]
        exact List.take_left' (by rw [List.length_append, byC_len, byC_len])
    · have holds : ∀ j u, (byC xs)[j]? = some u → w.cell? ((⟨g, 0, none⟩ : Addr).add j) = some u := fun j u hj => by
        rw [add_lit, Nat.zero_add]
        rw [← htake, List.getElem?_take] at hj
        split at hj
        · simpa [World.cell?, hg] using hj
        · cases hj
      have hr := run_append_grow (P := P) w T ty e i z ht hi hz ⟨g, 0, none⟩ xs.length cap (byC xs) (by rw [byC_len, hs1]; omega) holds a ys.length c (byC ys) hyl hnews (by omega) (by omega) (growslice_fits (by omega) (by rw [hb1]; omega))
      have hgr := grown cap (byC xs) rfl
      exact ⟨_, _, hr, hgr.1, hgr.2.1, hgr.2.2⟩
theorem wl_append_strT {T U e : TypeId} {x y : Operand} {ov : Value} {s : ByteArray} {xs : List UInt8} [hx : Ev l x ov] [hy : Ev l y (.string s)] [hT : BySl P T e] [hU : IsStr P U] [h1 : PullOw (TBy e) repTBy Γ [ov] (TBy.mk xs) Δ]
    (hbytes : xs.length + s.size ≤ 140737488355328) (h : ∀ sv, WL P ops Q w0 rest (l.set d sv) (@Atom.ow (TBy e) repTBy [sv] (TBy.mk (xs ++ s.data.toList)) :: Δ)) :
    WL P ops Q w0 (⟨some d, .call { callee := .builtin .append, args := #[x, y], argTypes := #[T, U] }, ty, pos, after, none⟩ :: rest) l Γ := by
  intro w hs
  have hs1 : Sat w0 w ([@Atom.ow (TBy e) repTBy [ov] (TBy.mk xs)] ++ Δ) := hs.perm h1.perm
  obtain ⟨hb, F, hn, hl, f, g, rfl, hf, hrest⟩ := hs1
  obtain ⟨v', w', hr, ho, hsame, fn, hfn, hnew, hrep⟩ := append_str_t (P := P) (T := T) (U := U) (ty := ty) (s := s) (e := e) hf (List.nodup_append.1 hn).1 (fun b hb hok => hok (by simp [hb])) hbytes
  refine wl_op rfl (run_append_op2 hr) ?_
  rw [E_put]
  refine h _ _ ?_
  exact Sat.step' (Δ' := [@Atom.ow (TBy e) repTBy [v'] (TBy.mk (xs ++ s.data.toList))]) (Γ := Δ) hb hn hl hrest ho hsame fn hfn hnew (fun ok' hok' => ⟨fn, [], by simp, hrep ok' hok', rfl⟩)
instance (priority := 1400) {T U e : TypeId} {x y : Operand} {ov : Value} {s : ByteArray} {xs : List UInt8} [hx : Ev l x ov] [hy : Ev l y (.string s)] [hT : BySl P T e] [hU : IsStr P U] [h1 : PullOw (TBy e) repTBy Γ [ov] (TBy.mk xs) Δ] :
    RedV (WL P ops Q w0 (⟨some d, .call { callee := .builtin .append, args := #[x, y], argTypes := #[T, U] }, ty, pos, after, none⟩ :: rest) l Γ) (xs.length + s.size ≤ 140737488355328) (fun sv => WL P ops Q w0 rest (l.set d sv) (@Atom.ow (TBy e) repTBy [sv] (TBy.mk (xs ++ s.data.toList)) :: Δ)) := ⟨fun s h => wl_append_strT s h⟩
theorem rdl_byC {ok : Nat → Prop} {w : World} : ∀ {cells : List Value} {ys : List UInt8}, RdL ok w cells ys → cells = byC ys
  | cells, [], h => h
  | cells, y :: ys, ⟨c, d, e, h, h'⟩ => by
    have hc : c = [.int .u8 y.toNat] := h
    rw [e, hc, rdl_byC h']; rfl
theorem wl_append_byT {T e : TypeId} {x y : Operand} {ov tv : Value} {xs ys : List UInt8} [hx : Ev l x ov] [hy : Ev l y tv] [hT : BySl P T e] [h1 : PullOw (TBy e) repTBy Γ [ov] (TBy.mk xs) Δ] [h2 : HasRd (List UInt8) repList Γ [tv] ys]
    (hbytes : 0 < ys.length ∧ xs.length + ys.length ≤ 140737488355328) (h : ∀ sv, WL P ops Q w0 rest (l.set d sv) (@Atom.ow (TBy e) repTBy [sv] (TBy.mk (xs ++ ys)) :: Δ)) :
    WL P ops Q w0 (⟨some d, .call { callee := .builtin .append, args := #[x, y], argTypes := #[T, T] }, ty, pos, after, none⟩ :: rest) l Γ := by
  intro w hs
  obtain ⟨a, c, hc, _, _, _, hrd⟩ := hs.rd (hr := h2)
  simp only [List.cons.injEq, and_true] at hc
  subst hc
  obtain ⟨b0, off, cells, rfl, _, hca, hr0⟩ := hrd hbytes.1
  have hcells := rdl_byC hr0
  have hs1 : Sat w0 w ([@Atom.ow (TBy e) repTBy [ov] (TBy.mk xs)] ++ Δ) := hs.perm h1.perm
  obtain ⟨hb, F, hn, hl, f, g, rfl, hf, hrest⟩ := hs1
  obtain ⟨v', w', hr, ho, hsame, fn, hfn, hnew, hrep⟩ := append_sl_t (P := P) (T := T) (ty := ty) (ys := ys) (a := ⟨b0, off, none⟩) (c := c) (e := e) hf (List.nodup_append.1 hn).1 (fun b hb hok => hok (by simp [hb])) (fun j v hj => by
    rw [add_lit]
    rw [← hcells] at hj
    rw [hca j (List.getElem?_eq_some_iff.1 hj).1, hj]) hbytes.1 hbytes.2
  refine wl_op rfl (run_append_op2 hr) ?_
  rw [E_put]
  refine h _ _ ?_
  exact Sat.step' (Δ' := [@Atom.ow (TBy e) repTBy [v'] (TBy.mk (xs ++ ys))]) (Γ := Δ) hb hn hl hrest ho hsame fn hfn hnew (fun ok' hok' => ⟨fn, [], by simp, hrep ok' hok', rfl⟩)
instance (priority := 1500) {T e : TypeId} {x y : Operand} {ov tv : Value} {xs ys : List UInt8} [hx : Ev l x ov] [hy : Ev l y tv] [hT : BySl P T e] [h1 : PullOw (TBy e) repTBy Γ [ov] (TBy.mk xs) Δ] [h2 : HasRd (List UInt8) repList Γ [tv] ys] :
    RedV (WL P ops Q w0 (⟨some d, .call { callee := .builtin .append, args := #[x, y], argTypes := #[T, T] }, ty, pos, after, none⟩ :: rest) l Γ) (0 < ys.length ∧ xs.length + ys.length ≤ 140737488355328) (fun sv => WL P ops Q w0 rest (l.set d sv) (@Atom.ow (TBy e) repTBy [sv] (TBy.mk (xs ++ ys)) :: Δ)) := ⟨fun s h => wl_append_byT s h⟩
/-! conversions of pointers -/
class CvTo (P : Program) (S D : TypeId) : Prop where
  ex : ∃ t j, P.underlying S = some (.pointer t) ∧ P.underlying D = some .unsafePointer ∧ P.info? t = some j ∧ j.size ≠ 0
class CvFrom (P : Program) (S D T : TypeId) (n : Nat) : Prop where
  ex : ∃ u j, P.underlying S = some .unsafePointer ∧ P.underlying D = some (.pointer u) ∧ P.info? u = some j ∧ liesAt P P.depth T (n / P.cellsOf T) 0 u 1 = true
theorem tb_shape {w : World} {b : Nat} {T : TypeId} {cs : List Value} (h : w.heap[b]? = some (.cells cs.toArray T (0, 0))) : w.shape? b = some (T, cs.length) := by simp [World.shape?, h]
instance (priority := 1500) {S D T : TypeId} {x : Operand} {b : Nat} {cs : List Value} [hx : Ev l x (.pointer (some ⟨b, 0, none⟩))] [hb : PullTb Γ b T cs Δ] [hc : CvTo P S D] : PuS P l Γ (.convert S D x) ty (.pointer (some ⟨b, 0, none⟩)) (0 < cs.length) := ⟨fun h0 w0 => by
  obtain ⟨t, j, h1, h2, h3, h4⟩ := hc.ex
  exact pu_of (s := convert S D (.pointer (some ⟨b, 0, none⟩))) (fun o ho _ => by unfold execOp; rw [ho]; simp only [hx.eq]) (fun w hs => Lib.run_to_unsafe w ⟨b, 0, none⟩ h1 h2 h3 h4 (tb_shape (sat_tb (hs.perm hb.perm))) h0)⟩
instance (priority := 1400) {S D : TypeId} {T : TypeId} {x : Operand} {b : Nat} {c0 c1 : Value} [hx : Ev l x (.pointer (some ⟨b, 0, none⟩))] [hb : PullTb Γ b T [c0, c1] Δ] [hc : CvFrom P S D T 2] : PuC P l Γ (.convert S D x) ty (.pointer (some ⟨b, 0, none⟩)) := ⟨fun w0 => by
  obtain ⟨u, j, h1, h2, h3, h4⟩ := hc.ex
  exact pu_of (s := convert S D (.pointer (some ⟨b, 0, none⟩))) (fun o ho _ => by unfold execOp; rw [ho]; simp only [hx.eq]) (fun w hs => Lib.run_from_unsafe w ⟨b, 0, none⟩ h1 h2 h3 (tb_shape (sat_tb (hs.perm hb.perm))) h4)⟩
instance {c : UInt8} : OwnC UInt8 Γ [.int .u8 ((c.toNat : Nat) : Int)] c Γ True := ⟨fun _ => fun {_ _ F} hs => ⟨F, .refl _, [], F, rfl, ⟨rfl, rfl⟩, hs⟩⟩
/-- A function of the model's own that gives its argument back. -/
class IsId (P : Program) (f : FuncId) : Prop where
  run : ∀ (x : Value) (w : World), (callFunc f #[x]).run P w = .ok (.value x) w
instance (priority := 1500) {f : FuncId} {x : Operand} {v : Value} {ts : Array TypeId} [hx : Ev l x v] [hf : IsId P f] : PuC P l Γ (.call { callee := .value (.func f), args := #[x], argTypes := ts }) ty v := ⟨fun w0 w hs o h1 h2 => by
  have := hf.run v w
  unfold execOp
  rw [h1]
  simp only [resolve, Sem.run_bind]
  show (Sem.run P (Deferred.ofValue (.func (.func f) #[] #[]) _) w).andThen _ = _
  simpa [Deferred.ofValue, invoke, hx.eq] using this⟩
/-! the string of the bytes -/
def baseP : Value → Value
  | .slice a _ _ => .pointer a
  | _ => .pointer none
theorem tby_row {w w0 : World} {Γ : List Atom} {e : TypeId} {v : Value} {xs : List UInt8} (h : Sat w0 w (@Atom.ow (TBy e) repTBy [v] (TBy.mk xs) :: Γ)) (h0 : 0 < xs.length) : ∃ g cap cur, v = .slice (some ⟨g, 0, none⟩) xs.length cap ∧ w.heap[g]? = some (.cells cur e (0, 0)) ∧ xs.length ≤ cap ∧ cap ≤ maxLen ∧ cap ≤ cur.size ∧ cur.toList.take xs.length = byC xs := by
  obtain ⟨_, F, _, _, f, g2, _, hf, _⟩ := h
  rcases (show Rep.ow (α := TBy e) _ w f [v] (TBy.mk xs) from hf) with ⟨_, hx, _⟩ | ⟨g, cap, cur, h1, _, h3, h4, h5, h6, h7⟩
  · have hx : xs = [] := hx
    rw [hx] at h0; simp at h0
  · simp only [List.cons.injEq, and_true] at h1
    exact ⟨g, cap, cur, h1, h3, h4, h5, h6, h7⟩
instance (priority := 1500) {T e : TypeId} {x : Operand} {v : Value} {xs : List UInt8} [h : Ev l x v] [hT : BySl P T e] [hp : PullOw (TBy e) repTBy Γ [v] (TBy.mk xs) Δ] : PuS P l Γ (.call { callee := .builtin .len, args := #[x], argTypes := #[T] }) ty (.int .i64 xs.length) True := ⟨fun _ w0 => by
  refine pu_of (s := Builtin.len_ #[T] ty #[v]) (fun o ho h2 => ?_) (fun w hs => ?_)
  · unfold execOp
    rw [ho]
    simp [resolve, invoke, builtin, h.eq, h2, Pure.pure, Bind.bind, Sem.bind]
  · obtain ⟨_, F, _, _, f, g2, _, hf, _⟩ := hs.perm hp.perm
    have hv : ∃ a c, v = .slice a xs.length c := by
      rcases (show Rep.ow (α := TBy e) _ w f [v] (TBy.mk xs) from hf) with ⟨h1, hx, _⟩ | ⟨g, cap, cur, h1, _⟩
      · have hx : xs = [] := hx
        simp only [List.cons.injEq, and_true] at h1
        exact ⟨none, 0, by rw [h1, hx]; rfl⟩
      · simp only [List.cons.injEq, and_true] at h1
        exact ⟨_, cap, h1⟩
    obtain ⟨a, c, rfl⟩ := hv
    simp [Builtin.len_, run_underlying hT.eq, goInt]⟩
instance (priority := 1500) {ts : Array TypeId} {e : TypeId} {x : Operand} {v : Value} {xs : List UInt8} [h : Ev l x v] [hp : PullOw (TBy e) repTBy Γ [v] (TBy.mk xs) Δ] : PuS P l Γ (.call { callee := .builtin .unsafeSliceData, args := #[x], argTypes := ts }) ty (baseP v) (0 < xs.length) := ⟨fun h0 w0 => by
  refine pu_of (s := Builtin.unsafeSliceData_ ts ty #[v]) (fun o ho h2 => ?_) (fun w hs => ?_)
  · unfold execOp
    rw [ho]
    simp [resolve, invoke, builtin, h.eq, h2, Pure.pure, Bind.bind, Sem.bind]
  · obtain ⟨g, cap, cur, rfl, _, h4, _⟩ := tby_row (hs.perm hp.perm) h0
    exact Lib.run_unsafeSliceData_row _ _ _ _ _ _ (by omega)⟩
/-- The first type is that of pointers to bytes of type e. -/
class ByPt (P : Program) (T e : TypeId) : Prop where
  eq : P.underlying T = some (.pointer e)
  one : P.cellsOf e = 1
theorem wl_unsafeString {T U e : TypeId} {x y : Operand} {v : Value} {n : Int} {xs : List UInt8} [hx : Ev l x (baseP v)] [hy : Ev l y (.int .i64 n)] [hT : ByPt P T e] [hp : PullOw (TBy e) repTBy Γ [v] (TBy.mk xs) Δ]
    (h0 : n = xs.length ∧ 0 < xs.length) (h : WL P ops Q w0 rest (l.set d (.string ⟨xs.toArray⟩)) Δ) :
    WL P ops Q w0 (⟨some d, .call { callee := .builtin .unsafeString, args := #[x, y], argTypes := #[T, U] }, ty, pos, after, none⟩ :: rest) l Γ := by
  intro w hs
  obtain ⟨rfl, hx0⟩ := h0
  have hs2 := hs.perm hp.perm
  obtain ⟨g, cap, cur, rfl, hg, h4, h5, h6, h7⟩ := tby_row hs2 hx0
  have hm : cap ≤ 9223372036854775807 := by simp only [maxLen] at h5; omega
  have hcell : ∀ j b, xs[j]? = some b → w.cell? ((⟨g, 0, none⟩ : Addr).add j) = some (.int .u8 b.toNat) := fun j b hj => by
    rw [add_lit, Nat.zero_add]
    have hb : (byC xs)[j]? = some (.int .u8 b.toNat) := by simp [byC, hj]
    rw [← h7, List.getElem?_take] at hb
    split at hb
    · simpa [World.cell?, hg] using hb
    · cases hb
  have hr := Lib.run_unsafeString_row (P := P) w T U ty e hT.eq hT.one g cur.size (by simp [World.shape?, hg]) xs (by intro hh; rw [hh] at hx0; simp at hx0) (by omega) (by omega) hcell
  have hrun : (execOp (E l).eval (⟨some d, .call { callee := .builtin .unsafeString, args := #[x, y], argTypes := #[T, U] }, ty, pos, after, none⟩ : Oper)).run P w = .ok (.value (.string ⟨xs.toArray⟩)) (w.freeze ⟨g, 0, none⟩ xs.length) := by
    have : execOp (E l).eval (⟨some d, .call { callee := .builtin .unsafeString, args := #[x, y], argTypes := #[T, U] }, ty, pos, after, none⟩ : Oper) = (do pure (.value (← Builtin.unsafeString_ #[T, U] ty #[.pointer (some ⟨g, 0, none⟩), .int .i64 xs.length])) : Sem Next) := by
      unfold execOp
      simp [resolve, invoke, builtin, hx.eq, hy.eq, baseP, Pure.pure, Bind.bind, Sem.bind]
    rw [this]
    exact run_value hr
  refine wl_op rfl hrun ?_
  rw [E_put]
  refine h _ ?_
  obtain ⟨hb, F, hn, hl, f, g2, rfl, hf, hrest⟩ := hs2
  have hgf : g ∈ f := by
    rcases (show Rep.ow (α := TBy e) _ w f [.slice (some ⟨g, 0, none⟩) xs.length cap] (TBy.mk xs) from hf) with ⟨h1, _⟩ | ⟨g', cap', cur', h1, rfl, _⟩
    · simp at h1
    · simp at h1
      simp [h1.1]
  have hother : ∀ b, b ≠ g → SameB w (w.freeze ⟨g, 0, none⟩ xs.length) b := fun b hbg => by
    unfold World.freeze
    split
    · rfl
    · simp [SameB, Array.getElem?_modify, Ne.symm hbg]
  have hsz : (w.freeze ⟨g, 0, none⟩ xs.length).heap.size = w.heap.size := by
    unfold World.freeze
    split <;> simp
  have hsat := Sat.step' (w' := w.freeze ⟨g, 0, none⟩ xs.length) (Δ' := []) (Γ := Δ) hb hn hl hrest ⟨by unfold World.freeze; split <;> rfl, by unfold World.freeze; split <;> rfl, by unfold World.freeze; split <;> rfl, by rw [hsz]; exact Nat.le_refl _, by unfold World.freeze; split <;> exact Nat.le_refl _⟩ (fun b _ hbf => hother b (fun e => hbf (e ▸ hgf))) [] List.nodup_nil (fun b hb => absurd hb List.not_mem_nil) (fun ok' hok' => rfl)
  simpa using hsat
instance (priority := 1500) {T U e : TypeId} {x y : Operand} {v : Value} {n : Int} {xs : List UInt8} [hx : Ev l x (baseP v)] [hy : Ev l y (.int .i64 n)] [hp : PullOw (TBy e) repTBy Γ [v] (TBy.mk xs) Δ] [hT : ByPt P T e] :
    RedS (WL P ops Q w0 (⟨some d, .call { callee := .builtin .unsafeString, args := #[x, y], argTypes := #[T, U] }, ty, pos, after, none⟩ :: rest) l Γ) (n = xs.length ∧ 0 < xs.length) (WL P ops Q w0 rest (l.set d (.string ⟨xs.toArray⟩)) Δ) := ⟨fun s h => wl_unsafeString s h⟩
/-! numbers as bytes, bytes as strings -/
theorem pu_to8 {S T : TypeId} {x : Operand} {n : Int} [hx : Ev l x (.int .i64 n)] [hS : I64T P S] [hT : U8T P T] (h : 0 ≤ n ∧ n < 256) : Pu P w0 l Γ (.convert S T x) ty (.int .u8 (((UInt8.ofNat n.toNat).toNat : Nat) : Int)) :=
  pu_of (s := convert S T (.int .i64 n)) (fun o ho _ => by unfold execOp; rw [ho]; simp only [hx.eq]) (fun w _ => by
    simp only [convert, Sem.run_bind, run_underlying hS.eq, run_underlying hT.eq, Result.andThen_ok, Conv.intToInt, Sem.run_pure]
    have : IntKind.u8.wrap n = (((UInt8.ofNat n.toNat).toNat : Nat) : Int) := by
      rw [UInt8.toNat_ofNat', Nat.mod_eq_of_lt (by omega), Int.toNat_of_nonneg h.1]
      simp [IntKind.wrap, IntKind.signed, IntKind.bits, IntKind.min, IntKind.max]
      omega
    rw [this])
instance {S T : TypeId} {x : Operand} {n : Int} [hx : Ev l x (.int .i64 n)] [hS : I64T P S] [hT : U8T P T] : PuS P l Γ (.convert S T x) ty (.int .u8 (((UInt8.ofNat n.toNat).toNat : Nat) : Int)) (0 ≤ n ∧ n < 256) := ⟨fun h _ => pu_to8 h⟩
/-- T is the type of slices of bytes (with its element's own row). -/
class ByS8 (P : Program) (T : TypeId) : Prop where
  ex : ∃ e, P.underlying T = some (.slice e) ∧ P.underlying e = some (.int .u8)
theorem pu_bytes_str {S T : TypeId} {x : Operand} {v : Value} {ys : List UInt8} [hx : Ev l x v] [hS : ByS8 P S] [hT : IsStr P T] [hr : HasRd (List UInt8) repList Γ [v] ys] (h0 : 0 < ys.length) : Pu P w0 l Γ (.convert S T x) ty (.string ⟨ys.toArray⟩) :=
  pu_of (s := convert S T v) (fun o ho _ => by unfold execOp; rw [ho]; simp only [hx.eq]) (fun w hs => by
    obtain ⟨e, h1, h2⟩ := hS.ex
    obtain ⟨a, c, hc, _, _, _, hrd⟩ := hs.rd (hr := hr)
    simp only [List.cons.injEq, and_true] at hc
    subst hc
    obtain ⟨b0, off, cells, rfl, _, hca, hr0⟩ := hrd h0
    have hcells := rdl_byC hr0
    exact run_convert_bytes_back w S T e ⟨b0, off, none⟩ c ys h1 h2 hT.eq (fun j hj => by
      rw [add_lit, hca j (by rw [hcells, byC_len]; exact hj), hcells]
      simp [byC, List.getElem?_eq_getElem hj]))
instance {S T : TypeId} {x : Operand} {v : Value} {ys : List UInt8} [hx : Ev l x v] [hS : ByS8 P S] [hT : IsStr P T] [hr : HasRd (List UInt8) repList Γ [v] ys] : PuS P l Γ (.convert S T x) ty (.string ⟨ys.toArray⟩) (0 < ys.length) := ⟨fun h _ => pu_bytes_str h⟩
instance {T U : TypeId} {x y : Operand} {a : Addr} [hT : PtrT P T] [hx : Ev l x (.pointer (some a))] [hy : Ev l y (.pointer (some a))] : PuC P l Γ (.binOp .neq T x y U) ty (.bool false) := ⟨fun _ => by
  obtain ⟨j, h1, _⟩ := hT.info
  exact pu_bin eqGuard_ptr (fun w => Lib.run_neq_ptr_same w a hT.eq h1)⟩
end
end Go.Eng
namespace Go.Eng
open Go Go.RowKit
set_option linter.unusedVariables false
set_option linter.unusedSimpArgs false
set_option synthInstance.maxHeartbeats 400000
/-- An element that is shared: where its parts lie. -/
instance unoSh {α : Type} [Rep α] [un : Un α] : UnO (Sh α) := ⟨un.Pr, fun p x => un.cells p x.v, fun p x => .rd (un.cells p x.v) x.v :: un.atoms p x.v, fun x => un.fact x.v, fun {ok w F cs x} h => by
  obtain ⟨rfl, hr⟩ := (show F = [] ∧ Rep.rd ok w cs x.v from h)
  obtain ⟨p, rfl, hs, hf⟩ := un.law hr
  exact ⟨p, rfl, ⟨[], [], rfl, ⟨rfl, hr⟩, hs⟩, hf⟩⟩
section
variable {P : Program} {ops : Array Oper} {Q : Exit → Act → World → Prop} {w0 : World} {rest : List Oper} {l l' : List Value} {Γ Γb Δ Ε : List Atom} {ty : TypeId} {v : Value} {pos : String} {after : Array Edge} {d : Nat}
/-- append closes the list first. -/
instance (priority := 1300) {α : Type} {iα : Rep α} {T U : TypeId} {x y : Operand} {sv : Value} {xs : List α} {i : Nat} {ec : List Value} {e : α} {S : Prop} {G : Value → Prop} [hx : Ev l x sv] [hp : PullOw (Hole α) repHole Γ [sv] (Hole.mk xs i ec) Δ] [ho : OwnC α Δ ec e Ε True]
    [hr : RedV (WL P ops Q w0 (⟨some d, .call { callee := .builtin .append, args := #[x, y], argTypes := #[T, U] }, ty, pos, after, none⟩ :: rest) l (.ow [sv] (xs.set i e) :: Ε)) S G] :
    RedV (WL P ops Q w0 (⟨some d, .call { callee := .builtin .append, args := #[x, y], argTypes := #[T, U] }, ty, pos, after, none⟩ :: rest) l Γ) S G := ⟨fun s h => wl_unfocus (hp := hp) sv e (ho.run trivial) (hr.run s h)⟩
/-- What an owned or shared value reads as, once it may be shared. -/
class ToRd (α : Type) (i : Rep α) (Γ : List Atom) (c : Value) (x : outParam α) (Δ : outParam (List Atom)) (S : outParam Prop) : Prop where
  ent : S → ∀ w0, Ent w0 Γ (@Atom.rd α i [c] x :: Δ)
instance (priority := 1000) {α : Type} {i : Rep α} {c : Value} {x : α} [hp : PullOw α i Γ [c] x Δ] : ToRd α i Γ c x Δ True := ⟨fun _ w0 w hs => (hs.perm hp.perm).share⟩
instance (priority := 500) {α : Type} {i : Rep α} {c : Value} {x : α} [hp : HasIm α i Γ [c] x] : ToRd α i Γ c x Γ True := ⟨fun _ w0 w hs => hs.addrd (fun F h => hp.get h)⟩
instance (priority := 900) {α : Type} {iα : Rep α} {c : Value} {xs : List (Sh α)} [hp : PullOw (List (Sh α)) repList Γ [c] xs Δ] : ToRd (List α) repList Γ c (xs.map Sh.v) Δ True := ⟨fun _ w0 w hs => by
  have e : (xs.map Sh.v).map Sh.mk = xs := by rw [List.map_map]; exact List.map_id _
  haveI : PullOw (List (Sh α)) repList Γ [c] ((xs.map Sh.v).map Sh.mk) Δ := ⟨by rw [e]; exact hp.perm⟩
  exact ent_unsh (ys := xs.map Sh.v) c (fun w h => h) w hs⟩
instance (priority := 900) {α : Type} {iα : Rep α} {c : Value} {xs : List α} {i : Nat} {ec : List Value} {e : α} {S : Prop} [hp : PullOw (Hole α) repHole Γ [c] (Hole.mk xs i ec) Δ] [ho : OwnC α Δ ec e Ε S] : ToRd (List α) repList Γ c (xs.set i e) Ε S := ⟨fun s w0 w hs => by
  have h1 := sat_unfocus (hp := hp) (ho.run s) hs
  exact h1.share⟩
/-- The first element of the list in the second cell of the block in slot n. -/
theorem wc_hole0 {α : Type} {iα : Rep α} [un : UnO α] [inh : Inhabited α] {c : Code} (n : Nat) {b : Nat} {v0 sv v2 : Value} {xs : List α} [hv : Ge l n (.pointer (some ⟨b, 0, none⟩))] [hb : HasBk Γ b [v0, sv, v2]] [hp : PullOw (List α) repList Γ [sv] xs Δ] (hi : 0 < xs.length)
    (h : ∀ p : un.Pr, un.fact (xs.getD 0 default) → WC P Q w0 c l (.ow [sv] (Hole.mk xs 0 (un.cells p (xs.getD 0 default))) :: (un.atoms p (xs.getD 0 default) ++ Δ))) : WC P Q w0 c l Γ :=
  wc_focus sv 0 (by rw [List.getD_eq_getElem?_getD, List.getElem?_eq_getElem hi]; rfl) h
theorem wc_owsh0 {α : Type} {iα : Rep α} {c : Code} (n : Nat) {b : Nat} {v0 sv v2 : Value} {xs : List α} [hv : Ge l n (.pointer (some ⟨b, 0, none⟩))] [hb : HasBk Γ b [v0, sv, v2]] [hp : PullOw (List α) repList Γ [sv] xs Δ] (h : ∀ ys : List (Sh α), ys.length = xs.length → WC P Q w0 c l (.ow [sv] ys :: Δ)) : WC P Q w0 c l Γ := wc_owsh sv (h _ (by rw [List.length_map]))
end
/-- The atoms but those of a cursor, and of owned lists of numbers. -/
class KeepI (Γ : List Atom) (Δ : outParam (List Atom)) : Prop where
  sub : Sub Γ Δ
instance : KeepI [] [] := ⟨Sub.nil⟩
instance (priority := 2000) {Γ Δ : List Atom} {code : List UInt8} {b : Nat} {vb : Value} {p : CurS code} [h : KeepI Γ Δ] : KeepI (.bk b (cur vb p) :: Γ) Δ := ⟨sub_skip h.sub⟩
instance (priority := 2000) {Γ Δ : List Atom} {cs : List Value} {xs : List Int} [h : KeepI Γ Δ] : KeepI (.ow cs xs :: Γ) Δ := ⟨sub_skip h.sub⟩
instance (priority := 500) {Γ Δ : List Atom} {A : Atom} [h : KeepI Γ Δ] : KeepI (A :: Γ) (A :: Δ) := ⟨sub_keep h.sub⟩
instance (priority := 50) {Γ : List Atom} : KeepI Γ Γ := ⟨Sub.refl⟩
theorem wa_begini {P : Program} {Q : Exit → Act → World → Prop} {w0 : World} {l : List Value} {Γ Γb : List Atom} [hm : Mixed P] {n : Nat} {ol : List Oper} (id : Nat) (bl : List Bool) (lt : List Nat) [hk : KeepI Γ Γb] (h : WA P ol.toArray Q w0 lt Γb n bl l Γ) (hn : ol.length = n := by rfl) (hbl : List.replicate n false = bl := by rfl) : WC P Q w0 (.region id ol.toArray true) l Γ :=
  wa_start_on lt Γb (fun _ hs => hs.sub hk.sub) hn hbl h
end Go.Eng
