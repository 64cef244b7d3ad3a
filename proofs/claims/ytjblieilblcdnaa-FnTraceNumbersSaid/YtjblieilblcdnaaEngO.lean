/- The rules of the walk: variables that are arrays. -/
import Derived.Test.YtjblieilblcdnaaEngN
namespace Go.Eng
open Go Go.RowKit
set_option linter.unusedVariables false
set_option linter.unusedSimpArgs false

/-- A list of n. -/
structure Ar (n : Nat) (α : Type) where
  xs : List α
class PosN (n : Nat) : Prop where
  pos : 0 < n
instance : PosN 24 := ⟨by decide⟩
instance : PosN 48 := ⟨by decide⟩
instance repAr {n : Nat} {α : Type} [Rep α] [hn : PosN n] : Rep (Ar n α) where
  sz := n * Rep.sz α
  rd ok w cs x := x.xs.length = n ∧ RdL ok w cs x.xs
  ow ok w F cs x := F = [] ∧ x.xs.length = n ∧ RdL ok w cs x.xs
  pos := Nat.mul_pos hn.pos Rep.pos
  rd_len := by rintro _ _ _ _ ⟨h, h'⟩; rw [h'.len, h]
  rd_one := by rintro _ _ _ _ ⟨h, h'⟩; exact h'.one
  rd_mono := fun h hm => ⟨h.1, h.2.mono hm⟩
  ow_mono := fun h _ hm => ⟨h.1, h.2.1, h.2.2.mono hm⟩
  ow_rd := fun h ho _ => ⟨h.2.1, h.2.2.mono (fun b hb _ => ⟨ho b hb, rfl⟩)⟩
  ow_lt := by rintro _ _ _ _ _ ⟨rfl, _⟩ b hb; cases hb

/-- A list that is nil if it is empty. -/
structure NE (α : Type) where
  xs : List α
instance {α : Type} : Inhabited (NE α) := ⟨⟨[]⟩⟩
def NERd {α : Type} [Rep α] (ok : Nat → Prop) (w : World) (cs : List Value) (x : List α) : Prop := (cs = [.slice none 0 0] ∧ x = []) ∨ (x ≠ [] ∧ Rep.rd ok w cs x)
theorem NERd.list {α : Type} [Rep α] {ok : Nat → Prop} {w : World} {cs : List Value} {x : List α} (h : NERd ok w cs x) : Rep.rd ok w cs x := by
  rcases h with ⟨rfl, rfl⟩ | h
  · exact ⟨none, 0, rfl, by simp, by simp [maxLen], by simp, by simp⟩
  · exact h.2
instance repNE {α : Type} [Rep α] : Rep (NE α) where
  sz := 1
  rd ok w cs x := NERd ok w cs x.xs
  ow ok w F cs x := F = [] ∧ NERd ok w cs x.xs
  pos := by decide
  rd_len := fun h => Rep.rd_len h.list
  rd_one := fun h => Rep.rd_one h.list
  rd_mono := fun h hm => h.imp id (fun h => ⟨h.1, Rep.rd_mono h.2 hm⟩)
  ow_mono := fun h _ hm => ⟨h.1, h.2.imp id (fun h => ⟨h.1, Rep.rd_mono h.2 hm⟩)⟩
  ow_rd := fun h ho _ => h.2.imp id (fun h => ⟨h.1, Rep.rd_mono h.2 (fun b hb _ => ⟨ho b hb, rfl⟩)⟩)
  ow_lt := by rintro _ _ _ _ _ ⟨rfl, _⟩ b hb; cases hb

/-- T is an array type of n elements of one cell each. -/
class ArT (P : Program) (T : TypeId) (n : outParam Nat) : Prop where
  ex : ∃ e i, P.underlying T = some (.array n e) ∧ P.info? e = some i ∧ i.size = 1 ∧ 2 ≤ n

class RedO (G : Prop) (S : outParam Prop) (G' : outParam (Value → Prop)) : Prop where
  run : S → (∀ v, G' v) → G
class RedL (G : Prop) (S : outParam Prop) (G' : outParam (Option Addr → Nat → Prop)) : Prop where
  run : S → (∀ a c, G' a c) → G
/-- T is an array type of n slices of α: all nil at first. -/
class ArN (P : Program) (T : TypeId) (n : outParam Nat) (α : outParam Type) (i : outParam (Rep α)) : Prop where
  run : ∀ w, (Instr.build T #[]).run P w = .ok (.agg (List.replicate n (.slice none 0 0)).toArray) w
class ArB (P : Program) (T : TypeId) (n : outParam Nat) : Prop where
  run : ∀ w, (Instr.build T #[]).run P w = .ok (.agg (List.replicate n (.bool false)).toArray) w
class RedZ (G : Prop) (G' : outParam (List Value → Prop)) : Prop where
  run : (∀ cs, G' cs) → G
section inst
variable {P : Program} {ops : Array Oper} {Q : Exit → Act → World → Prop} {w0 : World} {rest : List Oper} {l l' : List Value} {Γ Γb Δ Ε : List Atom} {ty : TypeId} {v : Value} {pos : String} {after : Array Edge} {d : Nat} {x y : Operand}

instance (priority := 100) {α : Type} {i : Rep α} {cs : List Value} {z : α} [h : HasRd α i Γ cs z] : OneCs Γ cs := ⟨fun hs => Rep.rd_one (h.get hs)⟩

theorem pu_index_arr {T n b : Nat} {m : Nat} {k : Int} {kk : IntKind} [h : Ev l x (.pointer (some ⟨b, 0, none⟩))] [hy : Ev l y (.int kk k)] [hm : ToN k m] [hT : ArT P T n] (hk : 0 ≤ k ∧ k < n) : Pu P w0 l Γ (.indexAddr T x y) ty (.pointer (some ⟨b, m, none⟩)) := by
  obtain ⟨e, i, ht, hi, hs, hn⟩ := hT.ex
  refine pu_of (s := Instr.indexAt T (.pointer (some ⟨b, 0, none⟩)) (.int kk k)) (fun o ho _ => by unfold execOp; rw [ho]; simp only [h.eq, hy.eq]) (fun w hs' => ?_)
  have e1 := hm.eq
  simp [Instr.indexAt, asIntOf, run_underlying ht, sizeOf, typeInfo, hi, hs, hk.1, hk.2, Instr.sureAddr, e1, add_lit]
instance {T n b m : Nat} {k : Int} {kk : IntKind} [h : Ev l x (.pointer (some ⟨b, 0, none⟩))] [hy : Ev l y (.int kk k)] [hm : ToN k m] [hT : ArT P T n] : PuS P l Γ (.indexAddr T x y) ty (.pointer (some ⟨b, m, none⟩)) (0 ≤ k ∧ k < n) := ⟨fun h _ => pu_index_arr h⟩

theorem ar_get {n : Nat} {α : Type} [Rep α] [Inhabited α] [hn : PosN n] {ok : Nat → Prop} {w : World} {cs : List Value} {xs : List α} (hsz : Rep.sz α = 1) (h : Rep.rd ok w cs (Ar.mk xs : Ar n α)) {m : Nat} (hm : m < n) :
    ∃ v, cs[m]? = some v ∧ Rep.rd ok w [v] (xs.getD m default) := by
  obtain ⟨hl, hr⟩ := h
  simp only at hl hr
  obtain ⟨p, c, s, e, hp, hc⟩ := hr.get m (by omega)
  have hcl := Rep.rd_len hc
  rw [hsz] at hcl hp
  obtain ⟨v, rfl⟩ : ∃ v, c = [v] := by
    match c, hcl with
    | [v], _ => exact ⟨v, rfl⟩
  refine ⟨v, ?_, ?_⟩
  · rw [e, List.append_assoc, List.getElem?_append_right (by omega), hp]; simp
  · rw [List.getD_eq_getElem?_getD, List.getElem?_eq_getElem (by omega)]; exact hc

/-- An element of an array, read. -/
instance {T n b m : Nat} {α : Type} {iα : Rep α} [inh : Inhabited α] [hn : PosN n] {cs : List Value} {xs : List α} [h : Ev l x (.pointer (some ⟨b, m, none⟩))] [hT : Sc P T] [hb : HasBk Γ b cs] [hr : HasIm (Ar n α) repAr Γ cs (Ar.mk xs)] [hsz : SzIs α 1] :
    RedV (WL P ops Q w0 (⟨some d, .load T x, ty, pos, after, none⟩ :: rest) l Γ) (m < n) (fun v => WL P ops Q w0 rest (l.set d v) (.rd [v] (xs.getD m default) :: Γ)) := ⟨fun s hw w hs => by
  obtain ⟨hbel, F, hnd, hl, hsep⟩ := hs
  obtain ⟨e, he⟩ := hb.get hsep
  obtain ⟨v, hv, hrd⟩ := ar_get hsz.eq.symm (hr.get hsep) s
  have hc : w.cell? ⟨b, m, none⟩ = some v := by simp [World.cell?, he, hv]
  refine wl_op (v := v) (w' := w) rfl (run_value (f := Next.value) (s := Instr.loadAt T ((E l).eval x)) ?_) ?_
  · rw [h.eq]; simp [Instr.loadAt, Instr.sureAddr, loadVar, Sem.run_bind, hT.agg, load, Sem.run, hc]
  · rw [E_put]
    exact hw v _ ⟨hbel, F, hnd, hl, [], F, rfl, ⟨rfl, hrd⟩, hsep⟩⟩

/-- .. of an array of lists that are nil if empty. -/
instance (priority := 1100) {T n b m : Nat} {α : Type} {iα : Rep α} [hn : PosN n] {cs : List Value} {xs : List (NE α)} [h : Ev l x (.pointer (some ⟨b, m, none⟩))] [hT : Sc P T] [hb : HasBk Γ b cs] [hr : HasIm (Ar n (NE α)) repAr Γ cs (Ar.mk xs)] :
    RedV (WL P ops Q w0 (⟨some d, .load T x, ty, pos, after, none⟩ :: rest) l Γ) (m < n) (fun v => WL P ops Q w0 rest (l.set d v) (.rd [v] (xs.getD m default).xs :: .rd [v] (xs.getD m default) :: Γ)) := ⟨fun s hw w hs => by
  obtain ⟨hbel, F, hnd, hl, hsep⟩ := hs
  obtain ⟨e, he⟩ := hb.get hsep
  obtain ⟨v, hv, hrd⟩ := ar_get rfl (hr.get hsep) s
  have hc : w.cell? ⟨b, m, none⟩ = some v := by simp [World.cell?, he, hv]
  refine wl_op (v := v) (w' := w) rfl (run_value (f := Next.value) (s := Instr.loadAt T ((E l).eval x)) ?_) ?_
  · rw [h.eq]; simp [Instr.loadAt, Instr.sureAddr, loadVar, Sem.run_bind, hT.agg, load, Sem.run, hc]
  · rw [E_put]
    exact hw v _ ⟨hbel, F, hnd, hl, [], F, rfl, ⟨rfl, NERd.list hrd⟩, [], F, rfl, ⟨rfl, hrd⟩, hsep⟩⟩
/-- Something in Γ is such a list. -/
class HasNe (α : outParam Type) (i : outParam (Rep α)) (Γ : List Atom) (cs : List Value) (z : outParam (NE α)) : Prop where
  get : ∀ {ok w F}, Sep ok w Γ F → NERd ok w cs z.xs
instance (priority := 1100) {α : Type} {i : Rep α} {cs : List Value} {z : NE α} : HasNe α i (.rd cs z :: Γ) cs z := ⟨fun ⟨_, _, _, h, _⟩ => h.2⟩
instance (priority := 1000) {α : Type} {i : Rep α} {cs : List Value} {z : NE α} {A : Atom} [h : HasNe α i Γ cs z] : HasNe α i (A :: Γ) cs z := ⟨fun ⟨_, _, _, _, h'⟩ => h.get h'⟩

theorem RdL.set {α : Type} [Rep α] {ok : Nat → Prop} {w : World} (hsz : Rep.sz α = 1) : ∀ {cs : List Value} {xs : List α} {v : Value} {y : α} {m : Nat}, RdL ok w cs xs → Rep.rd ok w [v] y → RdL ok w (cs.set m v) (xs.set m y)
  | cs, [], v, y, m, h, hy => by simp [RdL] at h ⊢; simp [h]
  | cs, x :: xs, v, y, 0, ⟨c, d, e, h, h'⟩, hy => by
    have hcl := Rep.rd_len h
    rw [hsz] at hcl
    match c, hcl with
    | [u], _ => subst e; exact ⟨[v], d, rfl, hy, h'⟩
  | cs, x :: xs, v, y, m + 1, ⟨c, d, e, h, h'⟩, hy => by
    have hcl := Rep.rd_len h
    rw [hsz] at hcl
    match c, hcl with
    | [u], _ => subst e; exact ⟨[u], d.set m v, rfl, h, RdL.set hsz h' hy⟩

theorem wl_store_arr {T n b m : Nat} {α : Type} {iα : Rep α} [hn : PosN n] {cs : List Value} {xs : List α} {u : α} [hx : Ev l x (.pointer (some ⟨b, m, none⟩))] [hy : Ev l y v] [ho : OneC Γ v] [hT : Sc P T] [hb : PullBk Γ b cs Δ] [hr : HasIm (Ar n α) repAr Δ cs (Ar.mk xs)] [hsz : SzIs α 1] (hm : m < n)
    (hu : ∀ {ok w F}, Sep ok w Δ F → Rep.rd ok w [v] u) (h : WL P ops Q w0 rest l (.bk b (cs.set m v) :: .rd (cs.set m v) (Ar.mk (xs.set m u) : Ar n α) :: Δ)) :
    WL P ops Q w0 (⟨none, .store T x y, ty, pos, after, none⟩ :: rest) l Γ := by
  intro w hs
  have h1 : v.oneCell' = true := by
    obtain ⟨_, F, _, _, hs⟩ := hs
    exact ho.one hs
  have hs1 := hs.perm hb.perm
  obtain ⟨e, he⟩ := hs1.bk (hr := HasBk.here)
  have hlen : cs.length = n := by
    obtain ⟨_, F, _, _, hs⟩ := hs1
    obtain ⟨f, g, _, _, hsep⟩ := hs
    have h2 := hr.get hsep
    have := Rep.rd_len h2
    rw [this]; show n * Rep.sz α = n; rw [← hsz.eq, Nat.mul_one]
  have hs2 := hs1.store m v
  have hcell : w.cell? ⟨b, m, none⟩ = some (cs[m]'(by omega)) := by simp [World.cell?, he, List.getElem?_eq_getElem (show m < cs.length by omega)]
  have hfr : w.frozen? ⟨b, m, none⟩ = false := by simp [World.frozen?, he]
  have hst : (store (⟨b, m, none⟩ : Addr) v).run P w = .ok () (w.setCell ⟨b, m, none⟩ v) := by
    cases v <;> simp_all [store, Sem.run, Value.oneCell']
  refine wpList_plain rfl fun K hK => ?_
  unfold Oper.wp
  have hrun : (execOp (E l).eval ⟨none, .store T x y, ty, pos, after, none⟩).run P w = .ok .skip (w.setCell ⟨b, m, none⟩ v) := by
    show (do Instr.storeAt T ((E l).eval x) ((E l).eval y); pure Next.skip : Sem Next).run P w = _
    simp only [hx.eq, hy.eq, Sem.run_bind, Instr.storeAt, Instr.sureAddr, Sem.run_pure, Result.andThen_ok, storeVar, hT.size, cells_one h1]
    simp only [List.size_toArray, List.length_cons, List.length_nil, Nat.zero_add, ne_eq, not_true_eq_false, if_false, Sem.run_pure, Result.andThen_ok, Sem.run_bind, storeCells]
    have : (⟨b, m, none⟩ : Addr).add 0 = ⟨b, m, none⟩ := by simp [Addr.add]
    rw [this]
    simp only [hst, Result.andThen_ok, Sem.run_pure]
  rw [hrun, Oper.upon_skip, E_put_none]
  refine hK _ _ (h _ ?_)
  obtain ⟨hbel, F, hnd, hl, f, g, rfl, hA, hsep⟩ := hs2
  exact ⟨hbel, f ++ g, hnd, hl, f, g, rfl, hA, [], g, rfl, ⟨rfl, by have := hr.get hsep; exact ⟨by simpa using this.1, this.2.set hsz.eq.symm (hu hsep)⟩⟩, hsep⟩
/-- A list that is not empty, written into an array. -/
instance {T n b m : Nat} {α : Type} {iα : Rep α} [hn : PosN n] {cs : List Value} {xs : List (NE α)} {ys : List α} [hx : Ev l x (.pointer (some ⟨b, m, none⟩))] [hy : Ev l y v] [ho : OneC Γ v] [hT : Sc P T] [hb : PullBk Γ b cs Δ] [hr : HasIm (Ar n (NE α)) repAr Δ cs (Ar.mk xs)] [hu : HasIm (List α) repList Δ [v] ys] :
    RedS (WL P ops Q w0 (⟨none, .store T x y, ty, pos, after, none⟩ :: rest) l Γ) (m < n ∧ 0 < ys.length) (WL P ops Q w0 rest l (.bk b (cs.set m v) :: .rd (cs.set m v) (Ar.mk (xs.set m ⟨ys⟩) : Ar n (NE α)) :: Δ)) :=
  ⟨fun s h => wl_store_arr (u := (⟨ys⟩ : NE α)) (hsz := ⟨rfl⟩) s.1 (fun {ok w F} hsep => show NERd ok w [v] ys from .inr ⟨fun e => by have := s.2; rw [e] at this; simp at this, hu.get hsep⟩) h⟩
instance {T n b m : Nat} {t : Bool} [hn : PosN n] {cs : List Value} {xs : List Bool} [hx : Ev l x (.pointer (some ⟨b, m, none⟩))] [hy : Ev l y (.bool t)] [hT : Sc P T] [hb : PullBk Γ b cs Δ] [hr : HasIm (Ar n Bool) repAr Δ cs (Ar.mk xs)] :
    RedS (WL P ops Q w0 (⟨none, .store T x y, ty, pos, after, none⟩ :: rest) l Γ) (m < n) (WL P ops Q w0 rest l (.bk b (cs.set m (.bool t)) :: .rd (cs.set m (.bool t)) (Ar.mk (xs.set m t) : Ar n Bool) :: Δ)) :=
  ⟨fun s h => wl_store_arr (u := t) (hsz := ⟨rfl⟩) s (fun hsep => rfl) h⟩

/-- The whole array. -/
instance {T n b k : Nat} {α : Type} {iα : Rep α} [hn : PosN n] {cs : List Value} {xs : List α} [h : Ev l x (.pointer (some ⟨b, 0, none⟩))] [hT : Ag P T k] [hb : HasBk Γ b cs] [hr : HasRd (Ar n α) repAr Γ cs (Ar.mk xs)] [hsz : SzIs (Ar n α) k] : PuC P l Γ (.load T x) ty (.agg cs.toArray) := ⟨fun w0 =>
  pu_of (s := Instr.loadAt T (.pointer (some ⟨b, 0, none⟩))) (fun o ho _ => by unfold execOp; rw [ho]; simp only [h.eq]) (fun w hs => by
    obtain ⟨e, he⟩ := hs.bk (hr := hb)
    have hk : cs.length = k := by rw [hsz.eq]; exact Rep.rd_len (hs.rd (hr := hr))
    have hc := run_loadCells (P := P) (w := w) (p := ⟨b, 0, none⟩) (cs := cs) 0 #[] (fun j hj => by
      rw [add_lit, Nat.zero_add, Nat.zero_add]
      simp [World.cell?, he])
    rw [hk] at hc
    simp only [Instr.loadAt, Instr.sureAddr, loadVar, Sem.run_bind, Sem.run_pure, Result.andThen_ok, hT.agg, if_true, hT.size, loadCells, hc]
    simp)⟩
instance {α : Type} {iα : Rep α} {n : Nat} [h : SzIs α 1] [hn : PosN n] : SzIs (Ar n α) n := ⟨by show n = n * Rep.sz α; rw [← h.eq, Nat.mul_one]⟩
instance {α : Type} [Rep α] : SzIs (NE α) 1 := ⟨rfl⟩
/-- The length of a variable's cells is known. -/
class LenB (Γ : List Atom) (cs : List Value) (n : outParam Nat) : Prop where
  eq : ∀ {ok w F}, Sep ok w Γ F → cs.length = n
instance {cs : List Value} {n : Nat} [h : LenIs cs n] : LenB Γ cs n := ⟨fun _ => h.eq⟩
instance (priority := 500) {α : Type} {iα : Rep α} {n k : Nat} [hn : PosN n] {cs : List Value} {xs : List α} [hr : HasRd (Ar n α) repAr Γ cs (Ar.mk xs)] [hsz : SzIs (Ar n α) k] : LenB Γ cs k := ⟨fun hs => by rw [hsz.eq]; exact Rep.rd_len (hr.get hs)⟩
instance {T n n' b k : Nat} {α : Type} {iα : Rep α} [hn : PosN n] {cs vc : List Value} {xs : List α} [hx : Ev l x (.pointer (some ⟨b, 0, none⟩))] [hy : Ev l y (.agg vc.toArray)] [hT : Ag P T k] [hb : PullBk Γ b cs Δ] [hl : LenB Δ cs n'] [hr : HasRd (Ar n α) repAr Δ vc (Ar.mk xs)] [hsz : SzIs (Ar n α) k] [he : NatEq n' k] :
    Red (WL P ops Q w0 (⟨none, .store T x y, ty, pos, after, none⟩ :: rest) l Γ) (WL P ops Q w0 rest l (.bk b vc :: Δ)) := ⟨fun h w hs => by
  have hs1 := hs.perm hb.perm
  obtain ⟨_, F, _, _, f, g, _, _, hsep⟩ := (id hs1 : Sat w0 w (.bk b cs :: Δ))
  have hlc := hl.eq hsep
  have hlv : vc.length = k := by rw [hsz.eq]; exact Rep.rd_len (hr.get hsep)
  have h1 : ∀ c ∈ vc, c.oneCell' = true := Rep.rd_one (hr.get hsep)
  obtain ⟨w', hrun, hs'⟩ := run_storeCells (P := P) hs1 h1 (off := 0) (by rw [hlc, hlv, he.eq]; omega) 0 0 rfl
  refine wpList_plain rfl fun K hK => ?_
  unfold Oper.wp
  have : (execOp (E l).eval ⟨none, .store T x y, ty, pos, after, none⟩).run P w = .ok .skip w' := by
    show (do Instr.storeAt T ((E l).eval x) ((E l).eval y); pure Next.skip : Sem Next).run P w = _
    simp only [hx.eq, hy.eq, Sem.run_bind, Instr.storeAt, Instr.sureAddr, Sem.run_pure, Result.andThen_ok, storeVar, hT.size, show (Value.agg vc.toArray).cells = vc.toArray from rfl]
    simp only [List.size_toArray, hlv, ne_eq, not_true_eq_false, if_false, Sem.run_pure, Result.andThen_ok, Sem.run_bind]
    simp only [hrun, Result.andThen_ok]
  rw [this, Oper.upon_skip, E_put_none]
  refine hK _ _ (h w' ?_)
  have e : cs.take 0 ++ vc ++ cs.drop (0 + vc.length) = vc := by
    rw [List.take_zero, List.nil_append, List.drop_of_length_le (by rw [hlc, hlv, he.eq]; omega), List.append_nil]
  rw [e] at hs'
  exact hs'⟩

/-- A slice of the whole array: the variable is given up. -/
theorem RdL.ne {α : Type} [Rep α] {ok : Nat → Prop} {w : World} : ∀ {cs : List Value} {xs : List (NE α)}, RdL ok w cs xs → RdL ok w cs (xs.map NE.xs)
  | _, [], h => h
  | _, x :: xs, ⟨c, d, e, h, h'⟩ => ⟨c, d, e, h.list, RdL.ne h'⟩
theorem wl_slice_arr {T n b : Nat} {α : Type} {iα : Rep α} [hn : PosN n] {cs : List Value} {xs : List α} [hx : Ev l x (.pointer (some ⟨b, 0, none⟩))] [hT : ArT P T n] [hb : PullBk Γ b cs Δ] {β : Type} {iβ : Rep β} {ys : List β} (hlen : ys.length = n) (hsz : Rep.sz β = 1) (hle : n ≤ 1000)
    (hy : ∀ {ok w F}, Sep ok w Δ F → RdL ok w cs ys) (h : ∀ sv, WL P ops Q w0 rest (l.set d sv) (.rd [sv] ys :: Δ)) : WL P ops Q w0 (⟨some d, .slice T x none none none, ty, pos, after, none⟩ :: rest) l Γ := by
  intro w hs
  obtain ⟨e, i, ht, hi, hs1, hn2⟩ := hT.ex
  have hrun : (Instr.sliceAt T (.pointer (some ⟨b, 0, none⟩)) none none none).run P w = .ok (.slice (some ⟨b, 0, none⟩) n n) w := by
    have : ¬ n = 0 := by omega
    simp [Instr.sliceAt, Instr.sliceBounds, Instr.sureAddr, run_underlying ht, sizeOf, typeInfo, hi, this, Addr.add]
  refine wl_op (v := .slice (some ⟨b, 0, none⟩) n n) (w' := w) rfl (run_value (f := Next.value) (s := Instr.sliceAt T ((E l).eval x) (Option.map (E l).eval none) (Option.map (E l).eval none) (Option.map (E l).eval none)) ?_) ?_
  · rw [hx.eq]; exact hrun
  · rw [E_put]
    obtain ⟨hbel, F, hnd, hl, f, g, rfl, ⟨rfl, ee, he⟩, hsep⟩ := hs.perm hb.perm
    have hb : b ∉ g := by have := hnd; simp at this; exact this.1
    have hmono : ∀ k, k ∉ [b] ++ g → k < w.heap.size → k ∉ g ∧ SameB w w k := fun k hk _ => ⟨fun hm => hk (by simp [hm]), rfl⟩
    have hsep' := hsep.mono (ok' := (· ∉ g)) hmono (Nat.le_refl _) (fun _ _ => rfl)
    refine h _ _ ⟨hbel, g, (List.nodup_append.1 hnd).2.1, fun k hk => hl k (by simp [hk]), [], g, rfl, ⟨rfl, ?_⟩, hsep'⟩
    refine ⟨some ⟨b, 0, none⟩, n, by rw [hlen], by omega, by simp only [maxLen]; omega, by omega, fun _ => ⟨b, 0, cs, rfl, hb, fun j hj => ?_, hy hsep'⟩⟩
    simp [World.cell?, he]
instance {T n b : Nat} {α : Type} {iα : Rep α} [hn : PosN n] {cs : List Value} {xs : List (NE α)} [hx : Ev l x (.pointer (some ⟨b, 0, none⟩))] [hT : ArT P T n] [hb : PullBk Γ b cs Δ] [hr : HasIm (Ar n (NE α)) repAr Δ cs (Ar.mk xs)] :
    RedV (WL P ops Q w0 (⟨some d, .slice T x none none none, ty, pos, after, none⟩ :: rest) l Γ) (xs.length = n ∧ n ≤ 1000) (fun sv => WL P ops Q w0 rest (l.set d sv) (.rd [sv] (xs.map NE.xs) :: Δ)) :=
  ⟨fun s h => wl_slice_arr (iα := iα) (xs := ([] : List α)) (by rw [List.length_map]; exact s.1) rfl s.2 (fun hsep => (hr.get hsep).2.ne) h⟩

/-- The beginning of a list of the call's own. -/
theorem OwL.take {α : Type} [Rep α] {ok : Nat → Prop} {w : World} : ∀ {F : List Nat} {cells : List Value} {xs : List α} (m : Nat), OwL ok w F cells xs → ∃ f g, F = f ++ g ∧ OwL ok w f (cells.take (m * Rep.sz α)) (xs.take m)
  | F, cells, [], m, h => ⟨[], F, rfl, by obtain ⟨rfl, rfl⟩ := h; rw [List.take_nil, List.take_nil]; exact ⟨rfl, rfl⟩⟩
  | F, cells, x :: xs, 0, h => ⟨[], F, rfl, by rw [Nat.zero_mul, List.take_zero, List.take_zero]; exact ⟨rfl, rfl⟩⟩
  | F, cells, x :: xs, m + 1, h0 => by
    obtain ⟨f, g, c, d, rfl, rfl, h, h'⟩ := h0
    obtain ⟨f', g', rfl, h2⟩ := OwL.take m h'
    have hl : c.length = Rep.sz α := Rep.rd_len (x := x) (Rep.ow_rd (ok' := fun _ => True) h (fun _ _ => trivial) (fun _ _ => trivial))
    refine ⟨f ++ f', g', by simp, ?_⟩
    rw [Nat.add_mul, Nat.one_mul, Nat.add_comm, ← hl, List.take_length_add_append, hl]
    exact ⟨f, f', c, _, rfl, rfl, h, h2⟩
theorem wl_slice_ow {α : Type} {iα : Rep α} {T k by_ : Nat} {sv : Value} {kk : IntKind} {n : Int} {m : Nat} {xs : List α} [hx : Ev l x sv] [hy : Ev l y (.int kk n)] [hm : ToN n m] [hT : Sl P T k by_] [hp : PullOw (List α) repList Γ [sv] xs Δ] (hn : 0 ≤ n ∧ n ≤ xs.length)
    (h : ∀ sv', WL P ops Q w0 rest (l.set d sv') (.ow [sv'] (xs.take m) :: Δ)) : WL P ops Q w0 (⟨some d, .slice T x none (some y) none, ty, pos, after, none⟩ :: rest) l Γ := by
  intro w hs
  obtain ⟨e, i, z, ht, hi', hik, hib, hz, hzk, hpos⟩ := hT.ex
  obtain ⟨hb, F, hnd, hl, f, g, rfl, hA, hsep⟩ := hs.perm hp.perm
  have how : Rep.ow (· ∉ f ++ g) w f [sv] xs := hA
  have hm' := hm.eq
  have hml : m ≤ xs.length := by omega
  have hlt : (xs.take m).length = m := by rw [List.length_take]; omega
  rw [ow_list] at how
  have key : ∃ (a : Option Addr) (cap : Nat) (f1 f2 : List Nat), sv = .slice a xs.length cap ∧ m ≤ cap ∧ (f1 ++ f2).Perm f ∧ (∀ sv', sv' = Value.slice a m cap → Rep.ow (· ∉ f ++ g) w f1 [sv'] (xs.take m)) ∧ a.map (·.add 0) = a := by
    rcases how with ⟨h0, rfl, rfl⟩ | ⟨b, cap, cur, ee, G, cells, h0, rfl, h1, h2, h3, h4, h5, h6, h7⟩
    · have : m = 0 := by simpa using hml
      subst this
      exact ⟨none, 0, [], [], by simpa using h0, Nat.le_refl _, by simp, fun sv' h => by rw [ow_list]; exact .inl ⟨by rw [h], by simp, rfl⟩, rfl⟩
    · obtain ⟨g1, g2, rfl, h8⟩ := OwL.take m h7
      refine ⟨some ⟨b, 0, none⟩, cap, b :: g1, g2, by simpa using h0, by omega, by simp, fun sv' h => ?_, by simp [add_lit]⟩
      rw [ow_list]
      refine .inr ⟨b, cap, cur, ee, g1, cells.take (m * Rep.sz α), by rw [h, hlt], rfl, h1, by omega, h3, by omega, h5, ?_, h8⟩
      rw [hlt, ← h6, List.take_take]
      congr 1
      have := Nat.mul_le_mul_right (Rep.sz α) hml
      omega
  obtain ⟨a, cap, f1, f2, rfl, hcap, hperm, hnew, hadd⟩ := key
  have hrun := run_slice (P := P) (T := T) (a := a) (n := xs.length) (cap := cap) (lo := 0) (hi := m) (vlo := none) (vhi := some (.int kk n)) ht hi' (.inl ⟨rfl, rfl⟩) (.inr ⟨kk, by rw [show n = (m : Int) by omega]⟩) (by omega) hcap w
  have hres : (Value.slice (if cap = 0 then a else a.map (·.add (0 * i.size))) (m - 0) (cap - 0)) = .slice a m cap := by
    rw [Nat.zero_mul, hadd]; split <;> simp
  rw [hres] at hrun
  refine wl_op rfl (v := .slice a m cap) (w' := w) ?_ ?_
  · refine run_value (f := Next.value) (s := Instr.sliceAt T ((E l).eval x) (Option.map (E l).eval none) (Option.map (E l).eval (some y)) (Option.map (E l).eval none)) ?_
    rw [hx.eq]; simp only [Option.map_none, Option.map_some, hy.eq]; exact hrun
  · rw [E_put]
    have hp2 : (f1 ++ (f2 ++ g)).Perm (f ++ g) := by rw [← List.append_assoc]; exact hperm.append_right g
    have hmem : ∀ b, b ∈ f1 ++ g → b ∈ f ++ g := fun b hb => hp2.mem_iff.1 (by rcases List.mem_append.1 hb with h | h <;> simp [h])
    have hn2 : (f1 ++ g).Nodup := by
      have := hp2.symm.nodup hnd
      rw [List.nodup_append] at this ⊢
      exact ⟨this.1, (List.nodup_append.1 this.2.1).2.1, fun a ha b hb => this.2.2 a ha b (by simp [hb])⟩
    refine h _ _ ⟨hb, f1 ++ g, hn2, fun b hb => hl b (hmem b hb), f1, g, rfl, ?_, hsep.mono (fun b hb _ => ⟨fun hm => hb (hmem b hm), rfl⟩) (Nat.le_refl _) (fun _ _ => rfl)⟩
    exact Rep.ow_mono (hnew _ rfl) (fun _ _ => rfl) (fun b hb _ => ⟨fun hm => hb (hmem b hm), rfl⟩)
instance {α : Type} {iα : Rep α} {T k by_ : Nat} {sv : Value} {kk : IntKind} {n : Int} {m : Nat} {xs : List α} [hx : Ev l x sv] [hy : Ev l y (.int kk n)] [hm : ToN n m] [hT : Sl P T k by_] [hp : PullOw (List α) repList Γ [sv] xs Δ] :
    RedV (WL P ops Q w0 (⟨some d, .slice T x none (some y) none, ty, pos, after, none⟩ :: rest) l Γ) (0 ≤ n ∧ n ≤ xs.length) (fun sv' => WL P ops Q w0 rest (l.set d sv') (.ow [sv'] (xs.take m) :: Δ)) := ⟨fun s h => wl_slice_ow s h⟩

/-! ### An element of an owned list of lists: laid open when it is read -/
instance (priority := 900) {β : Type} {iβ : Rep β} {T m : Nat} {sv : Value} {xs : List (List β)} [h : Ev l x (.pointer (some (elemA sv (m : Int) 1)))] [hT : Sc P T] [hp : PullOw (List (List β)) repList Γ [sv] xs Δ] :
    RedO (WL P ops Q w0 (⟨some d, .load T x, ty, pos, after, none⟩ :: rest) l Γ) (m < xs.length) (fun v => WL P ops Q w0 rest (l.set d v) (.ow [sv] (Hole.mk xs m [v]) :: .ow [v] (xs.getD m default) :: Δ)) := ⟨fun s hw =>
  wl_focus (un := unoList) sv m (get_lt s) fun v _ => by
    refine wl_pure (v := v) (hd := ⟨rfl⟩) ?_ (hw v)
    have : HasPt (.ow [sv] (Hole.mk xs m [v]) :: .ow [v] (xs.getD m default) :: Δ) (elemA sv (m : Int) 1) [v] := HasPt.hole (hk := (⟨rfl⟩ : SzIs (List β) 1))
    exact pu_load_pt (hp := this)⟩
instance {α : Type} {iα : Rep α} {T k by_ : Nat} {j : Int} {m : Nat} {sv : Value} {xs : List α} {ec : List Value} {kk : IntKind} [h : Ev l x sv] [hn : Ev l y (.int kk j)] [hm : ToN j m] [hT : Sl P T k by_] [hr : HasRd (Hole α) repHole Γ [sv] (Hole.mk xs m ec)] :
    PuS P l Γ (.indexAddr T x y) ty (.pointer (some (elemA sv (m : Int) k))) (0 ≤ j) := ⟨fun s w0 => by
  have e : j = (m : Int) := by have := hm.eq; omega
  obtain ⟨el, inf, z, ht, hinf, hk, _⟩ := hT.ex
  refine pu_of (s := Instr.indexAt T sv (.int kk (m : Int))) (fun o ho _ => by unfold execOp; rw [ho]; simp only [h.eq, hn.eq, e]) (fun w hs => ?_)
  obtain ⟨b, cap, hsv, hi, _⟩ := hs.rd (hr := hr)
  obtain rfl : sv = _ := by simpa using hsv
  simp only at hi
  have h1 : (m : Int) < (xs.length : Int) := by omega
  simp [Instr.indexAt, asIntOf, run_underlying ht, sizeOf, typeInfo, hinf, hk, hi, elemA]⟩
instance {α : Type} {iα : Rep α} {T k kk n : Nat} {sv : Value} {xs : List α} {i : Nat} {ec vc : List Value} [hx : Ev l x (.pointer (some (elemA sv (i : Int) k)))] [hy : Ev l y v] [hc : Cs Γ v vc] [hT : Sz P T kk]
    [hb : PullOw (Hole α) repHole Γ [sv] (Hole.mk xs i ec) Δ] [hsz : SzIs α k] [hsp : Sp ec 0 vc vc] [hl : LenIs vc n] [hk : NatEq n kk] :
    Red (WL P ops Q w0 (⟨none, .store T x y, ty, pos, after, none⟩ :: rest) l Γ) (WL P ops Q w0 rest l (.ow [sv] (Hole.mk xs i vc) :: Δ)) := ⟨fun h =>
  wl_store_hole (m := 0) (hx := ⟨by rw [hx.eq]; simp [Addr.add]⟩) (hl.eq.trans hk.eq) h⟩

/-- Of an element of an owned list of lists: only how long it is. -/
instance {β : Type} {iβ : Rep β} {T m : Nat} {sv : Value} {xs : List (List β)} [h : Ev l x (.pointer (some (elemA sv (m : Int) 1)))] [hT : Sc P T] [hp : HasRd (List (List β)) repList Γ [sv] xs] :
    RedL (WL P ops Q w0 (⟨some d, .load T x, ty, pos, after, none⟩ :: rest) l Γ) (m < xs.length) (fun a c => WL P ops Q w0 rest (l.set d (.slice a (xs.getD m default).length c)) Γ) := ⟨fun s hw w hs => by
  obtain ⟨a, cap, b, off, p, c, s', rfl, _, _, hca, hpl, he, hrd⟩ := elem_cells (hs.rd (hr := hp)) (n := (m : Int)) (by omega) (by omega)
  obtain ⟨a', cap', rfl, _⟩ := hrd
  have hget : xs[(m : Int).toNat]'(by omega) = xs.getD m default := by
    simp only [Int.toNat_natCast]; rw [List.getD_eq_getElem?_getD, List.getElem?_eq_getElem s]; rfl
  rw [hget] at hca
  have h0 := hca.part 0 (by simp)
  simp only [Nat.add_zero, List.getElem?_cons_zero] at h0
  have he' : elemA (.slice (some ⟨b, off, none⟩) xs.length cap) (m : Int) 1 = ⟨b, off + p.length, none⟩ := he
  refine wl_op (v := .slice a' (xs.getD m default).length cap') (w' := w) rfl (run_value (f := Next.value) (s := Instr.loadAt T ((E l).eval x)) ?_) ?_
  · rw [h.eq, he']; simp [Instr.loadAt, Instr.sureAddr, loadVar, Sem.run_bind, hT.agg, load, Sem.run, h0]
  · rw [E_put]; exact hw _ _ w hs⟩
instance {T k b n c : Nat} {a : Option Addr} [h : Ev l x (.slice a n c)] [ht : Sl P T k b] : PuC P l Γ (.call { callee := .builtin .len, args := #[x], argTypes := #[T] }) ty (.int .i64 n) := ⟨fun w0 => by
  obtain ⟨e, i, z, ht, _⟩ := ht.ex
  refine pu_of (s := Builtin.len_ #[T] ty #[.slice a n c]) (fun o ho h2 => ?_) (fun w hs => ?_)
  · unfold execOp
    rw [ho]
    simp [resolve, invoke, builtin, h.eq, h2, Pure.pure, Bind.bind, Sem.bind]
  · simp [Builtin.len_, run_underlying ht, goInt]⟩

/-- A list that is nil if empty, compared with nil. -/
instance (priority := 1100) {T U k by_ : TypeId} {α : Type} {iα : Rep α} {z : NE α} {l1 l2 : List Value} [hx : Ev l x v] [hy : Ev l y (.slice none 0 0)] [hT : Sl P T k by_] [hr : HasNe α iα Γ [v] z] [h1 : Se l d (.bool true) l1] [h2 : Se l d (.bool false) l2] :
    RedQ (WL P ops Q w0 (⟨some d, .binOp .eql T x y U, ty, pos, after, none⟩ :: rest) l Γ) (z.xs = []) (¬ z.xs = []) (WL P ops Q w0 rest l1 Γ) (WL P ops Q w0 rest l2 Γ) := ⟨fun g1 g2 w hs => by
  obtain ⟨e, inf, zz, ht, _⟩ := hT.ex
  obtain ⟨hbel, F, hnd, hl, hsep⟩ := id hs
  have key : ∀ {a : Option Addr} {len cap : Nat}, v = .slice a len cap → Pu P w0 l Γ (.binOp .eql T x y U) ty (.bool a.isNone) := fun {a len cap} hv => by
    subst hv
    refine pu_bin (hx := hx) (hy := hy) eqGuard_slice (fun w => ?_)
    exact run_value (f := Value.bool) (run_equal_nil ht 9999 w)
  rcases hr.get hsep with ⟨hv, hz⟩ | ⟨hz, hrd⟩
  · have hv' : v = .slice none 0 0 := by simpa using hv
    exact wl_pure (v := .bool true) (hd := h1) (key hv') (g1 hz) w hs
  · obtain ⟨a, cap, hv, hc1, hc2, hc3, hc4⟩ := (id hrd : Rep.rd _ _ _ _)
    have hv' : v = .slice a z.xs.length cap := by simpa using hv
    have hpos : 0 < z.xs.length := by
      rcases Nat.eq_zero_or_pos z.xs.length with h | h
      · exact absurd (List.eq_nil_of_length_eq_zero h) hz
      · exact h
    obtain ⟨b, off, cells, rfl, _⟩ := hc4 hpos
    exact wl_pure (v := .bool false) (hd := h2) (by have := key hv'; simpa using this) (g2 hz) w hs⟩

theorem wl_nils {α : Type} {iα : Rep α} {n : Nat} [hn : PosN n] (cs : List Value) (hc : cs = List.replicate n (.slice none 0 0)) (h : WL P ops Q w0 rest l (.rd cs (Ar.mk (List.replicate n ⟨[]⟩) : Ar n (NE α)) :: Γ)) : WL P ops Q w0 rest l Γ := fun w hs => by
  obtain ⟨hbel, F, hnd, hl, hsep⟩ := hs
  refine h w ⟨hbel, F, hnd, hl, [], F, rfl, ⟨rfl, by simp, ?_⟩, hsep⟩
  subst hc
  have : ∀ k, RdL (· ∉ F) w (List.replicate k (.slice none 0 0)) (List.replicate k (⟨[]⟩ : NE α)) := fun k => by
    induction k with
    | zero => rfl
    | succ k ih => exact ⟨[.slice none 0 0], List.replicate k (.slice none 0 0), rfl, .inl ⟨rfl, rfl⟩, ih⟩
  exact this n
instance {T n : Nat} {α : Type} {iα : Rep α} [hT : ArN P T n α iα] [hn : PosN n] : RedZ (WL P ops Q w0 (⟨some d, .build T #[], ty, pos, after, none⟩ :: rest) l Γ) (fun cs => WL P ops Q w0 rest (l.set d (.agg cs.toArray)) (.rd cs (Ar.mk (List.replicate n ⟨[]⟩) : Ar n (NE α)) :: Γ)) := ⟨fun h =>
  wl_pure (v := .agg (List.replicate n (.slice none 0 0)).toArray) (hd := ⟨rfl⟩) (pu_of (s := Instr.build T #[]) (fun o ho _ => by unfold execOp; rw [ho]; simp) (fun w _ => hT.run w)) (wl_nils (α := α) (n := n) (List.replicate n (.slice none 0 0)) rfl (h _))⟩
instance {T n : Nat} [hT : ArB P T n] [hn : PosN n] : RedZ (WL P ops Q w0 (⟨some d, .build T #[], ty, pos, after, none⟩ :: rest) l Γ) (fun cs => WL P ops Q w0 rest (l.set d (.agg cs.toArray)) (.rd cs (Ar.mk (List.replicate n false) : Ar n Bool) :: Γ)) := ⟨fun h =>
  wl_pure (v := .agg (List.replicate n (.bool false)).toArray) (hd := ⟨rfl⟩) (pu_of (s := Instr.build T #[]) (fun o ho _ => by unfold execOp; rw [ho]; simp) (fun w _ => hT.run w)) (fun w hs => by
    obtain ⟨hbel, F, hnd, hl, hsep⟩ := hs
    refine h (List.replicate n (.bool false)) w ⟨hbel, F, hnd, hl, [], F, rfl, ⟨rfl, by simp, ?_⟩, hsep⟩
    have : ∀ k, RdL (· ∉ F) w (List.replicate k (.bool false)) (List.replicate k false) := fun k => by
      induction k with
      | zero => rfl
      | succ k ih => exact ⟨[.bool false], List.replicate k (.bool false), rfl, rfl, ih⟩
    exact this n)⟩
/-- The whole array as a result. -/
instance {t T b k n : Nat} {α : Type} {iα : Rep α} [hn : PosN n] {cs : List Value} {xs : List α} {rs : List ResultVar} {vs : List Value} [h : Ge l t (.pointer (some ⟨b, 0, none⟩))] [hT : Ag P T k] [hb : HasBk Γ b cs] [hr : HasRd (Ar n α) repAr Γ cs (Ar.mk xs)] [hsz : SzIs (Ar n α) k] [h' : Rs P Γ l rs vs] : Rs P Γ l (.cell t T :: rs) (.agg cs.toArray :: vs) :=
  rs_cons (fun {w0 w} hs => by
    obtain ⟨e, he⟩ := hs.bk (hr := hb)
    have hk : cs.length = k := by rw [hsz.eq]; exact Rep.rd_len (hs.rd (hr := hr))
    have hc := run_loadCells (P := P) (w := w) (p := ⟨b, 0, none⟩) (cs := cs) 0 #[] (fun j hj => by
      rw [add_lit, Nat.zero_add, Nat.zero_add]
      simp [World.cell?, he])
    rw [hk] at hc
    simp only [resOf, E_getD (h := h), asAddr, loadVar, Sem.run_bind, Sem.run_pure, Result.andThen_ok, hT.agg, if_true, hT.size, loadCells, hc]
    simp) h'
/-- What is read here is kept at hand. -/
theorem wc_dup {α : Type} {iα : Rep α} {c : Code} (cs : List Value) {z : α} [h : HasIm α iα Γ cs z] (hw : WC P Q w0 c l (.rd cs z :: Γ)) : WC P Q w0 c l Γ := fun w hs => hw w (by
  obtain ⟨hbel, F, hnd, hl, hsep⟩ := hs
  exact ⟨hbel, F, hnd, hl, [], F, rfl, ⟨rfl, h.get hsep⟩, hsep⟩)
end inst
end Go.Eng
