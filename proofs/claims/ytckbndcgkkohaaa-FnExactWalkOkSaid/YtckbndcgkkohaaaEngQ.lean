/- The rules of the walk: functions as values: a closure is made, and is called. -/
import Derived.Test.YtckbndcgkkohaaaEngP
namespace Go.Eng
open Go Go.RowKit
set_option linter.unusedVariables false
set_option linter.unusedSimpArgs false
set_option synthInstance.maxHeartbeats 400000
set_option synthInstance.maxSize 1000

/-- Three lists, one behind the other. -/
class App3 (a b c : List Value) (o : outParam (List Value)) : Prop where
  eq : a ++ b ++ c = o
instance {b : List Value} : App3 [] b [] b := ⟨by simp⟩
instance {c : List Value} : App3 [] [] c c := ⟨by simp⟩
instance (priority := 900) {x : Value} {b c o : List Value} [h : App3 [] b c o] : App3 [] (x :: b) c (x :: o) := ⟨by have := h.eq; simpa using this⟩
instance (priority := 900) {x : Value} {a b c o : List Value} [h : App3 a b c o] : App3 (x :: a) b c (x :: o) := ⟨by have := h.eq; simpa using this⟩

instance (priority := 1500) SubE.nilr {Γ Δ : List Atom} {α : Type} {iα : Rep α} [h : SubE Γ Δ] : SubE Γ (@Atom.rd (List α) repList [.slice none 0 0] [] :: Δ) := ⟨fun hs => by
  obtain ⟨G, H, hGH, hD⟩ := h.get hs
  exact ⟨G, H, hGH, [], G, rfl, ⟨rfl, none, 0, rfl, by simp, by simp [maxLen], by simp, fun h => by simp at h⟩, hD⟩⟩

section q
variable {P : Program} {ops : Array Oper} {Q : Exit → Act → World → Prop} {w0 : World} {rest : List Oper} {l l' : List Value} {Γ Γb Δ Ε : List Atom} {ty : TypeId} {v : Value} {pos : String} {after : Array Edge} {d : Nat}

theorem pu_makeFunc {f : Fn} {xs ys : List Operand} {vs us : List Value} [hx : EvL l xs vs] [hy : EvL l ys us] : Pu P w0 l Γ (.makeFunc f xs.toArray ys.toArray) ty (.func f vs.toArray us.toArray) := fun w _ o ho _ => by
  have h1 : Array.map (E l).eval xs.toArray = vs.toArray := by simp [hx.eq]
  have h2 : Array.map (E l).eval ys.toArray = us.toArray := by simp [hy.eq]
  simp only [execOp, ho, h1, h2]
  rfl
instance {f : Fn} {xs ys : List Operand} {vs us : List Value} [hx : EvL l xs vs] [hy : EvL l ys us] : PuC P l Γ (.makeFunc f xs.toArray ys.toArray) ty (.func f vs.toArray us.toArray) := ⟨fun _ => pu_makeFunc⟩

theorem run_callv {x : Operand} {xs : List Operand} {vs fs cs as : List Value} {f : FuncId} {ts : Array TypeId} {dst : Option Tmp} {g : Option (Nat × Bool)} [hv : Ev l x (.func (.func f) fs.toArray cs.toArray)] [hx : EvL l xs vs] [ha : App3 fs vs cs as] [hf : IsFn P f] (w : World) :
    (execOp (E l).eval ⟨dst, .call { callee := .value x, args := xs.toArray, argTypes := ts }, ty, pos, after, g⟩).run P w = .ok (.enter f as.toArray) w := by
  have := hf.run as.toArray w
  simp only [execOp, resolve, Sem.run_bind]
  have he : Array.map (E l).eval xs.toArray = vs.toArray := by simp [hx.eq]
  rw [he, hv.eq]
  have h3 : fs ++ (vs ++ cs) = as := by rw [← ha.eq]; simp
  simpa [Deferred.ofValue, invoke, h3] using this

theorem wl_callv {x : Operand} {f : FuncId} {xs : List Operand} {vs fs cs as : List Value} {ts : Array TypeId} {ρ : Type} {r : ρ → Value} {Γ' : ρ → List Atom} [hv : Ev l x (.func (.func f) fs.toArray cs.toArray)] [hx : EvL l xs vs] [ha : App3 fs vs cs as] [hf : IsFn P f] (hc : CJ P f as w0 Γ r Γ')
    (h : ∀ p, WL P ops Q w0 rest (l.set d (r p)) (Γ' p)) : WL P ops Q w0 (⟨some d, .call { callee := .value x, args := xs.toArray, argTypes := ts }, ty, pos, after, none⟩ :: rest) l Γ := by
  intro w hs
  refine wpList_plain rfl fun K hK => ?_
  unfold Oper.wp
  rw [run_callv (fs := fs) (cs := cs) w, Oper.upon_enter]
  refine (hc w hs).mono ?_
  rintro e w' ⟨p, rfl, hs'⟩
  show K ((E l).put (some d) (r p)) w'
  rw [E_put]
  exact hK _ _ (h p w' hs')
theorem wl_callv0 {x : Operand} {f : FuncId} {xs : List Operand} {vs fs cs as : List Value} {ts : Array TypeId} {ρ : Type} {r : ρ → Value} {Γ' : ρ → List Atom} [hv : Ev l x (.func (.func f) fs.toArray cs.toArray)] [hx : EvL l xs vs] [ha : App3 fs vs cs as] [hf : IsFn P f] (hc : CJ P f as w0 Γ r Γ')
    (h : ∀ p, WL P ops Q w0 rest l (Γ' p)) : WL P ops Q w0 (⟨none, .call { callee := .value x, args := xs.toArray, argTypes := ts }, ty, pos, after, none⟩ :: rest) l Γ := by
  intro w hs
  refine wpList_plain rfl fun K hK => ?_
  unfold Oper.wp
  rw [run_callv (fs := fs) (cs := cs) w, Oper.upon_enter]
  refine (hc w hs).mono ?_
  rintro e w' ⟨p, rfl, hs'⟩
  show K ((E l).put none (r p)) w'
  rw [E_put_none]
  exact hK _ _ (h p w' hs')

/-- The value is a closure. -/
class IsFv (v : Value) (f : outParam FuncId) (fs cs : outParam (List Value)) : Prop where
  eq : v = .func (.func f) fs.toArray cs.toArray
instance {f : FuncId} {fs cs : List Value} : IsFv (.func (.func f) fs.toArray cs.toArray) f fs cs := ⟨rfl⟩
instance {f : FuncId} : IsFv (.func (.func f) #[] #[]) f [] [] := ⟨rfl⟩
instance {n : Tmp} {f : FuncId} {xs : List Operand} {vs fs cs as : List Value} {ts : Array TypeId} {S : Prop} {ρ : Type} {r : ρ → Value} {Γ' : ρ → List Atom} [hv : Ev l (.tmp n) v] [hk : IsFv v f fs cs] [hx : EvL l xs vs] [ha : App3 fs vs cs as] [hc : CtrC P f as Γ S ρ r Γ'] [hf : IsFn P f] :
    RedC (WL P ops Q w0 (⟨some d, .call { callee := .value (.tmp n), args := xs.toArray, argTypes := ts }, ty, pos, after, none⟩ :: rest) l Γ) S ρ (fun p => WL P ops Q w0 rest (l.set d (r p)) (Γ' p)) :=
  ⟨fun s h => wl_callv (fs := fs) (cs := cs) (hv := ⟨hv.eq.trans hk.eq⟩) (hc.run s w0) h⟩
instance {n : Tmp} {f : FuncId} {xs : List Operand} {vs fs cs as : List Value} {ts : Array TypeId} {S : Prop} {ρ : Type} {r : ρ → Value} {Γ' : ρ → List Atom} [hv : Ev l (.tmp n) v] [hk : IsFv v f fs cs] [hx : EvL l xs vs] [ha : App3 fs vs cs as] [hc : CtrC P f as Γ S ρ r Γ'] [hf : IsFn P f] :
    RedC (WL P ops Q w0 (⟨none, .call { callee := .value (.tmp n), args := xs.toArray, argTypes := ts }, ty, pos, after, none⟩ :: rest) l Γ) S ρ (fun p => WL P ops Q w0 rest l (Γ' p)) :=
  ⟨fun s h => wl_callv0 (fs := fs) (cs := cs) (hv := ⟨hv.eq.trans hk.eq⟩) (hc.run s w0) h⟩
theorem wq_share {Q : Exit → Act → World → Prop} {α : Type} {iα : Rep α} {e : Exit} (sv : Value) {x : α} [hp : PullOw α iα Γ [sv] x Δ] (h : WQ Q w0 e l (.rd [sv] x :: Δ)) : WQ Q w0 e l Γ := fun w hs => h w (hs.perm hp.perm).share
theorem ent_share {α : Type} {iα : Rep α} (sv : Value) {x : α} [hp : PullOw α iα Γ [sv] x Δ] (h : Ent w0 (.rd [sv] x :: Δ) Ε) : Ent w0 Γ Ε := fun w hs => h w (hs.perm hp.perm).share
end q

/-! ### Lists of what is shared -/
instance {α : Type} [Inhabited α] : Inhabited (Sh α) := ⟨⟨default⟩⟩
instance {α : Type} [Rep α] {k : Nat} [h : SzIs α k] : SzIs (Sh α) k := ⟨h.eq⟩
theorem RdL.sh {β : Type} [Rep β] {ok : Nat → Prop} {w : World} : ∀ {cells : List Value} {ys : List β}, RdL ok w cells ys → OwL ok w [] cells (ys.map Sh.mk)
  | _, [], h => ⟨rfl, h⟩
  | _, _ :: _, ⟨c, d, e, h, h'⟩ => ⟨[], [], c, d, rfl, e, ⟨rfl, h⟩, RdL.sh h'⟩
section sh
variable {P : Program} {ops : Array Oper} {Q : Exit → Act → World → Prop} {w0 : World} {rest : List Oper} {l l' : List Value} {Γ Γb Δ Ε : List Atom} {ty : TypeId} {v : Value} {pos : String} {after : Array Edge} {d : Nat}
theorem wl_append_sh {T k by_ : Nat} {x y : Operand} {ov tv : Value} {β : Type} {iβ : Rep β} {xs : List (Sh β)} {ys : List β} [hx : Ev l x ov] [hy : Ev l y tv] [hT : Sl P T k by_] [h1 : PullOw (List (Sh β)) repList Γ [ov] xs Δ] [h2 : HasIm (List β) repList Δ [tv] ys]
    (hk : k = Rep.sz β) (hbytes : (xs.length + ys.length) * by_ ≤ 140737488355328) (h : ∀ sv, WL P ops Q w0 rest (l.set d sv) (.ow [sv] (xs ++ ys.map Sh.mk) :: Δ)) :
    WL P ops Q w0 (⟨some d, .call { callee := .builtin .append, args := #[x, y], argTypes := #[T, T] }, ty, pos, after, none⟩ :: rest) l Γ := by
  intro w hs
  have hs1 : Sat w0 w ([.ow [ov] xs] ++ Δ) := hs.perm h1.perm
  obtain ⟨hb, F, hn, hl, f, g, rfl, hf, hrest⟩ := hs1
  obtain ⟨a, c, hc, _, _, _, hrd⟩ := h2.get hrest
  simp only [List.cons.injEq, and_true] at hc
  subst hc
  obtain ⟨news, hsrc, hyo⟩ : ∃ news, (0 < (ys.map Sh.mk).length → ∃ b off, a = some (⟨b, off, none⟩ : Addr) ∧ CellsAt w b off news) ∧ OwL (· ∉ f ++ g) w [] news (ys.map Sh.mk) := by
    by_cases h0 : 0 < ys.length
    · obtain ⟨b, off, cells, rfl, _, hca, hr⟩ := hrd h0
      exact ⟨cells, fun _ => ⟨b, off, rfl, hca⟩, RdL.sh hr⟩
    · have : ys = [] := List.eq_nil_of_length_eq_zero (by omega)
      subst this
      exact ⟨[], by simp, rfl, rfl⟩
  obtain ⟨v', w', hr, ho, hsame, fn, hfn, hnew, hrep⟩ := append_core (P := P) (T := T) (ty := ty) (c := c) (ys := ys.map Sh.mk) (show k = Rep.sz (Sh β) from hk) hf hsrc hyo (by simpa using (List.nodup_append.1 hn).1) (fun b hb hok => hok (by simp at hb; simp [hb])) (by rw [List.length_map]; exact hbytes)
  rw [List.length_map] at hr
  refine wl_op rfl (run_append_op hr) ?_
  rw [E_put]
  refine h _ _ ?_
  exact Sat.step' (Δ' := [.ow [v'] (xs ++ ys.map Sh.mk)]) (Γ := Δ) hb hn hl hrest ho hsame fn hfn
    (fun b hb => (hnew b hb).imp (fun h => by simpa using h) id) (fun ok' hok' => ⟨fn, [], by simp, hrep ok' hok', rfl⟩)
instance (priority := 1200) {T k by_ : Nat} {x y : Operand} {ov tv : Value} {β : Type} {iβ : Rep β} {xs : List (Sh β)} {ys : List β} [hx : Ev l x ov] [hy : Ev l y tv] [hT : Sl P T k by_] [h1 : PullOw (List (Sh β)) repList Γ [ov] xs Δ] [h2 : HasIm (List β) repList Δ [tv] ys] [hk : SzIs β k] :
    RedV (WL P ops Q w0 (⟨some d, .call { callee := .builtin .append, args := #[x, y], argTypes := #[T, T] }, ty, pos, after, none⟩ :: rest) l Γ) ((xs.length + ys.length) * by_ ≤ 140737488355328) (fun sv => WL P ops Q w0 rest (l.set d sv) (.ow [sv] (xs ++ ys.map Sh.mk) :: Δ)) := ⟨fun s h => wl_append_sh hk.eq s h⟩
/-- What is empty is so of any type of that size. -/
theorem wc_ow0 {α β : Type} {iα : Rep α} {iβ : Rep β} {c : Code} (sv : Value) (hz : Rep.sz α = Rep.sz β) [hp : PullOw (List α) repList Γ [sv] [] Δ] (h : WC P Q w0 c l (.ow [sv] ([] : List β) :: Δ)) : WC P Q w0 c l Γ := fun w hs => by
  refine h w (SepEnt.sat (fun {ok w F} hs => ?_) (hs.perm hp.perm))
  obtain ⟨f, g, e, h1, h2⟩ := hs
  refine ⟨F, .refl _, f, g, e, ?_, h2⟩
  have h1 := ow_list.1 h1
  refine ow_list.2 ?_
  rcases h1 with ⟨a, b, c⟩ | ⟨g, cap, cur, e, G, cells, h1, h2, h3, h4, h5, h6, h7, h8, h9⟩
  · exact .inl ⟨a, rfl, c⟩
  · exact .inr ⟨g, cap, cur, e, G, cells, h1, h2, h3, by simp, h5, by simp, by rw [← hz]; exact h7, by simpa using h8, h9⟩
end sh

/-! ### Slices of functions -/
structure Fv where
  v : Value
instance : Inhabited Fv := ⟨⟨.nilFunc⟩⟩
instance repFv : Rep Fv where
  sz := 1
  rd _ _ cs x := cs = [x.v] ∧ x.v.oneCell' = true
  ow _ _ F cs x := F = [] ∧ cs = [x.v] ∧ x.v.oneCell' = true
  pos := by decide
  rd_len := by rintro _ _ _ _ ⟨rfl, _⟩; rfl
  rd_one := by rintro _ _ _ _ ⟨rfl, h⟩; simp [h]
  rd_mono := fun h _ => h
  ow_mono := fun h _ _ => h
  ow_rd := fun h _ _ => h.2
  ow_lt := by rintro _ _ _ _ _ ⟨rfl, _⟩ b hb; cases hb
instance : Flat Fv := ⟨trivial⟩
instance : SzIs Fv 1 := ⟨rfl⟩
/-- The type is one of slices of functions. -/
class FvS (P : Program) (T : TypeId) : Prop where
  t : True
section fv
variable {P : Program} {ops : Array Oper} {Q : Exit → Act → World → Prop} {w0 : World} {rest : List Oper} {l l' : List Value} {Γ Γb Δ Ε : List Atom} {ty : TypeId} {v : Value} {pos : String} {after : Array Edge} {d : Nat}
instance {f : Fn} {a b : Array Value} : OwnC Fv Γ [.func f a b] ⟨.func f a b⟩ Γ True := ⟨fun _ => fun {_ _ F} hs => ⟨F, .refl _, [], F, rfl, ⟨rfl, rfl, rfl⟩, hs⟩⟩
instance {T k by_ N m : Nat} {ps : List (Nat × Operand)} {groups : List (List Value)} {xs : List Fv} {S : Prop} [hF : FvS P T] [hT : Sl P T k by_] [hp : PartsL Γ l k 0 ps groups] [ho : OwnLC Fv Γ groups xs Δ S] [hk : SzIs Fv k] [hl : LenIs xs m] [hn : NatEq m N] :
    RedV (WL P ops Q w0 (⟨some d, .buildSlice T N ps.toArray, ty, pos, after, none⟩ :: rest) l Γ) (S ∧ N * k ≤ 16777216) (fun sv => WL P ops Q w0 rest (l.set d sv) (.ow [sv] xs :: Δ)) :=
  ⟨fun s h => wl_buildSlice (hT := hT) (hp := hp) (ho.run s.1) hk.eq (hn.eq ▸ hl.eq.symm) s.2 h⟩
theorem pu_load_fv {T : TypeId} {x : Operand} {sv : Value} {n : Int} {xs : List Fv} [h : Ev l x (.pointer (some (elemA sv n 1)))] [hT : Sc P T] [hr : HasRd (List Fv) repList Γ [sv] xs]
    (hi : 0 ≤ n ∧ n < xs.length) : Pu P w0 l Γ (.load T x) ty (xs.getD n.toNat default).v :=
  pu_of (s := Instr.loadAt T (.pointer (some (elemA sv n 1)))) (fun o ho _ => by unfold execOp; rw [ho]; simp only [h.eq]) (fun w hs => by
    obtain ⟨a, cap, b, off, p, c, s, rfl, _, _, hca, hp, he, hrd⟩ := elem_cells (hs.rd (hr := hr)) hi.1 hi.2
    have hrd' : c = [_] := hrd.1
    subst hrd'
    have he' : elemA (.slice (some ⟨b, off, none⟩) xs.length cap) n 1 = ⟨b, off + p.length, none⟩ := he
    have := hca.part 0 (by simp)
    simp only [Nat.add_zero, List.getElem?_cons_zero] at this
    rw [he', List.getD_eq_getElem?_getD, List.getElem?_eq_getElem (by omega), Option.getD_some]
    simp [Instr.loadAt, Instr.sureAddr, loadVar, Sem.run_bind, hT.agg, load, Sem.run, this])
instance {T : TypeId} {x : Operand} {sv : Value} {n : Int} {m : Nat} {xs : List Fv} [h : Ev l x (.pointer (some (elemA sv n 1)))] [hm : ToN n m] [hT : Sc P T] [hr : HasRd (List Fv) repList Γ [sv] xs] : PuS P l Γ (.load T x) ty (xs.getD m default).v (0 ≤ n ∧ n < xs.length) := ⟨fun h _ => hm.eq ▸ pu_load_fv h⟩
end fv
end Go.Eng
