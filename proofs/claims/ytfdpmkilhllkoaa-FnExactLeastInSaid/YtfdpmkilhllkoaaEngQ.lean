/- The rules of the walk: functions as values: a closure is made, and is called. -/
import Derived.Test.YtfdpmkilhllkoaaEngP
namespace Go.Eng
open Go Go.RowKit
set_option linter.unusedVariables false
set_option linter.unusedSimpArgs false
set_option synthInstance.maxHeartbeats 400000
set_option synthInstance.maxSize 1000

/-- Three lists, one behind the other. -/
class App3 (a b c : List Value) (o : outParam (List Value)) : Prop where
  eq : a ++ b ++ c = o
instance {b : List Value} : App3 [] b [] b := ⟨by simp⟩
instance {c : List Value} : App3 [] [] c c := ⟨by simp⟩
instance (priority := 900) {x : Value} {b c o : List Value} [h : App3 [] b c o] : App3 [] (x :: b) c (x :: o) := ⟨by have := h.eq; simpa using this⟩
instance (priority := 900) {x : Value} {a b c o : List Value} [h : App3 a b c o] : App3 (x :: a) b c (x :: o) := ⟨by have := h.eq; simpa using this⟩

instance (priority := 1500) SubE.nilr {Γ Δ : List Atom} {α : Type} {iα : Rep α} [h : SubE Γ Δ] : SubE Γ (@Atom.rd (List α) repList [.slice none 0 0] [] :: Δ) := ⟨fun hs => by
  obtain ⟨G, H, hGH, hD⟩ := h.get hs
  exact ⟨G, H, hGH, [], G, rfl, ⟨rfl, none, 0, rfl, by simp, by simp [maxLen], by simp, fun h => by simp at h⟩, hD⟩⟩

section q
variable {P : Program} {ops : Array Oper} {Q : Exit → Act → World → Prop} {w0 : World} {rest : List Oper} {l l' : List Value} {Γ Γb Δ Ε : List Atom} {ty : TypeId} {v : Value} {pos : String} {after : Array Edge} {d : Nat}

theorem pu_makeFunc {f : Fn} {xs ys : List Operand} {vs us : List Value} [hx : EvL l xs vs] [hy : EvL l ys us] : Pu P w0 l Γ (.makeFunc f xs.toArray ys.toArray) ty (.func f vs.toArray us.toArray) := fun w _ o ho _ => by
  have h1 : Array.map (E l).eval xs.toArray = vs.toArray := by simp [hx.eq]
  have h2 : Array.map (E l).eval ys.toArray = us.toArray := by simp [hy.eq]
  simp only [execOp, ho, h1, h2]
  rfl
instance {f : Fn} {xs ys : List Operand} {vs us : List Value} [hx : EvL l xs vs] [hy : EvL l ys us] : PuC P l Γ (.makeFunc f xs.toArray ys.toArray) ty (.func f vs.toArray us.toArray) := ⟨fun _ => pu_makeFunc⟩

/-- Field i of struct type T is one cell, at place k. -/
class FiS (P : Program) (T : TypeId) (i : Nat) (k : outParam Nat) : Prop where
  ex : ∃ fields fld, P.underlying T = some (.struct fields) ∧ fields[i]? = some fld ∧ fld.offset = k ∧ ∀ w, (isAgg fld.type).run P w = .ok false w
theorem pu_field {T : TypeId} {x : Operand} {i k : Nat} {cs : List Value} [h : Ev l x (.agg cs.toArray)] [hf : FiS P T i k] [hv : Ge cs k v] : Pu P w0 l Γ (.field T x i) ty v := fun w _ o ho _ => by
  obtain ⟨fields, fld, h1, h2, h3, h4⟩ := hf.ex
  have h5 : cs[fld.offset]? = some v := by rw [h3]; exact hv.eq
  simp only [execOp, ho, h.eq]
  refine run_value (f := Next.value) (s := Instr.field T (.agg cs.toArray) i) ?_
  simp [Instr.field, run_underlying h1, h2, asAgg, part, h4, h5, Sem.run_bind]
instance {T : TypeId} {x : Operand} {i k : Nat} {cs : List Value} [h : Ev l x (.agg cs.toArray)] [hf : FiS P T i k] [hv : Ge cs k v] : PuC P l Γ (.field T x i) ty v := ⟨fun _ => pu_field (k := k) (cs := cs)⟩

theorem run_callv {x : Operand} {xs : List Operand} {vs fs cs as : List Value} {f : FuncId} {ts : Array TypeId} {dst : Option Tmp} {g : Option (Nat × Bool)} [hv : Ev l x (.func (.func f) fs.toArray cs.toArray)] [hx : EvL l xs vs] [ha : App3 fs vs cs as] [hf : IsFn P f] (w : World) :
    (execOp (E l).eval ⟨dst, .call { callee := .value x, args := xs.toArray, argTypes := ts }, ty, pos, after, g⟩).run P w = .ok (.enter f as.toArray) w := by
  have := hf.run as.toArray w
  simp only [execOp, resolve, Sem.run_bind]
  have he : Array.map (E l).eval xs.toArray = vs.toArray := by simp [hx.eq]
  rw [he, hv.eq]
  have h3 : fs ++ (vs ++ cs) = as := by rw [← ha.eq]; simp
  simpa [Deferred.ofValue, invoke, h3] using this

theorem wl_callv {x : Operand} {f : FuncId} {xs : List Operand} {vs fs cs as : List Value} {ts : Array TypeId} {ρ : Type} {r : ρ → Value} {Γ' : ρ → List Atom} [hv : Ev l x (.func (.func f) fs.toArray cs.toArray)] [hx : EvL l xs vs] [ha : App3 fs vs cs as] [hf : IsFn P f] (hc : CJ P f as w0 Γ r Γ')
    (h : ∀ p, WL P ops Q w0 rest (l.set d (r p)) (Γ' p)) : WL P ops Q w0 (⟨some d, .call { callee := .value x, args := xs.toArray, argTypes := ts }, ty, pos, after, none⟩ :: rest) l Γ := by
  intro w hs
  refine wpList_plain rfl fun K hK => ?_
  unfold Oper.wp
  rw [run_callv (fs := fs) (cs := cs) w, Oper.upon_enter]
  refine (hc w hs).mono ?_
  rintro e w' ⟨p, rfl, hs'⟩
  show K ((E l).put (some d) (r p)) w'
  rw [E_put]
  exact hK _ _ (h p w' hs')
theorem wl_callv0 {x : Operand} {f : FuncId} {xs : List Operand} {vs fs cs as : List Value} {ts : Array TypeId} {ρ : Type} {r : ρ → Value} {Γ' : ρ → List Atom} [hv : Ev l x (.func (.func f) fs.toArray cs.toArray)] [hx : EvL l xs vs] [ha : App3 fs vs cs as] [hf : IsFn P f] (hc : CJ P f as w0 Γ r Γ')
    (h : ∀ p, WL P ops Q w0 rest l (Γ' p)) : WL P ops Q w0 (⟨none, .call { callee := .value x, args := xs.toArray, argTypes := ts }, ty, pos, after, none⟩ :: rest) l Γ := by
  intro w hs
  refine wpList_plain rfl fun K hK => ?_
  unfold Oper.wp
  rw [run_callv (fs := fs) (cs := cs) w, Oper.upon_enter]
  refine (hc w hs).mono ?_
  rintro e w' ⟨p, rfl, hs'⟩
  show K ((E l).put none (r p)) w'
  rw [E_put_none]
  exact hK _ _ (h p w' hs')

/-- The value is a closure. -/
class IsFv (v : Value) (f : outParam FuncId) (fs cs : outParam (List Value)) : Prop where
  eq : v = .func (.func f) fs.toArray cs.toArray
instance {f : FuncId} {fs cs : List Value} : IsFv (.func (.func f) fs.toArray cs.toArray) f fs cs := ⟨rfl⟩
instance {f : FuncId} : IsFv (.func (.func f) #[] #[]) f [] [] := ⟨rfl⟩
instance {n : Tmp} {f : FuncId} {xs : List Operand} {vs fs cs as : List Value} {ts : Array TypeId} {S : Prop} {ρ : Type} {r : ρ → Value} {Γ' : ρ → List Atom} [hv : Ev l (.tmp n) v] [hk : IsFv v f fs cs] [hx : EvL l xs vs] [ha : App3 fs vs cs as] [hc : CtrC P f as Γ S ρ r Γ'] [hf : IsFn P f] :
    RedC (WL P ops Q w0 (⟨some d, .call { callee := .value (.tmp n), args := xs.toArray, argTypes := ts }, ty, pos, after, none⟩ :: rest) l Γ) S ρ (fun p => WL P ops Q w0 rest (l.set d (r p)) (Γ' p)) :=
  ⟨fun s h => wl_callv (fs := fs) (cs := cs) (hv := ⟨hv.eq.trans hk.eq⟩) (hc.run s w0) h⟩
instance {n : Tmp} {f : FuncId} {xs : List Operand} {vs fs cs as : List Value} {ts : Array TypeId} {S : Prop} {ρ : Type} {r : ρ → Value} {Γ' : ρ → List Atom} [hv : Ev l (.tmp n) v] [hk : IsFv v f fs cs] [hx : EvL l xs vs] [ha : App3 fs vs cs as] [hc : CtrC P f as Γ S ρ r Γ'] [hf : IsFn P f] :
    RedC (WL P ops Q w0 (⟨none, .call { callee := .value (.tmp n), args := xs.toArray, argTypes := ts }, ty, pos, after, none⟩ :: rest) l Γ) S ρ (fun p => WL P ops Q w0 rest l (Γ' p)) :=
  ⟨fun s h => wl_callv0 (fs := fs) (cs := cs) (hv := ⟨hv.eq.trans hk.eq⟩) (hc.run s w0) h⟩
theorem wq_share {Q : Exit → Act → World → Prop} {α : Type} {iα : Rep α} {e : Exit} (sv : Value) {x : α} [hp : PullOw α iα Γ [sv] x Δ] (h : WQ Q w0 e l (.rd [sv] x :: Δ)) : WQ Q w0 e l Γ := fun w hs => h w (hs.perm hp.perm).share
theorem ent_share {α : Type} {iα : Rep α} (sv : Value) {x : α} [hp : PullOw α iα Γ [sv] x Δ] (h : Ent w0 (.rd [sv] x :: Δ) Ε) : Ent w0 Γ Ε := fun w hs => h w (hs.perm hp.perm).share
end q

/-! ### Lists of what is shared -/
instance {α : Type} [Inhabited α] : Inhabited (Sh α) := ⟨⟨default⟩⟩
instance {α : Type} [Rep α] {k : Nat} [h : SzIs α k] : SzIs (Sh α) k := ⟨h.eq⟩
theorem RdL.sh {β : Type} [Rep β] {ok : Nat → Prop} {w : World} : ∀ {cells : List Value} {ys : List β}, RdL ok w cells ys → OwL ok w [] cells (ys.map Sh.mk)
  | _, [], h => ⟨rfl, h⟩
  | _, _ :: _, ⟨c, d, e, h, h'⟩ => ⟨[], [], c, d, rfl, e, ⟨rfl, h⟩, RdL.sh h'⟩
section sh
variable {P : Program} {ops : Array Oper} {Q : Exit → Act → World → Prop} {w0 : World} {rest : List Oper} {l l' : List Value} {Γ Γb Δ Ε : List Atom} {ty : TypeId} {v : Value} {pos : String} {after : Array Edge} {d : Nat}
theorem wl_append_sh {T k by_ : Nat} {x y : Operand} {ov tv : Value} {β : Type} {iβ : Rep β} {xs : List (Sh β)} {ys : List β} [hx : Ev l x ov] [hy : Ev l y tv] [hT : Sl P T k by_] [h1 : PullOw (List (Sh β)) repList Γ [ov] xs Δ] [h2 : HasIm (List β) repList Δ [tv] ys]
    (hk : k = Rep.sz β) (hbytes : (xs.length + ys.length) * by_ ≤ 140737488355328) (h : ∀ sv, WL P ops Q w0 rest (l.set d sv) (.ow [sv] (xs ++ ys.map Sh.mk) :: Δ)) :
    WL P ops Q w0 (⟨some d, .call { callee := .builtin .append, args := #[x, y], argTypes := #[T, T] }, ty, pos, after, none⟩ :: rest) l Γ := by
  intro w hs
  have hs1 : Sat w0 w ([.ow [ov] xs] ++ Δ) := hs.perm h1.perm
  obtain ⟨hb, F, hn, hl, f, g, rfl, hf, hrest⟩ := hs1
  obtain ⟨a, c, hc, _, _, _, hrd⟩ := h2.get hrest
  simp only [List.cons.injEq, and_true] at hc
  subst hc
  obtain ⟨news, hsrc, hyo⟩ : ∃ news, (0 < (ys.map Sh.mk).length → ∃ b off, a = some (⟨b, off, none⟩ : Addr) ∧ CellsAt w b off news) ∧ OwL (· ∉ f ++ g) w [] news (ys.map Sh.mk) := by
    by_cases h0 : 0 < ys.length
    · obtain ⟨b, off, cells, rfl, _, hca, hr⟩ := hrd h0
      exact ⟨cells, fun _ => ⟨b, off, rfl, hca⟩, RdL.sh hr⟩
    · have : ys = [] := List.eq_nil_of_length_eq_zero (by omega)
      subst this
      exact ⟨[], by simp, rfl, rfl⟩
  obtain ⟨v', w', hr, ho, hsame, fn, hfn, hnew, hrep⟩ := append_core (P := P) (T := T) (ty := ty) (c := c) (ys := ys.map Sh.mk) (show k = Rep.sz (Sh β) from hk) hf hsrc hyo (by simpa using (List.nodup_append.1 hn).1) (fun b hb hok => hok (by simp at hb; simp [hb])) (by rw [List.length_map]; exact hbytes)
  rw [List.length_map] at hr
  refine wl_op rfl (run_append_op hr) ?_
  rw [E_put]
  refine h _ _ ?_
  exact Sat.step' (Δ' := [.ow [v'] (xs ++ ys.map Sh.mk)]) (Γ := Δ) hb hn hl hrest ho hsame fn hfn
    (fun b hb => (hnew b hb).imp (fun h => by simpa using h) id) (fun ok' hok' => ⟨fn, [], by simp, hrep ok' hok', rfl⟩)
instance (priority := 1200) {T k by_ : Nat} {x y : Operand} {ov tv : Value} {β : Type} {iβ : Rep β} {xs : List (Sh β)} {ys : List β} [hx : Ev l x ov] [hy : Ev l y tv] [hT : Sl P T k by_] [h1 : PullOw (List (Sh β)) repList Γ [ov] xs Δ] [h2 : HasIm (List β) repList Δ [tv] ys] [hk : SzIs β k] :
    RedV (WL P ops Q w0 (⟨some d, .call { callee := .builtin .append, args := #[x, y], argTypes := #[T, T] }, ty, pos, after, none⟩ :: rest) l Γ) ((xs.length + ys.length) * by_ ≤ 140737488355328) (fun sv => WL P ops Q w0 rest (l.set d sv) (.ow [sv] (xs ++ ys.map Sh.mk) :: Δ)) := ⟨fun s h => wl_append_sh hk.eq s h⟩
/-- What is empty is so of any type of that size. -/
theorem wc_ow0 {α β : Type} {iα : Rep α} {iβ : Rep β} {c : Code} (sv : Value) (hz : Rep.sz α = Rep.sz β) [hp : PullOw (List α) repList Γ [sv] [] Δ] (h : WC P Q w0 c l (.ow [sv] ([] : List β) :: Δ)) : WC P Q w0 c l Γ := fun w hs => by
  refine h w (SepEnt.sat (fun {ok w F} hs => ?_) (hs.perm hp.perm))
  obtain ⟨f, g, e, h1, h2⟩ := hs
  refine ⟨F, .refl _, f, g, e, ?_, h2⟩
  have h1 := ow_list.1 h1
  refine ow_list.2 ?_
  rcases h1 with ⟨a, b, c⟩ | ⟨g, cap, cur, e, G, cells, h1, h2, h3, h4, h5, h6, h7, h8, h9⟩
  · exact .inl ⟨a, rfl, c⟩
  · exact .inr ⟨g, cap, cur, e, G, cells, h1, h2, h3, by simp, h5, by simp, by rw [← hz]; exact h7, by simpa using h8, h9⟩
/-- What an owned list holds is let go: it may be shared from now on. -/
theorem wc_owsh {α : Type} {iα : Rep α} {c : Code} (sv : Value) {xs : List α} [hp : PullOw (List α) repList Γ [sv] xs Δ] (h : WC P Q w0 c l (.ow [sv] (xs.map Sh.mk) :: Δ)) : WC P Q w0 c l Γ := fun w hs => by
  obtain ⟨hb, F, hn, hl, f, g, rfl, hf, hrest⟩ := hs.perm hp.perm
  have hf := ow_list.1 hf
  rcases hf with ⟨a, b, c⟩ | ⟨g0, cap, cur, e, G, cells, h1, h2, h3, h4, h5, h6, h7, h8, h9⟩
  · obtain rfl : sv = _ := by simpa using a
    subst b; subst c
    exact h w ⟨hb, g, hn, hl, [], g, rfl, ow_list.2 (.inl ⟨rfl, rfl, rfl⟩), hrest⟩
  · subst h2
    have hn' : (g0 :: (G ++ g)).Nodup := hn
    have hd := List.nodup_cons.1 hn'
    have hd2 := List.nodup_append.1 hd.2
    refine h w ⟨hb, g0 :: g, ?_, fun b hb' => hl b ?_, [g0], g, rfl, ?_, hrest.mono (fun b hb' _ => ⟨?_, rfl⟩) (Nat.le_refl _) (fun _ _ => rfl)⟩
    · exact List.nodup_cons.2 ⟨fun hm => hd.1 (List.mem_append_right _ hm), hd2.2.1⟩
    · rcases List.mem_cons.1 hb' with hm | hm
      · subst hm; simp
      · simp [hm]
    · refine ow_list.2 (.inr ⟨g0, cap, cur, e, [], cells, by simpa using h1, rfl, h3, by simpa using h4, h5, by simpa using h6, h7, by rw [List.length_map]; exact h8, ?_⟩)
      refine RdL.sh (h9.rd (fun b hb' => ?_) (fun b hb' => ?_))
      · intro hm
        apply hb'
        rcases List.mem_cons.1 hm with hm | hm
        · simp [hm]
        · simp [hm]
      · intro hm
        rcases List.mem_cons.1 hm with hm | hm
        · subst hm; exact hd.1 (List.mem_append_left _ hb')
        · exact hd2.2.2 b hb' b hm rfl
    · intro hm
      apply hb'
      rcases List.mem_cons.1 hm with hm | hm
      · simp [hm]
      · simp [hm]
theorem RdL.unsh {β : Type} [Rep β] {ok : Nat → Prop} {w : World} : ∀ {cells : List Value} {ys : List β}, RdL ok w cells (ys.map Sh.mk) → RdL ok w cells ys
  | _, [], h => h
  | _, _ :: _, ⟨c, d, e, h, h'⟩ => ⟨c, d, e, h, RdL.unsh h'⟩
theorem rd_unsh {β : Type} [Rep β] {ok : Nat → Prop} {w : World} {cs : List Value} {ys : List β} (h : Rep.rd (α := List (Sh β)) ok w cs (ys.map Sh.mk)) : Rep.rd (α := List β) ok w cs ys := by
  obtain ⟨a, cap, h1, h2, h3, h4, h5⟩ := h
  rw [List.length_map] at h1 h2 h4 h5
  refine ⟨a, cap, h1, h2, h3, h4, fun hp => ?_⟩
  obtain ⟨b, off, cells, e1, e2, e3, e4⟩ := h5 hp
  exact ⟨b, off, cells, e1, e2, e3, RdL.unsh e4⟩
theorem ent_unsh {β : Type} {iβ : Rep β} (sv : Value) {ys : List β} [hp : PullOw (List (Sh β)) repList Γ [sv] (ys.map Sh.mk) Δ] (h : Ent w0 (.rd [sv] ys :: Δ) Ε) : Ent w0 Γ Ε := fun w hs => by
  have h1 := (hs.perm hp.perm).share
  refine h w ?_
  obtain ⟨hb, F, hn, hl, f, g, rfl, hf, hrest⟩ := h1
  exact ⟨hb, _, hn, hl, f, g, rfl, ⟨hf.1, rd_unsh hf.2⟩, hrest⟩
/-- The values that a block of four cells holds get names. -/
theorem wc_name4 {c : Code} (b : Nat) {k x y z : Value} [hp : PullBk Γ b [k, x, y, z] Δ] (h : ∀ x' y' : Value, x' = x → y' = y → WC P Q w0 c l Γ) : WC P Q w0 c l Γ := h _ _ rfl rfl
theorem wc_name4t {c : Code} (n b0 : Nat) {b : Nat} {k x y z : Value} [hv : Ev l (.tmp n) (.pointer (some ⟨b, 0, none⟩))] [hp : PullBk Γ b [k, x, y, z] Δ] (h : ∀ (b' : Nat) (x' y' : Value), b' = b → x' = x → y' = y → WC P Q w0 c l Γ) : WC P Q w0 c l Γ := h _ _ _ rfl rfl rfl
end sh

/-! ### Slices of functions -/
structure Fv where
  v : Value
instance : Inhabited Fv := ⟨⟨.nilFunc⟩⟩
instance repFv : Rep Fv where
  sz := 1
  rd _ _ cs x := cs = [x.v] ∧ x.v.oneCell' = true
  ow _ _ F cs x := F = [] ∧ cs = [x.v] ∧ x.v.oneCell' = true
  pos := by decide
  rd_len := by rintro _ _ _ _ ⟨rfl, _⟩; rfl
  rd_one := by rintro _ _ _ _ ⟨rfl, h⟩; simp [h]
  rd_mono := fun h _ => h
  ow_mono := fun h _ _ => h
  ow_rd := fun h _ _ => h.2
  ow_lt := by rintro _ _ _ _ _ ⟨rfl, _⟩ b hb; cases hb
instance : Flat Fv := ⟨trivial⟩
instance : SzIs Fv 1 := ⟨rfl⟩
/-- The type is one of slices of functions. -/
class FvS (P : Program) (T : TypeId) : Prop where
  t : True
section fv
variable {P : Program} {ops : Array Oper} {Q : Exit → Act → World → Prop} {w0 : World} {rest : List Oper} {l l' : List Value} {Γ Γb Δ Ε : List Atom} {ty : TypeId} {v : Value} {pos : String} {after : Array Edge} {d : Nat}
instance {f : Fn} {a b : Array Value} : OwnC Fv Γ [.func f a b] ⟨.func f a b⟩ Γ True := ⟨fun _ => fun {_ _ F} hs => ⟨F, .refl _, [], F, rfl, ⟨rfl, rfl, rfl⟩, hs⟩⟩
instance {T k by_ N m : Nat} {ps : List (Nat × Operand)} {groups : List (List Value)} {xs : List Fv} {S : Prop} [hF : FvS P T] [hT : Sl P T k by_] [hp : PartsL Γ l k 0 ps groups] [ho : OwnLC Fv Γ groups xs Δ S] [hk : SzIs Fv k] [hl : LenIs xs m] [hn : NatEq m N] :
    RedV (WL P ops Q w0 (⟨some d, .buildSlice T N ps.toArray, ty, pos, after, none⟩ :: rest) l Γ) (S ∧ N * k ≤ 16777216) (fun sv => WL P ops Q w0 rest (l.set d sv) (.ow [sv] xs :: Δ)) :=
  ⟨fun s h => wl_buildSlice (hT := hT) (hp := hp) (ho.run s.1) hk.eq (hn.eq ▸ hl.eq.symm) s.2 h⟩
theorem pu_load_fv {T : TypeId} {x : Operand} {sv : Value} {n : Int} {xs : List Fv} [h : Ev l x (.pointer (some (elemA sv n 1)))] [hT : Sc P T] [hr : HasRd (List Fv) repList Γ [sv] xs]
    (hi : 0 ≤ n ∧ n < xs.length) : Pu P w0 l Γ (.load T x) ty (xs.getD n.toNat default).v :=
  pu_of (s := Instr.loadAt T (.pointer (some (elemA sv n 1)))) (fun o ho _ => by unfold execOp; rw [ho]; simp only [h.eq]) (fun w hs => by
    obtain ⟨a, cap, b, off, p, c, s, rfl, _, _, hca, hp, he, hrd⟩ := elem_cells (hs.rd (hr := hr)) hi.1 hi.2
    have hrd' : c = [_] := hrd.1
    subst hrd'
    have he' : elemA (.slice (some ⟨b, off, none⟩) xs.length cap) n 1 = ⟨b, off + p.length, none⟩ := he
    have := hca.part 0 (by simp)
    simp only [Nat.add_zero, List.getElem?_cons_zero] at this
    rw [he', List.getD_eq_getElem?_getD, List.getElem?_eq_getElem (by omega), Option.getD_some]
    simp [Instr.loadAt, Instr.sureAddr, loadVar, Sem.run_bind, hT.agg, load, Sem.run, this])
instance {T : TypeId} {x : Operand} {sv : Value} {n : Int} {m : Nat} {xs : List Fv} [h : Ev l x (.pointer (some (elemA sv n 1)))] [hm : ToN n m] [hT : Sc P T] [hr : HasRd (List Fv) repList Γ [sv] xs] : PuS P l Γ (.load T x) ty (xs.getD m default).v (0 ≤ n ∧ n < xs.length) := ⟨fun h _ => hm.eq ▸ pu_load_fv h⟩
/-- What is left of the elements of a list whose row is frozen: they are owned one by one. -/
structure Rst (α : Type) (n : Nat) where
  xs : List α
instance repRst {α : Type} [Rep α] {n : Nat} : Rep (Rst α n) where
  sz := n * Rep.sz α + 1
  rd ok w cs x := ∃ cells, cs = cells ++ [.bool true] ∧ x.xs.length = n ∧ RdL ok w cells x.xs
  ow ok w F cs x := ∃ cells, cs = cells ++ [.bool true] ∧ x.xs.length = n ∧ OwL ok w F cells x.xs
  pos := Nat.succ_pos _
  rd_len := by rintro _ _ _ _ ⟨c, rfl, h, h'⟩; simp [h'.len, h]
  rd_one := by
    rintro _ _ _ _ ⟨c, rfl, h, h'⟩ x hx
    rcases List.mem_append.1 hx with hx | hx
    · exact h'.one x hx
    · rw [List.mem_singleton.1 hx]; rfl
  rd_mono := by rintro _ _ _ _ _ _ ⟨c, e, h, h'⟩ hm; exact ⟨c, e, h, h'.mono hm⟩
  ow_mono := by rintro _ _ _ _ _ _ _ ⟨c, e, h, h'⟩ hf hm; exact ⟨c, e, h, h'.mono hm hf⟩
  ow_rd := by rintro _ _ _ _ _ _ ⟨c, e, h, h'⟩ ho hf; exact ⟨c, e, h, h'.rd ho hf⟩
  ow_lt := by rintro _ _ _ _ _ ⟨c, e, h, h'⟩ b hb; exact h'.lt b hb
theorem OwL.fv {α : Type} [Rep α] (hz : Rep.sz α = 1) {ok : Nat → Prop} {w : World} : ∀ {F : List Nat} {cells : List Value} {xs : List α}, OwL ok w F cells xs → ∀ ok' : Nat → Prop, RdL ok' w cells (cells.map Fv.mk) ∧ cells.length = xs.length
  | F, cells, [], h, ok' => by obtain ⟨_, rfl⟩ := h; exact ⟨rfl, rfl⟩
  | F, cells, x :: xs, h, ok' => by
    obtain ⟨f, g, c, d, rfl, rfl, h1, h2⟩ := h
    obtain ⟨h3, h4⟩ := OwL.fv hz h2 ok'
    have h5 := Rep.ow_rd (ok' := fun _ => True) h1 (fun _ _ => trivial) (fun _ _ => trivial)
    have hl := Rep.rd_len h5
    rw [hz] at hl
    match c, hl with
    | [v], _ =>
      have h6 := Rep.rd_one h5 v (by simp)
      exact ⟨⟨[v], d.map Fv.mk |> fun _ => d, rfl, ⟨rfl, h6⟩, h3⟩, by simp [h4]⟩
/-- The row of an owned list is frozen, its elements are owned one by one. -/
theorem wc_open {α : Type} {iα : Rep α} {c : Code} (sv : Value) (hz : Rep.sz α = 1) {xs : List α} [hp : PullOw (List α) repList Γ [sv] xs Δ]
    (h : ∀ vs : List Value, vs.length = xs.length → WC P Q w0 c l (.rd [sv] (vs.map Fv.mk) :: .ow (vs ++ [.bool true]) (Rst.mk xs : Rst α xs.length) :: Δ)) : WC P Q w0 c l Γ := fun w hs => by
  obtain ⟨hb, F, hn, hl, f, g, rfl, hf, hrest⟩ := hs.perm hp.perm
  have hf := ow_list.1 hf
  rcases hf with ⟨a, b, c⟩ | ⟨g0, cap, cur, e, G, cells, h1, h2, h3, h4, h5, h6, h7, h8, h9⟩
  · obtain rfl : sv = _ := by simpa using a
    subst b; subst c
    refine h [] rfl w ⟨hb, g, hn, hl, [], g, rfl, ⟨rfl, none, 0, rfl, by simp, by simp [maxLen], by simp, fun h => by simp at h⟩, [], g, rfl, ⟨[], rfl, rfl, rfl, rfl⟩, hrest⟩
  · subst h2
    have hn' : (g0 :: (G ++ g)).Nodup := hn
    have hd := List.nodup_cons.1 hn'
    obtain ⟨h10, h11⟩ := OwL.fv hz h9 (fun b => ¬ b ∈ G ++ g)
    refine h cells h11 w ⟨hb, G ++ g, hd.2, fun b hb' => hl b (by simp only [List.cons_append, List.mem_cons]; exact .inr hb'), [], G ++ g, rfl, ⟨rfl, ?_⟩, G, g, rfl, ⟨cells, rfl, rfl, h9.mono (fun b hb' _ => ⟨fun hm => hb' (by simp only [List.cons_append, List.mem_cons]; exact .inr hm), rfl⟩) (fun _ _ => rfl)⟩, hrest.mono (fun b hb' _ => ⟨fun hm => hb' (by simp only [List.cons_append, List.mem_cons]; exact .inr hm), rfl⟩) (Nat.le_refl _) (fun _ _ => rfl)⟩
    have hsv : sv = .slice (some ⟨g0, 0, none⟩) xs.length cap := by simpa using h1
    have hlm : (cells.map Fv.mk).length = xs.length := by rw [List.length_map, h11]
    refine ⟨some ⟨g0, 0, none⟩, cap, by rw [hsv, hlm], by rw [hlm]; exact h4, h5, by rw [hlm]; exact h6, fun hp => ⟨g0, 0, cells, rfl, hd.1, ?_, h10⟩⟩
    intro j hj
    rw [← h8] at hj ⊢
    rw [List.getElem?_take]
    have : j < xs.length * Rep.sz α := by
      have := hj; rw [List.length_take] at this; omega
    rw [if_pos this]
    simp [World.cell?, h3]
/-- The next of the elements. -/
theorem wc_next {α : Type} {iα : Rep α} {c : Code} {n : Nat} {v : Value} {cs : List Value} {x : α} {xs : List α} (hz : Rep.sz α = 1) (h : WC P Q w0 c l (.ow [v] x :: .ow cs (Rst.mk xs : Rst α n) :: Δ)) : WC P Q w0 c l (.ow (v :: cs) (Rst.mk (x :: xs) : Rst α (n + 1)) :: Δ) := fun w hs => by
  refine h w (SepEnt.sat (fun {ok w F} hs => ?_) hs)
  obtain ⟨f, g, e, ⟨cells, h1, h2, f1, g1, c1, d1, e1, e2, h3, h4⟩, h5⟩ := hs
  have hl := Rep.rd_len (Rep.ow_rd (ok' := fun _ => True) h3 (fun _ _ => trivial) (fun _ _ => trivial))
  rw [hz] at hl
  match c1, hl with
  | [u], _ =>
    subst e2
    simp only [List.cons_append, List.nil_append, List.cons.injEq] at h1
    obtain ⟨rfl, rfl⟩ := h1
    subst e1
    exact ⟨F, .refl _, f1, g1 ++ g, by rw [e, List.append_assoc], h3, g1, g, rfl, ⟨d1, rfl, by simpa using h2, h4⟩, h5⟩
theorem wc_take {α : Type} {iα : Rep α} [inh : Inhabited α] {c : Code} (hz : Rep.sz α = 1) {vs : List Value} {xs : List α} {k : Nat} (hk : k < xs.length) (hv : vs.length = xs.length)
    [hp : PullOw (Rst α (xs.length - k)) repRst Γ (vs.drop k ++ [.bool true]) (Rst.mk (xs.drop k)) Δ]
    (h : WC P Q w0 c l (.ow [((vs.map Fv.mk).getD k default).v] (xs.getD k default) :: .ow (vs.drop (k + 1) ++ [.bool true]) (Rst.mk (xs.drop (k + 1)) : Rst α (xs.length - (k + 1))) :: Δ)) : WC P Q w0 c l Γ := by
  have h1 := wc_next hz h
  have e1 : xs.drop k = xs.getD k default :: xs.drop (k + 1) := by
    rw [List.getD_eq_getElem?_getD, List.getElem?_eq_getElem hk]; exact List.drop_eq_getElem_cons hk
  have e2 : vs.drop k = ((vs.map Fv.mk).getD k default).v :: vs.drop (k + 1) := by
    rw [List.getD_eq_getElem?_getD, List.getElem?_map, List.getElem?_eq_getElem (by omega)]
    exact List.drop_eq_getElem_cons (by omega)
  have e3 : xs.length - k = xs.length - (k + 1) + 1 := by omega
  intro w hs
  have hs' := hs.perm hp.perm
  rw [e1, e2, e3] at hs'
  exact h1 w hs'
end fv
end Go.Eng
