/- The rules of the walk: what slices.Grow does with nil. -/
import Derived.Test.YtbbdjjlnachnlaaGreatDoorEngO
import Derived.Laws.BitsAllLaws
import Derived.Laws.Shifts
namespace Go.Eng
open Go Go.RowKit
set_option linter.unusedVariables false
set_option linter.unusedSimpArgs false
variable {P : Program} {ops : Array Oper} {Q : Exit → Act → World → Prop} {w0 : World} {rest : List Oper} {l l' : List Value} {Γ Γb Δ Ε : List Atom} {ty : TypeId} {v : Value} {pos : String} {after : Array Edge} {d : Nat} {x y : Operand}

instance {T k b n c : Nat} {a : Option Addr} [h : Ev l x (.slice a n c)] [ht : Sl P T k b] : PuC P l Γ (.call { callee := .builtin .cap, args := #[x], argTypes := #[T] }) ty (.int .i64 c) := ⟨fun w0 => by
  obtain ⟨e, i, z, ht, _⟩ := ht.ex
  refine pu_of (s := Builtin.cap_ #[T] ty #[.slice a n c]) (fun o ho h2 => ?_) (fun w hs => ?_)
  · unfold execOp
    rw [ho]
    simp [resolve, invoke, builtin, h.eq, h2, Pure.pure, Bind.bind, Sem.bind]
  · simp [Builtin.cap_, run_underlying ht, goInt]⟩
instance (priority := 1200) {T k b : Nat} {kk : IntKind} {n : Int} [hx : Ev l x (.slice none 0 0)] [hy : Ev l y (.int kk n)] [hn : ToN n 0] [hT : Sl P T k b] : PuS P l Γ (.slice T x none (some y) none) ty (.slice none 0 0) (n = 0) := ⟨fun h0 w0 => by
  subst h0
  obtain ⟨e, i, z, ht, hi, _⟩ := hT.ex
  refine pu_of (s := Instr.sliceAt T (.slice none 0 0) none (some (.int kk 0)) none) (fun o ho h2 => ?_) (fun w hs => ?_)
  · unfold execOp
    rw [ho]
    simp [hx.eq, hy.eq]
  · exact run_slice (lo := 0) (hi := 0) ht hi (.inl ⟨rfl, rfl⟩) (.inr ⟨kk, rfl⟩) (by omega) (by omega) w⟩
theorem zeroCells_eq (zs : List Value) (n : Nat) (h : 0 < zs.length) : (Builtin.zeroCells zs.toArray n).toList = (List.replicate n zs).flatten := by
  rw [← madeCells_take zs zs.length n n rfl h (Nat.le_refl _)]
  refine (List.take_of_length_le ?_).symm
  rw [Array.length_toList, size_zeroCells]
  simp
theorem run_append_zeros {w : World} (t u ty e : TypeId) (i : TypeInfo) (z : Value) (ht : P.underlying t = some (.slice e)) (hu : P.underlying u = some (.int .i64)) (hi : P.info? e = some i) (hz : i.zero = some z)
    (n : Nat) (h0 : 0 < n) (hsz : 0 < i.size) (h63 : (n : Int) ≤ 9223372036854775807) (h48 : n * i.bytes ≤ 281474976710656) :
    (Builtin.append_ #[t, u] ty #[.slice none 0 0, .int .i64 n]).run P w =
      .ok (.slice (some ⟨w.heap.size, 0, none⟩) n (grownCap w n 0 e)) (w.drew.alloc (.cells (Builtin.zeroCells z.cells n ++ Builtin.zeroCells z.cells (grownCap w n 0 e - n)) e)) := by
  have hn : n ≠ 0 := by omega
  have hw : IntKind.i64.wrap (n : Int) = n := IntWalk.i64_in _ (by omega)
  have hs : ¬ n * i.size = 0 := by
    have := Nat.mul_pos h0 hsz
    omega
  have h63' : ¬ (9223372036854775807 < (n : Int)) := by omega
  have hneg : ¬ ((n : Int) < 0) := by omega
  have h48' : ¬ (281474976710656 < Builtin.nextslicecap n 0 * i.bytes) := by rw [nextslicecap_zero h0]; omega
  have h48n : ¬ ((n : Int) * (i.bytes : Int) > 281474976710656) := by
    have : ((n * i.bytes : Nat) : Int) ≤ 281474976710656 := Int.ofNat_le.2 h48
    rw [Int.natCast_mul] at this; omega
  simp [Builtin.append_, run_underlying ht, run_underlying hu, sizeOf, typeInfo, zeroValue, hi, hz, hn, h63', h48', h48n, hw, hs, asInt, asIntOf, hneg, Question.forced, run_firstCells_none, newRow, grownCap]
theorem run_append_op2 {T U : TypeId} {x y : Operand} {ov tv : Value} [hx : Ev l x ov] [hy : Ev l y tv] {w w' : World} (hr : (Builtin.append_ #[T, U] ty #[ov, tv]).run P w = .ok v w') :
    (execOp (E l).eval ⟨some d, .call { callee := .builtin .append, args := #[x, y], argTypes := #[T, U] }, ty, pos, after, none⟩).run P w = .ok (.value v) w' := by
  have : execOp (E l).eval ⟨some d, .call { callee := .builtin .append, args := #[x, y], argTypes := #[T, U] }, ty, pos, after, none⟩ = (do pure (.value (← Builtin.append_ #[T, U] ty #[ov, tv])) : Sem Next) := by
    unfold execOp
    simp [resolve, invoke, builtin, hx.eq, hy.eq, Pure.pure, Bind.bind, Sem.bind]
  rw [this]
  exact run_value hr
theorem wl_append_zeros {T U k by_ : Nat} {x y : Operand} {n : Int} {m : Nat} {α : Type} {iα : Rep α} {zs : List Value} {z : α} [ho : Op_ P T (List α) repList] [hx : Ev l x (.slice none 0 0)] [hy : Ev l y (.int .i64 n)] [hm : ToN n m] [hT : Sl P T k by_] [hU : I64T P U] [hzs : SlZ P T zs] [hz : Zo α zs z]
    (hn : 1 ≤ n) (hb : n * by_ ≤ 140737488355328) (h : ∀ sv, WL P ops Q w0 rest (l.set d sv) (.ow [sv] (List.replicate m z) :: Γ)) :
    WL P ops Q w0 (⟨some d, .call { callee := .builtin .append, args := #[x, y], argTypes := #[T, U] }, ty, pos, after, none⟩ :: rest) l Γ := by
  intro w hs
  obtain ⟨e, i, z', ht, hi, hk, hbb, hz', hzk, hpos⟩ := hT.ex
  have hzc : z'.cells = zs.toArray := hzs.eq ht hi hz'
  have hsz : zs.length = Rep.sz α := Rep.rd_len (x := z) (Rep.ow_rd (ok' := fun _ => True) (hz.ow (fun _ => True) w) (fun _ _ => trivial) (fun _ _ => trivial))
  have hkk : k = Rep.sz α := by rw [← hsz, ← hzk, hzc]; simp
  have hnm : n = (m : Int) := by rw [← hm.eq, Int.toNat_of_nonneg (by omega)]
  subst hnm
  have hbn : m * by_ ≤ 140737488355328 := Int.ofNat_le.1 (by rw [Int.natCast_mul]; exact hb)
  have hmm : m ≤ 140737488355328 := Nat.le_trans (Nat.le_mul_of_pos_right _ hpos) hbn
  have hr := run_append_zeros (P := P) (w := w) T U ty e i z' ht hU.eq hi hz' m (by omega) (by rw [hk, hkk]; exact Rep.pos) (by omega) (by rw [hbb]; omega)
  refine wl_op (v := _) (w' := _) rfl (run_append_op2 hr) ?_
  rw [E_put]
  refine h _ _ ?_
  have hge := grownCap_ge w m 0 e
  refine Sat.step (Δ := []) (Δ' := [.ow _ _]) hs ⟨rfl, rfl, rfl, by simp, (by first | exact Nat.le_refl _ | exact Nat.le_add_right _ _)⟩ (fun f ok hf hnd _ => ⟨fun b hb _ => Below.heap_alloc w.drew _ _ hb, [w.heap.size], by simp, fun b hb => .inr (by simp at hb; omega), fun ok' _ => ?_⟩)
  refine ⟨[w.heap.size], [], rfl, ?_, rfl⟩
  show Rep.ow _ _ _ _ _
  rw [ow_list]
  refine .inr ⟨w.heap.size, grownCap w m 0 e, _, e, [], (List.replicate m zs).flatten, by simp, rfl, heap_alloc_new w.drew _, by simpa using hge, grownCap_le_maxLen w _ 0 e (by simp only [maxLen]; omega), by simp; omega, ?_, ?_, OwL.replicate (hz.ow _ _) _⟩
  · simp only [Array.size_append, size_zeroCells, hzk, hkk]
    rw [← Nat.add_mul]
    refine Nat.le_of_eq ?_
    congr 1
    omega
  · rw [Array.toList_append, hzc, zeroCells_eq _ _ (by rw [hsz]; exact Rep.pos), List.length_replicate]
    have hl : ((List.replicate m zs).flatten).length = m * Rep.sz α := by simp [hsz]
    rw [← hl]
    exact List.take_left
instance {T U k by_ : Nat} {x y : Operand} {n : Int} {m : Nat} {α : Type} {iα : Rep α} {zs : List Value} {z : α} [ho : Op_ P T (List α) repList] [hx : Ev l x (.slice none 0 0)] [hy : Ev l y (.int .i64 n)] [hm : ToN n m] [hT : Sl P T k by_] [hU : I64T P U] [hzs : SlZ P T zs] [hz : Zo α zs z] :
    RedV (WL P ops Q w0 (⟨some d, .call { callee := .builtin .append, args := #[x, y], argTypes := #[T, U] }, ty, pos, after, none⟩ :: rest) l Γ) (1 ≤ n ∧ n * by_ ≤ 140737488355328) (fun sv => WL P ops Q w0 rest (l.set d sv) (.ow [sv] (List.replicate m z) :: Γ)) := ⟨fun s h => wl_append_zeros s.1 s.2 h⟩

/-! A slice of lists, of which some are shared: it is only read. -/
theorem RdL.shmap {α : Type} [Rep α] {ok : Nat → Prop} {w : World} : ∀ {cells : List Value} {xs : List α}, RdL ok w cells (xs.map Sh.mk) → RdL ok w cells xs
  | _, [], h => h
  | _, _ :: _, ⟨c, d, e, h, h'⟩ => ⟨c, d, e, h, RdL.shmap h'⟩
theorem rd_shmap {α : Type} [Rep α] {ok : Nat → Prop} {w : World} {cs : List Value} {xs : List α} (h : Rep.rd ok w cs (xs.map Sh.mk : List (Sh α))) : Rep.rd ok w cs xs := by
  obtain ⟨a, cap, h1, h2, h3, h4, h5⟩ := h
  simp only [List.length_map] at h1 h2 h3 h4 h5
  exact ⟨a, cap, h1, h2, h3, h4, fun h0 => by
    obtain ⟨b, off, cells, e1, e2, e3, e4⟩ := h5 h0
    exact ⟨b, off, cells, e1, e2, e3, e4.shmap⟩⟩
class FrzL (Γ : List Atom) (gs : List (List Value)) (Δ : outParam (List Atom)) : Prop where
  run : ∀ {w0 w : World}, Sat w0 w Γ → Sat w0 w Δ
instance : FrzL Γ [] Γ := ⟨fun h => h⟩
instance (priority := 500) {g : List Value} {gs : List (List Value)} [h : FrzL Γ gs Ε] : FrzL Γ (g :: gs) Ε := ⟨h.run⟩
instance (priority := 900) {α : Type} {iα : Rep α} {g : List Value} {x : α} {gs : List (List Value)} [h : PullOw α iα Γ g x Δ] [h' : FrzL (.rd g x :: Δ) gs Ε] : FrzL Γ (g :: gs) Ε := ⟨fun hs => h'.run (hs.perm h.perm).share⟩
class ShL (α : Type) [Rep α] (Γ : List Atom) (gs : List (List Value)) (ys : outParam (List α)) : Prop where
  run : OwnL Γ gs (ys.map Sh.mk) Γ
instance {α : Type} [Rep α] : ShL α Γ [] [] := ⟨OwnL.nil⟩
instance {α : Type} {iα : Rep α} {g : List Value} {gs : List (List Value)} {y : α} {ys : List α} [h : HasIm α iα Γ g y] [h' : ShL α Γ gs ys] : ShL α Γ (g :: gs) (y :: ys) := ⟨OwnL.cons own_sh h'.run⟩
instance (priority := 300) {α : Type} {iα : Rep α} {T k by_ N : Nat} {ps : List (Nat × Operand)} {groups : List (List Value)} {ys : List α} {len : Nat} [hO : Op_ P T (List α) repList] [hT : Sl P T k by_] [hp0 : PartsL Γ l k 0 ps groups] [hf : FrzL Γ groups Δ] [hp : PartsL Δ l k 0 ps groups] [hk : SzIs α k] [ho : ShL α Δ groups ys] [hl : LenIs ys len] [hn : NatEq len N] :
    RedV (WL P ops Q w0 (⟨some d, .buildSlice T N ps.toArray, ty, pos, after, none⟩ :: rest) l Γ) (N * k ≤ 16777216) (fun sv => WL P ops Q w0 rest (l.set d sv) (.rd [sv] ys :: Δ)) := ⟨fun s h w hs => by
  refine wl_buildSlice (α := Sh α) (k := k) (hT := hT) (hp := hp) ho.run (by rw [hk.eq]; rfl) (by rw [List.length_map, ← hn.eq, ← hl.eq]) s (fun sv w' hs' => ?_) w (hf.run hs)
  refine h sv w' ?_
  obtain ⟨hb, F, hnd, hlt, f, g, e, h1, h2⟩ := hs'.share
  exact ⟨hb, F, hnd, hlt, f, g, e, ⟨h1.1, rd_shmap h1.2⟩, h2⟩⟩
end Go.Eng
namespace Go.Eng
open Go Go.RowKit
set_option linter.unusedVariables false
set_option linter.unusedSimpArgs false
set_option synthInstance.maxHeartbeats 400000
set_option synthInstance.maxSize 1000

/-- Three lists, one behind the other. -/
class App3 (a b c : List Value) (o : outParam (List Value)) : Prop where
  eq : a ++ b ++ c = o
instance {b : List Value} : App3 [] b [] b := ⟨by simp⟩
instance {c : List Value} : App3 [] [] c c := ⟨by simp⟩
instance (priority := 900) {x : Value} {b c o : List Value} [h : App3 [] b c o] : App3 [] (x :: b) c (x :: o) := ⟨by have := h.eq; simpa using this⟩
instance (priority := 900) {x : Value} {a b c o : List Value} [h : App3 a b c o] : App3 (x :: a) b c (x :: o) := ⟨by have := h.eq; simpa using this⟩

instance (priority := 1500) SubE.nilr {Γ Δ : List Atom} {α : Type} {iα : Rep α} [h : SubE Γ Δ] : SubE Γ (@Atom.rd (List α) repList [.slice none 0 0] [] :: Δ) := ⟨fun hs => by
  obtain ⟨G, H, hGH, hD⟩ := h.get hs
  exact ⟨G, H, hGH, [], G, rfl, ⟨rfl, none, 0, rfl, by simp, by simp [maxLen], by simp, fun h => by simp at h⟩, hD⟩⟩

section q
variable {P : Program} {ops : Array Oper} {Q : Exit → Act → World → Prop} {w0 : World} {rest : List Oper} {l l' : List Value} {Γ Γb Δ Ε : List Atom} {ty : TypeId} {v : Value} {pos : String} {after : Array Edge} {d : Nat}

theorem pu_makeFunc {f : Fn} {xs ys : List Operand} {vs us : List Value} [hx : EvL l xs vs] [hy : EvL l ys us] : Pu P w0 l Γ (.makeFunc f xs.toArray ys.toArray) ty (.func f vs.toArray us.toArray) := fun w _ o ho _ => by
  have h1 : Array.map (E l).eval xs.toArray = vs.toArray := by simp [hx.eq]
  have h2 : Array.map (E l).eval ys.toArray = us.toArray := by simp [hy.eq]
  simp only [execOp, ho, h1, h2]
  rfl
instance {f : Fn} {xs ys : List Operand} {vs us : List Value} [hx : EvL l xs vs] [hy : EvL l ys us] : PuC P l Γ (.makeFunc f xs.toArray ys.toArray) ty (.func f vs.toArray us.toArray) := ⟨fun _ => pu_makeFunc⟩

/-- Field i of struct type T is one cell, at place k. -/
class FiS (P : Program) (T : TypeId) (i : Nat) (k : outParam Nat) : Prop where
  ex : ∃ fields fld, P.underlying T = some (.struct fields) ∧ fields[i]? = some fld ∧ fld.offset = k ∧ ∀ w, (isAgg fld.type).run P w = .ok false w
theorem pu_field {T : TypeId} {x : Operand} {i k : Nat} {cs : List Value} [h : Ev l x (.agg cs.toArray)] [hf : FiS P T i k] [hv : Ge cs k v] : Pu P w0 l Γ (.field T x i) ty v := fun w _ o ho _ => by
  obtain ⟨fields, fld, h1, h2, h3, h4⟩ := hf.ex
  have h5 : cs[fld.offset]? = some v := by rw [h3]; exact hv.eq
  simp only [execOp, ho, h.eq]
  refine run_value (f := Next.value) (s := Instr.field T (.agg cs.toArray) i) ?_
  simp [Instr.field, run_underlying h1, h2, asAgg, part, h4, h5, Sem.run_bind]
instance {T : TypeId} {x : Operand} {i k : Nat} {cs : List Value} [h : Ev l x (.agg cs.toArray)] [hf : FiS P T i k] [hv : Ge cs k v] : PuC P l Γ (.field T x i) ty v := ⟨fun _ => pu_field (k := k) (cs := cs)⟩

theorem run_callv {x : Operand} {xs : List Operand} {vs fs cs as : List Value} {f : FuncId} {ts : Array TypeId} {dst : Option Tmp} {g : Option (Nat × Bool)} [hv : Ev l x (.func (.func f) fs.toArray cs.toArray)] [hx : EvL l xs vs] [ha : App3 fs vs cs as] [hf : IsFn P f] (w : World) :
    (execOp (E l).eval ⟨dst, .call { callee := .value x, args := xs.toArray, argTypes := ts }, ty, pos, after, g⟩).run P w = .ok (.enter f as.toArray) w := by
  have := hf.run as.toArray w
  simp only [execOp, resolve, Sem.run_bind]
  have he : Array.map (E l).eval xs.toArray = vs.toArray := by simp [hx.eq]
  rw [he, hv.eq]
  have h3 : fs ++ (vs ++ cs) = as := by rw [← ha.eq]; simp
  simpa [Deferred.ofValue, invoke, h3] using this

theorem wl_callv {x : Operand} {f : FuncId} {xs : List Operand} {vs fs cs as : List Value} {ts : Array TypeId} {ρ : Type} {r : ρ → Value} {Γ' : ρ → List Atom} [hv : Ev l x (.func (.func f) fs.toArray cs.toArray)] [hx : EvL l xs vs] [ha : App3 fs vs cs as] [hf : IsFn P f] (hc : CJ P f as w0 Γ r Γ')
    (h : ∀ p, WL P ops Q w0 rest (l.set d (r p)) (Γ' p)) : WL P ops Q w0 (⟨some d, .call { callee := .value x, args := xs.toArray, argTypes := ts }, ty, pos, after, none⟩ :: rest) l Γ := by
  intro w hs
  refine wpList_plain rfl fun K hK => ?_
  unfold Oper.wp
  rw [run_callv (fs := fs) (cs := cs) w, Oper.upon_enter]
  refine (hc w hs).mono ?_
  rintro e w' ⟨p, rfl, hs'⟩
  show K ((E l).put (some d) (r p)) w'
  rw [E_put]
  exact hK _ _ (h p w' hs')
theorem wl_callv0 {x : Operand} {f : FuncId} {xs : List Operand} {vs fs cs as : List Value} {ts : Array TypeId} {ρ : Type} {r : ρ → Value} {Γ' : ρ → List Atom} [hv : Ev l x (.func (.func f) fs.toArray cs.toArray)] [hx : EvL l xs vs] [ha : App3 fs vs cs as] [hf : IsFn P f] (hc : CJ P f as w0 Γ r Γ')
    (h : ∀ p, WL P ops Q w0 rest l (Γ' p)) : WL P ops Q w0 (⟨none, .call { callee := .value x, args := xs.toArray, argTypes := ts }, ty, pos, after, none⟩ :: rest) l Γ := by
  intro w hs
  refine wpList_plain rfl fun K hK => ?_
  unfold Oper.wp
  rw [run_callv (fs := fs) (cs := cs) w, Oper.upon_enter]
  refine (hc w hs).mono ?_
  rintro e w' ⟨p, rfl, hs'⟩
  show K ((E l).put none (r p)) w'
  rw [E_put_none]
  exact hK _ _ (h p w' hs')

/-- The value is a closure. -/
class IsFv (v : Value) (f : outParam FuncId) (fs cs : outParam (List Value)) : Prop where
  eq : v = .func (.func f) fs.toArray cs.toArray
instance {f : FuncId} {fs cs : List Value} : IsFv (.func (.func f) fs.toArray cs.toArray) f fs cs := ⟨rfl⟩
instance {f : FuncId} : IsFv (.func (.func f) #[] #[]) f [] [] := ⟨rfl⟩
instance {n : Tmp} {f : FuncId} {xs : List Operand} {vs fs cs as : List Value} {ts : Array TypeId} {S : Prop} {ρ : Type} {r : ρ → Value} {Γ' : ρ → List Atom} [hv : Ev l (.tmp n) v] [hk : IsFv v f fs cs] [hx : EvL l xs vs] [ha : App3 fs vs cs as] [hc : CtrC P f as Γ S ρ r Γ'] [hf : IsFn P f] :
    RedC (WL P ops Q w0 (⟨some d, .call { callee := .value (.tmp n), args := xs.toArray, argTypes := ts }, ty, pos, after, none⟩ :: rest) l Γ) S ρ (fun p => WL P ops Q w0 rest (l.set d (r p)) (Γ' p)) :=
  ⟨fun s h => wl_callv (fs := fs) (cs := cs) (hv := ⟨hv.eq.trans hk.eq⟩) (hc.run s w0) h⟩
instance {n : Tmp} {f : FuncId} {xs : List Operand} {vs fs cs as : List Value} {ts : Array TypeId} {S : Prop} {ρ : Type} {r : ρ → Value} {Γ' : ρ → List Atom} [hv : Ev l (.tmp n) v] [hk : IsFv v f fs cs] [hx : EvL l xs vs] [ha : App3 fs vs cs as] [hc : CtrC P f as Γ S ρ r Γ'] [hf : IsFn P f] :
    RedC (WL P ops Q w0 (⟨none, .call { callee := .value (.tmp n), args := xs.toArray, argTypes := ts }, ty, pos, after, none⟩ :: rest) l Γ) S ρ (fun p => WL P ops Q w0 rest l (Γ' p)) :=
  ⟨fun s h => wl_callv0 (fs := fs) (cs := cs) (hv := ⟨hv.eq.trans hk.eq⟩) (hc.run s w0) h⟩
theorem wq_share {Q : Exit → Act → World → Prop} {α : Type} {iα : Rep α} {e : Exit} (sv : Value) {x : α} [hp : PullOw α iα Γ [sv] x Δ] (h : WQ Q w0 e l (.rd [sv] x :: Δ)) : WQ Q w0 e l Γ := fun w hs => h w (hs.perm hp.perm).share
theorem ent_share {α : Type} {iα : Rep α} (sv : Value) {x : α} [hp : PullOw α iα Γ [sv] x Δ] (h : Ent w0 (.rd [sv] x :: Δ) Ε) : Ent w0 Γ Ε := fun w hs => h w (hs.perm hp.perm).share
end q

/-! ### Lists of what is shared -/
instance {α : Type} [Inhabited α] : Inhabited (Sh α) := ⟨⟨default⟩⟩
instance {α : Type} [Rep α] {k : Nat} [h : SzIs α k] : SzIs (Sh α) k := ⟨h.eq⟩
theorem RdL.sh {β : Type} [Rep β] {ok : Nat → Prop} {w : World} : ∀ {cells : List Value} {ys : List β}, RdL ok w cells ys → OwL ok w [] cells (ys.map Sh.mk)
  | _, [], h => ⟨rfl, h⟩
  | _, _ :: _, ⟨c, d, e, h, h'⟩ => ⟨[], [], c, d, rfl, e, ⟨rfl, h⟩, RdL.sh h'⟩
section sh
variable {P : Program} {ops : Array Oper} {Q : Exit → Act → World → Prop} {w0 : World} {rest : List Oper} {l l' : List Value} {Γ Γb Δ Ε : List Atom} {ty : TypeId} {v : Value} {pos : String} {after : Array Edge} {d : Nat}
theorem wl_append_sh {T k by_ : Nat} {x y : Operand} {ov tv : Value} {β : Type} {iβ : Rep β} {xs : List (Sh β)} {ys : List β} [hx : Ev l x ov] [hy : Ev l y tv] [hT : Sl P T k by_] [h1 : PullOw (List (Sh β)) repList Γ [ov] xs Δ] [h2 : HasIm (List β) repList Δ [tv] ys]
    (hk : k = Rep.sz β) (hbytes : (xs.length + ys.length) * by_ ≤ 140737488355328) (h : ∀ sv, WL P ops Q w0 rest (l.set d sv) (.ow [sv] (xs ++ ys.map Sh.mk) :: Δ)) :
    WL P ops Q w0 (⟨some d, .call { callee := .builtin .append, args := #[x, y], argTypes := #[T, T] }, ty, pos, after, none⟩ :: rest) l Γ := by
  intro w hs
  have hs1 : Sat w0 w ([.ow [ov] xs] ++ Δ) := hs.perm h1.perm
  obtain ⟨hb, F, hn, hl, f, g, rfl, hf, hrest⟩ := hs1
  obtain ⟨a, c, hc, _, _, _, hrd⟩ := h2.get hrest
  simp only [List.cons.injEq, and_true] at hc
  subst hc
  obtain ⟨news, hsrc, hyo⟩ : ∃ news, (0 < (ys.map Sh.mk).length → ∃ b off, a = some (⟨b, off, none⟩ : Addr) ∧ CellsAt w b off news) ∧ OwL (· ∉ f ++ g) w [] news (ys.map Sh.mk) := by
    by_cases h0 : 0 < ys.length
    · obtain ⟨b, off, cells, rfl, _, hca, hr⟩ := hrd h0
      exact ⟨cells, fun _ => ⟨b, off, rfl, hca⟩, RdL.sh hr⟩
    · have : ys = [] := List.eq_nil_of_length_eq_zero (by omega)
      subst this
      exact ⟨[], by simp, rfl, rfl⟩
  obtain ⟨v', w', hr, ho, hsame, fn, hfn, hnew, hrep⟩ := append_core (P := P) (T := T) (ty := ty) (c := c) (ys := ys.map Sh.mk) (show k = Rep.sz (Sh β) from hk) hf hsrc hyo (by simpa using (List.nodup_append.1 hn).1) (fun b hb hok => hok (by simp at hb; simp [hb])) (by rw [List.length_map]; exact hbytes)
  rw [List.length_map] at hr
  refine wl_op rfl (run_append_op hr) ?_
  rw [E_put]
  refine h _ _ ?_
  exact Sat.step' (Δ' := [.ow [v'] (xs ++ ys.map Sh.mk)]) (Γ := Δ) hb hn hl hrest ho hsame fn hfn
    (fun b hb => (hnew b hb).imp (fun h => by simpa using h) id) (fun ok' hok' => ⟨fn, [], by simp, hrep ok' hok', rfl⟩)
instance (priority := 1200) {T k by_ : Nat} {x y : Operand} {ov tv : Value} {β : Type} {iβ : Rep β} {xs : List (Sh β)} {ys : List β} [hx : Ev l x ov] [hy : Ev l y tv] [hT : Sl P T k by_] [h1 : PullOw (List (Sh β)) repList Γ [ov] xs Δ] [h2 : HasIm (List β) repList Δ [tv] ys] [hk : SzIs β k] :
    RedV (WL P ops Q w0 (⟨some d, .call { callee := .builtin .append, args := #[x, y], argTypes := #[T, T] }, ty, pos, after, none⟩ :: rest) l Γ) ((xs.length + ys.length) * by_ ≤ 140737488355328) (fun sv => WL P ops Q w0 rest (l.set d sv) (.ow [sv] (xs ++ ys.map Sh.mk) :: Δ)) := ⟨fun s h => wl_append_sh hk.eq s h⟩
/-- What is empty is so of any type of that size. -/
theorem wc_ow0 {α β : Type} {iα : Rep α} {iβ : Rep β} {c : Code} (sv : Value) (hz : Rep.sz α = Rep.sz β) [hp : PullOw (List α) repList Γ [sv] [] Δ] (h : WC P Q w0 c l (.ow [sv] ([] : List β) :: Δ)) : WC P Q w0 c l Γ := fun w hs => by
  refine h w (SepEnt.sat (fun {ok w F} hs => ?_) (hs.perm hp.perm))
  obtain ⟨f, g, e, h1, h2⟩ := hs
  refine ⟨F, .refl _, f, g, e, ?_, h2⟩
  have h1 := ow_list.1 h1
  refine ow_list.2 ?_
  rcases h1 with ⟨a, b, c⟩ | ⟨g, cap, cur, e, G, cells, h1, h2, h3, h4, h5, h6, h7, h8, h9⟩
  · exact .inl ⟨a, rfl, c⟩
  · exact .inr ⟨g, cap, cur, e, G, cells, h1, h2, h3, by simp, h5, by simp, by rw [← hz]; exact h7, by simpa using h8, h9⟩
/-- What an owned list holds is let go: it may be shared from now on. -/
theorem wc_owsh {α : Type} {iα : Rep α} {c : Code} (sv : Value) {xs : List α} [hp : PullOw (List α) repList Γ [sv] xs Δ] (h : WC P Q w0 c l (.ow [sv] (xs.map Sh.mk) :: Δ)) : WC P Q w0 c l Γ := fun w hs => by
  obtain ⟨hb, F, hn, hl, f, g, rfl, hf, hrest⟩ := hs.perm hp.perm
  have hf := ow_list.1 hf
  rcases hf with ⟨a, b, c⟩ | ⟨g0, cap, cur, e, G, cells, h1, h2, h3, h4, h5, h6, h7, h8, h9⟩
  · obtain rfl : sv = _ := by simpa using a
    subst b; subst c
    exact h w ⟨hb, g, hn, hl, [], g, rfl, ow_list.2 (.inl ⟨rfl, rfl, rfl⟩), hrest⟩
  · subst h2
    have hn' : (g0 :: (G ++ g)).Nodup := hn
    have hd := List.nodup_cons.1 hn'
    have hd2 := List.nodup_append.1 hd.2
    refine h w ⟨hb, g0 :: g, ?_, fun b hb' => hl b ?_, [g0], g, rfl, ?_, hrest.mono (fun b hb' _ => ⟨?_, rfl⟩) (Nat.le_refl _) (fun _ _ => rfl)⟩
    · exact List.nodup_cons.2 ⟨fun hm => hd.1 (List.mem_append_right _ hm), hd2.2.1⟩
    · rcases List.mem_cons.1 hb' with hm | hm
      · subst hm; simp
      · simp [hm]
    · refine ow_list.2 (.inr ⟨g0, cap, cur, e, [], cells, by simpa using h1, rfl, h3, by simpa using h4, h5, by simpa using h6, h7, by rw [List.length_map]; exact h8, ?_⟩)
      refine RdL.sh (h9.rd (fun b hb' => ?_) (fun b hb' => ?_))
      · intro hm
        apply hb'
        rcases List.mem_cons.1 hm with hm | hm
        · simp [hm]
        · simp [hm]
      · intro hm
        rcases List.mem_cons.1 hm with hm | hm
        · subst hm; exact hd.1 (List.mem_append_left _ hb')
        · exact hd2.2.2 b hb' b hm rfl
    · intro hm
      apply hb'
      rcases List.mem_cons.1 hm with hm | hm
      · simp [hm]
      · simp [hm]
theorem RdL.unsh {β : Type} [Rep β] {ok : Nat → Prop} {w : World} : ∀ {cells : List Value} {ys : List β}, RdL ok w cells (ys.map Sh.mk) → RdL ok w cells ys
  | _, [], h => h
  | _, _ :: _, ⟨c, d, e, h, h'⟩ => ⟨c, d, e, h, RdL.unsh h'⟩
theorem rd_unsh {β : Type} [Rep β] {ok : Nat → Prop} {w : World} {cs : List Value} {ys : List β} (h : Rep.rd (α := List (Sh β)) ok w cs (ys.map Sh.mk)) : Rep.rd (α := List β) ok w cs ys := by
  obtain ⟨a, cap, h1, h2, h3, h4, h5⟩ := h
  rw [List.length_map] at h1 h2 h4 h5
  refine ⟨a, cap, h1, h2, h3, h4, fun hp => ?_⟩
  obtain ⟨b, off, cells, e1, e2, e3, e4⟩ := h5 hp
  exact ⟨b, off, cells, e1, e2, e3, RdL.unsh e4⟩
theorem ent_unsh {β : Type} {iβ : Rep β} (sv : Value) {ys : List β} [hp : PullOw (List (Sh β)) repList Γ [sv] (ys.map Sh.mk) Δ] (h : Ent w0 (.rd [sv] ys :: Δ) Ε) : Ent w0 Γ Ε := fun w hs => by
  have h1 := (hs.perm hp.perm).share
  refine h w ?_
  obtain ⟨hb, F, hn, hl, f, g, rfl, hf, hrest⟩ := h1
  exact ⟨hb, _, hn, hl, f, g, rfl, ⟨hf.1, rd_unsh hf.2⟩, hrest⟩
/-- The values that a block of four cells holds get names. -/
theorem wc_name4 {c : Code} (b : Nat) {k x y z : Value} [hp : PullBk Γ b [k, x, y, z] Δ] (h : ∀ x' y' : Value, x' = x → y' = y → WC P Q w0 c l Γ) : WC P Q w0 c l Γ := h _ _ rfl rfl
theorem wc_name4t {c : Code} (n b0 : Nat) {b : Nat} {k x y z : Value} [hv : Ev l (.tmp n) (.pointer (some ⟨b, 0, none⟩))] [hp : PullBk Γ b [k, x, y, z] Δ] (h : ∀ (b' : Nat) (x' y' : Value), b' = b → x' = x → y' = y → WC P Q w0 c l Γ) : WC P Q w0 c l Γ := h _ _ _ rfl rfl rfl
end sh

/-! ### Slices of functions -/
structure Fv where
  v : Value
instance : Inhabited Fv := ⟨⟨.nilFunc⟩⟩
instance repFv : Rep Fv where
  sz := 1
  rd _ _ cs x := cs = [x.v] ∧ x.v.oneCell' = true
  ow _ _ F cs x := F = [] ∧ cs = [x.v] ∧ x.v.oneCell' = true
  pos := by decide
  rd_len := by rintro _ _ _ _ ⟨rfl, _⟩; rfl
  rd_one := by rintro _ _ _ _ ⟨rfl, h⟩; simp [h]
  rd_mono := fun h _ => h
  ow_mono := fun h _ _ => h
  ow_rd := fun h _ _ => h.2
  ow_lt := by rintro _ _ _ _ _ ⟨rfl, _⟩ b hb; cases hb
instance : Flat Fv := ⟨trivial⟩
instance : SzIs Fv 1 := ⟨rfl⟩
/-- The type is one of slices of functions. -/
class FvS (P : Program) (T : TypeId) : Prop where
  t : True
section fv
variable {P : Program} {ops : Array Oper} {Q : Exit → Act → World → Prop} {w0 : World} {rest : List Oper} {l l' : List Value} {Γ Γb Δ Ε : List Atom} {ty : TypeId} {v : Value} {pos : String} {after : Array Edge} {d : Nat}
instance {f : Fn} {a b : Array Value} : OwnC Fv Γ [.func f a b] ⟨.func f a b⟩ Γ True := ⟨fun _ => fun {_ _ F} hs => ⟨F, .refl _, [], F, rfl, ⟨rfl, rfl, rfl⟩, hs⟩⟩
instance {T k by_ N m : Nat} {ps : List (Nat × Operand)} {groups : List (List Value)} {xs : List Fv} {S : Prop} [hF : FvS P T] [hT : Sl P T k by_] [hp : PartsL Γ l k 0 ps groups] [ho : OwnLC Fv Γ groups xs Δ S] [hk : SzIs Fv k] [hl : LenIs xs m] [hn : NatEq m N] :
    RedV (WL P ops Q w0 (⟨some d, .buildSlice T N ps.toArray, ty, pos, after, none⟩ :: rest) l Γ) (S ∧ N * k ≤ 16777216) (fun sv => WL P ops Q w0 rest (l.set d sv) (.ow [sv] xs :: Δ)) :=
  ⟨fun s h => wl_buildSlice (hT := hT) (hp := hp) (ho.run s.1) hk.eq (hn.eq ▸ hl.eq.symm) s.2 h⟩
theorem pu_load_fv {T : TypeId} {x : Operand} {sv : Value} {n : Int} {xs : List Fv} [h : Ev l x (.pointer (some (elemA sv n 1)))] [hT : Sc P T] [hr : HasRd (List Fv) repList Γ [sv] xs]
    (hi : 0 ≤ n ∧ n < xs.length) : Pu P w0 l Γ (.load T x) ty (xs.getD n.toNat default).v :=
  pu_of (s := Instr.loadAt T (.pointer (some (elemA sv n 1)))) (fun o ho _ => by unfold execOp; rw [ho]; simp only [h.eq]) (fun w hs => by
    obtain ⟨a, cap, b, off, p, c, s, rfl, _, _, hca, hp, he, hrd⟩ := elem_cells (hs.rd (hr := hr)) hi.1 hi.2
    have hrd' : c = [_] := hrd.1
    subst hrd'
    have he' : elemA (.slice (some ⟨b, off, none⟩) xs.length cap) n 1 = ⟨b, off + p.length, none⟩ := he
    have := hca.part 0 (by simp)
    simp only [Nat.add_zero, List.getElem?_cons_zero] at this
    rw [he', List.getD_eq_getElem?_getD, List.getElem?_eq_getElem (by omega), Option.getD_some]
    simp [Instr.loadAt, Instr.sureAddr, loadVar, Sem.run_bind, hT.agg, load, Sem.run, this])
instance {T : TypeId} {x : Operand} {sv : Value} {n : Int} {m : Nat} {xs : List Fv} [h : Ev l x (.pointer (some (elemA sv n 1)))] [hm : ToN n m] [hT : Sc P T] [hr : HasRd (List Fv) repList Γ [sv] xs] : PuS P l Γ (.load T x) ty (xs.getD m default).v (0 ≤ n ∧ n < xs.length) := ⟨fun h _ => hm.eq ▸ pu_load_fv h⟩
/-- What is left of the elements of a list whose row is frozen: they are owned one by one. -/
structure Rst (α : Type) (n : Nat) where
  xs : List α
instance repRst {α : Type} [Rep α] {n : Nat} : Rep (Rst α n) where
  sz := n * Rep.sz α + 1
  rd ok w cs x := ∃ cells, cs = cells ++ [.bool true] ∧ x.xs.length = n ∧ RdL ok w cells x.xs
  ow ok w F cs x := ∃ cells, cs = cells ++ [.bool true] ∧ x.xs.length = n ∧ OwL ok w F cells x.xs
  pos := Nat.succ_pos _
  rd_len := by rintro _ _ _ _ ⟨c, rfl, h, h'⟩; simp [h'.len, h]
  rd_one := by
    rintro _ _ _ _ ⟨c, rfl, h, h'⟩ x hx
    rcases List.mem_append.1 hx with hx | hx
    · exact h'.one x hx
    · rw [List.mem_singleton.1 hx]; rfl
  rd_mono := by rintro _ _ _ _ _ _ ⟨c, e, h, h'⟩ hm; exact ⟨c, e, h, h'.mono hm⟩
  ow_mono := by rintro _ _ _ _ _ _ _ ⟨c, e, h, h'⟩ hf hm; exact ⟨c, e, h, h'.mono hm hf⟩
  ow_rd := by rintro _ _ _ _ _ _ ⟨c, e, h, h'⟩ ho hf; exact ⟨c, e, h, h'.rd ho hf⟩
  ow_lt := by rintro _ _ _ _ _ ⟨c, e, h, h'⟩ b hb; exact h'.lt b hb
theorem OwL.fv {α : Type} [Rep α] (hz : Rep.sz α = 1) {ok : Nat → Prop} {w : World} : ∀ {F : List Nat} {cells : List Value} {xs : List α}, OwL ok w F cells xs → ∀ ok' : Nat → Prop, RdL ok' w cells (cells.map Fv.mk) ∧ cells.length = xs.length
  | F, cells, [], h, ok' => by obtain ⟨_, rfl⟩ := h; exact ⟨rfl, rfl⟩
  | F, cells, x :: xs, h, ok' => by
    obtain ⟨f, g, c, d, rfl, rfl, h1, h2⟩ := h
    obtain ⟨h3, h4⟩ := OwL.fv hz h2 ok'
    have h5 := Rep.ow_rd (ok' := fun _ => True) h1 (fun _ _ => trivial) (fun _ _ => trivial)
    have hl := Rep.rd_len h5
    rw [hz] at hl
    match c, hl with
    | [v], _ =>
      have h6 := Rep.rd_one h5 v (by simp)
      exact ⟨⟨[v], d.map Fv.mk |> fun _ => d, rfl, ⟨rfl, h6⟩, h3⟩, by simp [h4]⟩
/-- The row of an owned list is frozen, its elements are owned one by one. -/
theorem wc_open {α : Type} {iα : Rep α} {c : Code} (sv : Value) (hz : Rep.sz α = 1) {xs : List α} [hp : PullOw (List α) repList Γ [sv] xs Δ]
    (h : ∀ vs : List Value, vs.length = xs.length → WC P Q w0 c l (.rd [sv] (vs.map Fv.mk) :: .ow (vs ++ [.bool true]) (Rst.mk xs : Rst α xs.length) :: Δ)) : WC P Q w0 c l Γ := fun w hs => by
  obtain ⟨hb, F, hn, hl, f, g, rfl, hf, hrest⟩ := hs.perm hp.perm
  have hf := ow_list.1 hf
  rcases hf with ⟨a, b, c⟩ | ⟨g0, cap, cur, e, G, cells, h1, h2, h3, h4, h5, h6, h7, h8, h9⟩
  · obtain rfl : sv = _ := by simpa using a
    subst b; subst c
    refine h [] rfl w ⟨hb, g, hn, hl, [], g, rfl, ⟨rfl, none, 0, rfl, by simp, by simp [maxLen], by simp, fun h => by simp at h⟩, [], g, rfl, ⟨[], rfl, rfl, rfl, rfl⟩, hrest⟩
  · subst h2
    have hn' : (g0 :: (G ++ g)).Nodup := hn
    have hd := List.nodup_cons.1 hn'
    obtain ⟨h10, h11⟩ := OwL.fv hz h9 (fun b => ¬ b ∈ G ++ g)
    refine h cells h11 w ⟨hb, G ++ g, hd.2, fun b hb' => hl b (by simp only [List.cons_append, List.mem_cons]; exact .inr hb'), [], G ++ g, rfl, ⟨rfl, ?_⟩, G, g, rfl, ⟨cells, rfl, rfl, h9.mono (fun b hb' _ => ⟨fun hm => hb' (by simp only [List.cons_append, List.mem_cons]; exact .inr hm), rfl⟩) (fun _ _ => rfl)⟩, hrest.mono (fun b hb' _ => ⟨fun hm => hb' (by simp only [List.cons_append, List.mem_cons]; exact .inr hm), rfl⟩) (Nat.le_refl _) (fun _ _ => rfl)⟩
    have hsv : sv = .slice (some ⟨g0, 0, none⟩) xs.length cap := by simpa using h1
    have hlm : (cells.map Fv.mk).length = xs.length := by rw [List.length_map, h11]
    refine ⟨some ⟨g0, 0, none⟩, cap, by rw [hsv, hlm], by rw [hlm]; exact h4, h5, by rw [hlm]; exact h6, fun hp => ⟨g0, 0, cells, rfl, hd.1, ?_, h10⟩⟩
    intro j hj
    rw [← h8] at hj ⊢
    rw [List.getElem?_take]
    have : j < xs.length * Rep.sz α := by
      have := hj; rw [List.length_take] at this; omega
    rw [if_pos this]
    simp [World.cell?, h3]
/-- The next of the elements. -/
theorem wc_next {α : Type} {iα : Rep α} {c : Code} {n : Nat} {v : Value} {cs : List Value} {x : α} {xs : List α} (hz : Rep.sz α = 1) (h : WC P Q w0 c l (.ow [v] x :: .ow cs (Rst.mk xs : Rst α n) :: Δ)) : WC P Q w0 c l (.ow (v :: cs) (Rst.mk (x :: xs) : Rst α (n + 1)) :: Δ) := fun w hs => by
  refine h w (SepEnt.sat (fun {ok w F} hs => ?_) hs)
  obtain ⟨f, g, e, ⟨cells, h1, h2, f1, g1, c1, d1, e1, e2, h3, h4⟩, h5⟩ := hs
  have hl := Rep.rd_len (Rep.ow_rd (ok' := fun _ => True) h3 (fun _ _ => trivial) (fun _ _ => trivial))
  rw [hz] at hl
  match c1, hl with
  | [u], _ =>
    subst e2
    simp only [List.cons_append, List.nil_append, List.cons.injEq] at h1
    obtain ⟨rfl, rfl⟩ := h1
    subst e1
    exact ⟨F, .refl _, f1, g1 ++ g, by rw [e, List.append_assoc], h3, g1, g, rfl, ⟨d1, rfl, by simpa using h2, h4⟩, h5⟩
theorem wc_take {α : Type} {iα : Rep α} [inh : Inhabited α] {c : Code} (hz : Rep.sz α = 1) {vs : List Value} {xs : List α} {k : Nat} (hk : k < xs.length) (hv : vs.length = xs.length)
    [hp : PullOw (Rst α (xs.length - k)) repRst Γ (vs.drop k ++ [.bool true]) (Rst.mk (xs.drop k)) Δ]
    (h : WC P Q w0 c l (.ow [((vs.map Fv.mk).getD k default).v] (xs.getD k default) :: .ow (vs.drop (k + 1) ++ [.bool true]) (Rst.mk (xs.drop (k + 1)) : Rst α (xs.length - (k + 1))) :: Δ)) : WC P Q w0 c l Γ := by
  have h1 := wc_next hz h
  have e1 : xs.drop k = xs.getD k default :: xs.drop (k + 1) := by
    rw [List.getD_eq_getElem?_getD, List.getElem?_eq_getElem hk]; exact List.drop_eq_getElem_cons hk
  have e2 : vs.drop k = ((vs.map Fv.mk).getD k default).v :: vs.drop (k + 1) := by
    rw [List.getD_eq_getElem?_getD, List.getElem?_map, List.getElem?_eq_getElem (by omega)]
    exact List.drop_eq_getElem_cons (by omega)
  have e3 : xs.length - k = xs.length - (k + 1) + 1 := by omega
  intro w hs
  have hs' := hs.perm hp.perm
  rw [e1, e2, e3] at hs'
  exact h1 w hs'
end fv
end Go.Eng
namespace Go.Eng
open Go Go.RowKit
set_option linter.unusedVariables false
set_option linter.unusedSimpArgs false
set_option synthInstance.maxHeartbeats 400000
set_option synthInstance.maxSize 1000
section r
variable {P : Program} {ops : Array Oper} {Q : Exit → Act → World → Prop} {w0 : World} {rest : List Oper} {l l' : List Value} {Γ Γb Δ Ε : List Atom} {ty : TypeId} {v : Value} {pos : String} {after : Array Edge} {d : Nat}

/-- The slice with its capacity cut to n. -/
def clipV (v : Value) (n : Nat) : Value := match v with
  | .slice a _ _ => .slice a n n
  | v => v
theorem run_slice3 {T e : Nat} {i : TypeInfo} {a : Option Addr} {n cap : Nat} {k k' : IntKind} (ht : P.underlying T = some (.slice e)) (hi' : P.info? e = some i) (h : n ≤ cap) (w : World) :
    (Instr.sliceAt T (.slice a n cap) none (some (.int k n)) (some (.int k' n))).run P w = .ok (.slice (if n = 0 then a else a.map (·.add (0 * i.size))) n n) w := by
  simp [Instr.sliceAt, Instr.slice, Instr.sliceBounds, Instr.sliceBound, asIntOf, run_underlying ht, sizeOf, typeInfo, hi', h]
theorem wl_slice3 {α : Type} {iα : Rep α} {T k by_ : Nat} {x y z : Operand} {sv : Value} {kk kk' : IntKind} {n m : Int} {xs : List α} [hx : Ev l x sv] [hy : Ev l y (.int kk n)] [hz : Ev l z (.int kk' m)] [hT : Sl P T k by_] [hr : HasIm (List α) repList Γ [sv] xs] (hn : n = xs.length) (hm : m = xs.length) (hp : 0 < xs.length)
    (h : ∀ sv', WL P ops Q w0 rest (l.set d (clipV sv' xs.length)) (.rd [clipV sv' xs.length] xs :: Γ)) : WL P ops Q w0 (⟨some d, .slice T x none (some y) (some z), ty, pos, after, none⟩ :: rest) l Γ := by
  intro w hs
  obtain ⟨e, i, z', ht, hi', hik, hib, hz', hzk, hpos⟩ := hT.ex
  obtain ⟨hb, F, hnd, hl, hsep⟩ := hs
  have hrd := hr.get hsep
  obtain ⟨a, cap, hc, hcap, h3, h4, h5⟩ := hrd
  simp only [List.cons.injEq, and_true] at hc
  subst hc
  obtain ⟨b, off, cells, rfl, hok, hca, hrl⟩ := h5 hp
  have hrun := run_slice3 (P := P) (T := T) (a := some ⟨b, off, none⟩) (n := xs.length) (cap := cap) (k := kk) (k' := kk') ht hi' hcap w
  rw [if_neg (by omega)] at hrun
  simp only [Option.map_some, Nat.zero_mul, add_lit, Nat.add_zero] at hrun
  refine wl_op rfl (v := .slice (some ⟨b, off, none⟩) xs.length xs.length) (w' := w) ?_ ?_
  · refine run_value (f := Next.value) (s := Instr.sliceAt T ((E l).eval x) (Option.map (E l).eval none) (Option.map (E l).eval (some y)) (Option.map (E l).eval (some z))) ?_
    simp only [Option.map_none, Option.map_some]
    rw [hx.eq, hy.eq, hz.eq, hn, hm]; exact hrun
  · rw [E_put]
    exact h (.slice (some ⟨b, off, none⟩) xs.length xs.length) _ ⟨hb, F, hnd, hl, [], F, rfl, ⟨rfl, _, _, rfl, Nat.le_refl _, Nat.le_trans hcap h3, h4, fun _ => ⟨b, off, cells, rfl, hok, hca, hrl⟩⟩, hsep⟩
theorem wl_slice3o {α : Type} {iα : Rep α} {T k by_ : Nat} {x y z : Operand} {sv : Value} {kk kk' : IntKind} {n m : Int} {xs : List α} [hx : Ev l x sv] [hy : Ev l y (.int kk n)] [hz : Ev l z (.int kk' m)] [hT : Sl P T k by_] [hr : PullOw (List α) repList Γ [sv] xs Δ] (hn : n = xs.length) (hm : m = xs.length)
    (h : ∀ sv', WL P ops Q w0 rest (l.set d sv') (.ow [sv'] xs :: Δ)) : WL P ops Q w0 (⟨some d, .slice T x none (some y) (some z), ty, pos, after, none⟩ :: rest) l Γ := by
  intro w hs
  obtain ⟨e, i, z', ht, hi', hik, hib, hz', hzk, hpos⟩ := hT.ex
  obtain ⟨hb, F, hnd, hl, f, g, rfl, hf, hrest⟩ := hs.perm hr.perm
  have hf := ow_list.1 hf
  rcases hf with ⟨a, b, c⟩ | ⟨g0, cap, cur, e', G, cells, h1, h2, h3, h4, h5, h6, h7, h8, h9⟩
  · obtain rfl : sv = _ := by simpa using a
    subst b; subst c
    have hrun := run_slice3 (P := P) (T := T) (a := none) (n := 0) (cap := 0) (k := kk) (k' := kk') ht hi' (Nat.le_refl _) w
    rw [if_pos rfl] at hrun
    refine wl_op rfl (v := .slice none 0 0) (w' := w) ?_ ?_
    · refine run_value (f := Next.value) (s := Instr.sliceAt T ((E l).eval x) (Option.map (E l).eval none) (Option.map (E l).eval (some y)) (Option.map (E l).eval (some z))) ?_
      simp only [Option.map_none, Option.map_some]
      rw [hx.eq, hy.eq, hz.eq, hn, hm]; exact hrun
    · rw [E_put]
      exact h _ _ ⟨hb, g, hnd, hl, [], g, rfl, ow_list.2 (.inl ⟨rfl, rfl, rfl⟩), hrest⟩
  · obtain rfl : sv = _ := by simpa using h1
    have hrun := run_slice3 (P := P) (T := T) (a := some ⟨g0, 0, none⟩) (n := xs.length) (cap := cap) (k := kk) (k' := kk') ht hi' h4 w
    have hrun' : (Instr.sliceAt T (.slice (some ⟨g0, 0, none⟩) xs.length cap) none (some (.int kk xs.length)) (some (.int kk' xs.length))).run P w = .ok (.slice (some ⟨g0, 0, none⟩) xs.length xs.length) w := by
      rw [hrun]
      by_cases h0 : xs.length = 0
      · rw [if_pos h0]
      · rw [if_neg h0]; simp [add_lit]
    refine wl_op rfl (v := .slice (some ⟨g0, 0, none⟩) xs.length xs.length) (w' := w) ?_ ?_
    · refine run_value (f := Next.value) (s := Instr.sliceAt T ((E l).eval x) (Option.map (E l).eval none) (Option.map (E l).eval (some y)) (Option.map (E l).eval (some z))) ?_
      simp only [Option.map_none, Option.map_some]
      rw [hx.eq, hy.eq, hz.eq, hn, hm]; exact hrun'
    · rw [E_put]
      exact h _ _ ⟨hb, f ++ g, hnd, hl, f, g, rfl, ow_list.2 (.inr ⟨g0, xs.length, cur, e', G, cells, rfl, h2, h3, Nat.le_refl _, Nat.le_trans h4 h5, h6, Nat.le_trans (Nat.mul_le_mul_right _ h4) h7, h8, h9⟩), hrest⟩
/-- append to a slice that is only read, and has no room: the elements of both are shared. -/
theorem wl_append_clip {α : Type} {iα : Rep α} {T k by_ : Nat} {x y : Operand} {sv tv : Value} {n : Nat} {xs ys : List α} [hx : Ev l x (clipV sv n)] [hy : Ev l y tv] [hT : Sl P T k by_] [h1 : HasIm (List α) repList Γ [clipV sv n] xs] [h2 : HasIm (List α) repList Γ [tv] ys]
    (hk : k = Rep.sz α) (hn : n = xs.length) (hxp : 0 < xs.length) (hyp : 0 < ys.length) (hbytes : (xs.length + ys.length) * by_ ≤ 140737488355328)
    (h : ∀ sv', WL P ops Q w0 rest (l.set d sv') (.rd [sv'] (xs ++ ys) :: Γ)) :
    WL P ops Q w0 (⟨some d, .call { callee := .builtin .append, args := #[x, y], argTypes := #[T, T] }, ty, pos, after, none⟩ :: rest) l Γ := by
  intro w hs
  obtain ⟨e, i, z, ht, hi, hik, hib, hz, hzk, hpos⟩ := hT.ex
  have hsz : i.size = Rep.sz α := hik.trans hk
  have hle : xs.length + ys.length ≤ 140737488355328 := Nat.le_trans (Nat.le_mul_of_pos_right _ hpos) hbytes
  obtain ⟨hb, F, hnd, hl, hsep⟩ := hs
  obtain ⟨a, cap, hc, hcap, h3, h4, h5⟩ := h1.get hsep
  obtain ⟨a', cap', hc', hcap', h3', h4', h5'⟩ := h2.get hsep
  simp only [List.cons.injEq, and_true] at hc hc'
  subst hc'
  obtain ⟨b, off, cells, rfl, hok, hca, hrl⟩ := h5 hxp
  obtain ⟨b', off', cells', rfl, hok', hca', hrl'⟩ := h5' hyp
  have hcapn : cap = xs.length := by
    unfold clipV at hc
    split at hc
    · injection hc with e1 e2 e3
      omega
    · rename_i hne
      exact absurd hc (hne _ _ _)
  subst hcapn
  have hcl : cells.length = xs.length * i.size := by rw [hsz]; exact hrl.len
  have hcl' : cells'.length = ys.length * i.size := by rw [hsz]; exact hrl'.len
  have hr := run_append_grow (P := P) w T ty e i z ht hi hz ⟨b, off, none⟩ xs.length xs.length cells hcl (fun j v hj => by
      rw [add_lit, hca j (List.getElem?_eq_some_iff.1 hj).1, hj]) ⟨b', off', none⟩ ys.length cap' cells' hcl' (fun j v hj => by
      rw [add_lit, hca' j (List.getElem?_eq_some_iff.1 hj).1, hj]) (by omega) (by omega) (growslice_fits (by omega) (by rw [hib]; exact hbytes))
  refine wl_op rfl (run_append_op (hx := ⟨hx.eq.trans hc⟩) hr) ?_
  rw [E_put]
  have hbl : ∀ c, c < w.heap.size → SameB w (w.drew.alloc (.cells (cells.toArray ++ cells'.toArray ++ Builtin.zeroCells z.cells (grownCap w (xs.length + ys.length) xs.length e - (xs.length + ys.length))) e)) c := fun c hc => Below.heap_alloc w.drew _ _ hc
  have hge := grownCap_ge w (xs.length + ys.length) xs.length e
  have hFlt := hsep.lt
  refine h _ _ ⟨⟨hb.os, hb.tape, hb.output, Nat.le_trans hb.size (by simp), Nat.le_trans hb.drawn (by first | exact Nat.le_refl _ | exact Nat.le_add_right _ _), fun k hk => by rw [hbl k (Nat.lt_of_lt_of_le hk hb.size)]; exact hb.block k hk⟩, F, hnd, hl, [], F, rfl, ⟨rfl, some ⟨w.heap.size, 0, none⟩, _, by rw [List.length_append], by simpa using hge, grownCap_le_maxLen w _ _ e (by simp only [maxLen]; omega), by rw [List.length_append]; omega, fun _ => ⟨w.heap.size, 0, cells ++ cells', rfl, fun hm => Nat.lt_irrefl _ (hFlt _ hm), ?_, ?_⟩⟩, hsep.mono (fun c hc hlt => ⟨hc, hbl c hlt⟩) (by simp) (fun c hc => hbl c (hFlt c hc))⟩
  · intro j hj
    have hnew := heap_alloc_new w.drew (.cells (cells.toArray ++ cells'.toArray ++ Builtin.zeroCells z.cells (grownCap w (xs.length + ys.length) xs.length e - (xs.length + ys.length))) e)
    have hsz0 : w.drew.heap.size = w.heap.size := rfl
    rw [hsz0] at hnew
    have hj' : j < cells.length + cells'.length := by simpa using hj
    simp only [World.cell?, hnew, Nat.zero_add]
    rw [Array.getElem?_append_left (by simpa using hj')]
    simp
  · exact RdL.append (hrl'.mono (fun c hc hlt => ⟨hc, hbl c hlt⟩)) (hrl.mono (fun c hc hlt => ⟨hc, hbl c hlt⟩))
instance {α : Type} {iα : Rep α} {T k by_ : Nat} {x y z : Operand} {sv : Value} {kk kk' : IntKind} {n m : Int} {xs : List α} [hx : Ev l x sv] [hy : Ev l y (.int kk n)] [hz : Ev l z (.int kk' m)] [hT : Sl P T k by_] [hr : HasIm (List α) repList Γ [sv] xs] :
    RedV (WL P ops Q w0 (⟨some d, .slice T x none (some y) (some z), ty, pos, after, none⟩ :: rest) l Γ) ((n = xs.length ∧ m = xs.length) ∧ 0 < xs.length) (fun sv' => WL P ops Q w0 rest (l.set d (clipV sv' xs.length)) (.rd [clipV sv' xs.length] xs :: Γ)) :=
  ⟨fun s h => wl_slice3 (sv := sv) s.1.1 s.1.2 s.2 h⟩
instance (priority := 1100) {α : Type} {iα : Rep α} {T k by_ : Nat} {x y z : Operand} {sv : Value} {kk kk' : IntKind} {n m : Int} {xs : List α} [hx : Ev l x sv] [hy : Ev l y (.int kk n)] [hz : Ev l z (.int kk' m)] [hT : Sl P T k by_] [hr : PullOw (List α) repList Γ [sv] xs Δ] :
    RedV (WL P ops Q w0 (⟨some d, .slice T x none (some y) (some z), ty, pos, after, none⟩ :: rest) l Γ) (n = xs.length ∧ m = xs.length) (fun sv' => WL P ops Q w0 rest (l.set d sv') (.ow [sv'] xs :: Δ)) :=
  ⟨fun s h => wl_slice3o (sv := sv) s.1 s.2 h⟩
instance (priority := 1300) {α : Type} {iα : Rep α} {T k by_ : Nat} {x y : Operand} {sv tv : Value} {n : Nat} {xs ys : List α} [hx : Ev l x (clipV sv n)] [hy : Ev l y tv] [hT : Sl P T k by_] [h1 : HasIm (List α) repList Γ [clipV sv n] xs] [h2 : HasIm (List α) repList Γ [tv] ys] [hk : SzIs α k] :
    RedV (WL P ops Q w0 (⟨some d, .call { callee := .builtin .append, args := #[x, y], argTypes := #[T, T] }, ty, pos, after, none⟩ :: rest) l Γ) (((n = xs.length ∧ 0 < xs.length) ∧ 0 < ys.length) ∧ (xs.length + ys.length) * by_ ≤ 140737488355328) (fun sv' => WL P ops Q w0 rest (l.set d sv') (.rd [sv'] (xs ++ ys) :: Γ)) :=
  ⟨fun s h => wl_append_clip (sv := sv) hk.eq s.1.1.1 s.1.1.2 s.1.2 s.2 h⟩
end r
end Go.Eng
namespace Go.Eng
open Go Go.RowKit
set_option linter.unusedVariables false
set_option linter.unusedSimpArgs false
set_option synthInstance.maxHeartbeats 400000
set_option synthInstance.maxSize 1000
section s
variable {P : Program} {w0 : World} {l : List Value} {Γ : List Atom} {ty : TypeId}

/-- T is a type of whole numbers of 64 bits without sign. -/
class U64T (P : Program) (T : TypeId) : Prop where
  eq : P.underlying T = some (.int .u64)
theorem pu_conv_u {S T : TypeId} {x : Operand} {n : Int} [hx : Ev l x (.int .i64 n)] [hS : I64T P S] [hT : U64T P T] (h : 0 ≤ n ∧ n ≤ 9223372036854775807) : Pu P w0 l Γ (.convert S T x) ty (.int .u64 n) :=
  pu_of (s := convert S T (.int .i64 n)) (fun o ho _ => by unfold execOp; rw [ho]; simp only [hx.eq]) (fun w _ => by
    simp only [convert, Sem.run_bind, run_underlying hS.eq, run_underlying hT.eq, Result.andThen_ok, Conv.intToInt, Sem.run_pure]
    rw [IntKind.wrap_u64, Int.emod_eq_of_lt (by omega) (by omega)])
instance {S T : TypeId} {x : Operand} {n : Int} [hx : Ev l x (.int .i64 n)] [hS : I64T P S] [hT : U64T P T] : PuS P l Γ (.convert S T x) ty (.int .u64 n) (0 ≤ n ∧ n ≤ 9223372036854775807) := ⟨fun h _ => pu_conv_u h⟩

def bitN (m : Nat) : Nat := 2 ^ m
def setB (a m : Nat) : Nat := a ||| 2 ^ m
def shrN (a m : Nat) : Nat := a / 2 ^ m
def lack (a b : Nat) : Nat := a &&& (4294967295 - b)
theorem shr_one {a m : Nat} : ((shrN a m % 2 : Nat) : Int) = 1 ↔ a.testBit m = true := by
  unfold shrN
  rw [Nat.testBit_eq_decide_div_mod_eq, decide_eq_true_iff]
  omega
theorem setB_bit {a m i : Nat} : (setB a m).testBit i = true ↔ i = m ∨ a.testBit i = true := by
  unfold setB
  rw [Nat.testBit_or, Bool.or_eq_true, Nat.testBit_two_pow, decide_eq_true_iff]
  constructor
  · rintro (h | h)
    · exact .inr h
    · exact .inl h.symm
  · rintro (h | h)
    · exact .inr h.symm
    · exact .inl h
theorem setB_lt {a m : Nat} (h : a < 65536) (hm : m < 16) : setB a m < 65536 := by
  unfold setB
  have h2 : 2 ^ m < 2 ^ 16 := Nat.pow_lt_pow_right (by omega) hm
  exact Nat.or_lt_two_pow (n := 16) h h2
theorem lack_bit {a b i : Nat} (hb : b < 4294967296) : (lack a b).testBit i = true ↔ a.testBit i = true ∧ (i < 32 ∧ b.testBit i = false) := by
  unfold lack
  rw [Nat.testBit_and, Bool.and_eq_true]
  have h : (4294967295 - b).testBit i = (decide (i < 32) && !b.testBit i) := by
    have := Nat.testBit_two_pow_sub_succ (n := 32) (x := b) (by omega) i
    rw [show 2 ^ 32 - (b + 1) = 4294967295 - b by omega] at this
    exact this
  rw [h]
  simp
theorem lack_zero {a b : Nat} (ha : a < 4294967296) (hb : b < 4294967296) : ((lack a b : Nat) : Int) = 0 ↔ ∀ i, a.testBit i = true → b.testBit i = true := by
  have e : ((lack a b : Nat) : Int) = 0 ↔ lack a b = 0 := by omega
  rw [e]
  constructor
  · intro h i hi
    by_cases hbi : b.testBit i = true
    · exact hbi
    · exfalso
      have hlt : i < 32 := by
        by_cases h32 : i < 32
        · exact h32
        · exfalso
          have : a.testBit i = false := Nat.testBit_lt_two_pow (Nat.lt_of_lt_of_le ha (by
            have := Nat.pow_le_pow_right (n := 2) (by omega) (show 32 ≤ i by omega)
            omega))
          rw [this] at hi; cases hi
      have := (lack_bit (a := a) (i := i) hb).2 ⟨hi, hlt, by simpa using hbi⟩
      rw [h] at this
      simp at this
  · intro h
    apply Nat.eq_of_testBit_eq
    intro i
    rw [Nat.zero_testBit]
    by_cases hl : (lack a b).testBit i = true
    · have := (lack_bit hb).1 hl
      rw [h i this.1] at this
      cases this.2.2
    · simpa using hl
section ops
variable {T U : TypeId} {x y : Operand} {a b m : Nat} {k : Int}
theorem pu_shr32 [hx : Ev l x (.int .u32 (a : Int))] [hy : Ev l y (.int .u64 k)] [hm : ToN k m] (h : 0 ≤ k ∧ k ≤ 31) : Pu P w0 l Γ (.binOp .shr T x y U) ty (.int .u32 ((shrN a m : Nat) : Int)) :=
  pu_bin eqGuard_int (fun w => by
    have e : binOp .shr T (.int .u32 (a : Int)) (.int .u64 k) = Op.shift .shr .u32 a .u64 k := rfl
    rw [e, shift_shr_any _ _ _ _ h.1]
    have hk := hm.eq
    have h32 : min k.toNat (IntKind.bits .u32) = m := by
      show min k.toNat 32 = m
      omega
    rw [h32, Sem.run_pure]
    congr 2)
theorem pu_shl32 [hx : Ev l x (.int .u32 1)] [hy : Ev l y (.int .u64 k)] [hm : ToN k m] (h : 0 ≤ k ∧ k ≤ 31) : Pu P w0 l Γ (.binOp .shl T x y U) ty (.int .u32 ((bitN m : Nat) : Int)) :=
  pu_bin eqGuard_int (fun w => by
    have e : binOp .shl T (.int .u32 1) (.int .u64 k) = Op.shift .shl .u32 1 .u64 k := rfl
    rw [e, shift_shl_any _ _ _ _ h.1]
    have hk := hm.eq
    have h32 : min k.toNat (IntKind.bits .u32) = m := by
      show min k.toNat 32 = m
      omega
    rw [h32, Sem.run_pure]
    congr 2
    rw [IntKind.wrap_u32']
    unfold bitN
    have h2 : 2 ^ m < 2 ^ 32 := Nat.pow_lt_pow_right (by omega) (by omega)
    have h3 : ((2 : Int) ^ m) = ((2 ^ m : Nat) : Int) := by simp
    rw [h3, Int.one_mul]
    generalize 2 ^ m = z at h2
    exact Int.emod_eq_of_lt (by omega) (by omega))
theorem pu_or32 [hx : Ev l x (.int .u32 (a : Int))] [hy : Ev l y (.int .u32 ((bitN m : Nat) : Int))] (h : a < 4294967296 ∧ m < 32) : Pu P w0 l Γ (.binOp .or T x y U) ty (.int .u32 ((setB a m : Nat) : Int)) :=
  pu_bin eqGuard_int (fun w => by
    have h2 : 2 ^ m < 2 ^ 32 := Nat.pow_lt_pow_right (by omega) h.2
    rw [binOp_or, intBits_or, u32_or_nat a (bitN m) h.1 h2, Sem.run_pure]
    rfl)
theorem pu_andNot32 [hx : Ev l x (.int .u32 (a : Int))] [hy : Ev l y (.int .u32 (b : Int))] (h : a < 4294967296 ∧ b < 4294967296) : Pu P w0 l Γ (.binOp .andNot T x y U) ty (.int .u32 ((lack a b : Nat) : Int)) :=
  pu_bin eqGuard_int (fun w => by
    rw [binOp_andNot, intBits_andNot, u32_andNot_nat a b h.1 h.2, Sem.run_pure]
    rfl)
theorem pu_and1_32 [hx : Ev l x (.int .u32 (a : Int))] [hy : Ev l y (.int .u32 1)] (h : a < 4294967296) : Pu P w0 l Γ (.binOp .and T x y U) ty (.int .u32 ((a % 2 : Nat) : Int)) :=
  pu_bin eqGuard_int (fun w => by
    have := u32_and_nat a 1 h (by omega)
    rw [binOp_and, intBits_and, show ((1 : Int)) = ((1 : Nat) : Int) from rfl, this, Sem.run_pure, Nat.and_one_is_mod])
instance [hx : Ev l x (.int .u32 (a : Int))] [hy : Ev l y (.int .u64 k)] [hm : ToN k m] : PuS P l Γ (.binOp .shr T x y U) ty (.int .u32 ((shrN a m : Nat) : Int)) (0 ≤ k ∧ k ≤ 31) := ⟨fun h _ => pu_shr32 h⟩
instance [hx : Ev l x (.int .u32 1)] [hy : Ev l y (.int .u64 k)] [hm : ToN k m] : PuS P l Γ (.binOp .shl T x y U) ty (.int .u32 ((bitN m : Nat) : Int)) (0 ≤ k ∧ k ≤ 31) := ⟨fun h _ => pu_shl32 h⟩
instance [hx : Ev l x (.int .u32 (a : Int))] [hy : Ev l y (.int .u32 ((bitN m : Nat) : Int))] : PuS P l Γ (.binOp .or T x y U) ty (.int .u32 ((setB a m : Nat) : Int)) (a < 4294967296 ∧ m < 32) := ⟨fun h _ => pu_or32 h⟩
instance [hx : Ev l x (.int .u32 (a : Int))] [hy : Ev l y (.int .u32 (b : Int))] : PuS P l Γ (.binOp .andNot T x y U) ty (.int .u32 ((lack a b : Nat) : Int)) (a < 4294967296 ∧ b < 4294967296) := ⟨fun h _ => pu_andNot32 h⟩
instance [hx : Ev l x (.int .u32 (a : Int))] [hy : Ev l y (.int .u32 1)] : PuS P l Γ (.binOp .and T x y U) ty (.int .u32 ((a % 2 : Nat) : Int)) (a < 4294967296) := ⟨fun h _ => pu_and1_32 h⟩
theorem shrN_le {a m : Nat} : shrN a m ≤ a := Nat.div_le_self _ _
end ops
end s
end Go.Eng
namespace Go.Eng
open Go Go.RowKit
set_option linter.unusedVariables false
set_option linter.unusedSimpArgs false
set_option synthInstance.maxHeartbeats 400000
set_option synthInstance.maxSize 1000
/-- A number of 32 bits. -/
structure U32 : Type where
  n : Nat
instance : Inhabited U32 := ⟨⟨0⟩⟩
instance repU32 : Rep U32 where
  sz := 1
  rd _ _ cs b := cs = [.int .u32 (b.n : Int)]
  ow _ _ F cs b := F = [] ∧ cs = [.int .u32 (b.n : Int)]
  pos := by decide
  rd_len := by rintro _ _ _ _ rfl; rfl
  rd_one := by rintro _ _ _ _ rfl; simp [Value.oneCell']
  rd_mono := fun h _ => h
  ow_mono := fun h _ _ => h
  ow_rd := fun h _ _ => h.2
  ow_lt := by rintro _ _ _ _ _ ⟨rfl, _⟩ b hb; cases hb
instance : Flat U32 := ⟨trivial⟩
instance : One U32 := ⟨trivial⟩
instance : SzIs U32 1 := ⟨rfl⟩
instance : NoSh U32 := ⟨fun h => h⟩
instance : Cp U32 := ⟨fun h => ⟨rfl, h⟩⟩
instance unU32 : Un U32 := ⟨Unit, fun _ b => [.int .u32 (b.n : Int)], fun _ _ => [], fun _ => True, fun h => ⟨(), h, rfl, trivial⟩, fun _ _ => rfl, fun _ => rfl⟩
instance unoU32 : UnO U32 := ⟨Unit, fun _ b => [.int .u32 (b.n : Int)], fun _ _ => [], fun _ => True, fun h => ⟨(), h.2, h.1, trivial⟩⟩
theorem op_u32 {P : Program} {T : TypeId} (h : P.underlying T = some (.int .u32)) (hs : P.cellsOf T = 1) : Op_ P T U32 repU32 := ⟨fun ht => by
  obtain ⟨n, rfl, _, hw⟩ := DataW.trod_int h ht
  have h1 : 0 ≤ n := by
    simp [Lit.wf, IntKind.min, IntKind.signed] at hw
    omega
  refine ⟨⟨n.toNat⟩, ?_⟩
  show [Value.int .u32 n] = [Value.int .u32 ((n.toNat : Nat) : Int)]
  rw [show ((n.toNat : Nat) : Int) = n by omega], hs⟩
section t
variable {P : Program} {ops : Array Oper} {Q : Exit → Act → World → Prop} {w0 : World} {rest : List Oper} {l l' : List Value} {Γ Γb Δ Ε : List Atom} {ty : TypeId} {v : Value} {pos : String} {after : Array Edge} {d : Nat}
theorem own_u32 {n : Nat} : Own Γ [.int .u32 (n : Int)] (U32.mk n) Γ := fun {_ _ F} hs => ⟨F, .refl _, [], F, rfl, ⟨rfl, rfl⟩, hs⟩
instance {n : Nat} : OwnC U32 Γ [.int .u32 (n : Int)] ⟨n⟩ Γ True := ⟨fun _ => own_u32⟩
theorem pu_load_u32 {T : TypeId} {x : Operand} {sv : Value} {n : Int} {xs : List U32} [h : Ev l x (.pointer (some (elemA sv n 1)))] [hT : Sc P T] [hr : HasRd (List U32) repList Γ [sv] xs]
    (hi : 0 ≤ n ∧ n < xs.length) : Pu P w0 l Γ (.load T x) ty (.int .u32 ((xs.getD n.toNat default).n : Int)) :=
  pu_of (s := Instr.loadAt T (.pointer (some (elemA sv n 1)))) (fun o ho _ => by unfold execOp; rw [ho]; simp only [h.eq]) (fun w hs => by
    obtain ⟨a, cap, b, off, p, c, s, rfl, _, _, hca, hp, he, hrd⟩ := elem_cells (hs.rd (hr := hr)) hi.1 hi.2
    have hrd' : c = [.int .u32 _] := hrd
    subst hrd'
    have he' : elemA (.slice (some ⟨b, off, none⟩) xs.length cap) n 1 = ⟨b, off + p.length, none⟩ := he
    have := hca.part 0 (by simp)
    simp only [Nat.add_zero, List.getElem?_cons_zero] at this
    rw [he', List.getD_eq_getElem?_getD, List.getElem?_eq_getElem (by omega), Option.getD_some]
    simp [Instr.loadAt, Instr.sureAddr, loadVar, Sem.run_bind, hT.agg, load, Sem.run, this])
instance {T : TypeId} {x : Operand} {sv : Value} {n : Int} {m : Nat} {xs : List U32} [h : Ev l x (.pointer (some (elemA sv n 1)))] [hm : ToN n m] [hT : Sc P T] [hr : HasRd (List U32) repList Γ [sv] xs] : PuS P l Γ (.load T x) ty (.int .u32 ((xs.getD m default).n : Int)) (0 ≤ n ∧ n < xs.length) := ⟨fun h _ => hm.eq ▸ pu_load_u32 h⟩
end t
end Go.Eng
