/- The rules of the walk: what slices.Grow does with nil. -/
import Derived.Test.YtjblieilblcdnaaEngO
namespace Go.Eng
open Go Go.RowKit
set_option linter.unusedVariables false
set_option linter.unusedSimpArgs false
variable {P : Program} {ops : Array Oper} {Q : Exit → Act → World → Prop} {w0 : World} {rest : List Oper} {l l' : List Value} {Γ Γb Δ Ε : List Atom} {ty : TypeId} {v : Value} {pos : String} {after : Array Edge} {d : Nat} {x y : Operand}

instance {T k b n c : Nat} {a : Option Addr} [h : Ev l x (.slice a n c)] [ht : Sl P T k b] : PuC P l Γ (.call { callee := .builtin .cap, args := #[x], argTypes := #[T] }) ty (.int .i64 c) := ⟨fun w0 => by
  obtain ⟨e, i, z, ht, _⟩ := ht.ex
  refine pu_of (s := Builtin.cap_ #[T] ty #[.slice a n c]) (fun o ho h2 => ?_) (fun w hs => ?_)
  · unfold execOp
    rw [ho]
    simp [resolve, invoke, builtin, h.eq, h2, Pure.pure, Bind.bind, Sem.bind]
  · simp [Builtin.cap_, run_underlying ht, goInt]⟩
instance (priority := 1200) {T k b : Nat} {kk : IntKind} {n : Int} [hx : Ev l x (.slice none 0 0)] [hy : Ev l y (.int kk n)] [hn : ToN n 0] [hT : Sl P T k b] : PuS P l Γ (.slice T x none (some y) none) ty (.slice none 0 0) (n = 0) := ⟨fun h0 w0 => by
  subst h0
  obtain ⟨e, i, z, ht, hi, _⟩ := hT.ex
  refine pu_of (s := Instr.sliceAt T (.slice none 0 0) none (some (.int kk 0)) none) (fun o ho h2 => ?_) (fun w hs => ?_)
  · unfold execOp
    rw [ho]
    simp [hx.eq, hy.eq]
  · exact run_slice (lo := 0) (hi := 0) ht hi (.inl ⟨rfl, rfl⟩) (.inr ⟨kk, rfl⟩) (by omega) (by omega) w⟩
theorem zeroCells_eq (zs : List Value) (n : Nat) (h : 0 < zs.length) : (Builtin.zeroCells zs.toArray n).toList = (List.replicate n zs).flatten := by
  rw [← madeCells_take zs zs.length n n rfl h (Nat.le_refl _)]
  refine (List.take_of_length_le ?_).symm
  rw [Array.length_toList, size_zeroCells]
  simp
theorem run_append_zeros {w : World} (t u ty e : TypeId) (i : TypeInfo) (z : Value) (ht : P.underlying t = some (.slice e)) (hu : P.underlying u = some (.int .i64)) (hi : P.info? e = some i) (hz : i.zero = some z)
    (n : Nat) (h0 : 0 < n) (hsz : 0 < i.size) (h63 : (n : Int) ≤ 9223372036854775807) (h48 : n * i.bytes ≤ 281474976710656) :
    (Builtin.append_ #[t, u] ty #[.slice none 0 0, .int .i64 n]).run P w =
      .ok (.slice (some ⟨w.heap.size, 0, none⟩) n (grownCap w n 0 e)) (w.drew.alloc (.cells (Builtin.zeroCells z.cells n ++ Builtin.zeroCells z.cells (grownCap w n 0 e - n)) e)) := by
  have hn : n ≠ 0 := by omega
  have hw : IntKind.i64.wrap (n : Int) = n := IntWalk.i64_in _ (by omega)
  have hs : ¬ n * i.size = 0 := by
    have := Nat.mul_pos h0 hsz
    omega
  have h63' : ¬ (9223372036854775807 < (n : Int)) := by omega
  have hneg : ¬ ((n : Int) < 0) := by omega
  have h48' : ¬ (281474976710656 < Builtin.nextslicecap n 0 * i.bytes) := by rw [nextslicecap_zero h0]; omega
  have h48n : ¬ ((n : Int) * (i.bytes : Int) > 281474976710656) := by
    have : ((n * i.bytes : Nat) : Int) ≤ 281474976710656 := Int.ofNat_le.2 h48
    rw [Int.natCast_mul] at this; omega
  simp [Builtin.append_, run_underlying ht, run_underlying hu, sizeOf, typeInfo, zeroValue, hi, hz, hn, h63', h48', h48n, hw, hs, asInt, asIntOf, hneg, Question.forced, run_firstCells_none, newRow, grownCap]
theorem run_append_op2 {T U : TypeId} {x y : Operand} {ov tv : Value} [hx : Ev l x ov] [hy : Ev l y tv] {w w' : World} (hr : (Builtin.append_ #[T, U] ty #[ov, tv]).run P w = .ok v w') :
    (execOp (E l).eval ⟨some d, .call { callee := .builtin .append, args := #[x, y], argTypes := #[T, U] }, ty, pos, after, none⟩).run P w = .ok (.value v) w' := by
  have : execOp (E l).eval ⟨some d, .call { callee := .builtin .append, args := #[x, y], argTypes := #[T, U] }, ty, pos, after, none⟩ = (do pure (.value (← Builtin.append_ #[T, U] ty #[ov, tv])) : Sem Next) := by
    unfold execOp
    simp [resolve, invoke, builtin, hx.eq, hy.eq, Pure.pure, Bind.bind, Sem.bind]
  rw [this]
  exact run_value hr
theorem wl_append_zeros {T U k by_ : Nat} {x y : Operand} {n : Int} {m : Nat} {α : Type} {iα : Rep α} {zs : List Value} {z : α} [ho : Op_ P T (List α) repList] [hx : Ev l x (.slice none 0 0)] [hy : Ev l y (.int .i64 n)] [hm : ToN n m] [hT : Sl P T k by_] [hU : I64T P U] [hzs : SlZ P T zs] [hz : Zo α zs z]
    (hn : 1 ≤ n) (hb : n * by_ ≤ 140737488355328) (h : ∀ sv, WL P ops Q w0 rest (l.set d sv) (.ow [sv] (List.replicate m z) :: Γ)) :
    WL P ops Q w0 (⟨some d, .call { callee := .builtin .append, args := #[x, y], argTypes := #[T, U] }, ty, pos, after, none⟩ :: rest) l Γ := by
  intro w hs
  obtain ⟨e, i, z', ht, hi, hk, hbb, hz', hzk, hpos⟩ := hT.ex
  have hzc : z'.cells = zs.toArray := hzs.eq ht hi hz'
  have hsz : zs.length = Rep.sz α := Rep.rd_len (x := z) (Rep.ow_rd (ok' := fun _ => True) (hz.ow (fun _ => True) w) (fun _ _ => trivial) (fun _ _ => trivial))
  have hkk : k = Rep.sz α := by rw [← hsz, ← hzk, hzc]; simp
  have hnm : n = (m : Int) := by rw [← hm.eq, Int.toNat_of_nonneg (by omega)]
  subst hnm
  have hbn : m * by_ ≤ 140737488355328 := Int.ofNat_le.1 (by rw [Int.natCast_mul]; exact hb)
  have hmm : m ≤ 140737488355328 := Nat.le_trans (Nat.le_mul_of_pos_right _ hpos) hbn
  have hr := run_append_zeros (P := P) (w := w) T U ty e i z' ht hU.eq hi hz' m (by omega) (by rw [hk, hkk]; exact Rep.pos) (by omega) (by rw [hbb]; omega)
  refine wl_op (v := _) (w' := _) rfl (run_append_op2 hr) ?_
  rw [E_put]
  refine h _ _ ?_
  have hge := grownCap_ge w m 0 e
  refine Sat.step (Δ := []) (Δ' := [.ow _ _]) hs ⟨rfl, rfl, rfl, by simp, (by first | exact Nat.le_refl _ | exact Nat.le_add_right _ _)⟩ (fun f ok hf hnd _ => ⟨fun b hb _ => Below.heap_alloc w.drew _ _ hb, [w.heap.size], by simp, fun b hb => .inr (by simp at hb; omega), fun ok' _ => ?_⟩)
  refine ⟨[w.heap.size], [], rfl, ?_, rfl⟩
  show Rep.ow _ _ _ _ _
  rw [ow_list]
  refine .inr ⟨w.heap.size, grownCap w m 0 e, _, e, [], (List.replicate m zs).flatten, by simp, rfl, heap_alloc_new w.drew _, by simpa using hge, grownCap_le_maxLen w _ 0 e (by simp only [maxLen]; omega), by simp; omega, ?_, ?_, OwL.replicate (hz.ow _ _) _⟩
  · simp only [Array.size_append, size_zeroCells, hzk, hkk]
    rw [← Nat.add_mul]
    refine Nat.le_of_eq ?_
    congr 1
    omega
  · rw [Array.toList_append, hzc, zeroCells_eq _ _ (by rw [hsz]; exact Rep.pos), List.length_replicate]
    have hl : ((List.replicate m zs).flatten).length = m * Rep.sz α := by simp [hsz]
    rw [← hl]
    exact List.take_left
instance {T U k by_ : Nat} {x y : Operand} {n : Int} {m : Nat} {α : Type} {iα : Rep α} {zs : List Value} {z : α} [ho : Op_ P T (List α) repList] [hx : Ev l x (.slice none 0 0)] [hy : Ev l y (.int .i64 n)] [hm : ToN n m] [hT : Sl P T k by_] [hU : I64T P U] [hzs : SlZ P T zs] [hz : Zo α zs z] :
    RedV (WL P ops Q w0 (⟨some d, .call { callee := .builtin .append, args := #[x, y], argTypes := #[T, U] }, ty, pos, after, none⟩ :: rest) l Γ) (1 ≤ n ∧ n * by_ ≤ 140737488355328) (fun sv => WL P ops Q w0 rest (l.set d sv) (.ow [sv] (List.replicate m z) :: Γ)) := ⟨fun s h => wl_append_zeros s.1 s.2 h⟩

/-! A slice of lists, of which some are shared: it is only read. -/
theorem RdL.shmap {α : Type} [Rep α] {ok : Nat → Prop} {w : World} : ∀ {cells : List Value} {xs : List α}, RdL ok w cells (xs.map Sh.mk) → RdL ok w cells xs
  | _, [], h => h
  | _, _ :: _, ⟨c, d, e, h, h'⟩ => ⟨c, d, e, h, RdL.shmap h'⟩
theorem rd_shmap {α : Type} [Rep α] {ok : Nat → Prop} {w : World} {cs : List Value} {xs : List α} (h : Rep.rd ok w cs (xs.map Sh.mk : List (Sh α))) : Rep.rd ok w cs xs := by
  obtain ⟨a, cap, h1, h2, h3, h4, h5⟩ := h
  simp only [List.length_map] at h1 h2 h3 h4 h5
  exact ⟨a, cap, h1, h2, h3, h4, fun h0 => by
    obtain ⟨b, off, cells, e1, e2, e3, e4⟩ := h5 h0
    exact ⟨b, off, cells, e1, e2, e3, e4.shmap⟩⟩
class FrzL (Γ : List Atom) (gs : List (List Value)) (Δ : outParam (List Atom)) : Prop where
  run : ∀ {w0 w : World}, Sat w0 w Γ → Sat w0 w Δ
instance : FrzL Γ [] Γ := ⟨fun h => h⟩
instance (priority := 500) {g : List Value} {gs : List (List Value)} [h : FrzL Γ gs Ε] : FrzL Γ (g :: gs) Ε := ⟨h.run⟩
instance (priority := 900) {α : Type} {iα : Rep α} {g : List Value} {x : α} {gs : List (List Value)} [h : PullOw α iα Γ g x Δ] [h' : FrzL (.rd g x :: Δ) gs Ε] : FrzL Γ (g :: gs) Ε := ⟨fun hs => h'.run (hs.perm h.perm).share⟩
class ShL (α : Type) [Rep α] (Γ : List Atom) (gs : List (List Value)) (ys : outParam (List α)) : Prop where
  run : OwnL Γ gs (ys.map Sh.mk) Γ
instance {α : Type} [Rep α] : ShL α Γ [] [] := ⟨OwnL.nil⟩
instance {α : Type} {iα : Rep α} {g : List Value} {gs : List (List Value)} {y : α} {ys : List α} [h : HasIm α iα Γ g y] [h' : ShL α Γ gs ys] : ShL α Γ (g :: gs) (y :: ys) := ⟨OwnL.cons own_sh h'.run⟩
instance (priority := 300) {α : Type} {iα : Rep α} {T k by_ N : Nat} {ps : List (Nat × Operand)} {groups : List (List Value)} {ys : List α} {len : Nat} [hO : Op_ P T (List α) repList] [hT : Sl P T k by_] [hp0 : PartsL Γ l k 0 ps groups] [hf : FrzL Γ groups Δ] [hp : PartsL Δ l k 0 ps groups] [hk : SzIs α k] [ho : ShL α Δ groups ys] [hl : LenIs ys len] [hn : NatEq len N] :
    RedV (WL P ops Q w0 (⟨some d, .buildSlice T N ps.toArray, ty, pos, after, none⟩ :: rest) l Γ) (N * k ≤ 16777216) (fun sv => WL P ops Q w0 rest (l.set d sv) (.rd [sv] ys :: Δ)) := ⟨fun s h w hs => by
  refine wl_buildSlice (α := Sh α) (k := k) (hT := hT) (hp := hp) ho.run (by rw [hk.eq]; rfl) (by rw [List.length_map, ← hn.eq, ← hl.eq]) s (fun sv w' hs' => ?_) w (hf.run hs)
  refine h sv w' ?_
  obtain ⟨hb, F, hnd, hlt, f, g, e, h1, h2⟩ := hs'.share
  exact ⟨hb, F, hnd, hlt, f, g, e, ⟨h1.1, rd_shmap h1.2⟩, h2⟩⟩
end Go.Eng
namespace Go.Eng
open Go Go.RowKit
set_option linter.unusedVariables false
set_option linter.unusedSimpArgs false
set_option synthInstance.maxHeartbeats 400000
set_option synthInstance.maxSize 1000

/-- Three lists, one behind the other. -/
class App3 (a b c : List Value) (o : outParam (List Value)) : Prop where
  eq : a ++ b ++ c = o
instance {b : List Value} : App3 [] b [] b := ⟨by simp⟩
instance {c : List Value} : App3 [] [] c c := ⟨by simp⟩
instance (priority := 900) {x : Value} {b c o : List Value} [h : App3 [] b c o] : App3 [] (x :: b) c (x :: o) := ⟨by have := h.eq; simpa using this⟩
instance (priority := 900) {x : Value} {a b c o : List Value} [h : App3 a b c o] : App3 (x :: a) b c (x :: o) := ⟨by have := h.eq; simpa using this⟩

instance (priority := 1500) SubE.nilr {Γ Δ : List Atom} {α : Type} {iα : Rep α} [h : SubE Γ Δ] : SubE Γ (@Atom.rd (List α) repList [.slice none 0 0] [] :: Δ) := ⟨fun hs => by
  obtain ⟨G, H, hGH, hD⟩ := h.get hs
  exact ⟨G, H, hGH, [], G, rfl, ⟨rfl, none, 0, rfl, by simp, by simp [maxLen], by simp, fun h => by simp at h⟩, hD⟩⟩

section q
variable {P : Program} {ops : Array Oper} {Q : Exit → Act → World → Prop} {w0 : World} {rest : List Oper} {l l' : List Value} {Γ Γb Δ Ε : List Atom} {ty : TypeId} {v : Value} {pos : String} {after : Array Edge} {d : Nat}

theorem pu_makeFunc {f : Fn} {xs ys : List Operand} {vs us : List Value} [hx : EvL l xs vs] [hy : EvL l ys us] : Pu P w0 l Γ (.makeFunc f xs.toArray ys.toArray) ty (.func f vs.toArray us.toArray) := fun w _ o ho _ => by
  have h1 : Array.map (E l).eval xs.toArray = vs.toArray := by simp [hx.eq]
  have h2 : Array.map (E l).eval ys.toArray = us.toArray := by simp [hy.eq]
  simp only [execOp, ho, h1, h2]
  rfl
instance {f : Fn} {xs ys : List Operand} {vs us : List Value} [hx : EvL l xs vs] [hy : EvL l ys us] : PuC P l Γ (.makeFunc f xs.toArray ys.toArray) ty (.func f vs.toArray us.toArray) := ⟨fun _ => pu_makeFunc⟩

/-- Field i of struct type T is one cell, at place k. -/
class FiS (P : Program) (T : TypeId) (i : Nat) (k : outParam Nat) : Prop where
  ex : ∃ fields fld, P.underlying T = some (.struct fields) ∧ fields[i]? = some fld ∧ fld.offset = k ∧ ∀ w, (isAgg fld.type).run P w = .ok false w
theorem pu_field {T : TypeId} {x : Operand} {i k : Nat} {cs : List Value} [h : Ev l x (.agg cs.toArray)] [hf : FiS P T i k] [hv : Ge cs k v] : Pu P w0 l Γ (.field T x i) ty v := fun w _ o ho _ => by
  obtain ⟨fields, fld, h1, h2, h3, h4⟩ := hf.ex
  have h5 : cs[fld.offset]? = some v := by rw [h3]; exact hv.eq
  simp only [execOp, ho, h.eq]
  refine run_value (f := Next.value) (s := Instr.field T (.agg cs.toArray) i) ?_
  simp [Instr.field, run_underlying h1, h2, asAgg, part, h4, h5, Sem.run_bind]
instance {T : TypeId} {x : Operand} {i k : Nat} {cs : List Value} [h : Ev l x (.agg cs.toArray)] [hf : FiS P T i k] [hv : Ge cs k v] : PuC P l Γ (.field T x i) ty v := ⟨fun _ => pu_field (k := k) (cs := cs)⟩

theorem run_callv {x : Operand} {xs : List Operand} {vs fs cs as : List Value} {f : FuncId} {ts : Array TypeId} {dst : Option Tmp} {g : Option (Nat × Bool)} [hv : Ev l x (.func (.func f) fs.toArray cs.toArray)] [hx : EvL l xs vs] [ha : App3 fs vs cs as] [hf : IsFn P f] (w : World) :
    (execOp (E l).eval ⟨dst, .call { callee := .value x, args := xs.toArray, argTypes := ts }, ty, pos, after, g⟩).run P w = .ok (.enter f as.toArray) w := by
  have := hf.run as.toArray w
  simp only [execOp, resolve, Sem.run_bind]
  have he : Array.map (E l).eval xs.toArray = vs.toArray := by simp [hx.eq]
  rw [he, hv.eq]
  have h3 : fs ++ (vs ++ cs) = as := by rw [← ha.eq]; simp
  simpa [Deferred.ofValue, invoke, h3] using this

theorem wl_callv {x : Operand} {f : FuncId} {xs : List Operand} {vs fs cs as : List Value} {ts : Array TypeId} {ρ : Type} {r : ρ → Value} {Γ' : ρ → List Atom} [hv : Ev l x (.func (.func f) fs.toArray cs.toArray)] [hx : EvL l xs vs] [ha : App3 fs vs cs as] [hf : IsFn P f] (hc : CJ P f as w0 Γ r Γ')
    (h : ∀ p, WL P ops Q w0 rest (l.set d (r p)) (Γ' p)) : WL P ops Q w0 (⟨some d, .call { callee := .value x, args := xs.toArray, argTypes := ts }, ty, pos, after, none⟩ :: rest) l Γ := by
  intro w hs
  refine wpList_plain rfl fun K hK => ?_
  unfold Oper.wp
  rw [run_callv (fs := fs) (cs := cs) w, Oper.upon_enter]
  refine (hc w hs).mono ?_
  rintro e w' ⟨p, rfl, hs'⟩
  show K ((E l).put (some d) (r p)) w'
  rw [E_put]
  exact hK _ _ (h p w' hs')
theorem wl_callv0 {x : Operand} {f : FuncId} {xs : List Operand} {vs fs cs as : List Value} {ts : Array TypeId} {ρ : Type} {r : ρ → Value} {Γ' : ρ → List Atom} [hv : Ev l x (.func (.func f) fs.toArray cs.toArray)] [hx : EvL l xs vs] [ha : App3 fs vs cs as] [hf : IsFn P f] (hc : CJ P f as w0 Γ r Γ')
    (h : ∀ p, WL P ops Q w0 rest l (Γ' p)) : WL P ops Q w0 (⟨none, .call { callee := .value x, args := xs.toArray, argTypes := ts }, ty, pos, after, none⟩ :: rest) l Γ := by
  intro w hs
  refine wpList_plain rfl fun K hK => ?_
  unfold Oper.wp
  rw [run_callv (fs := fs) (cs := cs) w, Oper.upon_enter]
  refine (hc w hs).mono ?_
  rintro e w' ⟨p, rfl, hs'⟩
  show K ((E l).put none (r p)) w'
  rw [E_put_none]
  exact hK _ _ (h p w' hs')

/-- The value is a closure. -/
class IsFv (v : Value) (f : outParam FuncId) (fs cs : outParam (List Value)) : Prop where
  eq : v = .func (.func f) fs.toArray cs.toArray
instance {f : FuncId} {fs cs : List Value} : IsFv (.func (.func f) fs.toArray cs.toArray) f fs cs := ⟨rfl⟩
instance {f : FuncId} : IsFv (.func (.func f) #[] #[]) f [] [] := ⟨rfl⟩
instance {n : Tmp} {f : FuncId} {xs : List Operand} {vs fs cs as : List Value} {ts : Array TypeId} {S : Prop} {ρ : Type} {r : ρ → Value} {Γ' : ρ → List Atom} [hv : Ev l (.tmp n) v] [hk : IsFv v f fs cs] [hx : EvL l xs vs] [ha : App3 fs vs cs as] [hc : CtrC P f as Γ S ρ r Γ'] [hf : IsFn P f] :
    RedC (WL P ops Q w0 (⟨some d, .call { callee := .value (.tmp n), args := xs.toArray, argTypes := ts }, ty, pos, after, none⟩ :: rest) l Γ) S ρ (fun p => WL P ops Q w0 rest (l.set d (r p)) (Γ' p)) :=
  ⟨fun s h => wl_callv (fs := fs) (cs := cs) (hv := ⟨hv.eq.trans hk.eq⟩) (hc.run s w0) h⟩
instance {n : Tmp} {f : FuncId} {xs : List Operand} {vs fs cs as : List Value} {ts : Array TypeId} {S : Prop} {ρ : Type} {r : ρ → Value} {Γ' : ρ → List Atom} [hv : Ev l (.tmp n) v] [hk : IsFv v f fs cs] [hx : EvL l xs vs] [ha : App3 fs vs cs as] [hc : CtrC P f as Γ S ρ r Γ'] [hf : IsFn P f] :
    RedC (WL P ops Q w0 (⟨none, .call { callee := .value (.tmp n), args := xs.toArray, argTypes := ts }, ty, pos, after, none⟩ :: rest) l Γ) S ρ (fun p => WL P ops Q w0 rest l (Γ' p)) :=
  ⟨fun s h => wl_callv0 (fs := fs) (cs := cs) (hv := ⟨hv.eq.trans hk.eq⟩) (hc.run s w0) h⟩
end q

/-! ### Lists of what is shared -/
instance {α : Type} [Inhabited α] : Inhabited (Sh α) := ⟨⟨default⟩⟩
instance {α : Type} [Rep α] {k : Nat} [h : SzIs α k] : SzIs (Sh α) k := ⟨h.eq⟩
theorem RdL.sh {β : Type} [Rep β] {ok : Nat → Prop} {w : World} : ∀ {cells : List Value} {ys : List β}, RdL ok w cells ys → OwL ok w [] cells (ys.map Sh.mk)
  | _, [], h => ⟨rfl, h⟩
  | _, _ :: _, ⟨c, d, e, h, h'⟩ => ⟨[], [], c, d, rfl, e, ⟨rfl, h⟩, RdL.sh h'⟩
section sh
variable {P : Program} {ops : Array Oper} {Q : Exit → Act → World → Prop} {w0 : World} {rest : List Oper} {l l' : List Value} {Γ Γb Δ Ε : List Atom} {ty : TypeId} {v : Value} {pos : String} {after : Array Edge} {d : Nat}
theorem wl_append_sh {T k by_ : Nat} {x y : Operand} {ov tv : Value} {β : Type} {iβ : Rep β} {xs : List (Sh β)} {ys : List β} [hx : Ev l x ov] [hy : Ev l y tv] [hT : Sl P T k by_] [h1 : PullOw (List (Sh β)) repList Γ [ov] xs Δ] [h2 : HasIm (List β) repList Δ [tv] ys]
    (hk : k = Rep.sz β) (hbytes : (xs.length + ys.length) * by_ ≤ 140737488355328) (h : ∀ sv, WL P ops Q w0 rest (l.set d sv) (.ow [sv] (xs ++ ys.map Sh.mk) :: Δ)) :
    WL P ops Q w0 (⟨some d, .call { callee := .builtin .append, args := #[x, y], argTypes := #[T, T] }, ty, pos, after, none⟩ :: rest) l Γ := by
  intro w hs
  have hs1 : Sat w0 w ([.ow [ov] xs] ++ Δ) := hs.perm h1.perm
  obtain ⟨hb, F, hn, hl, f, g, rfl, hf, hrest⟩ := hs1
  obtain ⟨a, c, hc, _, _, _, hrd⟩ := h2.get hrest
  simp only [List.cons.injEq, and_true] at hc
  subst hc
  obtain ⟨news, hsrc, hyo⟩ : ∃ news, (0 < (ys.map Sh.mk).length → ∃ b off, a = some (⟨b, off, none⟩ : Addr) ∧ CellsAt w b off news) ∧ OwL (· ∉ f ++ g) w [] news (ys.map Sh.mk) := by
    by_cases h0 : 0 < ys.length
    · obtain ⟨b, off, cells, rfl, _, hca, hr⟩ := hrd h0
      exact ⟨cells, fun _ => ⟨b, off, rfl, hca⟩, RdL.sh hr⟩
    · have : ys = [] := List.eq_nil_of_length_eq_zero (by omega)
      subst this
      exact ⟨[], by simp, rfl, rfl⟩
  obtain ⟨v', w', hr, ho, hsame, fn, hfn, hnew, hrep⟩ := append_core (P := P) (T := T) (ty := ty) (c := c) (ys := ys.map Sh.mk) (show k = Rep.sz (Sh β) from hk) hf hsrc hyo (by simpa using (List.nodup_append.1 hn).1) (fun b hb hok => hok (by simp at hb; simp [hb])) (by rw [List.length_map]; exact hbytes)
  rw [List.length_map] at hr
  refine wl_op rfl (run_append_op hr) ?_
  rw [E_put]
  refine h _ _ ?_
  exact Sat.step' (Δ' := [.ow [v'] (xs ++ ys.map Sh.mk)]) (Γ := Δ) hb hn hl hrest ho hsame fn hfn
    (fun b hb => (hnew b hb).imp (fun h => by simpa using h) id) (fun ok' hok' => ⟨fn, [], by simp, hrep ok' hok', rfl⟩)
instance (priority := 1200) {T k by_ : Nat} {x y : Operand} {ov tv : Value} {β : Type} {iβ : Rep β} {xs : List (Sh β)} {ys : List β} [hx : Ev l x ov] [hy : Ev l y tv] [hT : Sl P T k by_] [h1 : PullOw (List (Sh β)) repList Γ [ov] xs Δ] [h2 : HasIm (List β) repList Δ [tv] ys] [hk : SzIs β k] :
    RedV (WL P ops Q w0 (⟨some d, .call { callee := .builtin .append, args := #[x, y], argTypes := #[T, T] }, ty, pos, after, none⟩ :: rest) l Γ) ((xs.length + ys.length) * by_ ≤ 140737488355328) (fun sv => WL P ops Q w0 rest (l.set d sv) (.ow [sv] (xs ++ ys.map Sh.mk) :: Δ)) := ⟨fun s h => wl_append_sh hk.eq s h⟩
/-- What is empty is so of any type of that size. -/
theorem wc_ow0 {α β : Type} {iα : Rep α} {iβ : Rep β} {c : Code} (sv : Value) (hz : Rep.sz α = Rep.sz β) [hp : PullOw (List α) repList Γ [sv] [] Δ] (h : WC P Q w0 c l (.ow [sv] ([] : List β) :: Δ)) : WC P Q w0 c l Γ := fun w hs => by
  refine h w (SepEnt.sat (fun {ok w F} hs => ?_) (hs.perm hp.perm))
  obtain ⟨f, g, e, h1, h2⟩ := hs
  refine ⟨F, .refl _, f, g, e, ?_, h2⟩
  have h1 := ow_list.1 h1
  refine ow_list.2 ?_
  rcases h1 with ⟨a, b, c⟩ | ⟨g, cap, cur, e, G, cells, h1, h2, h3, h4, h5, h6, h7, h8, h9⟩
  · exact .inl ⟨a, rfl, c⟩
  · exact .inr ⟨g, cap, cur, e, G, cells, h1, h2, h3, by simp, h5, by simp, by rw [← hz]; exact h7, by simpa using h8, h9⟩
theorem RdL.unsh {β : Type} [Rep β] {ok : Nat → Prop} {w : World} : ∀ {cells : List Value} {ys : List β}, RdL ok w cells (ys.map Sh.mk) → RdL ok w cells ys
  | _, [], h => h
  | _, _ :: _, ⟨c, d, e, h, h'⟩ => ⟨c, d, e, h, RdL.unsh h'⟩
theorem rd_unsh {β : Type} [Rep β] {ok : Nat → Prop} {w : World} {cs : List Value} {ys : List β} (h : Rep.rd (α := List (Sh β)) ok w cs (ys.map Sh.mk)) : Rep.rd (α := List β) ok w cs ys := by
  obtain ⟨a, cap, h1, h2, h3, h4, h5⟩ := h
  rw [List.length_map] at h1 h2 h4 h5
  refine ⟨a, cap, h1, h2, h3, h4, fun hp => ?_⟩
  obtain ⟨b, off, cells, e1, e2, e3, e4⟩ := h5 hp
  exact ⟨b, off, cells, e1, e2, e3, RdL.unsh e4⟩
theorem ent_unsh {β : Type} {iβ : Rep β} (sv : Value) {ys : List β} [hp : PullOw (List (Sh β)) repList Γ [sv] (ys.map Sh.mk) Δ] (h : Ent w0 (.rd [sv] ys :: Δ) Ε) : Ent w0 Γ Ε := fun w hs => by
  have h1 := (hs.perm hp.perm).share
  refine h w ?_
  obtain ⟨hb, F, hn, hl, f, g, rfl, hf, hrest⟩ := h1
  exact ⟨hb, _, hn, hl, f, g, rfl, ⟨hf.1, rd_unsh hf.2⟩, hrest⟩
end sh

/-! ### Slices of functions -/
structure Fv where
  v : Value
instance : Inhabited Fv := ⟨⟨.nilFunc⟩⟩
instance repFv : Rep Fv where
  sz := 1
  rd _ _ cs x := cs = [x.v] ∧ x.v.oneCell' = true
  ow _ _ F cs x := F = [] ∧ cs = [x.v] ∧ x.v.oneCell' = true
  pos := by decide
  rd_len := by rintro _ _ _ _ ⟨rfl, _⟩; rfl
  rd_one := by rintro _ _ _ _ ⟨rfl, h⟩; simp [h]
  rd_mono := fun h _ => h
  ow_mono := fun h _ _ => h
  ow_rd := fun h _ _ => h.2
  ow_lt := by rintro _ _ _ _ _ ⟨rfl, _⟩ b hb; cases hb
instance : Flat Fv := ⟨trivial⟩
instance : SzIs Fv 1 := ⟨rfl⟩
/-- The type is one of slices of functions. -/
class FvS (P : Program) (T : TypeId) : Prop where
  t : True
section fv
variable {P : Program} {ops : Array Oper} {Q : Exit → Act → World → Prop} {w0 : World} {rest : List Oper} {l l' : List Value} {Γ Γb Δ Ε : List Atom} {ty : TypeId} {v : Value} {pos : String} {after : Array Edge} {d : Nat}
instance {f : Fn} {a b : Array Value} : OwnC Fv Γ [.func f a b] ⟨.func f a b⟩ Γ True := ⟨fun _ => fun {_ _ F} hs => ⟨F, .refl _, [], F, rfl, ⟨rfl, rfl, rfl⟩, hs⟩⟩
instance {T k by_ N m : Nat} {ps : List (Nat × Operand)} {groups : List (List Value)} {xs : List Fv} {S : Prop} [hF : FvS P T] [hT : Sl P T k by_] [hp : PartsL Γ l k 0 ps groups] [ho : OwnLC Fv Γ groups xs Δ S] [hk : SzIs Fv k] [hl : LenIs xs m] [hn : NatEq m N] :
    RedV (WL P ops Q w0 (⟨some d, .buildSlice T N ps.toArray, ty, pos, after, none⟩ :: rest) l Γ) (S ∧ N * k ≤ 16777216) (fun sv => WL P ops Q w0 rest (l.set d sv) (.ow [sv] xs :: Δ)) :=
  ⟨fun s h => wl_buildSlice (hT := hT) (hp := hp) (ho.run s.1) hk.eq (hn.eq ▸ hl.eq.symm) s.2 h⟩
theorem pu_load_fv {T : TypeId} {x : Operand} {sv : Value} {n : Int} {xs : List Fv} [h : Ev l x (.pointer (some (elemA sv n 1)))] [hT : Sc P T] [hr : HasRd (List Fv) repList Γ [sv] xs]
    (hi : 0 ≤ n ∧ n < xs.length) : Pu P w0 l Γ (.load T x) ty (xs.getD n.toNat default).v :=
  pu_of (s := Instr.loadAt T (.pointer (some (elemA sv n 1)))) (fun o ho _ => by unfold execOp; rw [ho]; simp only [h.eq]) (fun w hs => by
    obtain ⟨a, cap, b, off, p, c, s, rfl, _, _, hca, hp, he, hrd⟩ := elem_cells (hs.rd (hr := hr)) hi.1 hi.2
    have hrd' : c = [_] := hrd.1
    subst hrd'
    have he' : elemA (.slice (some ⟨b, off, none⟩) xs.length cap) n 1 = ⟨b, off + p.length, none⟩ := he
    have := hca.part 0 (by simp)
    simp only [Nat.add_zero, List.getElem?_cons_zero] at this
    rw [he', List.getD_eq_getElem?_getD, List.getElem?_eq_getElem (by omega), Option.getD_some]
    simp [Instr.loadAt, Instr.sureAddr, loadVar, Sem.run_bind, hT.agg, load, Sem.run, this])
instance {T : TypeId} {x : Operand} {sv : Value} {n : Int} {m : Nat} {xs : List Fv} [h : Ev l x (.pointer (some (elemA sv n 1)))] [hm : ToN n m] [hT : Sc P T] [hr : HasRd (List Fv) repList Γ [sv] xs] : PuS P l Γ (.load T x) ty (xs.getD m default).v (0 ≤ n ∧ n < xs.length) := ⟨fun h _ => hm.eq ▸ pu_load_fv h⟩
/-- What is left of the elements of a list whose row is frozen: they are owned one by one. -/
structure Rst (α : Type) (n : Nat) where
  xs : List α
instance repRst {α : Type} [Rep α] {n : Nat} : Rep (Rst α n) where
  sz := n * Rep.sz α + 1
  rd ok w cs x := ∃ cells, cs = cells ++ [.bool true] ∧ x.xs.length = n ∧ RdL ok w cells x.xs
  ow ok w F cs x := ∃ cells, cs = cells ++ [.bool true] ∧ x.xs.length = n ∧ OwL ok w F cells x.xs
  pos := Nat.succ_pos _
  rd_len := by rintro _ _ _ _ ⟨c, rfl, h, h'⟩; simp [h'.len, h]
  rd_one := by
    rintro _ _ _ _ ⟨c, rfl, h, h'⟩ x hx
    rcases List.mem_append.1 hx with hx | hx
    · exact h'.one x hx
    · rw [List.mem_singleton.1 hx]; rfl
  rd_mono := by rintro _ _ _ _ _ _ ⟨c, e, h, h'⟩ hm; exact ⟨c, e, h, h'.mono hm⟩
  ow_mono := by rintro _ _ _ _ _ _ _ ⟨c, e, h, h'⟩ hf hm; exact ⟨c, e, h, h'.mono hm hf⟩
  ow_rd := by rintro _ _ _ _ _ _ ⟨c, e, h, h'⟩ ho hf; exact ⟨c, e, h, h'.rd ho hf⟩
  ow_lt := by rintro _ _ _ _ _ ⟨c, e, h, h'⟩ b hb; exact h'.lt b hb
end fv
end Go.Eng
