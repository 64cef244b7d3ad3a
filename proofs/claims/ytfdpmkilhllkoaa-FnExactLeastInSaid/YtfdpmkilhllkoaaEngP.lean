/- The rules of the walk: what slices.Grow does with nil. -/
import Derived.Test.YtfdpmkilhllkoaaEngO
namespace Go.Eng
open Go Go.RowKit
set_option linter.unusedVariables false
set_option linter.unusedSimpArgs false
variable {P : Program} {ops : Array Oper} {Q : Exit → Act → World → Prop} {w0 : World} {rest : List Oper} {l l' : List Value} {Γ Γb Δ Ε : List Atom} {ty : TypeId} {v : Value} {pos : String} {after : Array Edge} {d : Nat} {x y : Operand}

instance {T k b n c : Nat} {a : Option Addr} [h : Ev l x (.slice a n c)] [ht : Sl P T k b] : PuC P l Γ (.call { callee := .builtin .cap, args := #[x], argTypes := #[T] }) ty (.int .i64 c) := ⟨fun w0 => by
  obtain ⟨e, i, z, ht, _⟩ := ht.ex
  refine pu_of (s := Builtin.cap_ #[T] ty #[.slice a n c]) (fun o ho h2 => ?_) (fun w hs => ?_)
  · unfold execOp
    rw [ho]
    simp [resolve, invoke, builtin, h.eq, h2, Pure.pure, Bind.bind, Sem.bind]
  · simp [Builtin.cap_, run_underlying ht, goInt]⟩
instance (priority := 1200) {T k b : Nat} {kk : IntKind} {n : Int} [hx : Ev l x (.slice none 0 0)] [hy : Ev l y (.int kk n)] [hn : ToN n 0] [hT : Sl P T k b] : PuS P l Γ (.slice T x none (some y) none) ty (.slice none 0 0) (n = 0) := ⟨fun h0 w0 => by
  subst h0
  obtain ⟨e, i, z, ht, hi, _⟩ := hT.ex
  refine pu_of (s := Instr.sliceAt T (.slice none 0 0) none (some (.int kk 0)) none) (fun o ho h2 => ?_) (fun w hs => ?_)
  · unfold execOp
    rw [ho]
    simp [hx.eq, hy.eq]
  · exact run_slice (lo := 0) (hi := 0) ht hi (.inl ⟨rfl, rfl⟩) (.inr ⟨kk, rfl⟩) (by omega) (by omega) w⟩
theorem zeroCells_eq (zs : List Value) (n : Nat) (h : 0 < zs.length) : (Builtin.zeroCells zs.toArray n).toList = (List.replicate n zs).flatten := by
  rw [← madeCells_take zs zs.length n n rfl h (Nat.le_refl _)]
  refine (List.take_of_length_le ?_).symm
  rw [Array.length_toList, size_zeroCells]
  simp
theorem run_append_zeros {w : World} (t u ty e : TypeId) (i : TypeInfo) (z : Value) (ht : P.underlying t = some (.slice e)) (hu : P.underlying u = some (.int .i64)) (hi : P.info? e = some i) (hz : i.zero = some z)
    (n : Nat) (h0 : 0 < n) (hsz : 0 < i.size) (h63 : (n : Int) ≤ 9223372036854775807) (h48 : n * i.bytes ≤ 281474976710656) :
    (Builtin.append_ #[t, u] ty #[.slice none 0 0, .int .i64 n]).run P w =
      .ok (.slice (some ⟨w.heap.size, 0, none⟩) n (grownCap w n 0 e)) (w.drew.alloc (.cells (Builtin.zeroCells z.cells n ++ Builtin.zeroCells z.cells (grownCap w n 0 e - n)) e)) := by
  have hn : n ≠ 0 := by omega
  have hw : IntKind.i64.wrap (n : Int) = n := IntWalk.i64_in _ (by omega)
  have hs : ¬ n * i.size = 0 := by
    have := Nat.mul_pos h0 hsz
    omega
  have h63' : ¬ (9223372036854775807 < (n : Int)) := by omega
  have hneg : ¬ ((n : Int) < 0) := by omega
  have h48' : ¬ (281474976710656 < Builtin.nextslicecap n 0 * i.bytes) := by rw [nextslicecap_zero h0]; omega
  have h48n : ¬ ((n : Int) * (i.bytes : Int) > 281474976710656) := by
    have : ((n * i.bytes : Nat) : Int) ≤ 281474976710656 := Int.ofNat_le.2 h48
    rw [Int.natCast_mul] at this; omega
  simp [Builtin.append_, run_underlying ht, run_underlying hu, sizeOf, typeInfo, zeroValue, hi, hz, hn, h63', h48', h48n, hw, hs, asInt, asIntOf, hneg, Question.forced, run_firstCells_none, newRow, grownCap]
theorem run_append_op2 {T U : TypeId} {x y : Operand} {ov tv : Value} [hx : Ev l x ov] [hy : Ev l y tv] {w w' : World} (hr : (Builtin.append_ #[T, U] ty #[ov, tv]).run P w = .ok v w') :
    (execOp (E l).eval ⟨some d, .call { callee := .builtin .append, args := #[x, y], argTypes := #[T, U] }, ty, pos, after, none⟩).run P w = .ok (.value v) w' := by
  have : execOp (E l).eval ⟨some d, .call { callee := .builtin .append, args := #[x, y], argTypes := #[T, U] }, ty, pos, after, none⟩ = (do pure (.value (← Builtin.append_ #[T, U] ty #[ov, tv])) : Sem Next) := by
    unfold execOp
    simp [resolve, invoke, builtin, hx.eq, hy.eq, Pure.pure, Bind.bind, Sem.bind]
  rw [this]
  exact run_value hr
theorem wl_append_zeros {T U k by_ : Nat} {x y : Operand} {n : Int} {m : Nat} {α : Type} {iα : Rep α} {zs : List Value} {z : α} [ho : Op_ P T (List α) repList] [hx : Ev l x (.slice none 0 0)] [hy : Ev l y (.int .i64 n)] [hm : ToN n m] [hT : Sl P T k by_] [hU : I64T P U] [hzs : SlZ P T zs] [hz : Zo α zs z]
    (hn : 1 ≤ n) (hb : n * by_ ≤ 140737488355328) (h : ∀ sv, WL P ops Q w0 rest (l.set d sv) (.ow [sv] (List.replicate m z) :: Γ)) :
    WL P ops Q w0 (⟨some d, .call { callee := .builtin .append, args := #[x, y], argTypes := #[T, U] }, ty, pos, after, none⟩ :: rest) l Γ := by
  intro w hs
  obtain ⟨e, i, z', ht, hi, hk, hbb, hz', hzk, hpos⟩ := hT.ex
  have hzc : z'.cells = zs.toArray := hzs.eq ht hi hz'
  have hsz : zs.length = Rep.sz α := Rep.rd_len (x := z) (Rep.ow_rd (ok' := fun _ => True) (hz.ow (fun _ => True) w) (fun _ _ => trivial) (fun _ _ => trivial))
  have hkk : k = Rep.sz α := by rw [← hsz, ← hzk, hzc]; simp
  have hnm : n = (m : Int) := by rw [← hm.eq, Int.toNat_of_nonneg (by omega)]
  subst hnm
  have hbn : m * by_ ≤ 140737488355328 := Int.ofNat_le.1 (by rw [Int.natCast_mul]; exact hb)
  have hmm : m ≤ 140737488355328 := Nat.le_trans (Nat.le_mul_of_pos_right _ hpos) hbn
  have hr := run_append_zeros (P := P) (w := w) T U ty e i z' ht hU.eq hi hz' m (by omega) (by rw [hk, hkk]; exact Rep.pos) (by omega) (by rw [hbb]; omega)
  refine wl_op (v := _) (w' := _) rfl (run_append_op2 hr) ?_
  rw [E_put]
  refine h _ _ ?_
  have hge := grownCap_ge w m 0 e
  refine Sat.step (Δ := []) (Δ' := [.ow _ _]) hs ⟨rfl, rfl, rfl, by simp⟩ (fun f ok hf hnd _ => ⟨fun b hb _ => Below.heap_alloc w.drew _ _ hb, [w.heap.size], by simp, fun b hb => .inr (by simp at hb; omega), fun ok' _ => ?_⟩)
  refine ⟨[w.heap.size], [], rfl, ?_, rfl⟩
  show Rep.ow _ _ _ _ _
  rw [ow_list]
  refine .inr ⟨w.heap.size, grownCap w m 0 e, _, e, [], (List.replicate m zs).flatten, by simp, rfl, heap_alloc_new w.drew _, by simpa using hge, grownCap_le_maxLen w _ 0 e (by simp only [maxLen]; omega), by simp; omega, ?_, ?_, OwL.replicate (hz.ow _ _) _⟩
  · simp only [Array.size_append, size_zeroCells, hzk, hkk]
    rw [← Nat.add_mul]
    refine Nat.le_of_eq ?_
    congr 1
    omega
  · rw [Array.toList_append, hzc, zeroCells_eq _ _ (by rw [hsz]; exact Rep.pos), List.length_replicate]
    have hl : ((List.replicate m zs).flatten).length = m * Rep.sz α := by simp [hsz]
    rw [← hl]
    exact List.take_left
instance {T U k by_ : Nat} {x y : Operand} {n : Int} {m : Nat} {α : Type} {iα : Rep α} {zs : List Value} {z : α} [ho : Op_ P T (List α) repList] [hx : Ev l x (.slice none 0 0)] [hy : Ev l y (.int .i64 n)] [hm : ToN n m] [hT : Sl P T k by_] [hU : I64T P U] [hzs : SlZ P T zs] [hz : Zo α zs z] :
    RedV (WL P ops Q w0 (⟨some d, .call { callee := .builtin .append, args := #[x, y], argTypes := #[T, U] }, ty, pos, after, none⟩ :: rest) l Γ) (1 ≤ n ∧ n * by_ ≤ 140737488355328) (fun sv => WL P ops Q w0 rest (l.set d sv) (.ow [sv] (List.replicate m z) :: Γ)) := ⟨fun s h => wl_append_zeros s.1 s.2 h⟩

/-! A slice of lists, of which some are shared: it is only read. -/
theorem RdL.shmap {α : Type} [Rep α] {ok : Nat → Prop} {w : World} : ∀ {cells : List Value} {xs : List α}, RdL ok w cells (xs.map Sh.mk) → RdL ok w cells xs
  | _, [], h => h
  | _, _ :: _, ⟨c, d, e, h, h'⟩ => ⟨c, d, e, h, RdL.shmap h'⟩
theorem rd_shmap {α : Type} [Rep α] {ok : Nat → Prop} {w : World} {cs : List Value} {xs : List α} (h : Rep.rd ok w cs (xs.map Sh.mk : List (Sh α))) : Rep.rd ok w cs xs := by
  obtain ⟨a, cap, h1, h2, h3, h4, h5⟩ := h
  simp only [List.length_map] at h1 h2 h3 h4 h5
  exact ⟨a, cap, h1, h2, h3, h4, fun h0 => by
    obtain ⟨b, off, cells, e1, e2, e3, e4⟩ := h5 h0
    exact ⟨b, off, cells, e1, e2, e3, e4.shmap⟩⟩
class FrzL (Γ : List Atom) (gs : List (List Value)) (Δ : outParam (List Atom)) : Prop where
  run : ∀ {w0 w : World}, Sat w0 w Γ → Sat w0 w Δ
instance : FrzL Γ [] Γ := ⟨fun h => h⟩
instance (priority := 500) {g : List Value} {gs : List (List Value)} [h : FrzL Γ gs Ε] : FrzL Γ (g :: gs) Ε := ⟨h.run⟩
instance (priority := 900) {α : Type} {iα : Rep α} {g : List Value} {x : α} {gs : List (List Value)} [h : PullOw α iα Γ g x Δ] [h' : FrzL (.rd g x :: Δ) gs Ε] : FrzL Γ (g :: gs) Ε := ⟨fun hs => h'.run (hs.perm h.perm).share⟩
class ShL (α : Type) [Rep α] (Γ : List Atom) (gs : List (List Value)) (ys : outParam (List α)) : Prop where
  run : OwnL Γ gs (ys.map Sh.mk) Γ
instance {α : Type} [Rep α] : ShL α Γ [] [] := ⟨OwnL.nil⟩
instance {α : Type} {iα : Rep α} {g : List Value} {gs : List (List Value)} {y : α} {ys : List α} [h : HasIm α iα Γ g y] [h' : ShL α Γ gs ys] : ShL α Γ (g :: gs) (y :: ys) := ⟨OwnL.cons own_sh h'.run⟩
instance (priority := 300) {α : Type} {iα : Rep α} {T k by_ N : Nat} {ps : List (Nat × Operand)} {groups : List (List Value)} {ys : List α} {len : Nat} [hO : Op_ P T (List α) repList] [hT : Sl P T k by_] [hp0 : PartsL Γ l k 0 ps groups] [hf : FrzL Γ groups Δ] [hp : PartsL Δ l k 0 ps groups] [hk : SzIs α k] [ho : ShL α Δ groups ys] [hl : LenIs ys len] [hn : NatEq len N] :
    RedV (WL P ops Q w0 (⟨some d, .buildSlice T N ps.toArray, ty, pos, after, none⟩ :: rest) l Γ) (N * k ≤ 16777216) (fun sv => WL P ops Q w0 rest (l.set d sv) (.rd [sv] ys :: Δ)) := ⟨fun s h w hs => by
  refine wl_buildSlice (α := Sh α) (k := k) (hT := hT) (hp := hp) ho.run (by rw [hk.eq]; rfl) (by rw [List.length_map, ← hn.eq, ← hl.eq]) s (fun sv w' hs' => ?_) w (hf.run hs)
  refine h sv w' ?_
  obtain ⟨hb, F, hnd, hlt, f, g, e, h1, h2⟩ := hs'.share
  exact ⟨hb, F, hnd, hlt, f, g, e, ⟨h1.1, rd_shmap h1.2⟩, h2⟩⟩
end Go.Eng
