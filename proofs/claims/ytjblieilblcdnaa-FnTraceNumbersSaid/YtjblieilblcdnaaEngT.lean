/- The rules of the walk: slices whose capacity is cut to their length, and what is appended to them. -/
import Derived.Test.YtjblieilblcdnaaEngQ
import Derived.Laws.BitsAllLaws
import Derived.Laws.Shifts
namespace Go.Eng
open Go Go.RowKit
set_option linter.unusedVariables false
set_option linter.unusedSimpArgs false
set_option synthInstance.maxHeartbeats 400000
set_option synthInstance.maxSize 1000
section r
variable {P : Program} {ops : Array Oper} {Q : Exit → Act → World → Prop} {w0 : World} {rest : List Oper} {l l' : List Value} {Γ Γb Δ Ε : List Atom} {ty : TypeId} {v : Value} {pos : String} {after : Array Edge} {d : Nat}

/-- The slice with its capacity cut to n. -/
def clipV (v : Value) (n : Nat) : Value := match v with
  | .slice a _ _ => .slice a n n
  | v => v
theorem run_slice3 {T e : Nat} {i : TypeInfo} {a : Option Addr} {n cap : Nat} {k k' : IntKind} (ht : P.underlying T = some (.slice e)) (hi' : P.info? e = some i) (h : n ≤ cap) (w : World) :
    (Instr.sliceAt T (.slice a n cap) none (some (.int k n)) (some (.int k' n))).run P w = .ok (.slice (if n = 0 then a else a.map (·.add (0 * i.size))) n n) w := by
  simp [Instr.sliceAt, Instr.slice, Instr.sliceBounds, Instr.sliceBound, asIntOf, run_underlying ht, sizeOf, typeInfo, hi', h]
theorem wl_slice3 {α : Type} {iα : Rep α} {T k by_ : Nat} {x y z : Operand} {sv : Value} {kk kk' : IntKind} {n m : Int} {xs : List α} [hx : Ev l x sv] [hy : Ev l y (.int kk n)] [hz : Ev l z (.int kk' m)] [hT : Sl P T k by_] [hr : HasIm (List α) repList Γ [sv] xs] (hn : n = xs.length) (hm : m = xs.length) (hp : 0 < xs.length)
    (h : ∀ sv', WL P ops Q w0 rest (l.set d (clipV sv' xs.length)) (.rd [clipV sv' xs.length] xs :: Γ)) : WL P ops Q w0 (⟨some d, .slice T x none (some y) (some z), ty, pos, after, none⟩ :: rest) l Γ := by
  intro w hs
  obtain ⟨e, i, z', ht, hi', hik, hib, hz', hzk, hpos⟩ := hT.ex
  obtain ⟨hb, F, hnd, hl, hsep⟩ := hs
  have hrd := hr.get hsep
  obtain ⟨a, cap, hc, hcap, h3, h4, h5⟩ := hrd
  simp only [List.cons.injEq, and_true] at hc
  subst hc
  obtain ⟨b, off, cells, rfl, hok, hca, hrl⟩ := h5 hp
  have hrun := run_slice3 (P := P) (T := T) (a := some ⟨b, off, none⟩) (n := xs.length) (cap := cap) (k := kk) (k' := kk') ht hi' hcap w
  rw [if_neg (by omega)] at hrun
  simp only [Option.map_some, Nat.zero_mul, add_lit, Nat.add_zero] at hrun
  refine wl_op rfl (v := .slice (some ⟨b, off, none⟩) xs.length xs.length) (w' := w) ?_ ?_
  · refine run_value (f := Next.value) (s := Instr.sliceAt T ((E l).eval x) (Option.map (E l).eval none) (Option.map (E l).eval (some y)) (Option.map (E l).eval (some z))) ?_
    simp only [Option.map_none, Option.map_some]
    rw [hx.eq, hy.eq, hz.eq, hn, hm]; exact hrun
  · rw [E_put]
    exact h (.slice (some ⟨b, off, none⟩) xs.length xs.length) _ ⟨hb, F, hnd, hl, [], F, rfl, ⟨rfl, _, _, rfl, Nat.le_refl _, Nat.le_trans hcap h3, h4, fun _ => ⟨b, off, cells, rfl, hok, hca, hrl⟩⟩, hsep⟩
theorem wl_slice3o {α : Type} {iα : Rep α} {T k by_ : Nat} {x y z : Operand} {sv : Value} {kk kk' : IntKind} {n m : Int} {xs : List α} [hx : Ev l x sv] [hy : Ev l y (.int kk n)] [hz : Ev l z (.int kk' m)] [hT : Sl P T k by_] [hr : PullOw (List α) repList Γ [sv] xs Δ] (hn : n = xs.length) (hm : m = xs.length)
    (h : ∀ sv', WL P ops Q w0 rest (l.set d sv') (.ow [sv'] xs :: Δ)) : WL P ops Q w0 (⟨some d, .slice T x none (some y) (some z), ty, pos, after, none⟩ :: rest) l Γ := by
  intro w hs
  obtain ⟨e, i, z', ht, hi', hik, hib, hz', hzk, hpos⟩ := hT.ex
  obtain ⟨hb, F, hnd, hl, f, g, rfl, hf, hrest⟩ := hs.perm hr.perm
  have hf := ow_list.1 hf
  rcases hf with ⟨a, b, c⟩ | ⟨g0, cap, cur, e', G, cells, h1, h2, h3, h4, h5, h6, h7, h8, h9⟩
  · obtain rfl : sv = _ := by simpa using a
    subst b; subst c
    have hrun := run_slice3 (P := P) (T := T) (a := none) (n := 0) (cap := 0) (k := kk) (k' := kk') ht hi' (Nat.le_refl _) w
    rw [if_pos rfl] at hrun
    refine wl_op rfl (v := .slice none 0 0) (w' := w) ?_ ?_
    · refine run_value (f := Next.value) (s := Instr.sliceAt T ((E l).eval x) (Option.map (E l).eval none) (Option.map (E l).eval (some y)) (Option.map (E l).eval (some z))) ?_
      simp only [Option.map_none, Option.map_some]
      rw [hx.eq, hy.eq, hz.eq, hn, hm]; exact hrun
    · rw [E_put]
      exact h _ _ ⟨hb, g, hnd, hl, [], g, rfl, ow_list.2 (.inl ⟨rfl, rfl, rfl⟩), hrest⟩
  · obtain rfl : sv = _ := by simpa using h1
    have hrun := run_slice3 (P := P) (T := T) (a := some ⟨g0, 0, none⟩) (n := xs.length) (cap := cap) (k := kk) (k' := kk') ht hi' h4 w
    have hrun' : (Instr.sliceAt T (.slice (some ⟨g0, 0, none⟩) xs.length cap) none (some (.int kk xs.length)) (some (.int kk' xs.length))).run P w = .ok (.slice (some ⟨g0, 0, none⟩) xs.length xs.length) w := by
      rw [hrun]
      by_cases h0 : xs.length = 0
      · rw [if_pos h0]
      · rw [if_neg h0]; simp [add_lit]
    refine wl_op rfl (v := .slice (some ⟨g0, 0, none⟩) xs.length xs.length) (w' := w) ?_ ?_
    · refine run_value (f := Next.value) (s := Instr.sliceAt T ((E l).eval x) (Option.map (E l).eval none) (Option.map (E l).eval (some y)) (Option.map (E l).eval (some z))) ?_
      simp only [Option.map_none, Option.map_some]
      rw [hx.eq, hy.eq, hz.eq, hn, hm]; exact hrun'
    · rw [E_put]
      exact h _ _ ⟨hb, f ++ g, hnd, hl, f, g, rfl, ow_list.2 (.inr ⟨g0, xs.length, cur, e', G, cells, rfl, h2, h3, Nat.le_refl _, Nat.le_trans h4 h5, h6, Nat.le_trans (Nat.mul_le_mul_right _ h4) h7, h8, h9⟩), hrest⟩
/-- append to a slice that is only read, and has no room: the elements of both are shared. -/
theorem wl_append_clip {α : Type} {iα : Rep α} {T k by_ : Nat} {x y : Operand} {sv tv : Value} {n : Nat} {xs ys : List α} [hx : Ev l x (clipV sv n)] [hy : Ev l y tv] [hT : Sl P T k by_] [h1 : HasIm (List α) repList Γ [clipV sv n] xs] [h2 : HasIm (List α) repList Γ [tv] ys]
    (hk : k = Rep.sz α) (hn : n = xs.length) (hxp : 0 < xs.length) (hyp : 0 < ys.length) (hbytes : (xs.length + ys.length) * by_ ≤ 140737488355328)
    (h : ∀ sv', WL P ops Q w0 rest (l.set d sv') (.rd [sv'] (xs ++ ys) :: Γ)) :
    WL P ops Q w0 (⟨some d, .call { callee := .builtin .append, args := #[x, y], argTypes := #[T, T] }, ty, pos, after, none⟩ :: rest) l Γ := by
  intro w hs
  obtain ⟨e, i, z, ht, hi, hik, hib, hz, hzk, hpos⟩ := hT.ex
  have hsz : i.size = Rep.sz α := hik.trans hk
  have hle : xs.length + ys.length ≤ 140737488355328 := Nat.le_trans (Nat.le_mul_of_pos_right _ hpos) hbytes
  obtain ⟨hb, F, hnd, hl, hsep⟩ := hs
  obtain ⟨a, cap, hc, hcap, h3, h4, h5⟩ := h1.get hsep
  obtain ⟨a', cap', hc', hcap', h3', h4', h5'⟩ := h2.get hsep
  simp only [List.cons.injEq, and_true] at hc hc'
  subst hc'
  obtain ⟨b, off, cells, rfl, hok, hca, hrl⟩ := h5 hxp
  obtain ⟨b', off', cells', rfl, hok', hca', hrl'⟩ := h5' hyp
  have hcapn : cap = xs.length := by
    unfold clipV at hc
    split at hc
    · injection hc with e1 e2 e3
      omega
    · rename_i hne
      exact absurd hc (hne _ _ _)
  subst hcapn
  have hcl : cells.length = xs.length * i.size := by rw [hsz]; exact hrl.len
  have hcl' : cells'.length = ys.length * i.size := by rw [hsz]; exact hrl'.len
  have hr := run_append_grow (P := P) w T ty e i z ht hi hz ⟨b, off, none⟩ xs.length xs.length cells hcl (fun j v hj => by
      rw [add_lit, hca j (List.getElem?_eq_some_iff.1 hj).1, hj]) ⟨b', off', none⟩ ys.length cap' cells' hcl' (fun j v hj => by
      rw [add_lit, hca' j (List.getElem?_eq_some_iff.1 hj).1, hj]) (by omega) (by omega) (growslice_fits (by omega) (by rw [hib]; exact hbytes))
  refine wl_op rfl (run_append_op (hx := ⟨hx.eq.trans hc⟩) hr) ?_
  rw [E_put]
  have hbl : ∀ c, c < w.heap.size → SameB w (w.drew.alloc (.cells (cells.toArray ++ cells'.toArray ++ Builtin.zeroCells z.cells (grownCap w (xs.length + ys.length) xs.length e - (xs.length + ys.length))) e)) c := fun c hc => Below.heap_alloc w.drew _ _ hc
  have hge := grownCap_ge w (xs.length + ys.length) xs.length e
  have hFlt := hsep.lt
  refine h _ _ ⟨⟨hb.os, hb.tape, hb.output, Nat.le_trans hb.size (by simp), Nat.le_trans hb.drawn (by first | exact Nat.le_refl _ | exact Nat.le_add_right _ _), fun k hk => by rw [hbl k (Nat.lt_of_lt_of_le hk hb.size)]; exact hb.block k hk⟩, F, hnd, hl, [], F, rfl, ⟨rfl, some ⟨w.heap.size, 0, none⟩, _, by rw [List.length_append], by simpa using hge, grownCap_le_maxLen w _ _ e (by simp only [maxLen]; omega), by rw [List.length_append]; omega, fun _ => ⟨w.heap.size, 0, cells ++ cells', rfl, fun hm => Nat.lt_irrefl _ (hFlt _ hm), ?_, ?_⟩⟩, hsep.mono (fun c hc hlt => ⟨hc, hbl c hlt⟩) (by simp) (fun c hc => hbl c (hFlt c hc))⟩
  · intro j hj
    have hnew := heap_alloc_new w.drew (.cells (cells.toArray ++ cells'.toArray ++ Builtin.zeroCells z.cells (grownCap w (xs.length + ys.length) xs.length e - (xs.length + ys.length))) e)
    have hsz0 : w.drew.heap.size = w.heap.size := rfl
    rw [hsz0] at hnew
    have hj' : j < cells.length + cells'.length := by simpa using hj
    simp only [World.cell?, hnew, Nat.zero_add]
    rw [Array.getElem?_append_left (by simpa using hj')]
    simp
  · exact RdL.append (hrl'.mono (fun c hc hlt => ⟨hc, hbl c hlt⟩)) (hrl.mono (fun c hc hlt => ⟨hc, hbl c hlt⟩))
instance {α : Type} {iα : Rep α} {T k by_ : Nat} {x y z : Operand} {sv : Value} {kk kk' : IntKind} {n m : Int} {xs : List α} [hx : Ev l x sv] [hy : Ev l y (.int kk n)] [hz : Ev l z (.int kk' m)] [hT : Sl P T k by_] [hr : HasIm (List α) repList Γ [sv] xs] :
    RedV (WL P ops Q w0 (⟨some d, .slice T x none (some y) (some z), ty, pos, after, none⟩ :: rest) l Γ) ((n = xs.length ∧ m = xs.length) ∧ 0 < xs.length) (fun sv' => WL P ops Q w0 rest (l.set d (clipV sv' xs.length)) (.rd [clipV sv' xs.length] xs :: Γ)) :=
  ⟨fun s h => wl_slice3 (sv := sv) s.1.1 s.1.2 s.2 h⟩
instance (priority := 1100) {α : Type} {iα : Rep α} {T k by_ : Nat} {x y z : Operand} {sv : Value} {kk kk' : IntKind} {n m : Int} {xs : List α} [hx : Ev l x sv] [hy : Ev l y (.int kk n)] [hz : Ev l z (.int kk' m)] [hT : Sl P T k by_] [hr : PullOw (List α) repList Γ [sv] xs Δ] :
    RedV (WL P ops Q w0 (⟨some d, .slice T x none (some y) (some z), ty, pos, after, none⟩ :: rest) l Γ) (n = xs.length ∧ m = xs.length) (fun sv' => WL P ops Q w0 rest (l.set d sv') (.ow [sv'] xs :: Δ)) :=
  ⟨fun s h => wl_slice3o (sv := sv) s.1 s.2 h⟩
instance (priority := 1300) {α : Type} {iα : Rep α} {T k by_ : Nat} {x y : Operand} {sv tv : Value} {n : Nat} {xs ys : List α} [hx : Ev l x (clipV sv n)] [hy : Ev l y tv] [hT : Sl P T k by_] [h1 : HasIm (List α) repList Γ [clipV sv n] xs] [h2 : HasIm (List α) repList Γ [tv] ys] [hk : SzIs α k] :
    RedV (WL P ops Q w0 (⟨some d, .call { callee := .builtin .append, args := #[x, y], argTypes := #[T, T] }, ty, pos, after, none⟩ :: rest) l Γ) (((n = xs.length ∧ 0 < xs.length) ∧ 0 < ys.length) ∧ (xs.length + ys.length) * by_ ≤ 140737488355328) (fun sv' => WL P ops Q w0 rest (l.set d sv') (.rd [sv'] (xs ++ ys) :: Γ)) :=
  ⟨fun s h => wl_append_clip (sv := sv) hk.eq s.1.1.1 s.1.1.2 s.1.2 s.2 h⟩
end r
end Go.Eng
namespace Go.Eng
open Go Go.RowKit
set_option linter.unusedVariables false
set_option linter.unusedSimpArgs false
set_option synthInstance.maxHeartbeats 400000
set_option synthInstance.maxSize 1000
section s
variable {P : Program} {w0 : World} {l : List Value} {Γ : List Atom} {ty : TypeId}

/-- T is a type of whole numbers of 64 bits without sign. -/
class U64T (P : Program) (T : TypeId) : Prop where
  eq : P.underlying T = some (.int .u64)
theorem pu_conv_u {S T : TypeId} {x : Operand} {n : Int} [hx : Ev l x (.int .i64 n)] [hS : I64T P S] [hT : U64T P T] (h : 0 ≤ n ∧ n ≤ 9223372036854775807) : Pu P w0 l Γ (.convert S T x) ty (.int .u64 n) :=
  pu_of (s := convert S T (.int .i64 n)) (fun o ho _ => by unfold execOp; rw [ho]; simp only [hx.eq]) (fun w _ => by
    simp only [convert, Sem.run_bind, run_underlying hS.eq, run_underlying hT.eq, Result.andThen_ok, Conv.intToInt, Sem.run_pure]
    rw [IntKind.wrap_u64, Int.emod_eq_of_lt (by omega) (by omega)])
instance {S T : TypeId} {x : Operand} {n : Int} [hx : Ev l x (.int .i64 n)] [hS : I64T P S] [hT : U64T P T] : PuS P l Γ (.convert S T x) ty (.int .u64 n) (0 ≤ n ∧ n ≤ 9223372036854775807) := ⟨fun h _ => pu_conv_u h⟩

def bitN (m : Nat) : Nat := 2 ^ m
def setB (a m : Nat) : Nat := a ||| 2 ^ m
def shrN (a m : Nat) : Nat := a / 2 ^ m
def lack (a b : Nat) : Nat := a &&& (4294967295 - b)
theorem setB_lt {a m : Nat} (h : a < 65536) (hm : m < 16) : setB a m < 65536 := by
  unfold setB
  have h2 : 2 ^ m < 2 ^ 16 := Nat.pow_lt_pow_right (by omega) hm
  exact Nat.or_lt_two_pow (n := 16) h h2
section ops
variable {T U : TypeId} {x y : Operand} {a b m : Nat} {k : Int}
theorem pu_shr32 [hx : Ev l x (.int .u32 (a : Int))] [hy : Ev l y (.int .u64 k)] [hm : ToN k m] (h : 0 ≤ k ∧ k ≤ 31) : Pu P w0 l Γ (.binOp .shr T x y U) ty (.int .u32 ((shrN a m : Nat) : Int)) :=
  pu_bin eqGuard_int (fun w => by
    have e : binOp .shr T (.int .u32 (a : Int)) (.int .u64 k) = Op.shift .shr .u32 a .u64 k := rfl
    rw [e, shift_shr_any _ _ _ _ h.1]
    have hk := hm.eq
    have h32 : min k.toNat (IntKind.bits .u32) = m := by
      show min k.toNat 32 = m
      omega
    rw [h32, Sem.run_pure]
    congr 2)
theorem pu_shl32 [hx : Ev l x (.int .u32 1)] [hy : Ev l y (.int .u64 k)] [hm : ToN k m] (h : 0 ≤ k ∧ k ≤ 31) : Pu P w0 l Γ (.binOp .shl T x y U) ty (.int .u32 ((bitN m : Nat) : Int)) :=
  pu_bin eqGuard_int (fun w => by
    have e : binOp .shl T (.int .u32 1) (.int .u64 k) = Op.shift .shl .u32 1 .u64 k := rfl
    rw [e, shift_shl_any _ _ _ _ h.1]
    have hk := hm.eq
    have h32 : min k.toNat (IntKind.bits .u32) = m := by
      show min k.toNat 32 = m
      omega
    rw [h32, Sem.run_pure]
    congr 2
    rw [IntKind.wrap_u32']
    unfold bitN
    have h2 : 2 ^ m < 2 ^ 32 := Nat.pow_lt_pow_right (by omega) (by omega)
    have h3 : ((2 : Int) ^ m) = ((2 ^ m : Nat) : Int) := by simp
    rw [h3, Int.one_mul]
    generalize 2 ^ m = z at h2
    exact Int.emod_eq_of_lt (by omega) (by omega))
theorem pu_or32 [hx : Ev l x (.int .u32 (a : Int))] [hy : Ev l y (.int .u32 ((bitN m : Nat) : Int))] (h : a < 4294967296 ∧ m < 32) : Pu P w0 l Γ (.binOp .or T x y U) ty (.int .u32 ((setB a m : Nat) : Int)) :=
  pu_bin eqGuard_int (fun w => by
    have h2 : 2 ^ m < 2 ^ 32 := Nat.pow_lt_pow_right (by omega) h.2
    rw [binOp_or, intBits_or, u32_or_nat a (bitN m) h.1 h2, Sem.run_pure]
    rfl)
theorem pu_andNot32 [hx : Ev l x (.int .u32 (a : Int))] [hy : Ev l y (.int .u32 (b : Int))] (h : a < 4294967296 ∧ b < 4294967296) : Pu P w0 l Γ (.binOp .andNot T x y U) ty (.int .u32 ((lack a b : Nat) : Int)) :=
  pu_bin eqGuard_int (fun w => by
    rw [binOp_andNot, intBits_andNot, u32_andNot_nat a b h.1 h.2, Sem.run_pure]
    rfl)
theorem pu_and1_32 [hx : Ev l x (.int .u32 (a : Int))] [hy : Ev l y (.int .u32 1)] (h : a < 4294967296) : Pu P w0 l Γ (.binOp .and T x y U) ty (.int .u32 ((a % 2 : Nat) : Int)) :=
  pu_bin eqGuard_int (fun w => by
    have := u32_and_nat a 1 h (by omega)
    rw [binOp_and, intBits_and, show ((1 : Int)) = ((1 : Nat) : Int) from rfl, this, Sem.run_pure, Nat.and_one_is_mod])
instance [hx : Ev l x (.int .u32 (a : Int))] [hy : Ev l y (.int .u64 k)] [hm : ToN k m] : PuS P l Γ (.binOp .shr T x y U) ty (.int .u32 ((shrN a m : Nat) : Int)) (0 ≤ k ∧ k ≤ 31) := ⟨fun h _ => pu_shr32 h⟩
instance [hx : Ev l x (.int .u32 1)] [hy : Ev l y (.int .u64 k)] [hm : ToN k m] : PuS P l Γ (.binOp .shl T x y U) ty (.int .u32 ((bitN m : Nat) : Int)) (0 ≤ k ∧ k ≤ 31) := ⟨fun h _ => pu_shl32 h⟩
instance [hx : Ev l x (.int .u32 (a : Int))] [hy : Ev l y (.int .u32 ((bitN m : Nat) : Int))] : PuS P l Γ (.binOp .or T x y U) ty (.int .u32 ((setB a m : Nat) : Int)) (a < 4294967296 ∧ m < 32) := ⟨fun h _ => pu_or32 h⟩
instance [hx : Ev l x (.int .u32 (a : Int))] [hy : Ev l y (.int .u32 (b : Int))] : PuS P l Γ (.binOp .andNot T x y U) ty (.int .u32 ((lack a b : Nat) : Int)) (a < 4294967296 ∧ b < 4294967296) := ⟨fun h _ => pu_andNot32 h⟩
instance [hx : Ev l x (.int .u32 (a : Int))] [hy : Ev l y (.int .u32 1)] : PuS P l Γ (.binOp .and T x y U) ty (.int .u32 ((a % 2 : Nat) : Int)) (a < 4294967296) := ⟨fun h _ => pu_and1_32 h⟩
end ops
end s
end Go.Eng
namespace Go.Eng
open Go Go.RowKit
set_option linter.unusedVariables false
set_option linter.unusedSimpArgs false
set_option synthInstance.maxHeartbeats 400000
set_option synthInstance.maxSize 1000
/-- A number of 32 bits. -/
structure U32 : Type where
  n : Nat
instance : Inhabited U32 := ⟨⟨0⟩⟩
instance repU32 : Rep U32 where
  sz := 1
  rd _ _ cs b := cs = [.int .u32 (b.n : Int)]
  ow _ _ F cs b := F = [] ∧ cs = [.int .u32 (b.n : Int)]
  pos := by decide
  rd_len := by rintro _ _ _ _ rfl; rfl
  rd_one := by rintro _ _ _ _ rfl; simp [Value.oneCell']
  rd_mono := fun h _ => h
  ow_mono := fun h _ _ => h
  ow_rd := fun h _ _ => h.2
  ow_lt := by rintro _ _ _ _ _ ⟨rfl, _⟩ b hb; cases hb
instance : Flat U32 := ⟨trivial⟩
instance : One U32 := ⟨trivial⟩
instance : SzIs U32 1 := ⟨rfl⟩
instance : NoSh U32 := ⟨fun h => h⟩
instance : Cp U32 := ⟨fun h => ⟨rfl, h⟩⟩
instance unU32 : Un U32 := ⟨Unit, fun _ b => [.int .u32 (b.n : Int)], fun _ _ => [], fun _ => True, fun h => ⟨(), h, rfl, trivial⟩, fun _ _ => rfl, fun _ => rfl⟩
instance unoU32 : UnO U32 := ⟨Unit, fun _ b => [.int .u32 (b.n : Int)], fun _ _ => [], fun _ => True, fun h => ⟨(), h.2, h.1, trivial⟩⟩
section t
variable {P : Program} {ops : Array Oper} {Q : Exit → Act → World → Prop} {w0 : World} {rest : List Oper} {l l' : List Value} {Γ Γb Δ Ε : List Atom} {ty : TypeId} {v : Value} {pos : String} {after : Array Edge} {d : Nat}
theorem own_u32 {n : Nat} : Own Γ [.int .u32 (n : Int)] (U32.mk n) Γ := fun {_ _ F} hs => ⟨F, .refl _, [], F, rfl, ⟨rfl, rfl⟩, hs⟩
instance {n : Nat} : OwnC U32 Γ [.int .u32 (n : Int)] ⟨n⟩ Γ True := ⟨fun _ => own_u32⟩
theorem pu_load_u32 {T : TypeId} {x : Operand} {sv : Value} {n : Int} {xs : List U32} [h : Ev l x (.pointer (some (elemA sv n 1)))] [hT : Sc P T] [hr : HasRd (List U32) repList Γ [sv] xs]
    (hi : 0 ≤ n ∧ n < xs.length) : Pu P w0 l Γ (.load T x) ty (.int .u32 ((xs.getD n.toNat default).n : Int)) :=
  pu_of (s := Instr.loadAt T (.pointer (some (elemA sv n 1)))) (fun o ho _ => by unfold execOp; rw [ho]; simp only [h.eq]) (fun w hs => by
    obtain ⟨a, cap, b, off, p, c, s, rfl, _, _, hca, hp, he, hrd⟩ := elem_cells (hs.rd (hr := hr)) hi.1 hi.2
    have hrd' : c = [.int .u32 _] := hrd
    subst hrd'
    have he' : elemA (.slice (some ⟨b, off, none⟩) xs.length cap) n 1 = ⟨b, off + p.length, none⟩ := he
    have := hca.part 0 (by simp)
    simp only [Nat.add_zero, List.getElem?_cons_zero] at this
    rw [he', List.getD_eq_getElem?_getD, List.getElem?_eq_getElem (by omega), Option.getD_some]
    simp [Instr.loadAt, Instr.sureAddr, loadVar, Sem.run_bind, hT.agg, load, Sem.run, this])
instance {T : TypeId} {x : Operand} {sv : Value} {n : Int} {m : Nat} {xs : List U32} [h : Ev l x (.pointer (some (elemA sv n 1)))] [hm : ToN n m] [hT : Sc P T] [hr : HasRd (List U32) repList Γ [sv] xs] : PuS P l Γ (.load T x) ty (.int .u32 ((xs.getD m default).n : Int)) (0 ≤ n ∧ n < xs.length) := ⟨fun h _ => hm.eq ▸ pu_load_u32 h⟩
end t
end Go.Eng
