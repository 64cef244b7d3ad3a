/- The rules of the walk: the operations that only compute, and those that read. -/
import Derived.Test.YtjblieilblcdnaaEngC
namespace Go.Eng
open Go Go.RowKit
set_option linter.unusedVariables false
set_option linter.unusedSimpArgs false

/-! ### What is asked of the program's types -/
/-- The type's variables are one cell. -/
class Sc (P : Program) (T : TypeId) : Prop where
  agg : ∀ w, (isAgg T).run P w = .ok false w
  size : ∀ w, (sizeOf T).run P w = .ok 1 w
/-- The type's variables are k cells, of a struct or an array. -/
class Ag (P : Program) (T : TypeId) (k : outParam Nat) : Prop where
  agg : ∀ w, (isAgg T).run P w = .ok true w
  size : ∀ w, (sizeOf T).run P w = .ok k w
class Sz (P : Program) (T : TypeId) (k : outParam Nat) : Prop where
  size : ∀ w, (sizeOf T).run P w = .ok k w
instance {P : Program} {T : TypeId} [h : Sc P T] : Sz P T 1 := ⟨h.size⟩
instance {P : Program} {T k : Nat} [h : Ag P T k] : Sz P T k := ⟨h.size⟩
class Zr (P : Program) (T : TypeId) (zs : outParam (List Value)) : Prop where
  zero : ∃ z, (∀ w, (zeroValue T).run P w = .ok z w) ∧ z.cells = zs.toArray
/-- Field i of struct type T lies k cells on. -/
class Fo (P : Program) (T : TypeId) (i : Nat) (k : outParam Nat) : Prop where
  run : ∀ w a, (Instr.fieldAt T (.pointer (some a)) i).run P w = .ok (.pointer (some (a.add k))) w
/-- T is a slice type; its elements are k cells, by bytes. -/
class Sl (P : Program) (T : TypeId) (k : outParam Nat) (by_ : outParam Nat) : Prop where
  ex : ∃ e i z, P.underlying T = some (.slice e) ∧ P.info? e = some i ∧ i.size = k ∧ i.bytes = by_ ∧ i.zero = some z ∧ z.cells.size = k ∧ 0 < by_
/-- The cells of its elements' zero. -/
class SlZ (P : Program) (T : TypeId) (zs : outParam (List Value)) : Prop where
  eq : ∀ {e i z}, P.underlying T = some (.slice e) → P.info? e = some i → i.zero = some z → z.cells = zs.toArray
class IsStr (P : Program) (T : TypeId) : Prop where
  eq : P.underlying T = some .string
/-- Function f is one with a body, to be entered. -/
class IsFn (P : Program) (f : FuncId) : Prop where
  run : ∀ args w, (callFunc f args).run P w = .ok (.enter f args) w

theorem isFn_of {P : Program} {f : FuncId} {fn : Func} (hf : P.funcs[f]? = some fn) (hn : (fn.name == "runtime.NumGoroutine") = false) (hb : fn.body.isNone = false) : IsFn P f :=
  ⟨fun args w => by
    have hn' : ¬ fn.name = "runtime.NumGoroutine" := by simpa using hn
    have hb' : ¬ fn.body = none := by intro h; simp [h] at hb
    simp [callFunc, program, hf, hn', hb', Sem.run, Bind.bind, Sem.bind, Pure.pure]⟩

class NatAdd (a b : Nat) (c : outParam Nat) : Prop where
  eq : a + b = c
instance (priority := 1100) {k : Nat} : NatAdd 0 k k := ⟨Nat.zero_add k⟩
instance (priority := 1050) {k : Nat} : NatAdd k 0 k := ⟨rfl⟩
instance : NatAdd 1 1 2 := ⟨rfl⟩
instance : NatAdd 1 2 3 := ⟨rfl⟩
instance : NatAdd 1 3 4 := ⟨rfl⟩
instance : NatAdd 1 4 5 := ⟨rfl⟩
instance : NatAdd 1 5 6 := ⟨rfl⟩
instance : NatAdd 1 6 7 := ⟨rfl⟩
instance : NatAdd 1 7 8 := ⟨rfl⟩
instance : NatAdd 1 8 9 := ⟨rfl⟩
instance : NatAdd 1 9 10 := ⟨rfl⟩
instance : NatAdd 1 10 11 := ⟨rfl⟩
instance : NatAdd 1 11 12 := ⟨rfl⟩
instance : NatAdd 1 12 13 := ⟨rfl⟩
instance : NatAdd 2 1 3 := ⟨rfl⟩
instance : NatAdd 2 2 4 := ⟨rfl⟩
instance : NatAdd 2 3 5 := ⟨rfl⟩
instance : NatAdd 2 4 6 := ⟨rfl⟩
instance : NatAdd 2 5 7 := ⟨rfl⟩
instance : NatAdd 2 6 8 := ⟨rfl⟩
instance : NatAdd 2 7 9 := ⟨rfl⟩
instance : NatAdd 2 8 10 := ⟨rfl⟩
instance : NatAdd 2 9 11 := ⟨rfl⟩
instance : NatAdd 2 10 12 := ⟨rfl⟩
instance : NatAdd 2 11 13 := ⟨rfl⟩
instance : NatAdd 2 12 14 := ⟨rfl⟩
instance : NatAdd 3 1 4 := ⟨rfl⟩
instance : NatAdd 3 2 5 := ⟨rfl⟩
instance : NatAdd 3 3 6 := ⟨rfl⟩
instance : NatAdd 3 4 7 := ⟨rfl⟩
instance : NatAdd 3 5 8 := ⟨rfl⟩
instance : NatAdd 3 6 9 := ⟨rfl⟩
instance : NatAdd 3 7 10 := ⟨rfl⟩
instance : NatAdd 3 8 11 := ⟨rfl⟩
instance : NatAdd 3 9 12 := ⟨rfl⟩
instance : NatAdd 3 10 13 := ⟨rfl⟩
instance : NatAdd 3 11 14 := ⟨rfl⟩
instance : NatAdd 3 12 15 := ⟨rfl⟩
instance : NatAdd 4 1 5 := ⟨rfl⟩
instance : NatAdd 4 2 6 := ⟨rfl⟩
instance : NatAdd 4 3 7 := ⟨rfl⟩
instance : NatAdd 4 4 8 := ⟨rfl⟩
instance : NatAdd 4 5 9 := ⟨rfl⟩
instance : NatAdd 4 6 10 := ⟨rfl⟩
instance : NatAdd 4 7 11 := ⟨rfl⟩
instance : NatAdd 4 8 12 := ⟨rfl⟩
instance : NatAdd 4 9 13 := ⟨rfl⟩
instance : NatAdd 4 10 14 := ⟨rfl⟩
instance : NatAdd 4 11 15 := ⟨rfl⟩
instance : NatAdd 4 12 16 := ⟨rfl⟩
instance : NatAdd 5 1 6 := ⟨rfl⟩
instance : NatAdd 5 2 7 := ⟨rfl⟩
instance : NatAdd 5 3 8 := ⟨rfl⟩
instance : NatAdd 5 4 9 := ⟨rfl⟩
instance : NatAdd 5 5 10 := ⟨rfl⟩
instance : NatAdd 5 6 11 := ⟨rfl⟩
instance : NatAdd 5 7 12 := ⟨rfl⟩
instance : NatAdd 5 8 13 := ⟨rfl⟩
instance : NatAdd 5 9 14 := ⟨rfl⟩
instance : NatAdd 5 10 15 := ⟨rfl⟩
instance : NatAdd 5 11 16 := ⟨rfl⟩
instance : NatAdd 5 12 17 := ⟨rfl⟩
instance : NatAdd 6 1 7 := ⟨rfl⟩
instance : NatAdd 6 2 8 := ⟨rfl⟩
instance : NatAdd 6 3 9 := ⟨rfl⟩
instance : NatAdd 6 4 10 := ⟨rfl⟩
instance : NatAdd 6 5 11 := ⟨rfl⟩
instance : NatAdd 6 6 12 := ⟨rfl⟩
instance : NatAdd 6 7 13 := ⟨rfl⟩
instance : NatAdd 6 8 14 := ⟨rfl⟩
instance : NatAdd 6 9 15 := ⟨rfl⟩
instance : NatAdd 6 10 16 := ⟨rfl⟩
instance : NatAdd 6 11 17 := ⟨rfl⟩
instance : NatAdd 6 12 18 := ⟨rfl⟩
instance : NatAdd 7 1 8 := ⟨rfl⟩
instance : NatAdd 7 2 9 := ⟨rfl⟩
instance : NatAdd 7 3 10 := ⟨rfl⟩
instance : NatAdd 7 4 11 := ⟨rfl⟩
instance : NatAdd 7 5 12 := ⟨rfl⟩
instance : NatAdd 7 6 13 := ⟨rfl⟩
instance : NatAdd 7 7 14 := ⟨rfl⟩
instance : NatAdd 7 8 15 := ⟨rfl⟩
instance : NatAdd 7 9 16 := ⟨rfl⟩
instance : NatAdd 7 10 17 := ⟨rfl⟩
instance : NatAdd 7 11 18 := ⟨rfl⟩
instance : NatAdd 7 12 19 := ⟨rfl⟩
instance : NatAdd 8 1 9 := ⟨rfl⟩
instance : NatAdd 8 2 10 := ⟨rfl⟩
instance : NatAdd 8 3 11 := ⟨rfl⟩
instance : NatAdd 8 4 12 := ⟨rfl⟩
instance : NatAdd 8 5 13 := ⟨rfl⟩
instance : NatAdd 8 6 14 := ⟨rfl⟩
instance : NatAdd 8 7 15 := ⟨rfl⟩
instance : NatAdd 8 8 16 := ⟨rfl⟩
instance : NatAdd 8 9 17 := ⟨rfl⟩
instance : NatAdd 8 10 18 := ⟨rfl⟩
instance : NatAdd 8 11 19 := ⟨rfl⟩
instance : NatAdd 8 12 20 := ⟨rfl⟩
instance : NatAdd 9 1 10 := ⟨rfl⟩
instance : NatAdd 9 2 11 := ⟨rfl⟩
instance : NatAdd 9 3 12 := ⟨rfl⟩
instance : NatAdd 9 4 13 := ⟨rfl⟩
instance : NatAdd 9 5 14 := ⟨rfl⟩
instance : NatAdd 9 6 15 := ⟨rfl⟩
instance : NatAdd 9 7 16 := ⟨rfl⟩
instance : NatAdd 9 8 17 := ⟨rfl⟩
instance : NatAdd 9 9 18 := ⟨rfl⟩
instance : NatAdd 9 10 19 := ⟨rfl⟩
instance : NatAdd 9 11 20 := ⟨rfl⟩
instance : NatAdd 9 12 21 := ⟨rfl⟩
instance : NatAdd 10 1 11 := ⟨rfl⟩
instance : NatAdd 10 2 12 := ⟨rfl⟩
instance : NatAdd 10 3 13 := ⟨rfl⟩
instance : NatAdd 10 4 14 := ⟨rfl⟩
instance : NatAdd 10 5 15 := ⟨rfl⟩
instance : NatAdd 10 6 16 := ⟨rfl⟩
instance : NatAdd 10 7 17 := ⟨rfl⟩
instance : NatAdd 10 8 18 := ⟨rfl⟩
instance : NatAdd 10 9 19 := ⟨rfl⟩
instance : NatAdd 10 10 20 := ⟨rfl⟩
instance : NatAdd 10 11 21 := ⟨rfl⟩
instance : NatAdd 10 12 22 := ⟨rfl⟩
instance : NatAdd 11 1 12 := ⟨rfl⟩
instance : NatAdd 11 2 13 := ⟨rfl⟩
instance : NatAdd 11 3 14 := ⟨rfl⟩
instance : NatAdd 11 4 15 := ⟨rfl⟩
instance : NatAdd 11 5 16 := ⟨rfl⟩
instance : NatAdd 11 6 17 := ⟨rfl⟩
instance : NatAdd 11 7 18 := ⟨rfl⟩
instance : NatAdd 11 8 19 := ⟨rfl⟩
instance : NatAdd 11 9 20 := ⟨rfl⟩
instance : NatAdd 11 10 21 := ⟨rfl⟩
instance : NatAdd 11 11 22 := ⟨rfl⟩
instance : NatAdd 11 12 23 := ⟨rfl⟩
instance : NatAdd 12 1 13 := ⟨rfl⟩
instance : NatAdd 12 2 14 := ⟨rfl⟩
instance : NatAdd 12 3 15 := ⟨rfl⟩
instance : NatAdd 12 4 16 := ⟨rfl⟩
instance : NatAdd 12 5 17 := ⟨rfl⟩
instance : NatAdd 12 6 18 := ⟨rfl⟩
instance : NatAdd 12 7 19 := ⟨rfl⟩
instance : NatAdd 12 8 20 := ⟨rfl⟩
instance : NatAdd 12 9 21 := ⟨rfl⟩
instance : NatAdd 12 10 22 := ⟨rfl⟩
instance : NatAdd 12 11 23 := ⟨rfl⟩
instance : NatAdd 12 12 24 := ⟨rfl⟩

theorem add_lit (b off k : Nat) : (⟨b, off, none⟩ : Addr).add k = ⟨b, off + k, none⟩ := by unfold Addr.add; split <;> simp_all
theorem add_add (p : Addr) (i j : Nat) : (p.add i).add j = p.add (i + j) := by
  unfold Addr.add
  by_cases hi : i = 0
  · subst hi; simp
  · by_cases hj : j = 0
    · subst hj; simp
    · simp [hi, hj]; omega

section pure_ops
variable {P : Program} {w0 : World} {l : List Value} {Γ : List Atom} {ty : TypeId} {v : Value}

theorem pu_move {x : Operand} [h : Ev l x v] : Pu P w0 l Γ (.move x) ty v := fun w _ o ho _ => by
  unfold execOp; rw [ho]; simp only [h.eq]; rfl
theorem pu_assign {x : Operand} [h : Ev l x v] : Pu P w0 l Γ (.assign x) ty v := fun w _ o ho _ => by
  unfold execOp; rw [ho]; simp only [h.eq]; rfl
theorem pu_pick_t {c a b : Operand} [h : Ev l c (.bool true)] [ha : Ev l a v] : Pu P w0 l Γ (.pick c a b) ty v := fun w _ o ho _ => by
  unfold execOp; rw [ho]; simp only [h.eq, ha.eq]; rfl
theorem pu_pick_f {c a b : Operand} [h : Ev l c (.bool false)] [ha : Ev l b v] : Pu P w0 l Γ (.pick c a b) ty v := fun w _ o ho _ => by
  unfold execOp; rw [ho]; simp only [h.eq, ha.eq]; rfl

theorem run_value {α β : Type} {P : Program} {s : Sem α} {w w' : World} {a : α} {f : α → β} (h : s.run P w = .ok a w') : (do pure (f (← s)) : Sem β).run P w = .ok (f a) w' := by
  simp only [Sem.run_bind, h, Result.andThen_ok, Sem.run_pure]

/-- Where the operation is 'v s' for a run s. -/
theorem pu_of {op : Op} {s : Sem Value} (he : ∀ o : Oper, o.op = op → o.type = ty → execOp (E l).eval o = (do pure (.value (← s)) : Sem Next)) (hr : ∀ w, Sat w0 w Γ → s.run P w = .ok v w) : Pu P w0 l Γ op ty v :=
  fun w hs o h1 h2 => by rw [he o h1 h2]; exact run_value (hr w hs)

theorem pu_un_not {T : TypeId} {x : Operand} {b : Bool} [h : Ev l x (.bool b)] : Pu P w0 l Γ (.unOp .not T x) ty (.bool (!b)) :=
  pu_of (s := Op.unary .not (.bool b)) (fun o ho _ => by unfold execOp; rw [ho]; simp only [h.eq]) (fun w _ => rfl)
theorem pu_un_neg {T : TypeId} {x : Operand} {n : Int} [h : Ev l x (.int .i64 n)] (hn : -9223372036854775808 < n ∧ n ≤ 9223372036854775807) : Pu P w0 l Γ (.unOp .neg T x) ty (.int .i64 (-n)) :=
  pu_of (s := Op.unary .neg (.int .i64 n)) (fun o ho _ => by unfold execOp; rw [ho]; simp only [h.eq]) (fun w _ => by
    show Result.ok (Value.int .i64 (IntKind.i64.wrap (0 - n))) w = _
    rw [IntWalk.i64_in _ (by omega)]; simp)

theorem pu_fieldAddr {T : TypeId} {x : Operand} {i k : Nat} {a : Addr} [h : Ev l x (.pointer (some a))] [hf : Fo P T i k] : Pu P w0 l Γ (.fieldAddr T x i) ty (.pointer (some (a.add k))) :=
  pu_of (s := Instr.fieldAt T (.pointer (some a)) i) (fun o ho _ => by unfold execOp; rw [ho]; simp only [h.eq]) (fun w _ => hf.run w a)

theorem pu_fieldAddr_b {T : TypeId} {x : Operand} {i k b off s : Nat} [h : Ev l x (.pointer (some ⟨b, off, none⟩))] [hf : Fo P T i k] [hs : NatAdd off k s] : Pu P w0 l Γ (.fieldAddr T x i) ty (.pointer (some ⟨b, s, none⟩)) := by
  have := pu_fieldAddr (P := P) (w0 := w0) (l := l) (Γ := Γ) (ty := ty) (T := T) (x := x) (i := i) (k := k) (a := ⟨b, off, none⟩)
  rw [add_lit, hs.eq] at this
  exact this
theorem pu_fieldAddr_e {T : TypeId} {x : Operand} {i k m s : Nat} {p : Addr} [h : Ev l x (.pointer (some (p.add m)))] [hf : Fo P T i k] [hs : NatAdd m k s] : Pu P w0 l Γ (.fieldAddr T x i) ty (.pointer (some (p.add s))) := by
  have := pu_fieldAddr (P := P) (w0 := w0) (l := l) (Γ := Γ) (ty := ty) (T := T) (x := x) (i := i) (k := k) (a := p.add m)
  rw [add_add, hs.eq] at this
  exact this
theorem pu_nilCheck {x : Operand} {a : Addr} [h : Ev l x (.pointer (some a))] : Pu P w0 l Γ (.nilCheck x) ty (.pointer (some a)) := fun w _ o ho _ => by
  unfold execOp; rw [ho]; simp only [h.eq]; rfl
theorem pu_extract {x : Operand} {i : Nat} {vs : List Value} [h : Ev l x (.tuple vs.toArray)] [hi : Ge vs i v] : Pu P w0 l Γ (.extract x i) ty v :=
  pu_of (s := Instr.extract (.tuple vs.toArray) i) (fun o ho _ => by unfold execOp; rw [ho]; simp only [h.eq]) (fun w _ => by simp [Instr.extract, hi.eq])

/-- len of a slice. -/
theorem pu_len {x : Operand} {T k b : Nat} {sv : Value} {α : Type} {i : Rep α} {xs : List α} [h : Ev l x sv] [ht : Sl P T k b] [hr : HasRd (List α) repList Γ [sv] xs] :
    Pu P w0 l Γ (.call { callee := .builtin .len, args := #[x], argTypes := #[T] }) ty (.int .i64 xs.length) := by
  obtain ⟨e, i, z, ht, _⟩ := ht.ex
  refine pu_of (s := Builtin.len_ #[T] ty #[sv]) (fun o ho h2 => ?_) (fun w hs => ?_)
  · unfold execOp
    rw [ho]
    simp [resolve, invoke, builtin, h.eq, h2, Pure.pure, Bind.bind, Sem.bind]
  · obtain ⟨a, cap, hc, _⟩ := hs.rd (hr := hr)
    simp only [List.cons.injEq, and_true] at hc
    subst hc
    simp [Builtin.len_, run_underlying ht, goInt]
theorem pu_len_str {x : Operand} {T : Nat} {s : ByteArray} [h : Ev l x (.string s)] [ht : IsStr P T] :
    Pu P w0 l Γ (.call { callee := .builtin .len, args := #[x], argTypes := #[T] }) ty (.int .i64 s.size) := by
  refine pu_of (s := Builtin.len_ #[T] ty #[.string s]) (fun o ho h2 => ?_) (fun w hs => ?_)
  · unfold execOp
    rw [ho]
    simp [resolve, invoke, builtin, h.eq, h2, Pure.pure, Bind.bind, Sem.bind]
  · simp [Builtin.len_, run_underlying ht.eq, goInt]

/-! binary operations -/
theorem pu_bin {op : BinOp} {T U : TypeId} {x y : Operand} {a b : Value} [hx : Ev l x a] [hy : Ev l y b] (hg : ∀ w, (eqGuard op T x y a b).run P w = .ok () w) (hr : ∀ w, (binOp op T a b).run P w = .ok v w) :
    Pu P w0 l Γ (.binOp op T x y U) ty v :=
  pu_of (s := do eqGuard op T x y a b; binOp op T a b) (fun o ho _ => by unfold execOp; rw [ho]; simp only [hx.eq, hy.eq]) (fun w _ => by
    simp only [Sem.run_bind, hg, Result.andThen_ok, hr])

theorem eqGuard_int {op : BinOp} {T : TypeId} {x y : Operand} {k k' : IntKind} {a b : Int} (w : World) : (eqGuard op T x y (.int k a) (.int k' b)).run P w = .ok () w := by
  unfold eqGuard; split <;> rfl
theorem eqGuard_bool {op : BinOp} {T : TypeId} {x y : Operand} {a b : Bool} (w : World) : (eqGuard op T x y (.bool a) (.bool b)).run P w = .ok () w := by
  unfold eqGuard; split <;> rfl
theorem eqGuard_str {op : BinOp} {T : TypeId} {x y : Operand} {a b : ByteArray} (w : World) : (eqGuard op T x y (.string a) (.string b)).run P w = .ok () w := by
  unfold eqGuard; split <;> rfl

section ints
variable {T U : TypeId} {x y : Operand} {a b : Int} {k : IntKind}
theorem pu_lss [hx : Ev l x (.int k a)] [hy : Ev l y (.int k b)] : Pu P w0 l Γ (.binOp .lss T x y U) ty (.bool (decide (a < b))) :=
  pu_bin eqGuard_int (fun w => by simp [binOp, Op.intCmp])
theorem pu_leq [hx : Ev l x (.int k a)] [hy : Ev l y (.int k b)] : Pu P w0 l Γ (.binOp .leq T x y U) ty (.bool (decide (a ≤ b))) :=
  pu_bin eqGuard_int (fun w => by simp [binOp, Op.intCmp])
theorem pu_gtr [hx : Ev l x (.int k a)] [hy : Ev l y (.int k b)] : Pu P w0 l Γ (.binOp .gtr T x y U) ty (.bool (decide (b < a))) :=
  pu_bin eqGuard_int (fun w => by simp [binOp, Op.intCmp])
theorem pu_geq [hx : Ev l x (.int k a)] [hy : Ev l y (.int k b)] : Pu P w0 l Γ (.binOp .geq T x y U) ty (.bool (decide (b ≤ a))) :=
  pu_bin eqGuard_int (fun w => by simp [binOp, Op.intCmp])
theorem pu_eql [hx : Ev l x (.int k a)] [hy : Ev l y (.int k b)] : Pu P w0 l Γ (.binOp .eql T x y U) ty (.bool (decide (a = b))) :=
  pu_bin eqGuard_int (fun w => by simp [binOp, Op.intCmp]; rfl)
theorem pu_neq [hx : Ev l x (.int k a)] [hy : Ev l y (.int k b)] : Pu P w0 l Γ (.binOp .neq T x y U) ty (.bool (decide (a ≠ b))) :=
  pu_bin eqGuard_int (fun w => by simp [binOp, Op.intCmp, bne]; by_cases h : a = b <;> simp [h])
theorem pu_add [hx : Ev l x (.int .i64 a)] [hy : Ev l y (.int .i64 b)] (h : -9223372036854775808 ≤ a + b ∧ a + b ≤ 9223372036854775807) : Pu P w0 l Γ (.binOp .add T x y U) ty (.int .i64 (a + b)) :=
  pu_bin eqGuard_int (fun w => by simp only [binOp, Op.intArith, ne_eq, not_true_eq_false, if_false]; rw [IntWalk.i64_in _ (by omega)]; rfl)
theorem pu_sub [hx : Ev l x (.int .i64 a)] [hy : Ev l y (.int .i64 b)] (h : -9223372036854775808 ≤ a - b ∧ a - b ≤ 9223372036854775807) : Pu P w0 l Γ (.binOp .sub T x y U) ty (.int .i64 (a - b)) :=
  pu_bin eqGuard_int (fun w => by simp only [binOp, Op.intArith, ne_eq, not_true_eq_false, if_false]; rw [IntWalk.i64_in _ (by omega)]; rfl)
theorem pu_mul [hx : Ev l x (.int .i64 a)] [hy : Ev l y (.int .i64 b)] (h : -9223372036854775808 ≤ a * b ∧ a * b ≤ 9223372036854775807) : Pu P w0 l Γ (.binOp .mul T x y U) ty (.int .i64 (a * b)) :=
  pu_bin eqGuard_int (fun w => by simp only [binOp, Op.intArith, ne_eq, not_true_eq_false, if_false]; rw [IntWalk.i64_in _ (by omega)]; rfl)
end ints

section bools
variable {T U : TypeId} {x y : Operand} {a b : Bool}
/-- bool is a type of the program, of its own kind. -/
class IsBool (P : Program) (T : TypeId) : Prop where
  eq : P.underlying T = some .bool
theorem run_equalIn_bool [hT : IsBool P T] (d : Nat) (w : World) : (Op.equalIn (d + 1) T (.bool a) (.bool b)).run P w = .ok (a == b) w := by
  simp only [Op.equalIn, Sem.run_bind, run_underlying hT.eq, Result.andThen_ok, Sem.run_pure]
theorem run_equal_bool [hT : IsBool P T] (w : World) : (Op.equal T (.bool a) (.bool b)).run P w = .ok (a == b) w := run_equalIn_bool 9999 w
theorem pu_eql_b [hx : Ev l x (.bool a)] [hy : Ev l y (.bool b)] [hT : IsBool P T] : Pu P w0 l Γ (.binOp .eql T x y U) ty (.bool (a == b)) :=
  pu_bin eqGuard_bool (fun w => run_value (f := Value.bool) (run_equal_bool w))
theorem pu_neq_b [hx : Ev l x (.bool a)] [hy : Ev l y (.bool b)] [hT : IsBool P T] : Pu P w0 l Γ (.binOp .neq T x y U) ty (.bool (!(a == b))) :=
  pu_bin eqGuard_bool (fun w => run_value (f := fun b => Value.bool (!b)) (run_equal_bool w))
end bools

/-! strings -/
theorem toList_beq (a b : ByteArray) : (a.toList == b.toList) = decide (a = b) := by
  rw [ByteArray.toList_eq, ByteArray.toList_eq]
  by_cases h : a = b
  · subst h; simp
  · have : ¬ a.data.toList = b.data.toList := fun e => h (by
      cases a; cases b; simp at e; exact congrArg ByteArray.mk e)
    simp only [h, decide_false]
    exact beq_false_of_ne this
section strs
variable {T U : TypeId} {x y : Operand} {a b : ByteArray}
theorem pu_eql_s [hx : Ev l x (.string a)] [hy : Ev l y (.string b)] : Pu P w0 l Γ (.binOp .eql T x y U) ty (.bool (decide (a = b))) :=
  pu_bin eqGuard_str (fun w => by simp only [binOp, Op.stringOp]; rw [toList_beq]; rfl)
theorem pu_neq_s [hx : Ev l x (.string a)] [hy : Ev l y (.string b)] : Pu P w0 l Γ (.binOp .neq T x y U) ty (.bool (decide (a ≠ b))) :=
  pu_bin eqGuard_str (fun w => by simp only [binOp, Op.stringOp]; rw [toList_beq]; simp)
end strs

/-- T is int or int64. -/
class I64T (P : Program) (T : TypeId) : Prop where
  eq : P.underlying T = some (.int .i64)
theorem pu_conv {S T : TypeId} {x : Operand} {n : Int} [hx : Ev l x (.int .i64 n)] [hS : I64T P S] [hT : I64T P T] (h : -9223372036854775808 ≤ n ∧ n ≤ 9223372036854775807) : Pu P w0 l Γ (.convert S T x) ty (.int .i64 n) :=
  pu_of (s := convert S T (.int .i64 n)) (fun o ho _ => by unfold execOp; rw [ho]; simp only [hx.eq]) (fun w _ => by
    simp only [convert, Sem.run_bind, run_underlying hS.eq, run_underlying hT.eq, Result.andThen_ok, Conv.intToInt, Sem.run_pure]
    rw [IntWalk.i64_in _ (by omega)])

/-! reading memory -/
theorem pu_load {T : TypeId} {x : Operand} {b off : Nat} {cs : List Value} [h : Ev l x (.pointer (some ⟨b, off, none⟩))] [hT : Sc P T] [hb : HasBk Γ b cs] [hv : Ge cs off v] : Pu P w0 l Γ (.load T x) ty v :=
  pu_of (s := Instr.loadAt T (.pointer (some ⟨b, off, none⟩))) (fun o ho _ => by unfold execOp; rw [ho]; simp only [h.eq]) (fun w hs => by
    obtain ⟨e, he⟩ := hs.bk (hr := hb)
    have hc : w.cell? ⟨b, off, none⟩ = some v := by simp [World.cell?, he, hv.eq]
    simp [Instr.loadAt, Instr.sureAddr, loadVar, Sem.run_bind, hT.agg, load, Sem.run, hc])

theorem run_loadCells {P : Program} {w : World} {p : Addr} : ∀ {cs : List Value} (i : Nat) (acc : Array Value), (∀ j, j < cs.length → w.cell? (p.add (i + j)) = cs[j]?) → (loadCellsFrom p i cs.length acc).run P w = .ok (acc ++ cs.toArray) w
  | [], i, acc, _ => by simp [loadCellsFrom]
  | c :: cs, i, acc, h => by
    have h0 := h 0 (by simp)
    simp only [Nat.add_zero, List.getElem?_cons_zero] at h0
    simp only [List.length_cons, loadCellsFrom, Sem.run_bind, load, Sem.run, h0, Result.andThen_ok]
    rw [run_loadCells (i + 1) (acc.push c) (fun j hj => by have := h (j + 1) (by simpa using hj); rw [show i + 1 + j = i + (j + 1) by omega]; simpa using this)]
    simp

theorem pu_load_agg {T : TypeId} {x : Operand} {b off k : Nat} {cs out : List Value} [h : Ev l x (.pointer (some ⟨b, off, none⟩))] [hT : Ag P T k] [hb : HasBk Γ b cs] [hv : Tk cs off k out] : Pu P w0 l Γ (.load T x) ty (.agg out.toArray) :=
  pu_of (s := Instr.loadAt T (.pointer (some ⟨b, off, none⟩))) (fun o ho _ => by unfold execOp; rw [ho]; simp only [h.eq]) (fun w hs => by
    obtain ⟨e, he⟩ := hs.bk (hr := hb)
    obtain ⟨h1, h2⟩ := hv.eq
    have hk : out.length = k := by rw [← h1]; simp; omega
    have hc := run_loadCells (P := P) (w := w) (p := ⟨b, off, none⟩) (cs := out) 0 #[] (fun j hj => by
      rw [add_lit, Nat.zero_add]
      have : out[j]? = cs[off + j]? := by rw [← h1, List.getElem?_take, if_pos (by omega), List.getElem?_drop]
      simp [World.cell?, he, this])
    rw [hk] at hc
    simp only [Instr.loadAt, Instr.sureAddr, loadVar, Sem.run_bind, Sem.run_pure, Result.andThen_ok, hT.agg, if_true, hT.size, loadCells, hc]
    simp)

/-- The address of an element: not laid open. -/
def elemA (v : Value) (n : Int) (k : Nat) : Addr :=
  match v with
  | .slice (some a) _ _ => a.add (n.toNat * k)
  | _ => ⟨0, 0, none⟩

/-- Where the cells of element n lie. -/
theorem elem_cells {α : Type} [Rep α] {ok : Nat → Prop} {w : World} {sv : Value} {xs : List α} (h : Rep.rd ok w [sv] xs) {n : Int} (h0 : 0 ≤ n) (h1 : n < xs.length) :
    ∃ a cap b off p c s, sv = .slice (some ⟨b, off, none⟩) xs.length cap ∧ a = (⟨b, off, none⟩ : Addr) ∧ ok b ∧ CellsAt w b off (p ++ c ++ s) ∧ p.length = n.toNat * Rep.sz α ∧ elemA sv n (Rep.sz α) = ⟨b, off + p.length, none⟩ ∧
      Rep.rd ok w c (xs[n.toNat]'(by omega)) := by
  obtain ⟨a, cap, hc, _, _, _, h2⟩ := h
  simp only [List.cons.injEq, and_true] at hc
  obtain ⟨b, off, cells, rfl, hb, hca, hr⟩ := h2 (by omega)
  obtain ⟨p, c, s, e, hp, hc'⟩ := hr.get n.toNat (by omega)
  subst hc
  refine ⟨_, cap, b, off, p, c, s, rfl, rfl, hb, e ▸ hca, hp, ?_, hc'⟩
  simp only [elemA, add_lit, hp]

theorem pu_index {T k by_ : Nat} {x y : Operand} {sv : Value} {n : Int} {α : Type} {i : Rep α} {xs : List α} {kk : IntKind} [h : Ev l x sv] [hn : Ev l y (.int kk n)] [hT : Sl P T k by_] [hr : HasRd (List α) repList Γ [sv] xs]
    (hi : 0 ≤ n ∧ n < xs.length) : Pu P w0 l Γ (.indexAddr T x y) ty (.pointer (some (elemA sv n k))) := by
  obtain ⟨e, inf, z, ht, hinf, hk, _⟩ := hT.ex
  refine pu_of (s := Instr.indexAt T sv (.int kk n)) (fun o ho _ => by unfold execOp; rw [ho]; simp only [h.eq, hn.eq]) (fun w hs => ?_)
  obtain ⟨a, cap, b, off, p, c, s, rfl, _, _, _, _, _, _⟩ := elem_cells (hs.rd (hr := hr)) hi.1 hi.2
  simp [Instr.indexAt, asIntOf, run_underlying ht, sizeOf, typeInfo, hinf, hk, hi.1, hi.2, elemA]

/-- An element that is a number. -/
theorem pu_load_int {T : TypeId} {x : Operand} {sv : Value} {n : Int} {xs : List Int} [h : Ev l x (.pointer (some (elemA sv n 1)))] [hT : Sc P T] [hr : HasRd (List Int) repList Γ [sv] xs]
    (hi : 0 ≤ n ∧ n < xs.length) : Pu P w0 l Γ (.load T x) ty (.int .i64 (xs.getD n.toNat 0)) :=
  pu_of (s := Instr.loadAt T (.pointer (some (elemA sv n 1)))) (fun o ho _ => by unfold execOp; rw [ho]; simp only [h.eq]) (fun w hs => by
    obtain ⟨a, cap, b, off, p, c, s, rfl, _, _, hca, hp, he, hrd⟩ := elem_cells (hs.rd (hr := hr)) hi.1 hi.2
    obtain ⟨rfl, _⟩ := hrd
    have he' : elemA (.slice (some ⟨b, off, none⟩) xs.length cap) n 1 = ⟨b, off + p.length, none⟩ := he
    have := hca.part 0 (by simp)
    simp only [Nat.add_zero, List.getElem?_cons_zero] at this
    rw [he', List.getD_eq_getElem?_getD, List.getElem?_eq_getElem (by omega), Option.getD_some]
    simp [Instr.loadAt, Instr.sureAddr, loadVar, Sem.run_bind, hT.agg, load, Sem.run, this])
theorem pu_load_bool {T : TypeId} {x : Operand} {sv : Value} {n : Int} {xs : List Bool} [h : Ev l x (.pointer (some (elemA sv n 1)))] [hT : Sc P T] [hr : HasRd (List Bool) repList Γ [sv] xs]
    (hi : 0 ≤ n ∧ n < xs.length) : Pu P w0 l Γ (.load T x) ty (.bool (xs.getD n.toNat false)) :=
  pu_of (s := Instr.loadAt T (.pointer (some (elemA sv n 1)))) (fun o ho _ => by unfold execOp; rw [ho]; simp only [h.eq]) (fun w hs => by
    obtain ⟨a, cap, b, off, p, c, s, rfl, _, _, hca, hp, he, hrd⟩ := elem_cells (hs.rd (hr := hr)) hi.1 hi.2
    have hrd' : c = [.bool _] := hrd
    subst hrd'
    have he' : elemA (.slice (some ⟨b, off, none⟩) xs.length cap) n 1 = ⟨b, off + p.length, none⟩ := he
    have := hca.part 0 (by simp)
    simp only [Nat.add_zero, List.getElem?_cons_zero] at this
    rw [he', List.getD_eq_getElem?_getD, List.getElem?_eq_getElem (by omega), Option.getD_some]
    simp [Instr.loadAt, Instr.sureAddr, loadVar, Sem.run_bind, hT.agg, load, Sem.run, this])
theorem pu_load_str {T : TypeId} {x : Operand} {sv : Value} {n : Int} {xs : List ByteArray} [h : Ev l x (.pointer (some (elemA sv n 1)))] [hT : Sc P T] [hr : HasRd (List ByteArray) repList Γ [sv] xs]
    (hi : 0 ≤ n ∧ n < xs.length) : Pu P w0 l Γ (.load T x) ty (.string (xs.getD n.toNat ByteArray.empty)) :=
  pu_of (s := Instr.loadAt T (.pointer (some (elemA sv n 1)))) (fun o ho _ => by unfold execOp; rw [ho]; simp only [h.eq]) (fun w hs => by
    obtain ⟨a, cap, b, off, p, c, s, rfl, _, _, hca, hp, he, hrd⟩ := elem_cells (hs.rd (hr := hr)) hi.1 hi.2
    obtain ⟨rfl, _⟩ := hrd
    have he' : elemA (.slice (some ⟨b, off, none⟩) xs.length cap) n 1 = ⟨b, off + p.length, none⟩ := he
    have := hca.part 0 (by simp)
    simp only [Nat.add_zero, List.getElem?_cons_zero] at this
    rw [he', List.getD_eq_getElem?_getD, List.getElem?_eq_getElem (by omega), Option.getD_some]
    simp [Instr.loadAt, Instr.sureAddr, loadVar, Sem.run_bind, hT.agg, load, Sem.run, this])

/-- At a pointer whose cells are known. -/
theorem pu_load_pt {T : TypeId} {x : Operand} {p : Addr} [h : Ev l x (.pointer (some p))] [hT : Sc P T] [hp : HasPt Γ p [v]] : Pu P w0 l Γ (.load T x) ty v :=
  pu_of (s := Instr.loadAt T (.pointer (some p))) (fun o ho _ => by unfold execOp; rw [ho]; simp only [h.eq]) (fun w hs => by
    have := hs.pt (hr := hp) 0 (by simp)
    simp only [List.getElem?_cons_zero] at this
    have h0 : p.add 0 = p := by simp [Addr.add]
    rw [h0] at this
    simp [Instr.loadAt, Instr.sureAddr, loadVar, Sem.run_bind, hT.agg, load, Sem.run, this])
theorem pu_load_pt_agg {T k : Nat} {x : Operand} {p : Addr} {cs : List Value} [h : Ev l x (.pointer (some p))] [hT : Ag P T k] [hp : HasPt Γ p cs] (hk : cs.length = k) : Pu P w0 l Γ (.load T x) ty (.agg cs.toArray) :=
  pu_of (s := Instr.loadAt T (.pointer (some p))) (fun o ho _ => by unfold execOp; rw [ho]; simp only [h.eq]) (fun w hs => by
    have hc := run_loadCells (P := P) (w := w) (p := p) (cs := cs) 0 #[] (fun j hj => by rw [Nat.zero_add]; exact hs.pt (hr := hp) j hj)
    rw [hk] at hc
    simp only [Instr.loadAt, Instr.sureAddr, loadVar, Sem.run_bind, Sem.run_pure, Result.andThen_ok, hT.agg, if_true, hT.size, loadCells, hc]
    simp)
end pure_ops

end Go.Eng
