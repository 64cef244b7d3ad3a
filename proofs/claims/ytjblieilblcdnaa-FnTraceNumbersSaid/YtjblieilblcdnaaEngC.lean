/- The rules of the walk: environments, control, the operations that only compute. -/
import Derived.Test.YtjblieilblcdnaaEngB
namespace Go.Eng
open Go Go.RowKit
set_option linter.unusedVariables false

/-- The frame: its slots. -/
def E (l : List Value) : Act := ⟨l.toArray, []⟩

theorem E_put (l : List Value) (d : Nat) (v : Value) : (E l).put (some d) v = E (l.set d v) := by simp [E, Act.put]
theorem E_put_none (l : List Value) (v : Value) : (E l).put none v = E l := rfl

/-- Place n of a list holds v. -/
class Ge {α : Type} (l : List α) (n : Nat) (v : outParam α) : Prop where
  eq : l[n]? = some v
class Se {α : Type} (l : List α) (n : Nat) (v : α) (l' : outParam (List α)) : Prop where
  eq : l.set n v = l'
instance {α : Type} {a0 : α} {l : List α} : Ge (a0 :: l) 0 a0 := ⟨rfl⟩
instance {α : Type} {a0 a1 : α} {l : List α} : Ge (a0 :: a1 :: l) 1 a1 := ⟨rfl⟩
instance {α : Type} {a0 a1 a2 : α} {l : List α} : Ge (a0 :: a1 :: a2 :: l) 2 a2 := ⟨rfl⟩
instance {α : Type} {a0 a1 a2 a3 : α} {l : List α} : Ge (a0 :: a1 :: a2 :: a3 :: l) 3 a3 := ⟨rfl⟩
instance {α : Type} {a0 a1 a2 a3 a4 : α} {l : List α} : Ge (a0 :: a1 :: a2 :: a3 :: a4 :: l) 4 a4 := ⟨rfl⟩
instance {α : Type} {a0 a1 a2 a3 a4 a5 : α} {l : List α} : Ge (a0 :: a1 :: a2 :: a3 :: a4 :: a5 :: l) 5 a5 := ⟨rfl⟩
instance {α : Type} {a0 a1 a2 a3 a4 a5 a6 : α} {l : List α} : Ge (a0 :: a1 :: a2 :: a3 :: a4 :: a5 :: a6 :: l) 6 a6 := ⟨rfl⟩
instance {α : Type} {a0 a1 a2 a3 a4 a5 a6 a7 : α} {l : List α} : Ge (a0 :: a1 :: a2 :: a3 :: a4 :: a5 :: a6 :: a7 :: l) 7 a7 := ⟨rfl⟩
instance {α : Type} {a0 a1 a2 a3 a4 a5 a6 a7 a8 : α} {l : List α} : Ge (a0 :: a1 :: a2 :: a3 :: a4 :: a5 :: a6 :: a7 :: a8 :: l) 8 a8 := ⟨rfl⟩
instance {α : Type} {a0 a1 a2 a3 a4 a5 a6 a7 a8 a9 : α} {l : List α} : Ge (a0 :: a1 :: a2 :: a3 :: a4 :: a5 :: a6 :: a7 :: a8 :: a9 :: l) 9 a9 := ⟨rfl⟩
instance {α : Type} {a0 a1 a2 a3 a4 a5 a6 a7 a8 a9 a10 : α} {l : List α} : Ge (a0 :: a1 :: a2 :: a3 :: a4 :: a5 :: a6 :: a7 :: a8 :: a9 :: a10 :: l) 10 a10 := ⟨rfl⟩
instance {α : Type} {a0 a1 a2 a3 a4 a5 a6 a7 a8 a9 a10 a11 : α} {l : List α} : Ge (a0 :: a1 :: a2 :: a3 :: a4 :: a5 :: a6 :: a7 :: a8 :: a9 :: a10 :: a11 :: l) 11 a11 := ⟨rfl⟩
instance {α : Type} {a0 a1 a2 a3 a4 a5 a6 a7 a8 a9 a10 a11 a12 : α} {l : List α} : Ge (a0 :: a1 :: a2 :: a3 :: a4 :: a5 :: a6 :: a7 :: a8 :: a9 :: a10 :: a11 :: a12 :: l) 12 a12 := ⟨rfl⟩
instance {α : Type} {a0 a1 a2 a3 a4 a5 a6 a7 a8 a9 a10 a11 a12 a13 : α} {l : List α} : Ge (a0 :: a1 :: a2 :: a3 :: a4 :: a5 :: a6 :: a7 :: a8 :: a9 :: a10 :: a11 :: a12 :: a13 :: l) 13 a13 := ⟨rfl⟩
instance {α : Type} {a0 a1 a2 a3 a4 a5 a6 a7 a8 a9 a10 a11 a12 a13 a14 : α} {l : List α} : Ge (a0 :: a1 :: a2 :: a3 :: a4 :: a5 :: a6 :: a7 :: a8 :: a9 :: a10 :: a11 :: a12 :: a13 :: a14 :: l) 14 a14 := ⟨rfl⟩
instance {α : Type} {a0 a1 a2 a3 a4 a5 a6 a7 a8 a9 a10 a11 a12 a13 a14 a15 : α} {l : List α} : Ge (a0 :: a1 :: a2 :: a3 :: a4 :: a5 :: a6 :: a7 :: a8 :: a9 :: a10 :: a11 :: a12 :: a13 :: a14 :: a15 :: l) 15 a15 := ⟨rfl⟩
instance {α : Type} {a0 a1 a2 a3 a4 a5 a6 a7 a8 a9 a10 a11 a12 a13 a14 a15 v : α} {l : List α} {n : Nat} [h : Ge l n v] : Ge (a0 :: a1 :: a2 :: a3 :: a4 :: a5 :: a6 :: a7 :: a8 :: a9 :: a10 :: a11 :: a12 :: a13 :: a14 :: a15 :: l) (n + 16) v := ⟨h.eq⟩
instance {α : Type} {a0 v : α} {l : List α} : Se (a0 :: l) 0 v (v :: l) := ⟨rfl⟩
instance {α : Type} {a0 a1 v : α} {l : List α} : Se (a0 :: a1 :: l) 1 v (a0 :: v :: l) := ⟨rfl⟩
instance {α : Type} {a0 a1 a2 v : α} {l : List α} : Se (a0 :: a1 :: a2 :: l) 2 v (a0 :: a1 :: v :: l) := ⟨rfl⟩
instance {α : Type} {a0 a1 a2 a3 v : α} {l : List α} : Se (a0 :: a1 :: a2 :: a3 :: l) 3 v (a0 :: a1 :: a2 :: v :: l) := ⟨rfl⟩
instance {α : Type} {a0 a1 a2 a3 a4 v : α} {l : List α} : Se (a0 :: a1 :: a2 :: a3 :: a4 :: l) 4 v (a0 :: a1 :: a2 :: a3 :: v :: l) := ⟨rfl⟩
instance {α : Type} {a0 a1 a2 a3 a4 a5 v : α} {l : List α} : Se (a0 :: a1 :: a2 :: a3 :: a4 :: a5 :: l) 5 v (a0 :: a1 :: a2 :: a3 :: a4 :: v :: l) := ⟨rfl⟩
instance {α : Type} {a0 a1 a2 a3 a4 a5 a6 v : α} {l : List α} : Se (a0 :: a1 :: a2 :: a3 :: a4 :: a5 :: a6 :: l) 6 v (a0 :: a1 :: a2 :: a3 :: a4 :: a5 :: v :: l) := ⟨rfl⟩
instance {α : Type} {a0 a1 a2 a3 a4 a5 a6 a7 v : α} {l : List α} : Se (a0 :: a1 :: a2 :: a3 :: a4 :: a5 :: a6 :: a7 :: l) 7 v (a0 :: a1 :: a2 :: a3 :: a4 :: a5 :: a6 :: v :: l) := ⟨rfl⟩
instance {α : Type} {a0 a1 a2 a3 a4 a5 a6 a7 a8 v : α} {l : List α} : Se (a0 :: a1 :: a2 :: a3 :: a4 :: a5 :: a6 :: a7 :: a8 :: l) 8 v (a0 :: a1 :: a2 :: a3 :: a4 :: a5 :: a6 :: a7 :: v :: l) := ⟨rfl⟩
instance {α : Type} {a0 a1 a2 a3 a4 a5 a6 a7 a8 a9 v : α} {l : List α} : Se (a0 :: a1 :: a2 :: a3 :: a4 :: a5 :: a6 :: a7 :: a8 :: a9 :: l) 9 v (a0 :: a1 :: a2 :: a3 :: a4 :: a5 :: a6 :: a7 :: a8 :: v :: l) := ⟨rfl⟩
instance {α : Type} {a0 a1 a2 a3 a4 a5 a6 a7 a8 a9 a10 v : α} {l : List α} : Se (a0 :: a1 :: a2 :: a3 :: a4 :: a5 :: a6 :: a7 :: a8 :: a9 :: a10 :: l) 10 v (a0 :: a1 :: a2 :: a3 :: a4 :: a5 :: a6 :: a7 :: a8 :: a9 :: v :: l) := ⟨rfl⟩
instance {α : Type} {a0 a1 a2 a3 a4 a5 a6 a7 a8 a9 a10 a11 v : α} {l : List α} : Se (a0 :: a1 :: a2 :: a3 :: a4 :: a5 :: a6 :: a7 :: a8 :: a9 :: a10 :: a11 :: l) 11 v (a0 :: a1 :: a2 :: a3 :: a4 :: a5 :: a6 :: a7 :: a8 :: a9 :: a10 :: v :: l) := ⟨rfl⟩
instance {α : Type} {a0 a1 a2 a3 a4 a5 a6 a7 a8 a9 a10 a11 a12 v : α} {l : List α} : Se (a0 :: a1 :: a2 :: a3 :: a4 :: a5 :: a6 :: a7 :: a8 :: a9 :: a10 :: a11 :: a12 :: l) 12 v (a0 :: a1 :: a2 :: a3 :: a4 :: a5 :: a6 :: a7 :: a8 :: a9 :: a10 :: a11 :: v :: l) := ⟨rfl⟩
instance {α : Type} {a0 a1 a2 a3 a4 a5 a6 a7 a8 a9 a10 a11 a12 a13 v : α} {l : List α} : Se (a0 :: a1 :: a2 :: a3 :: a4 :: a5 :: a6 :: a7 :: a8 :: a9 :: a10 :: a11 :: a12 :: a13 :: l) 13 v (a0 :: a1 :: a2 :: a3 :: a4 :: a5 :: a6 :: a7 :: a8 :: a9 :: a10 :: a11 :: a12 :: v :: l) := ⟨rfl⟩
instance {α : Type} {a0 a1 a2 a3 a4 a5 a6 a7 a8 a9 a10 a11 a12 a13 a14 v : α} {l : List α} : Se (a0 :: a1 :: a2 :: a3 :: a4 :: a5 :: a6 :: a7 :: a8 :: a9 :: a10 :: a11 :: a12 :: a13 :: a14 :: l) 14 v (a0 :: a1 :: a2 :: a3 :: a4 :: a5 :: a6 :: a7 :: a8 :: a9 :: a10 :: a11 :: a12 :: a13 :: v :: l) := ⟨rfl⟩
instance {α : Type} {a0 a1 a2 a3 a4 a5 a6 a7 a8 a9 a10 a11 a12 a13 a14 a15 v : α} {l : List α} : Se (a0 :: a1 :: a2 :: a3 :: a4 :: a5 :: a6 :: a7 :: a8 :: a9 :: a10 :: a11 :: a12 :: a13 :: a14 :: a15 :: l) 15 v (a0 :: a1 :: a2 :: a3 :: a4 :: a5 :: a6 :: a7 :: a8 :: a9 :: a10 :: a11 :: a12 :: a13 :: a14 :: v :: l) := ⟨rfl⟩
instance {α : Type} {a0 a1 a2 a3 a4 a5 a6 a7 a8 a9 a10 a11 a12 a13 a14 a15 v : α} {l l' : List α} {n : Nat} [h : Se l n v l'] : Se (a0 :: a1 :: a2 :: a3 :: a4 :: a5 :: a6 :: a7 :: a8 :: a9 :: a10 :: a11 :: a12 :: a13 :: a14 :: a15 :: l) (n + 16) v (a0 :: a1 :: a2 :: a3 :: a4 :: a5 :: a6 :: a7 :: a8 :: a9 :: a10 :: a11 :: a12 :: a13 :: a14 :: a15 :: l') := ⟨by have := h.eq; simp only [List.set_cons_succ, this, Nat.add_succ, Nat.add_zero]⟩

/-- k places from off on. -/
class Tk {α : Type} (l : List α) (off k : Nat) (out : outParam (List α)) : Prop where
  eq : (l.drop off).take k = out ∧ off + k ≤ l.length
instance {α : Type} {l : List α} : Tk l 0 0 [] := ⟨by simp⟩
instance {α : Type} {a : α} {l out : List α} {k : Nat} [h : Tk l 0 k out] : Tk (a :: l) 0 (k + 1) (a :: out) := ⟨by have := h.eq; simp at this ⊢; exact ⟨this.1, this.2⟩⟩
instance {α : Type} {a : α} {l out : List α} {off k : Nat} [h : Tk l off k out] : Tk (a :: l) (off + 1) k out := ⟨by have := h.eq; simp at this ⊢; exact ⟨this.1, by omega⟩⟩
/-- The places from off on are written anew. -/
class Sp {α : Type} (l : List α) (off : Nat) (new : List α) (out : outParam (List α)) : Prop where
  eq : out = l.take off ++ new ++ l.drop (off + new.length) ∧ off + new.length ≤ l.length
instance {α : Type} {l : List α} : Sp l 0 [] l := ⟨by simp⟩
instance {α : Type} {a b : α} {l new out : List α} [h : Sp l 0 new out] : Sp (a :: l) 0 (b :: new) (b :: out) := ⟨by have := h.eq; simp at this ⊢; exact ⟨this.1, this.2⟩⟩
instance {α : Type} {a : α} {l new out : List α} {off : Nat} [h : Sp l off new out] : Sp (a :: l) (off + 1) new (a :: out) := ⟨by have := h.eq; simp [Nat.succ_add] at this ⊢; exact ⟨this.1, by omega⟩⟩

/-- An operand's value. -/
class Ev (l : List Value) (x : Operand) (v : outParam Value) : Prop where
  eq : (E l).eval x = v
instance {l : List Value} {v : Value} : Ev l (.const v) v := ⟨rfl⟩
instance {l : List Value} {f : FuncId} : Ev l (.func f) (.func (.func f) #[] #[]) := ⟨rfl⟩
instance {l : List Value} {g : Nat} : Ev l (.global g) (.pointer (some ⟨g, 0, none⟩)) := ⟨rfl⟩
instance {l : List Value} {n : Nat} {v : Value} [h : Ge l n v] : Ev l (.tmp n) v := ⟨by simp [E, Act.eval, h.eq]⟩
class EvL (l : List Value) (xs : List Operand) (vs : outParam (List Value)) : Prop where
  eq : xs.map (E l).eval = vs
instance {l : List Value} : EvL l [] [] := ⟨rfl⟩
instance {l : List Value} {x : Operand} {xs : List Operand} {v : Value} {vs : List Value} [h : Ev l x v] [h' : EvL l xs vs] : EvL l (x :: xs) (v :: vs) := ⟨by simp [h.eq, h'.eq]⟩

/-! ### The judgements -/
def WL (P : Program) (ops : Array Oper) (Q : Exit → Act → World → Prop) (w0 : World) (rest : List Oper) (l : List Value) (Γ : List Atom) : Prop :=
  ∀ w, Sat w0 w Γ → wpList P ops Q rest (E l) w
def WC (P : Program) (Q : Exit → Act → World → Prop) (w0 : World) (c : Code) (l : List Value) (Γ : List Atom) : Prop :=
  ∀ w, Sat w0 w Γ → c.wp P Q (E l) w
def WQ (Q : Exit → Act → World → Prop) (w0 : World) (e : Exit) (l : List Value) (Γ : List Atom) : Prop :=
  ∀ w, Sat w0 w Γ → Q e (E l) w

section control
variable {P : Program} {ops : Array Oper} {Q : Exit → Act → World → Prop} {w0 : World} {rest : List Oper} {l l' : List Value} {Γ Δ : List Atom} {x y : Code} {next : Act → World → Prop}

theorem wc_seq (h : WC P (Exit.then (y.wp P Q) Q) w0 x l Γ) : WC P Q w0 (.seq x y) l Γ := fun w hs => wp_seq (h w hs)
theorem wc_skip (h : WQ Q w0 .normal l Γ) : WC P Q w0 .skip l Γ := fun w hs => wp_skip (h w hs)
theorem wc_ret (h : WQ Q w0 .ret l Γ) : WC P Q w0 .ret l Γ := fun w hs => wp_ret (h w hs)
theorem wc_exit {id : Nat} (h : WQ Q w0 (.exit id) l Γ) : WC P Q w0 (.exit id) l Γ := fun w hs => wp_exit (h w hs)
theorem wc_block {id : Nat} (h : WC P (Exit.inBlock id Q) w0 x l Γ) : WC P Q w0 (.block id x) l Γ := fun w hs => wp_block (h w hs)
theorem wc_region {id : Nat} {ol : List Oper} (h : WL P ol.toArray Q w0 ol l Γ) : WC P Q w0 (.region id ol.toArray false) l Γ := fun w hs => wp_region_lit (h w hs)
theorem wc_cond {c : Operand} {b : Bool} [hc : Ev l c (.bool b)] (ht : b = true → WC P Q w0 x l Γ) (hf : b = false → WC P Q w0 y l Γ) : WC P Q w0 (.cond c x y) l Γ :=
  fun w hs => wp_cond_split hc.eq (fun h => ht h w hs) (fun h => hf h w hs)
theorem wc_cond_t {c : Operand} [hc : Ev l c (.bool true)] (h : WC P Q w0 x l Γ) : WC P Q w0 (.cond c x y) l Γ := fun w hs => wp_cond_true hc.eq (h w hs)
theorem wc_cond_f {c : Operand} [hc : Ev l c (.bool false)] (h : WC P Q w0 y l Γ) : WC P Q w0 (.cond c x y) l Γ := fun w hs => wp_cond_false hc.eq (h w hs)
theorem wl_nil (h : WQ Q w0 .normal l Γ) : WL P ops Q w0 [] l Γ := fun w hs => wpList_nil (h w hs)

theorem wq_then_n (h : WC P Q w0 y l Γ) : WQ (Exit.then (y.wp P Q) Q) w0 .normal l Γ := fun w hs => h w hs
theorem wq_then_r (h : WQ Q w0 .ret l Γ) : WQ (Exit.then next Q) w0 .ret l Γ := fun w hs => h w hs
theorem wq_then_x {id : Nat} (h : WQ Q w0 (.exit id) l Γ) : WQ (Exit.then next Q) w0 (.exit id) l Γ := fun w hs => h w hs
theorem wq_blk_n {id : Nat} (h : WQ Q w0 .normal l Γ) : WQ (Exit.inBlock id Q) w0 .normal l Γ := fun w hs => h w hs
theorem wq_blk_r {id : Nat} (h : WQ Q w0 .ret l Γ) : WQ (Exit.inBlock id Q) w0 .ret l Γ := fun w hs => h w hs
theorem wq_blk_s {id : Nat} (h : WQ Q w0 .normal l Γ) : WQ (Exit.inBlock id Q) w0 (.exit id) l Γ := fun w hs => by simpa [Exit.inBlock] using h w hs
theorem wq_blk_o {id id' : Nat} (hn : (id' == id) = false) (h : WQ Q w0 (.exit id') l Γ) : WQ (Exit.inBlock id Q) w0 (.exit id') l Γ := fun w hs => by
  have : id' ≠ id := by simpa using hn
  simpa [Exit.inBlock, this] using h w hs

theorem wl_set {d : Nat} {v : Value} [hs : Se l d v l'] (h : WL P ops Q w0 rest l' Γ) : WL P ops Q w0 rest (l.set d v) Γ := hs.eq ▸ h

/-- An operation that yields v in every world that meets Γ, and leaves the world as it is. -/
def Pu (P : Program) (w0 : World) (l : List Value) (Γ : List Atom) (op : Op) (ty : TypeId) (v : Value) : Prop :=
  ∀ w, Sat w0 w Γ → ∀ o : Oper, o.op = op → o.type = ty → (execOp (E l).eval o).run P w = .ok (.value v) w

variable {op : Op} {ty : TypeId} {v : Value} {pos : String} {after : Array Edge} {d : Nat} {g : Option (Nat × Bool)}

theorem wl_pure (hy : Pu P w0 l Γ op ty v) [hd : Se l d v l'] (h : WL P ops Q w0 rest l' Γ) : WL P ops Q w0 (⟨some d, op, ty, pos, after, none⟩ :: rest) l Γ := by
  intro w hs
  refine wpList_plain rfl fun K hK => ?_
  unfold Oper.wp
  rw [hy w hs _ rfl rfl, Oper.upon_value, E_put, hd.eq]
  exact hK _ _ (h w hs)

/-- A guarded operation whose guard is known. -/
theorem wl_on_ {j dj : Nat} {oj : Oper} {b : Bool} {dst : Option Tmp} (hj : ops[j]? = some oj) (hdj : oj.dst = some dj) [hb : Ge l dj (.bool b)]
    (h : WL P ops Q w0 (⟨dst, op, ty, pos, after, none⟩ :: rest) l Γ) : WL P ops Q w0 (⟨dst, op, ty, pos, after, some (j, b)⟩ :: rest) l Γ := by
  intro w hs
  have h := h w hs
  have hy : yielded ops (E l).tmps j = some b := by simp [yielded, hj, hdj, E, hb.eq]
  simp only [wpList, Region.wanted, hy, beq_self_eq_true, if_true] at h ⊢
  exact h

theorem wl_off_ {j dj : Nat} {oj : Oper} {b b' : Bool} {d : Nat} (hj : ops[j]? = some oj) (hdj : oj.dst = some dj) [hb : Ge l dj (.bool b')] (hne : (b' == b) = false) [hd : Se l d undef l']
    (h : WL P ops Q w0 rest l' Γ) : WL P ops Q w0 (⟨some d, op, ty, pos, after, some (j, b)⟩ :: rest) l Γ := by
  intro w hs
  have hy : yielded ops (E l).tmps j = some b' := by simp [yielded, hj, hdj, E, hb.eq]
  have hw : Region.wanted (⟨some d, op, ty, pos, after, some (j, b)⟩ : Oper) (yielded ops (E l).tmps) = false := by
    simp only [Region.wanted, hy]; simpa using hne
  simp only [wpList, hw, Bool.false_eq_true, if_false]
  rw [E_put, hd.eq]
  exact h w hs

/-- The guarding operation itself was passed over. -/
theorem wl_off_u {j dj : Nat} {oj : Oper} {b : Bool} {d : Nat} (hj : ops[j]? = some oj) (hdj : oj.dst = some dj) [hb : Ge l dj undef] [hd : Se l d undef l']
    (h : WL P ops Q w0 rest l' Γ) : WL P ops Q w0 (⟨some d, op, ty, pos, after, some (j, b)⟩ :: rest) l Γ := by
  intro w hs
  have hw : Region.wanted (⟨some d, op, ty, pos, after, some (j, b)⟩ : Oper) (yielded ops (E l).tmps) = false := by
    simp [Region.wanted, yielded, hj, hdj, E, hb.eq, undef]
  simp only [wpList, hw, Bool.false_eq_true, if_false]
  rw [E_put, hd.eq]
  exact h w hs

/-- The slot that an operation writes. -/
class Dst (o : Oper) (d : outParam Nat) : Prop where
  eq : o.dst = some d
instance {d : Nat} : Dst ⟨some d, op, ty, pos, after, g⟩ d := ⟨rfl⟩
/-- A guard's value says yes. -/
class EqB (v : Value) (b : Bool) : Prop where
  eq : v = .bool b
instance : EqB (.bool true) true := ⟨rfl⟩
instance : EqB (.bool false) false := ⟨rfl⟩
/-- .. says no. -/
class NeB (v : Value) (b : Bool) : Prop where
  ne : v = undef ∨ ∃ b', v = .bool b' ∧ (b' == b) = false
instance : NeB (.bool true) false := ⟨.inr ⟨true, rfl, rfl⟩⟩
instance : NeB (.bool false) true := ⟨.inr ⟨false, rfl, rfl⟩⟩
instance {b : Bool} : NeB undef b := ⟨.inl rfl⟩
class IsB (v : Value) (b : outParam Bool) : Prop where
  eq : v = .bool b
instance {b : Bool} : IsB (.bool b) b := ⟨rfl⟩

theorem wl_on {ol : List Oper} {j dj : Nat} {oj : Oper} {b : Bool} {dst : Option Tmp} [hj : Ge ol j oj] [hdj : Dst oj dj] [hb : Ge l dj v] [he : EqB v b]
    (h : WL P ol.toArray Q w0 (⟨dst, op, ty, pos, after, none⟩ :: rest) l Γ) : WL P ol.toArray Q w0 (⟨dst, op, ty, pos, after, some (j, b)⟩ :: rest) l Γ := by
  have := he.eq
  subst this
  exact wl_on_ (by simpa using hj.eq) hdj.eq h
theorem wl_off {ol : List Oper} {j dj : Nat} {oj : Oper} {b : Bool} {d : Nat} [hj : Ge ol j oj] [hdj : Dst oj dj] [hb : Ge l dj v] [he : NeB v b] [hd : Se l d undef l']
    (h : WL P ol.toArray Q w0 rest l' Γ) : WL P ol.toArray Q w0 (⟨some d, op, ty, pos, after, some (j, b)⟩ :: rest) l Γ := by
  rcases he.ne with rfl | ⟨b', rfl, hne⟩
  · exact wl_off_u (by simpa using hj.eq) hdj.eq h
  · exact wl_off_ (by simpa using hj.eq) hdj.eq hne h

theorem set_same {dj : Nat} {v : Value} (hb : l[dj]? = some v) : l.set dj v = l := by
  apply List.ext_getElem?
  intro i
  rw [List.getElem?_set]
  split
  · rename_i h; subst h; split
    · exact hb.symm
    · rename_i h3; rw [List.getElem?_eq_none (by omega)] at hb; cases hb
  · rfl

/-- The guard is a test that is not known: two ways. -/
theorem wl_split {ol : List Oper} {j dj : Nat} {oj : Oper} {b b' : Bool} {dst : Option Tmp} {lt lf : List Value} [hj : Ge ol j oj] [hdj : Dst oj dj] [hb : Ge l dj v] [he : IsB v b'] [h1 : Se l dj (.bool true) lt] [h2 : Se l dj (.bool false) lf]
    (ht : b' = true → WL P ol.toArray Q w0 (⟨dst, op, ty, pos, after, some (j, b)⟩ :: rest) lt Γ) (hf : b' = false → WL P ol.toArray Q w0 (⟨dst, op, ty, pos, after, some (j, b)⟩ :: rest) lf Γ) :
    WL P ol.toArray Q w0 (⟨dst, op, ty, pos, after, some (j, b)⟩ :: rest) l Γ := by
  have hv := he.eq
  have hbe := hb.eq
  cases hb' : b'
  · have := set_same (hv ▸ hbe); rw [hb', h2.eq] at this; exact this ▸ hf hb'
  · have := set_same (hv ▸ hbe); rw [hb', h1.eq] at this; exact this ▸ ht hb'

end control

end Go.Eng
