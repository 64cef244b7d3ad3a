/- The rules of the walk, found by looking: one step, one class. -/
import Derived.Test.YtjblieilblcdnaaEngM
namespace Go.Eng
open Go Go.RowKit
set_option linter.unusedVariables false
set_option linter.unusedSimpArgs false

/-! ### How many marks there are -/
class CntB (α : Type) [Siz α] [Mk α] (c : outParam Nat) : Prop where
  le : ∀ x : α, Mk.cnt x ≤ c * (1 + Siz.size x)
instance : CntB Int 1 := ⟨fun x => by show 1 ≤ 1 * (1 + 0); omega⟩
instance : CntB Bool 1 := ⟨fun x => by show 1 ≤ 1 * (1 + 0); omega⟩
instance {α β : Type} [Siz α] [Mk α] [Siz β] [Mk β] {a b c : Nat} [ha : CntB α a] [hb : CntB β b] [h : NatAdd a b c] : CntB (α × β) c := ⟨fun x => by
  have h1 := ha.le x.1
  have h2 := hb.le x.2
  have e : Mk.cnt x = Mk.cnt x.1 + Mk.cnt x.2 := rfl
  have e2 : Siz.size x = Siz.size x.1 + Siz.size x.2 := rfl
  have h3 : a * (1 + Siz.size x.1) ≤ a * (1 + Siz.size x) := Nat.mul_le_mul_left _ (by omega)
  have h4 : b * (1 + Siz.size x.2) ≤ b * (1 + Siz.size x) := Nat.mul_le_mul_left _ (by omega)
  rw [← h.eq, Nat.add_mul]
  omega⟩
theorem cntL_le {α : Type} [Siz α] [Mk α] {c : Nat} [hc : CntB α c] (xs : List α) : cntL xs ≤ c * Siz.size xs := by
  rw [siz_list]
  induction xs with
  | nil => simp [cntL]
  | cons x xs ih =>
    have h1 := hc.le x
    simp only [cntL, sumL, List.length_cons]
    have e : c * (xs.length + 1 + (Siz.size x + sumL xs)) = c * (1 + Siz.size x) + c * (xs.length + sumL xs) := by rw [← Nat.mul_add]; congr 1; omega
    omega
instance {α : Type} [Siz α] [Mk α] {c : Nat} [hc : CntB α c] : CntB (List α) c := ⟨fun xs => Nat.le_trans (cntL_le xs) (Nat.mul_le_mul_left _ (by omega))⟩

/-! ### Small readings -/
class ToN (n : Int) (k : outParam Nat) : Prop where
  eq : n.toNat = k
instance (priority := 100) {n : Int} : ToN n n.toNat := ⟨rfl⟩
instance {k : Nat} : ToN (k : Int) k := ⟨Int.toNat_natCast k⟩
instance {k : Nat} : ToN ((k : Int) + 1) (k + 1) := ⟨by omega⟩
instance {k : Nat} : ToN ((k : Int) + 2) (k + 2) := ⟨by omega⟩
instance {k j : Nat} : ToN ((k : Int) + (j : Int)) (k + j) := ⟨by omega⟩
instance {k : Nat} : ToN ((k : Int) + 1 - 1) k := ⟨by omega⟩
instance {k : Nat} : ToN ((k : Int) - 1) (k - 1) := ⟨by omega⟩
instance : ToN 0 0 := ⟨rfl⟩
instance : ToN 1 1 := ⟨rfl⟩
instance : ToN 2 2 := ⟨rfl⟩
instance : ToN 3 3 := ⟨rfl⟩
instance : ToN 4 4 := ⟨rfl⟩
instance : ToN 5 5 := ⟨rfl⟩
instance : ToN 6 6 := ⟨rfl⟩
instance : ToN 7 7 := ⟨rfl⟩
instance : ToN 8 8 := ⟨rfl⟩
instance : ToN 9 9 := ⟨rfl⟩
instance : ToN 10 10 := ⟨rfl⟩
instance : ToN 11 11 := ⟨rfl⟩
instance : ToN 12 12 := ⟨rfl⟩
instance : ToN 13 13 := ⟨rfl⟩
instance : ToN 14 14 := ⟨rfl⟩
instance : ToN 15 15 := ⟨rfl⟩
instance : ToN 16 16 := ⟨rfl⟩
instance : ToN 17 17 := ⟨rfl⟩
instance : ToN 18 18 := ⟨rfl⟩
instance : ToN 19 19 := ⟨rfl⟩
instance : ToN 20 20 := ⟨rfl⟩
instance : ToN 21 21 := ⟨rfl⟩
instance : ToN 22 22 := ⟨rfl⟩
instance : ToN 23 23 := ⟨rfl⟩
instance : ToN 24 24 := ⟨rfl⟩
instance : ToN 48 48 := ⟨rfl⟩
instance : ToN 60 60 := ⟨rfl⟩

/-- A truth value, read: when it is true. -/
class BoolP (b : Bool) (p : outParam Prop) : Prop where
  iff : b = true ↔ p
/-- .. when it is not. -/
class BoolN (b : Bool) (p : outParam Prop) : Prop where
  iff : b = false ↔ p
instance (priority := 10) {b : Bool} : BoolP b (b = true) := ⟨Iff.rfl⟩
instance (priority := 10) {b : Bool} : BoolN b (b = false) := ⟨Iff.rfl⟩
instance (priority := 100) {p : Prop} [Decidable p] : BoolP (decide p) p := ⟨decide_eq_true_iff⟩
instance (priority := 100) {p : Prop} [Decidable p] : BoolN (decide p) (¬ p) := ⟨decide_eq_false_iff_not⟩
instance {p : Prop} [Decidable p] [Decidable (¬ p)] : BoolN (decide (¬ p)) p := ⟨by rw [decide_eq_false_iff_not, Decidable.not_not]⟩
instance {α : Type} {a b : α} [Decidable (a ≠ b)] : BoolP (decide (a ≠ b)) (¬ a = b) := ⟨decide_eq_true_iff⟩
instance {α : Type} {a b : α} [Decidable (a ≠ b)] : BoolN (decide (a ≠ b)) (a = b) := ⟨by rw [decide_eq_false_iff_not]; exact Classical.not_not⟩
instance {a b : Int} : BoolN (decide (a < b)) (b ≤ a) := ⟨by rw [decide_eq_false_iff_not, Int.not_lt]⟩
instance {a b : Int} : BoolN (decide (a ≤ b)) (b < a) := ⟨by rw [decide_eq_false_iff_not, Int.not_le]⟩
instance {a b : Bool} : BoolP (a == b) (a = b) := ⟨beq_iff_eq⟩
instance {a b : Bool} : BoolN (a == b) (¬ a = b) := ⟨by rw [beq_eq_false_iff_ne]⟩
instance {b : Bool} {p : Prop} [h : BoolN b p] : BoolP (!b) p := ⟨by rw [← h.iff]; simp⟩
instance {b : Bool} {p : Prop} [h : BoolP b p] : BoolN (!b) p := ⟨by rw [← h.iff]; simp⟩

instance {a b : Bool} {p q : Prop} [h : BoolP a p] [h' : BoolP b q] : BoolP (a && b) (p ∧ q) := ⟨by rw [Bool.and_eq_true, h.iff, h'.iff]⟩
instance {a b : Bool} {p q : Prop} [h : BoolP a p] [h' : BoolP b q] : BoolN (a && b) (¬ (p ∧ q)) := ⟨by rw [← h.iff, ← h'.iff, ← Bool.and_eq_true]; simp⟩

/-! ### Steps -/
class Red (G : Prop) (G' : outParam Prop) : Prop where
  run : G' → G
theorem red {G G' : Prop} [h : Red G G'] (g : G') : G := h.run g
class RedS (G : Prop) (S : outParam Prop) (G' : outParam Prop) : Prop where
  run : S → G' → G
theorem reds {G S G' : Prop} [h : RedS G S G'] (g : G') (s : S := by first | exact True.intro | omega | assumption | ((repeat' apply And.intro) <;> first | assumption | omega) | (simp only [true_and, and_true, List.length_append, List.length_cons, List.length_nil, List.length_replicate, List.length_set, List.length_drop, List.length_take]; omega)) : G := h.run s g
class RedV (G : Prop) (S : outParam Prop) (G' : outParam (Value → Prop)) : Prop where
  run : S → (∀ v, G' v) → G
theorem redv {G S : Prop} {G' : Value → Prop} [h : RedV G S G'] (g : ∀ v, G' v) (s : S := by first | exact True.intro | omega | assumption | ((repeat' apply And.intro) <;> first | assumption | omega) | (simp only [true_and, and_true, List.length_append, List.length_cons, List.length_nil, List.length_replicate, List.length_set, List.length_drop, List.length_take]; omega)) : G := h.run s g
class RedN (G : Prop) (G' : outParam (Nat → Prop)) : Prop where
  run : (∀ v, G' v) → G
theorem redn {G : Prop} {G' : Nat → Prop} [h : RedN G G'] (g : ∀ v, G' v) : G := h.run g

class RedF (G : Prop) (S F : outParam Prop) (G' : outParam Prop) : Prop where
  run : S → (F → G') → G
theorem redf {G S F G' : Prop} [h : RedF G S F G'] (g : F → G') (s : S := by first | exact True.intro | omega | assumption | ((repeat' apply And.intro) <;> first | assumption | omega) | (simp only [true_and, and_true, List.length_append, List.length_cons, List.length_nil, List.length_replicate, List.length_set, List.length_drop, List.length_take]; omega)) : G := h.run s g
class RedC (G : Prop) (S : outParam Prop) (ρ : outParam Type) (G' : outParam (ρ → Prop)) : Prop where
  run : S → (∀ p, G' p) → G
theorem redc {G S : Prop} {ρ : Type} {G' : ρ → Prop} [h : RedC G S ρ G'] (g : ∀ p, G' p) (s : S := by first | exact True.intro | omega | assumption | ((repeat' apply And.intro) <;> first | assumption | omega) | (simp only [true_and, and_true, List.length_append, List.length_cons, List.length_nil, List.length_replicate, List.length_set, List.length_drop, List.length_take]; omega)) : G := h.run s g
class RedI (G : Prop) (p q : outParam Prop) (G1 G2 : outParam Prop) : Prop where
  run : (p → G1) → (q → G2) → G
theorem redi {G p q G1 G2 : Prop} [h : RedI G p q G1 G2] (g1 : p → G1) (g2 : q → G2) : G := h.run g1 g2
class RedQ (G : Prop) (F F' : outParam Prop) (G1 G2 : outParam Prop) : Prop where
  run : (F → G1) → (F' → G2) → G
theorem redq {G F F' G1 G2 : Prop} [h : RedQ G F F' G1 G2] (g1 : F → G1) (g2 : F' → G2) : G := h.run g1 g2
class RedD (G : Prop) (S : outParam Prop) (α : outParam Type) (iα : outParam (Rep α)) (un : outParam (Un α)) (x : outParam α) (Γ : outParam (List Atom)) (G' : outParam (List Value → List Atom → Prop)) : Prop where
  run : S → (∀ (p : un.Pr) (cs : List Value) (as : List Atom), un.cells p x = cs → un.atoms p x ++ Γ = as → un.fact x → G' cs as) → G
theorem redd {G S : Prop} {α : Type} {iα : Rep α} {un : Un α} {x : α} {Γ : List Atom} {G' : List Value → List Atom → Prop} [h : RedD G S α iα un x Γ G']
    (g : ∀ (p : un.Pr) (cs : List Value) (as : List Atom), un.cells p x = cs → un.atoms p x ++ Γ = as → un.fact x → G' cs as) (s : S := by first | exact True.intro | omega | assumption | ((repeat' apply And.intro) <;> first | assumption | omega) | (simp only [true_and, and_true, List.length_append, List.length_cons, List.length_nil, List.length_replicate, List.length_set, List.length_drop, List.length_take]; omega)) : G := h.run s g

/-- An operation that only computes, under a condition. -/
class PuS (P : Program) (l : List Value) (Γ : List Atom) (op : Op) (ty : TypeId) (v : outParam Value) (S : outParam Prop) : Prop where
  run : S → ∀ w0, Pu P w0 l Γ op ty v
/-- What function f does, under a condition. -/
class CtrC (P : Program) (f : FuncId) (vs : List Value) (Γ : List Atom) (S : outParam Prop) (ρ : outParam Type) (r : outParam (ρ → Value)) (Γ' : outParam (ρ → List Atom)) : Prop where
  run : S → ∀ w0, CJ P f vs w0 Γ r Γ'
/-- How these cells come to be owned, under a condition. -/
class OwnC (α : Type) [Rep α] (Γ : List Atom) (c : List Value) (x : outParam α) (Δ : outParam (List Atom)) (S : outParam Prop) : Prop where
  run : S → Own Γ c x Δ
class OwnLC (α : Type) [Rep α] (Γ : List Atom) (c : List (List Value)) (x : outParam (List α)) (Δ : outParam (List Atom)) (S : outParam Prop) : Prop where
  run : S → OwnL Γ c x Δ

section inst
variable {P : Program} {ops : Array Oper} {Q : Exit → Act → World → Prop} {w0 : World} {rest : List Oper} {l l' : List Value} {Γ Γb Δ Ε : List Atom} {ty : TypeId} {v : Value} {pos : String} {after : Array Edge} {d : Nat} {fuel : Nat} {bl bl' : List Bool} {op : Op} {x y : Code} {next : Act → World → Prop} {id : Nat} {lt : List Nat}

/-! owned -/
instance {n : Int} : OwnC Int Γ [.int .i64 n] n Γ (-9223372036854775808 ≤ n ∧ n ≤ 9223372036854775807) := ⟨fun h => own_int h⟩
instance {b : Bool} : OwnC Bool Γ [.bool b] b Γ True := ⟨fun _ => own_bool⟩
instance {s : ByteArray} : OwnC ByteArray Γ [.string s] s Γ (s.size ≤ 9223372036854775807) := ⟨fun h => own_str h⟩
instance {α : Type} [Rep α] : OwnC (List α) Γ [.slice none 0 0] [] Γ True := ⟨fun _ => own_nil⟩
instance (priority := 500) {α : Type} {iα : Rep α} {c : Value} {xs : List α} [h : PullOw (List α) repList Γ [c] xs Δ] : OwnC (List α) Γ [c] xs Δ True := ⟨fun _ => own_pull⟩
instance {α : Type} {iα : Rep α} {c : List Value} {xs : α} [h : HasIm α iα Γ c xs] : OwnC (Sh α) Γ c (Sh.mk xs) Γ True := ⟨fun _ => own_sh⟩
class AndC (S T : Prop) (U : outParam Prop) : Prop where
  run : U → S ∧ T
instance (priority := 10) {S T : Prop} : AndC S T (S ∧ T) := ⟨fun h => h⟩
instance {T : Prop} : AndC True T T := ⟨fun h => ⟨trivial, h⟩⟩
instance {S : Prop} : AndC S True S := ⟨fun h => ⟨h, trivial⟩⟩
/-- Types of one cell. -/
class One (α : Type) : Prop where
  t : True
instance : One Int := ⟨trivial⟩
instance : One Bool := ⟨trivial⟩
instance : One ByteArray := ⟨trivial⟩
instance {α : Type} : One (List α) := ⟨trivial⟩
instance {α β : Type} [Rep α] [Rep β] [One α] {c : Value} {d : List Value} {x : α} {y : β} {S T U : Prop} [h : OwnC α Γ [c] x Δ S] [h' : OwnC β Δ d y Ε T] [hu : AndC S T U] : OwnC (α × β) Γ (c :: d) (x, y) Ε U :=
  ⟨fun u => own_cons (h.run (hu.run u).1) (h'.run (hu.run u).2)⟩
instance {α : Type} [Rep α] : OwnLC α Γ [] [] Γ True := ⟨fun _ => OwnL.nil⟩
instance {α : Type} [Rep α] {c : List Value} {cs : List (List Value)} {x : α} {xs : List α} {S T U : Prop} [h : OwnC α Γ c x Δ S] [h' : OwnLC α Δ cs xs Ε T] [hu : AndC S T U] : OwnLC α Γ (c :: cs) (x :: xs) Ε U :=
  ⟨fun u => .cons (h.run (hu.run u).1) (h'.run (hu.run u).2)⟩

/-- A late one has come up. -/
class IsLate (lt : List Nat) (bl : List Bool) : Prop where
  no : ¬ noLate lt bl.toArray
instance {i : Nat} {lt : List Nat} {bl : List Bool} [h : Ge bl i true] : IsLate (i :: lt) bl := ⟨fun hn => by
  have := hn i (by simp)
  have h2 := h.eq
  obtain ⟨hlt, h3⟩ := List.getElem?_eq_some_iff.1 h2
  simp [hlt, h3] at this⟩
instance (priority := 500) {i : Nat} {lt : List Nat} {bl : List Bool} [h : IsLate lt bl] : IsLate (i :: lt) bl := ⟨fun hn => h.no (fun j hj => hn j (by simp [hj]))⟩
/-! steps without a condition -/
instance [hy : PuC P l Γ op ty v] [hd : Se l d v l'] : Red (WL P ops Q w0 (⟨some d, op, ty, pos, after, none⟩ :: rest) l Γ) (WL P ops Q w0 rest l' Γ) := ⟨fun h => wl_auto h⟩
instance (priority := 2000) [hd : Se l d v l'] : Red (WL P ops Q w0 rest (l.set d v) Γ) (WL P ops Q w0 rest l' Γ) := ⟨fun h => wl_set h⟩
instance (priority := 2000) [hd : Se l d v l'] : Red (WA P ops Q w0 lt Γb fuel bl (l.set d v) Γ) (WA P ops Q w0 lt Γb fuel bl l' Γ) := ⟨fun h => wa_set h⟩
instance : Red (WL P ops Q w0 [] l Γ) (WQ Q w0 .normal l Γ) := ⟨fun h => wl_nil h⟩
instance : Red (WC P Q w0 (.seq x y) l Γ) (WC P (Exit.then (y.wp P Q) Q) w0 x l Γ) := ⟨fun h => wc_seq h⟩
instance : Red (WC P Q w0 .skip l Γ) (WQ Q w0 .normal l Γ) := ⟨fun h => wc_skip h⟩
instance : Red (WC P Q w0 .ret l Γ) (WQ Q w0 .ret l Γ) := ⟨fun h => wc_ret h⟩
instance : Red (WC P Q w0 (.exit id) l Γ) (WQ Q w0 (.exit id) l Γ) := ⟨fun h => wc_exit h⟩
instance : Red (WC P Q w0 (.block id x) l Γ) (WC P (Exit.inBlock id Q) w0 x l Γ) := ⟨fun h => wc_block h⟩
instance {ol : List Oper} : Red (WC P Q w0 (.region id ol.toArray false) l Γ) (WL P ol.toArray Q w0 ol l Γ) := ⟨fun h => wc_region h⟩
instance {c : Operand} [hc : Ev l c (.bool true)] : Red (WC P Q w0 (.cond c x y) l Γ) (WC P Q w0 x l Γ) := ⟨fun h => wc_cond_t h⟩
instance {c : Operand} [hc : Ev l c (.bool false)] : Red (WC P Q w0 (.cond c x y) l Γ) (WC P Q w0 y l Γ) := ⟨fun h => wc_cond_f h⟩
instance : Red (WQ (Exit.then (y.wp P Q) Q) w0 .normal l Γ) (WC P Q w0 y l Γ) := ⟨fun h => wq_then_n h⟩
instance : Red (WQ (Exit.then next Q) w0 .ret l Γ) (WQ Q w0 .ret l Γ) := ⟨fun h => wq_then_r h⟩
instance : Red (WQ (Exit.then next Q) w0 (.exit id) l Γ) (WQ Q w0 (.exit id) l Γ) := ⟨fun h => wq_then_x h⟩
instance : Red (WQ (Exit.inBlock id Q) w0 .normal l Γ) (WQ Q w0 .normal l Γ) := ⟨fun h => wq_blk_n h⟩
instance : Red (WQ (Exit.inBlock id Q) w0 .ret l Γ) (WQ Q w0 .ret l Γ) := ⟨fun h => wq_blk_r h⟩
instance : Red (WQ (Exit.inBlock id Q) w0 (.exit id) l Γ) (WQ Q w0 .normal l Γ) := ⟨fun h => wq_blk_s h⟩
instance (priority := 1100) [h : IsLate lt bl] : Red (WQ (Exit.then (AnyNext P ops Q w0 lt Γb fuel bl) Q) w0 .normal l Γ) (WA P ops Q w0 lt Γb fuel bl l Γ) := ⟨fun h' => wq_any_late h.no h'⟩
instance [h : SubE Γ Γb] : Red (WQ (Exit.then (AnyNext P ops Q w0 lt Γb fuel bl) Q) w0 .normal l Γ) (WA P ops Q w0 lt Γb fuel bl l Γ) := ⟨fun h => wq_any ent_e h⟩
instance {ol : List Oper} {j dj : Nat} {oj : Oper} {b : Bool} {dst : Option Tmp} [hj : Ge ol j oj] [hdj : Dst oj dj] [hb : Ge l dj v] [he : EqB v b] :
    Red (WL P ol.toArray Q w0 (⟨dst, op, ty, pos, after, some (j, b)⟩ :: rest) l Γ) (WL P ol.toArray Q w0 (⟨dst, op, ty, pos, after, none⟩ :: rest) l Γ) := ⟨fun h => wl_on h⟩
instance {ol : List Oper} {j dj : Nat} {oj : Oper} {b : Bool} {d : Nat} [hj : Ge ol j oj] [hdj : Dst oj dj] [hb : Ge l dj v] [he : NeB v b] [hd : Se l d undef l'] :
    Red (WL P ol.toArray Q w0 (⟨some d, op, ty, pos, after, some (j, b)⟩ :: rest) l Γ) (WL P ol.toArray Q w0 rest l' Γ) := ⟨fun h => wl_off h⟩
instance {T k : Nat} {x y : Operand} {b off : Nat} {cs vc cs' : List Value} {n : Nat} [hx : Ev l x (.pointer (some ⟨b, off, none⟩))] [hy : Ev l y v] [hc : Cs Γ v vc] [hT : Sz P T k] [hb : PullBk Γ b cs Δ] [hl : LenIs vc n] [hk : NatEq n k] [hsp : Sp cs off vc cs'] :
    Red (WL P ops Q w0 (⟨none, .store T x y, ty, pos, after, none⟩ :: rest) l Γ) (WL P ops Q w0 rest l (.bk b cs' :: Δ)) := ⟨fun h => wl_store (hl.eq.trans hk.eq) h⟩
instance {α : Type} {iα : Rep α} {T k kk m n : Nat} {x y : Operand} {sv : Value} {xs : List α} {i : Nat} {ec vc ec' : List Value} [hx : Ev l x (.pointer (some ((elemA sv (i : Int) k).add m)))] [hy : Ev l y v] [hc : Cs Γ v vc] [hT : Sz P T kk]
    [hb : PullOw (Hole α) repHole Γ [sv] (Hole.mk xs i ec) Δ] [hsz : SzIs α k] [hsp : Sp ec m vc ec'] [hl : LenIs vc n] [hk : NatEq n kk] :
    Red (WL P ops Q w0 (⟨none, .store T x y, ty, pos, after, none⟩ :: rest) l Γ) (WL P ops Q w0 rest l (.ow [sv] (Hole.mk xs i ec') :: Δ)) := ⟨fun h => wl_store_hole (hl.eq.trans hk.eq) h⟩
instance (priority := 1100) {T k by_ : Nat} {x y : Operand} {sv : Value} {i : Nat} {α : Type} {iα : Rep α} {xs : List α} {ec : List Value} {kk : IntKind} [h : Ev l x sv] [hn : Ev l y (.int kk (i : Int))] [hT : Sl P T k by_] [hr : HasRd (Hole α) repHole Γ [sv] (Hole.mk xs i ec)]
    [hd : Se l d (.pointer (some (elemA sv (i : Int) k))) l'] : Red (WL P ops Q w0 (⟨some d, .indexAddr T x y, ty, pos, after, none⟩ :: rest) l Γ) (WL P ops Q w0 rest l' Γ) := ⟨fun h => wl_index_hole h⟩
instance {T k n : Nat} {x : Operand} {p : Addr} {cs : List Value} [h : Ev l x (.pointer (some p))] [hT : Ag P T k] [hp : HasPt Γ p cs] [hl : LenIs cs n] [hk : NatEq n k] : PuC P l Γ (.load T x) ty (.agg cs.toArray) := ⟨fun _ => pu_load_pt_agg (hl.eq.trans hk.eq)⟩

theorem elem_n {sv : Value} {n : Int} {m k : Nat} (h : n.toNat = m) : elemA sv n k = elemA sv (m : Int) k := by
  subst h
  unfold elemA
  split
  · simp only [Int.toNat_natCast]
  · rfl
/-! .. with one -/
instance (priority := 10) [h : PuC P l Γ op ty v] : PuS P l Γ op ty v True := ⟨fun _ => h.run⟩
instance {S : Prop} [hy : PuS P l Γ op ty v S] [hd : Se l d v l'] : RedS (WL P ops Q w0 (⟨some d, op, ty, pos, after, none⟩ :: rest) l Γ) S (WL P ops Q w0 rest l' Γ) := ⟨fun s h => wl_pure (hy.run s w0) h⟩
section arith
variable {T U : TypeId} {x y : Operand} {a b : Int}
instance [hx : Ev l x (.int .i64 a)] [hy : Ev l y (.int .i64 b)] : PuS P l Γ (.binOp .add T x y U) ty (.int .i64 (a + b)) (-9223372036854775808 ≤ a + b ∧ a + b ≤ 9223372036854775807) := ⟨fun h _ => pu_add h⟩
instance [hx : Ev l x (.int .i64 a)] [hy : Ev l y (.int .i64 b)] : PuS P l Γ (.binOp .sub T x y U) ty (.int .i64 (a - b)) (-9223372036854775808 ≤ a - b ∧ a - b ≤ 9223372036854775807) := ⟨fun h _ => pu_sub h⟩
instance [hx : Ev l x (.int .i64 a)] [hy : Ev l y (.int .i64 b)] : PuS P l Γ (.binOp .mul T x y U) ty (.int .i64 (a * b)) (-9223372036854775808 ≤ a * b ∧ a * b ≤ 9223372036854775807) := ⟨fun h _ => pu_mul h⟩
instance {k : IntKind} [hx : Ev l x (.int k a)] [hy : Ev l y (.int k b)] : PuS P l Γ (.binOp .rem T x y U) ty (.int k (a.tmod b)) (b ≠ 0) := ⟨fun h _ => pu_rem h⟩
instance [hx : Ev l x (.int .i64 a)] [hy : Ev l y (.int .i64 b)] : PuS P l Γ (.binOp .quo T x y U) ty (.int .i64 (a.tdiv b)) (b ≠ 0 ∧ -9223372036854775808 ≤ a.tdiv b ∧ a.tdiv b ≤ 9223372036854775807) := ⟨fun h _ => pu_quo h.1 h.2⟩
instance {S T : TypeId} [hx : Ev l x (.int .i64 a)] [hS : I64T P S] [hT : I64T P T] : PuS P l Γ (.convert S T x) ty (.int .i64 a) (-9223372036854775808 ≤ a ∧ a ≤ 9223372036854775807) := ⟨fun h _ => pu_conv h⟩
instance [h : Ev l x (.int .i64 a)] : PuS P l Γ (.unOp .neg T x) ty (.int .i64 (-a)) (-9223372036854775808 < a ∧ a ≤ 9223372036854775807) := ⟨fun h _ => pu_un_neg h⟩
end arith
section mem
variable {T k by_ : Nat} {x y : Operand} {sv : Value} {n : Int} {α : Type} {iα : Rep α} {xs : List α} {kk : IntKind} {cs : List Value} {m : Nat}
instance [fl : Flat α] [h : Ev l x sv] [hn : Ev l y (.int kk n)] [hm : ToN n m] [hT : Sl P T k by_] [hr : HasRd (List α) repList Γ [sv] xs] : PuS P l Γ (.indexAddr T x y) ty (.pointer (some (elemA sv (m : Int) k))) (0 ≤ n ∧ n < xs.length) := ⟨fun h _ => elem_n (sv := sv) (k := k) hm.eq ▸ pu_index h⟩
instance (priority := 900) [h : Ev l x sv] [hn : Ev l y (.int kk n)] [hm : ToN n m] [hT : Sl P T k by_] [hp : HasPt Γ (elemA sv (m : Int) k) cs] [hr : HasRd (List α) repList Γ [sv] xs] : PuS P l Γ (.indexAddr T x y) ty (.pointer (some (elemA sv (m : Int) k))) (0 ≤ n ∧ n < xs.length) := ⟨fun h _ => elem_n (sv := sv) (k := k) hm.eq ▸ pu_index h⟩
instance (priority := 800) [h : Ev l x sv] [hn : Ev l y (.int kk n)] [hm : ToN n m] [hT : Sl P T k by_] [hp : PullOw (List α) repList Γ [sv] xs Δ] [hr : HasRd (List α) repList Γ [sv] xs] : PuS P l Γ (.indexAddr T x y) ty (.pointer (some (elemA sv (m : Int) k))) (0 ≤ n ∧ n < xs.length) := ⟨fun h _ => elem_n (sv := sv) (k := k) hm.eq ▸ pu_index h⟩
instance {xs : List Int} [h : Ev l x (.pointer (some (elemA sv n 1)))] [hm : ToN n m] [hT : Sc P T] [hr : HasRd (List Int) repList Γ [sv] xs] : PuS P l Γ (.load T x) ty (.int .i64 (xs.getD m 0)) (0 ≤ n ∧ n < xs.length) := ⟨fun h _ => hm.eq ▸ pu_load_int h⟩
instance {xs : List Bool} [h : Ev l x (.pointer (some (elemA sv n 1)))] [hm : ToN n m] [hT : Sc P T] [hr : HasRd (List Bool) repList Γ [sv] xs] : PuS P l Γ (.load T x) ty (.bool (xs.getD m false)) (0 ≤ n ∧ n < xs.length) := ⟨fun h _ => hm.eq ▸ pu_load_bool h⟩
instance {xs : List ByteArray} [h : Ev l x (.pointer (some (elemA sv n 1)))] [hm : ToN n m] [hT : Sc P T] [hr : HasRd (List ByteArray) repList Γ [sv] xs] : PuS P l Γ (.load T x) ty (.string (xs.getD m ByteArray.empty)) (0 ≤ n ∧ n < xs.length) := ⟨fun h _ => hm.eq ▸ pu_load_str h⟩
/-- A number read from a list fits. -/
instance (priority := 1100) {xs : List Int} [h : Ev l x (.pointer (some (elemA sv n 1)))] [hm : ToN n m] [hT : Sc P T] [hr : HasRd (List Int) repList Γ [sv] xs] [hd : Se l d (.int .i64 (xs.getD m 0)) l'] :
    RedF (WL P ops Q w0 (⟨some d, .load T x, ty, pos, after, none⟩ :: rest) l Γ) (0 ≤ n ∧ n < xs.length) (-9223372036854775808 ≤ xs.getD m 0 ∧ xs.getD m 0 ≤ 9223372036854775807) (WL P ops Q w0 rest l' Γ) :=
  ⟨fun s h => by have e := hm.eq; subst e; exact wl_load_int_f s h⟩
instance {vc : List Value} {u : α} {kk : Nat} {S U : Prop} [hx : Ev l x (.pointer (some (elemA sv n k)))] [hy : Ev l y v] [hm : ToN n m] [hc : Cs Γ v vc] [hT : Sz P T kk] [h1 : PullOw (List α) repList Γ [sv] xs Δ]
    [hk : SzIs α k] [hkk : SzIs α kk] [ho : OwnC α Δ vc u Ε S] [hu : AndC S (0 ≤ n ∧ n < xs.length) U] : RedS (WL P ops Q w0 (⟨none, .store T x y, ty, pos, after, none⟩ :: rest) l Γ) U (WL P ops Q w0 rest l (.ow [sv] (xs.set m u) :: Ε)) :=
  ⟨fun s h => wl_store_elem_a (α := α) (iα := iα) (k := k) (kk := kk) (u := u) (hk := hk) (hkk := hkk) (hT := hT) (h1 := h1) (ho.run (hu.run s).1) (hu.run s).2 (hm.eq ▸ h)⟩
/-! .. and a new slice -/
instance {ky : IntKind} {m' : Int} {zs : List Value} {z : α} [ho : Op_ P T (List α) repList] [hx : Ev l x (.int kk n)] [hy : Ev l y (.int ky m')] [hm : ToN n m] [hT : Sl P T k by_] [hzs : SlZ P T zs] [hz : Zo α zs z] :
    RedV (WL P ops Q w0 (⟨some d, .makeSlice T x y, ty, pos, after, none⟩ :: rest) l Γ) ((0 ≤ n ∧ n ≤ m') ∧ m' * by_ ≤ 140737488355328) (fun sv => WL P ops Q w0 rest (l.set d sv) (.ow [sv] (List.replicate m z) :: Γ)) := ⟨fun s h => wl_make_a s.1 s.2 (hm.eq ▸ h)⟩
class AppL (xs ys : List α) (zs : outParam (List α)) : Prop where
  eq : xs ++ ys = zs
instance {xs : List α} : AppL [] xs xs := ⟨rfl⟩
instance (priority := 500) {xs ys : List α} : AppL xs ys (xs ++ ys) := ⟨rfl⟩
instance (priority := 1100) {ov tv : Value} {xs ys zs : List α} [hx : Ev l x ov] [hy : Ev l y tv] [hT : Sl P T k by_] [h1 : PullOw (List α) repList Γ [ov] xs Δ] [h2 : HasRd (List α) repList Δ [tv] ys] [hcp : Cp α] [hk : SzIs α k] [hz : AppL xs ys zs] :
    RedV (WL P ops Q w0 (⟨some d, .call { callee := .builtin .append, args := #[x, y], argTypes := #[T, T] }, ty, pos, after, none⟩ :: rest) l Γ) ((xs.length + ys.length) * by_ ≤ 140737488355328) (fun sv => WL P ops Q w0 rest (l.set d sv) (.ow [sv] zs :: Δ)) := ⟨fun s h => wl_append_cp_a s (hz.eq ▸ h)⟩
instance {ov tv : Value} {xs ys zs : List α} [hx : Ev l x ov] [hy : Ev l y tv] [hT : Sl P T k by_] [h1 : PullOw (List α) repList Γ [ov] xs Δ] [h2 : PullOw (List α) repList Δ [tv] ys Ε] [hk : SzIs α k] [hz : AppL xs ys zs] :
    RedV (WL P ops Q w0 (⟨some d, .call { callee := .builtin .append, args := #[x, y], argTypes := #[T, T] }, ty, pos, after, none⟩ :: rest) l Γ) ((xs.length + ys.length) * by_ ≤ 140737488355328) (fun sv => WL P ops Q w0 rest (l.set d sv) (.ow [sv] zs :: Ε)) := ⟨fun s h => wl_append_a s (hz.eq ▸ h)⟩
instance (priority := 900) {tv : Value} {ys : List α} [hx : Ev l x (.slice none 0 0)] [hO : Op_ P T (List α) repList] [hy : Ev l y tv] [hT : Sl P T k by_] [h2 : PullOw (List α) repList Γ [tv] ys Ε] [hk : SzIs α k] :
    RedV (WL P ops Q w0 (⟨some d, .call { callee := .builtin .append, args := #[x, y], argTypes := #[T, T] }, ty, pos, after, none⟩ :: rest) l Γ) (ys.length * by_ ≤ 140737488355328) (fun sv => WL P ops Q w0 rest (l.set d sv) (.ow [sv] ys :: Ε)) := ⟨fun s h => wl_append_nil s h⟩
instance {N : Nat} {ps : List (Nat × Operand)} {groups : List (List Value)} {xs : List α} {S : Prop} {len : Nat} [hO : Op_ P T (List α) repList] [hT : Sl P T k by_] [hp : PartsL Γ l k 0 ps groups] [hk : SzIs α k] [ho : OwnLC α Γ groups xs Δ S] [hl : LenIs xs len] [hn : NatEq len N] :
    RedV (WL P ops Q w0 (⟨some d, .buildSlice T N ps.toArray, ty, pos, after, none⟩ :: rest) l Γ) (S ∧ N * k ≤ 16777216) (fun sv => WL P ops Q w0 rest (l.set d sv) (.ow [sv] xs :: Δ)) := ⟨fun s h => wl_buildSlice_a (hk := hk) (hT := hT) (hO := hO) (ho.run s.1) (hn.eq ▸ hl.eq.symm) s.2 h⟩
instance [hx : Ev l x sv] [hy : Ev l y (.int kk n)] [hm : ToN n m] [hT : Sl P T k by_] [hr : HasIm (List α) repList Γ [sv] xs] [hk : SzIs α k] :
    RedV (WL P ops Q w0 (⟨some d, .slice T x (some y) none none, ty, pos, after, none⟩ :: rest) l Γ) (0 ≤ n ∧ n ≤ xs.length) (fun sv' => WL P ops Q w0 rest (l.set d sv') (.rd [sv'] (xs.drop m) :: Γ)) := ⟨fun s h => wl_slice_lo_a s (hm.eq ▸ h)⟩
instance [hx : Ev l x sv] [hy : Ev l y (.int kk n)] [hm : ToN n m] [hT : Sl P T k by_] [hr : HasIm (List α) repList Γ [sv] xs] [hk : SzIs α k] :
    RedV (WL P ops Q w0 (⟨some d, .slice T x none (some y) none, ty, pos, after, none⟩ :: rest) l Γ) (0 ≤ n ∧ n ≤ xs.length) (fun sv' => WL P ops Q w0 rest (l.set d sv') (.rd [sv'] (xs.take m) :: Γ)) := ⟨fun s h => wl_slice_hi_a s (hm.eq ▸ h)⟩
instance {z : Operand} {kk' : IntKind} {n' : Int} {m' : Nat} [hx : Ev l x sv] [hy : Ev l y (.int kk n)] [hz : Ev l z (.int kk' n')] [hm : ToN n m] [hm' : ToN n' m'] [hT : Sl P T k by_] [hr : HasIm (List α) repList Γ [sv] xs] [hk : SzIs α k] :
    RedV (WL P ops Q w0 (⟨some d, .slice T x (some y) (some z) none, ty, pos, after, none⟩ :: rest) l Γ) (0 ≤ n ∧ n ≤ n' ∧ n' ≤ xs.length) (fun sv' => WL P ops Q w0 rest (l.set d sv') (.rd [sv'] ((xs.take m').drop m) :: Γ)) := ⟨fun s h => wl_slice_lh_a s (hm.eq ▸ hm'.eq ▸ h)⟩
end mem
/-! .. and a new block -/
instance {T : TypeId} {zs : List Value} [hz : Zr P T zs] : RedN (WL P ops Q w0 (⟨some d, .alloc T, ty, pos, after, none⟩ :: rest) l Γ) (fun b => WL P ops Q w0 rest (l.set d (.pointer (some ⟨b, 0, none⟩))) (.bk b zs :: Γ)) := ⟨fun h => wl_alloc h⟩
instance {T : TypeId} {x : Operand} {cs : List Value} [hx : Ev l x v] [hc : Cs Γ v cs] : RedN (WL P ops Q w0 (⟨some d, .box T x, ty, pos, after, none⟩ :: rest) l Γ) (fun b => WL P ops Q w0 rest (l.set d (.pointer (some ⟨b, 0, none⟩))) (.bk b cs :: Γ)) := ⟨fun h => wl_box h⟩

/-! calls -/
/-! two ways -/
theorem wc_if {c : Operand} {b : Bool} {p q : Prop} [hc : Ev l c (.bool b)] [hp : BoolP b p] [hn : BoolN b q] (ht : p → WC P Q w0 x l Γ) (hf : q → WC P Q w0 y l Γ) : WC P Q w0 (.cond c x y) l Γ :=
  wc_cond (fun h => ht (hp.iff.1 h)) (fun h => hf (hn.iff.1 h))
theorem wl_if {ol : List Oper} {j dj : Nat} {oj : Oper} {b b' : Bool} {dst : Option Tmp} {l1 l2 : List Value} {p q : Prop} [hj : Ge ol j oj] [hdj : Dst oj dj] [hb : Ge l dj v] [he : IsB v b'] [hp : BoolP b' p] [hn : BoolN b' q] [h1 : Se l dj (.bool true) l1] [h2 : Se l dj (.bool false) l2]
    (ht : p → WL P ol.toArray Q w0 (⟨dst, op, ty, pos, after, some (j, b)⟩ :: rest) l1 Γ) (hf : q → WL P ol.toArray Q w0 (⟨dst, op, ty, pos, after, some (j, b)⟩ :: rest) l2 Γ) :
    WL P ol.toArray Q w0 (⟨dst, op, ty, pos, after, some (j, b)⟩ :: rest) l Γ := wl_split (fun h => ht (hp.iff.1 h)) (fun h => hf (hn.iff.1 h))

/-! while the order is open -/
theorem wa_p {ol : List Oper} (i : Nat) {S : Prop} [hi : Ge ol i ⟨some d, op, ty, pos, after, none⟩] [hy : PuS P l Γb op ty v S] [hd : Se l d v l'] [hb : Se bl i true bl'] (h : WA P ol.toArray Q w0 lt Γb fuel bl' l' Γ)
    (s : S := by first | exact True.intro | omega | assumption | ((repeat' apply And.intro) <;> first | assumption | omega) | (simp only [true_and, and_true, List.length_append, List.length_cons, List.length_nil, List.length_replicate, List.length_set, List.length_drop, List.length_take]; omega))
    (hck : ckTake lt ol.toArray bl i = true := by decide +kernel) (hQ : ∀ c a w v, Q (.panic c) (a.put (some d) v) w → Q (.panic c) a w := by exact fun _ _ _ _ h => h) : WA P ol.toArray Q w0 lt Γb (fuel + 1) bl l Γ :=
  wa_pure i (by simpa using hi.eq) hck hQ (hy.run s w0) h
theorem wa_p0 {ol : List Oper} (i : Nat) {S : Prop} [hi : Ge ol i ⟨some d, op, ty, pos, after, none⟩] [hy : PuS P l [] op ty v S] [hd : Se l d v l'] [hb : Se bl i true bl'] (h : WA P ol.toArray Q w0 lt Γb fuel bl' l' Γ)
    (s : S := by first | exact True.intro | omega | assumption | ((repeat' apply And.intro) <;> first | assumption | omega))
    (hck : ckTake0 lt ol.toArray bl i = true := by decide +kernel) (hQ : ∀ c a w v, Q (.panic c) (a.put (some d) v) w → Q (.panic c) a w := by exact fun _ _ _ _ h => h) : WA P ol.toArray Q w0 lt Γb (fuel + 1) bl l Γ :=
  wa_pure0 i (by simpa using hi.eq) hck hQ (hy.run s) h
theorem wa_pg {ol : List Oper} (i : Nat) {S : Prop} {j dj : Nat} {oj : Oper} {b : Bool} {vg : Value} [hi : Ge ol i ⟨some d, op, ty, pos, after, some (j, b)⟩] [hj : Ge ol j oj] [hdj : Dst oj dj] [hg : Ge l dj vg] [he : EqB vg b] [hy : PuS P l Γb op ty v S] [hd : Se l d v l'] [hb : Se bl i true bl'] (h : WA P ol.toArray Q w0 lt Γb fuel bl' l' Γ)
    (s : S := by first | exact True.intro | omega | assumption | ((repeat' apply And.intro) <;> first | assumption | omega) | (simp only [true_and, and_true, List.length_append, List.length_cons, List.length_nil, List.length_replicate, List.length_set, List.length_drop, List.length_take]; omega))
    (hck : ckTake lt ol.toArray bl i = true := by decide +kernel) (hQ : ∀ c a w v, Q (.panic c) (a.put (some d) v) w → Q (.panic c) a w := by exact fun _ _ _ _ h => h) : WA P ol.toArray Q w0 lt Γb (fuel + 1) bl l Γ := wa_pure_on i hck hQ (hy.run s w0) h
theorem wa_no {ol : List Oper} (i : Nat) {j dj : Nat} {oj : Oper} {b : Bool} {vg : Value} [hi : Ge ol i ⟨some d, op, ty, pos, after, some (j, b)⟩] [hj : Ge ol j oj] [hdj : Dst oj dj] [hg : Ge l dj vg] [he : NeB vg b] [hd : Se l d undef l'] [hb : Se bl i true bl'] (h : WA P ol.toArray Q w0 lt Γb fuel bl' l' Γ)
    (hck : ckTake lt ol.toArray bl i = true := by decide +kernel) (hQ : ∀ c a w v, Q (.panic c) (a.put (some d) v) w → Q (.panic c) a w := by exact fun _ _ _ _ h => h) : WA P ol.toArray Q w0 lt Γb (fuel + 1) bl l Γ := wa_off i hck hQ h
theorem wa_if (dj : Nat) {b' : Bool} {l1 l2 : List Value} {p q : Prop} [hb : Ge l dj (.bool b')] [hp : BoolP b' p] [hn : BoolN b' q] [h1 : Se l dj (.bool true) l1] [h2 : Se l dj (.bool false) l2] (ht : p → WA P ops Q w0 lt Γb fuel bl l1 Γ) (hf : q → WA P ops Q w0 lt Γb fuel bl l2 Γ) : WA P ops Q w0 lt Γb fuel bl l Γ :=
  wa_split dj (fun h => ht (hp.iff.1 h)) (fun h => hf (hn.iff.1 h))
theorem wa_do {ol : List Oper} (i : Nat) {o : Oper} [hi : Ge ol i o] [hb : Se bl i true bl'] (h : WL P ol.toArray (Exit.then (AnyNext P ol.toArray Q w0 lt Γb fuel bl') Q) w0 [o] l Γ) (hr : Region.ready .any ol.toArray bl.toArray = [i] := by decide +kernel) : WA P ol.toArray Q w0 lt Γb (fuel + 1) bl l Γ :=
  wa_one i hr (by simpa using hi.eq) h
theorem wa_two {ol : List Oper} (i j : Nat) {bi bj : List Bool} {oi oj : Oper} [hi : Ge ol i oi] [hj : Ge ol j oj] [hb : Se bl i true bi] [hb' : Se bl j true bj]
    (h : WL P ol.toArray (Exit.then (AnyNext P ol.toArray Q w0 lt Γb fuel bi) Q) w0 [oi] l Γ) (h' : WL P ol.toArray (Exit.then (AnyNext P ol.toArray Q w0 lt Γb fuel bj) Q) w0 [oj] l Γ) (hr : Region.ready .any ol.toArray bl.toArray = [i, j] := by decide +kernel) : WA P ol.toArray Q w0 lt Γb (fuel + 1) bl l Γ :=
  wa_two_ i j hr (by simpa using hi.eq) (by simpa using hj.eq) h h'
theorem wa_deep {ol : List Oper} (i : Nat) {α : Type} {iα : Rep α} [inh : Inhabited α] [un : Un α] [dp : Deep_ α] {T k by_ : Nat} {x y : Operand} {sv : Value} {n : Int} {m : Nat} {kk : IntKind} {xs : List α} [hi : Ge ol i ⟨some d, .indexAddr T x y, ty, pos, after, none⟩] [hx : Ev l x sv] [hy : Ev l y (.int kk n)] [hm : ToN n m]
    [hT : Sl P T k by_] [hr : HasIm (List α) repList Γb [sv] xs] [hsub : Sub Γ Γb] [hk : SzIs α k] [hd : Se l d (.pointer (some (elemA sv (m : Int) k))) l'] [hb : Se bl i true bl']
    (h : ∀ (p : Un.Pr α) (cs : List Value) (as asb : List Atom), Un.cells p (xs.getD m default) = cs → Un.atoms p (xs.getD m default) ++ Γ = as → Un.atoms p (xs.getD m default) ++ Γb = asb → Un.fact (xs.getD m default) →
      WA P ol.toArray Q w0 lt (.pt (elemA sv (m : Int) k) cs :: asb) fuel bl' l' (.pt (elemA sv (m : Int) k) cs :: as))
    (hin : 0 ≤ n ∧ n < xs.length := by first | omega | (simp only [List.length_append, List.length_cons, List.length_nil, List.length_replicate, List.length_set, List.length_drop, List.length_take]; omega))
    (hck : ckTake lt ol.toArray bl i = true := by decide +kernel) (hQ : ∀ c a w v, Q (.panic c) (a.put (some d) v) w → Q (.panic c) a w := by exact fun _ _ _ _ h => h) : WA P ol.toArray Q w0 lt Γb (fuel + 1) bl l Γ :=
  wa_index_deep i (hd := elem_n (sv := sv) (k := k) hm.eq ▸ hd) hck hQ hin (by have e := hm.eq; subst e; rw [elem_n (sv := sv) (n := n) (k := k) rfl]; exact h)
theorem wl_deep {α : Type} {iα : Rep α} [inh : Inhabited α] [un : Un α] [dp : Deep_ α] {T k by_ : Nat} {x y : Operand} {sv : Value} {n : Int} {m : Nat} {kk : IntKind} {xs : List α} [hx : Ev l x sv] [hy : Ev l y (.int kk n)] [hm : ToN n m] [hT : Sl P T k by_] [hr : HasIm (List α) repList Γ [sv] xs] [hk : SzIs α k]
    [hd : Se l d (.pointer (some (elemA sv (m : Int) k))) l']
    (h : ∀ (p : Un.Pr α) (cs : List Value) (as : List Atom), Un.cells p (xs.getD m default) = cs → Un.atoms p (xs.getD m default) ++ Γ = as → Un.fact (xs.getD m default) → WL P ops Q w0 rest l' (.pt (elemA sv (m : Int) k) cs :: as))
    (hi : 0 ≤ n ∧ n < xs.length := by first | omega | (simp only [List.length_append, List.length_cons, List.length_nil, List.length_replicate, List.length_set, List.length_drop, List.length_take]; omega)) :
    WL P ops Q w0 (⟨some d, .indexAddr T x y, ty, pos, after, none⟩ :: rest) l Γ := wl_index_deep (hd := elem_n (sv := sv) (k := k) hm.eq ▸ hd) hk.eq hi (by have e := hm.eq; subst e; rw [elem_n (sv := sv) (n := n) (k := k) rfl]; exact h)
class MemB (b : Nat) (bs : List Nat) : Prop where
  t : True
instance {b : Nat} {bs : List Nat} : MemB b (b :: bs) := ⟨trivial⟩
instance (priority := 500) {b c : Nat} {bs : List Nat} [MemB b bs] : MemB b (c :: bs) := ⟨trivial⟩
theorem wa_begin [hm : Mixed P] {n : Nat} {ol : List Oper} (id : Nat) (bl : List Bool) (lt : List Nat) (h : WA P ol.toArray Q w0 lt Γ n bl l Γ) (hn : ol.length = n := by rfl) (hbl : List.replicate n false = bl := by rfl) : WC P Q w0 (.region id ol.toArray true) l Γ := wa_start_on lt Γ (fun _ h => h) hn hbl h
theorem wa_begin1 [hm : Mixed P] {n : Nat} {ol : List Oper} (id : Nat) (bl : List Bool) (lt : List Nat) [hk : Keep1 Γ Γb] (h : WA P ol.toArray Q w0 lt Γb n bl l Γ) (hn : ol.length = n := by rfl) (hbl : List.replicate n false = bl := by rfl) : WC P Q w0 (.region id ol.toArray true) l Γ :=
  wa_start_on lt Γb (fun _ hs => hs.sub hk.sub) hn hbl h
theorem wa_end (h : WQ Q w0 .normal l Γ) (hr : Region.ready .any ops bl.toArray = [] := by decide +kernel) : WA P ops Q w0 lt Γb fuel bl l Γ := wa_done hr h
theorem wa_f {ol : List Oper} (i : Nat) {T : TypeId} {x : Operand} {sv : Value} {n : Int} {m : Nat} {xs : List Int} [hi : Ge ol i ⟨some d, .load T x, ty, pos, after, none⟩] [h : Ev l x (.pointer (some (elemA sv n 1)))] [hm : ToN n m] [hT : Sc P T] [hr : HasRd (List Int) repList Γb [sv] xs]
    [hd : Se l d (.int .i64 (xs.getD m 0)) l'] [hb : Se bl i true bl'] (hw : -9223372036854775808 ≤ xs.getD m 0 ∧ xs.getD m 0 ≤ 9223372036854775807 → WA P ol.toArray Q w0 lt Γb fuel bl' l' Γ)
    (hin : 0 ≤ n ∧ n < xs.length := by first | omega | (simp only [List.length_append, List.length_cons, List.length_nil, List.length_replicate, List.length_set, List.length_drop, List.length_take]; omega))
    (hck : ckTake lt ol.toArray bl i = true := by decide +kernel) (hQ : ∀ c a w v, Q (.panic c) (a.put (some d) v) w → Q (.panic c) a w := by exact fun _ _ _ _ h => h) : WA P ol.toArray Q w0 lt Γb (fuel + 1) bl l Γ := fun w hs hsb => by
  have e := hm.eq
  subst e
  have h3 := (hsb (ck6 hck)).rd (hr := hr)
  obtain ⟨a, cap, _, _, _, _, h2⟩ := h3
  obtain ⟨b, off, cells, rfl, _, _, hrd⟩ := h2 (by omega)
  have hb := RdL.in64 hrd (xs.getD n.toNat 0) (by rw [List.getD_eq_getElem?_getD, List.getElem?_eq_getElem (by omega)]; simp)
  exact wa_pure i (by simpa using hi.eq) hck hQ (pu_load_int hin) (hw hb) w hs hsb

class ResC (fn : Func) (rs : outParam (List ResultVar)) : Prop where
  eq : fn.results = rs.toArray
class TupC (vs : List Value) (v : outParam Value) : Prop where
  eq : tupOf vs = v
instance {v : Value} : TupC [v] v := ⟨rfl⟩
instance : TupC [] (.tuple #[]) := ⟨rfl⟩
instance {a b : Value} {vs : List Value} : TupC (a :: b :: vs) (.tuple (a :: b :: vs).toArray) := ⟨rfl⟩
instance {fn : Func} {rs : List ResultVar} {vs : List Value} {v : Value} {ρ : Type} {r : ρ → Value} {Γ' : ρ → List Atom} [hf : ResC fn rs] [hr : Rs P Γ l rs vs] [ht : TupC vs v] :
    Red (WQ (bodyPost P fn (RetP w0 r Γ')) w0 .ret l Γ) (∃ p, r p = v ∧ Ent w0 Γ (Γ' p)) := ⟨fun ⟨p, h1, h2⟩ => wq_ret hf.eq p (by rw [h1, ht.eq]) h2⟩
instance {fn : Func} {rs : List ResultVar} {vs : List Value} {v : Value} {ρ : Type} {r : ρ → Value} {Γ' : ρ → List Atom} [hf : ResC fn rs] [hr : Rs P Γ l rs vs] [ht : TupC vs v] :
    Red (WQ (bodyPost P fn (RetP w0 r Γ')) w0 .normal l Γ) (∃ p, r p = v ∧ Ent w0 Γ (Γ' p)) := ⟨fun ⟨p, h1, h2⟩ => wq_end hf.eq p (by rw [h1, ht.eq]) h2⟩

/-! the same, found by looking -/
instance {f : FuncId} {xs : List Operand} {vs : List Value} {ts : Array TypeId} {S : Prop} {ρ : Type} {r : ρ → Value} {Γ' : ρ → List Atom} [hx : EvL l xs vs] [hc : CtrC P f vs Γ S ρ r Γ'] [hf : IsFn P f] :
    RedC (WL P ops Q w0 (⟨some d, .call { callee := .value (.func f), args := xs.toArray, argTypes := ts }, ty, pos, after, none⟩ :: rest) l Γ) S ρ (fun p => WL P ops Q w0 rest (l.set d (r p)) (Γ' p)) := ⟨fun s h => wl_call (hc.run s w0) h⟩
instance {f : FuncId} {xs : List Operand} {vs : List Value} {ts : Array TypeId} {S : Prop} {ρ : Type} {r : ρ → Value} {Γ' : ρ → List Atom} [hx : EvL l xs vs] [hc : CtrC P f vs Γ S ρ r Γ'] [hf : IsFn P f] :
    RedC (WL P ops Q w0 (⟨none, .call { callee := .value (.func f), args := xs.toArray, argTypes := ts }, ty, pos, after, none⟩ :: rest) l Γ) S ρ (fun p => WL P ops Q w0 rest l (Γ' p)) := ⟨fun s h => wl_call0 (hc.run s w0) h⟩
instance {c : Operand} {b : Bool} {p q : Prop} [hc : Ev l c (.bool b)] [hp : BoolP b p] [hn : BoolN b q] : RedI (WC P Q w0 (.cond c x y) l Γ) p q (WC P Q w0 x l Γ) (WC P Q w0 y l Γ) := ⟨fun h1 h2 => wc_if h1 h2⟩
instance {ol : List Oper} {j dj : Nat} {oj : Oper} {b b' : Bool} {dst : Option Tmp} {l1 l2 : List Value} {p q : Prop} [hj : Ge ol j oj] [hdj : Dst oj dj] [hb : Ge l dj v] [he : IsB v b'] [hp : BoolP b' p] [hn : BoolN b' q] [h1 : Se l dj (.bool true) l1] [h2 : Se l dj (.bool false) l2] :
    RedI (WL P ol.toArray Q w0 (⟨dst, op, ty, pos, after, some (j, b)⟩ :: rest) l Γ) p q (WL P ol.toArray Q w0 (⟨dst, op, ty, pos, after, some (j, b)⟩ :: rest) l1 Γ) (WL P ol.toArray Q w0 (⟨dst, op, ty, pos, after, some (j, b)⟩ :: rest) l2 Γ) := ⟨fun h1 h2 => wl_if h1 h2⟩
instance {T U k by_ : TypeId} {x y : Operand} {sv : Value} {α : Type} {iα : Rep α} {xs : List α} {l1 l2 : List Value} [hx : Ev l x sv] [hy : Ev l y (.slice none 0 0)] [hT : Sl P T k by_] [hr : HasRd (List α) repList Γ [sv] xs] [h1 : Se l d (.bool true) l1] [h2 : Se l d (.bool false) l2] :
    RedQ (WL P ops Q w0 (⟨some d, .binOp .eql T x y U, ty, pos, after, none⟩ :: rest) l Γ) (xs = []) (sv ≠ .slice none 0 0) (WL P ops Q w0 rest l1 Γ) (WL P ops Q w0 rest l2 Γ) :=
  ⟨fun g1 g2 => wl_eql_nil fun bq hq hq2 => by
    cases bq
    · rw [h2.eq]; exact g2 (hq2 rfl)
    · rw [h1.eq]; exact g1 (hq rfl)⟩
instance {α : Type} {iα : Rep α} [inh : Inhabited α] [un : Un α] [dp : Deep_ α] {T k by_ : Nat} {x y : Operand} {sv : Value} {n : Int} {m : Nat} {kk : IntKind} {xs : List α} [hx : Ev l x sv] [hy : Ev l y (.int kk n)] [hm : ToN n m] [hT : Sl P T k by_] [hr : HasIm (List α) repList Γ [sv] xs] [hk : SzIs α k]
    [hd : Se l d (.pointer (some (elemA sv (m : Int) k))) l'] : RedD (WL P ops Q w0 (⟨some d, .indexAddr T x y, ty, pos, after, none⟩ :: rest) l Γ) (0 ≤ n ∧ n < xs.length) α iα un (xs.getD m default) Γ (fun cs as => WL P ops Q w0 rest l' (.pt (elemA sv (m : Int) k) cs :: as)) :=
  ⟨fun s h => wl_deep h s⟩
theorem cj_enter {f : FuncId} {fn : Func} {c : Code} {vs : List Value} {n : Nat} {ρ : Type} {r : ρ → Value} {Γ' : ρ → List Atom} (hf : P.funcs[f]? = some fn) (hn : fn.ntmps = n) (h : WC P (bodyPost P fn (RetP w0 r Γ')) w0 c l Γ)
    (hl : vs ++ List.replicate (n - vs.length) undef = l := by simp only [List.length_cons, List.length_nil, Nat.reduceAdd, Nat.reduceSub, List.replicate_succ, List.replicate_zero, List.cons_append, List.nil_append]; rfl) (hb : fn.body = some c := by rfl) : CJ P f vs w0 Γ r Γ' := cj_intro hf hb hn hl h
/-! ### Loops -/
/-- A loop that leaves the context as it is. -/
theorem wc_loop_c (K JJ : List Nat) {ι : Type} (vals : ι → List Value) (pre : ι → Prop) (μ : ι → Nat) {c : Code} (i0 : ι)
    (h0 : patch (patch l K (vals i0)) JJ (JJ.map fun j => l.getD j undef) = l) (hp : pre i0)
    (round : ∀ i u l', patch (patch l K (vals i)) JJ (JJ.map u) = l' → pre i → WC P (Exit.then (Next_ w0 l K JJ vals (fun _ => Γ) pre μ i) Q) w0 c l' Γ) : WC P Q w0 (.loop c) l Γ :=
  wc_loop K JJ vals (fun _ => Γ) pre μ i0 h0 hp (fun _ h => h) round
/-- What is taken out of Γ; the rest. -/
class TakeL (Γ A : List Atom) (Δ : outParam (List Atom)) : Prop where
  ent : SepEnt Γ (A ++ Δ)
instance : TakeL Γ [] Γ := ⟨SepEnt.refl Γ⟩
instance {A : Atom} {B : List Atom} [h : Pull Γ A Δ] [h' : TakeL Δ B Ε] : TakeL Γ (A :: B) Ε := ⟨SepEnt.trans (SepEnt.perm h.perm) (SepEnt.cons A h'.ent)⟩
instance (priority := 1500) {α : Type} {iα : Rep α} {B : List Atom} [h : TakeL Γ B Ε] : TakeL Γ (@Atom.ow (List α) repList [.slice none 0 0] [] :: B) Ε := ⟨fun hs => by
  obtain ⟨G, hG, h1⟩ := h.ent hs
  exact ⟨G, hG, [], G, rfl, .inl ⟨rfl, rfl, rfl⟩, h1⟩⟩
/-- A loop that turns these atoms and leaves the rest as it is. -/
theorem wc_loop_p (K JJ : List Nat) {ι : Type} (vals : ι → List Value) (A : ι → List Atom) (pre : ι → Prop) (μ : ι → Nat) {c : Code} (i0 : ι) (A0 : List Atom) [ht : TakeL Γ A0 Δ]
    (h0 : patch (patch l K (vals i0)) JJ (JJ.map fun j => l.getD j undef) = l) (hp : pre i0) (hA : A i0 = A0)
    (round : ∀ i u l', patch (patch l K (vals i)) JJ (JJ.map u) = l' → pre i → WC P (Exit.then (Next_ w0 l K JJ vals (fun i => A i ++ Δ) pre μ i) Q) w0 c l' (A i ++ Δ)) : WC P Q w0 (.loop c) l Γ :=
  wc_loop K JJ vals (fun i => A i ++ Δ) pre μ i0 h0 hp (fun w hs => by rw [hA]; exact SepEnt.sat ht.ent hs) round
instance (priority := 2100) [h : SubE Γ Δ] : SubE Γ ([] ++ Δ) := h
instance (priority := 2100) {A : Atom} {B : List Atom} [h : SubE Γ (A :: (B ++ Δ))] : SubE Γ ((A :: B) ++ Δ) := h
end inst
end Go.Eng
