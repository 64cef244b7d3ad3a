/- What the laws' own helpers compute, on plain data: sizes, marks. -/
import Derived.Test.YtfdpmkilhllkoaaEngK
namespace Go.Eng
open Go Go.RowKit
set_option linter.unusedVariables false
set_option linter.unusedSimpArgs false

class Siz (α : Type) where
  size : α → Nat
instance : Siz Int := ⟨fun _ => 0⟩
instance : Siz Bool := ⟨fun _ => 0⟩
instance {α β : Type} [Siz α] [Siz β] : Siz (α × β) := ⟨fun x => Siz.size x.1 + Siz.size x.2⟩
def sumL {α : Type} [Siz α] : List α → Nat
  | [] => 0
  | x :: xs => Siz.size x + sumL xs
instance sizList {α : Type} [Siz α] : Siz (List α) := ⟨fun xs => xs.length + sumL xs⟩
theorem siz_list {α : Type} [Siz α] (xs : List α) : Siz.size xs = xs.length + sumL xs := rfl
theorem siz_pair {α β : Type} [Siz α] [Siz β] (x : α × β) : Siz.size x = Siz.size x.1 + Siz.size x.2 := rfl
theorem siz_int (x : Int) : Siz.size x = 0 := rfl
theorem siz_bool (x : Bool) : Siz.size x = 0 := rfl
theorem sumL_int (xs : List Int) : sumL xs = 0 := by
  induction xs with
  | nil => rfl
  | cons x xs ih => simp only [sumL, siz_int, ih]
theorem siz_ints (xs : List Int) : Siz.size xs = xs.length := by rw [siz_list, sumL_int, Nat.add_zero]
theorem sumL_take_succ {α : Type} [Siz α] {xs : List α} {k : Nat} {y : α} (h : xs[k]? = some y) : sumL (xs.take (k + 1)) = sumL (xs.take k) + Siz.size y := by
  induction xs generalizing k with
  | nil => simp at h
  | cons x xs ih =>
    cases k with
    | zero =>
      simp only [List.getElem?_cons_zero, Option.some.injEq] at h
      subst h
      simp [sumL]
    | succ k =>
      simp only [List.getElem?_cons_succ] at h
      simp only [List.take_succ_cons, sumL, ih h]
      omega
theorem sumL_take_le {α : Type} [Siz α] (xs : List α) (k : Nat) : sumL (xs.take k) ≤ sumL xs := by
  induction xs generalizing k with
  | nil => simp [sumL]
  | cons x xs ih =>
    cases k with
    | zero => simp [sumL]
    | succ k =>
      simp only [List.take_succ_cons, sumL]
      have := ih k
      omega
theorem siz_get {α : Type} [Siz α] {xs : List α} {k : Nat} {y : α} (h : xs[k]? = some y) : Siz.size y ≤ sumL xs := by
  have := sumL_take_succ h
  have := sumL_take_le xs (k + 1)
  omega

/-- The marks: how many cells are marked, and what they are then. -/
class Mk (α : Type) where
  cnt : α → Nat
  by_ : α → Int → α
instance : Mk Int := ⟨fun _ => 1, fun _ k => k⟩
instance : Mk Bool := ⟨fun _ => 1, fun _ k => decide (k.tmod 3 = 0)⟩
instance {α β : Type} [Mk α] [Mk β] : Mk (α × β) := ⟨fun x => Mk.cnt x.1 + Mk.cnt x.2, fun x k => (Mk.by_ x.1 k, Mk.by_ x.2 (k + Mk.cnt x.1))⟩
def cntL {α : Type} [Mk α] : List α → Nat
  | [] => 0
  | x :: xs => Mk.cnt x + cntL xs
def mkL {α : Type} [Mk α] : List α → Int → List α
  | [], _ => []
  | x :: xs, k => Mk.by_ x k :: mkL xs (k + Mk.cnt x)
instance mkList {α : Type} [Mk α] : Mk (List α) := ⟨cntL, mkL⟩
theorem mk_list {α : Type} [Mk α] (xs : List α) (k : Int) : Mk.by_ xs k = mkL xs k := rfl
theorem cnt_list {α : Type} [Mk α] (xs : List α) : Mk.cnt xs = cntL xs := rfl
theorem cnt_int (n : Int) : Mk.cnt n = 1 := rfl
theorem cnt_pair {α β : Type} [Mk α] [Mk β] (x : α × β) : Mk.cnt x = Mk.cnt x.1 + Mk.cnt x.2 := rfl
theorem mkL_length {α : Type} [Mk α] (xs : List α) (k : Int) : (mkL xs k).length = xs.length := by
  induction xs generalizing k with
  | nil => rfl
  | cons x xs ih => simp [mkL, ih]
theorem cntL_take_succ {α : Type} [Mk α] {xs : List α} {k : Nat} {y : α} (h : xs[k]? = some y) : cntL (xs.take (k + 1)) = cntL (xs.take k) + Mk.cnt y := by
  induction xs generalizing k with
  | nil => simp at h
  | cons x xs ih =>
    cases k with
    | zero =>
      simp only [List.getElem?_cons_zero, Option.some.injEq] at h
      subst h
      simp [cntL]
    | succ k =>
      simp only [List.getElem?_cons_succ] at h
      simp only [List.take_succ_cons, cntL, ih h]
      omega
theorem cntL_take_le {α : Type} [Mk α] (xs : List α) (k : Nat) : cntL (xs.take k) ≤ cntL xs := by
  induction xs generalizing k with
  | nil => simp [cntL]
  | cons x xs ih =>
    cases k with
    | zero => simp [cntL]
    | succ k =>
      simp only [List.take_succ_cons, cntL]
      have := ih k
      omega
/-- What stands in memory when the first j are marked. -/
def mkTo {α : Type} [Mk α] (xs : List α) (m : Int) (j : Nat) : List α := mkL (xs.take j) m ++ xs.drop j
theorem mkTo_zero {α : Type} [Mk α] (xs : List α) (m : Int) : mkTo xs m 0 = xs := by simp [mkTo, mkL]
theorem mkTo_all {α : Type} [Mk α] (xs : List α) (m : Int) : mkTo xs m xs.length = mkL xs m := by simp [mkTo]
theorem mkTo_length {α : Type} [Mk α] (xs : List α) (m : Int) (j : Nat) : (mkTo xs m j).length = xs.length := by
  simp only [mkTo, List.length_append, mkL_length, List.length_take, List.length_drop]
  omega
theorem mkTo_get {α : Type} [Mk α] {xs : List α} {m : Int} {j : Nat} {y : α} (h : xs[j]? = some y) : (mkTo xs m j)[j]? = some y := by
  obtain ⟨hl, _⟩ := List.getElem?_eq_some_iff.1 h
  have h1 : (mkL (xs.take j) m).length = j := by rw [mkL_length, List.length_take]; omega
  unfold mkTo
  rw [List.getElem?_append_right (by omega), h1, Nat.sub_self, List.getElem?_drop]
  exact h
theorem mkTo_set {α : Type} [Mk α] {xs : List α} {m : Int} {j : Nat} {y : α} (h : xs[j]? = some y) : (mkTo xs m j).set j (Mk.by_ y (m + cntL (xs.take j))) = mkTo xs m (j + 1) := by
  unfold mkTo
  induction xs generalizing j m with
  | nil => simp at h
  | cons x xs ih =>
    cases j with
    | zero =>
      simp only [List.getElem?_cons_zero, Option.some.injEq] at h
      subst h
      simp [mkL, cntL]
    | succ j =>
      simp only [List.getElem?_cons_succ] at h
      have := ih (m := m + Mk.cnt x) h
      simp only [List.take_succ_cons, mkL, cntL, List.drop_succ_cons, List.cons_append, List.set_cons_succ]
      rw [← this, show m + ((Mk.cnt x + cntL (xs.take j) : Nat) : Int) = m + Mk.cnt x + cntL (xs.take j) by omega]
theorem get_lt {α : Type} [Inhabited α] {xs : List α} {k : Nat} (h : k < xs.length) : xs[k]? = some (xs.getD k default) := by
  rw [List.getD_eq_getElem?_getD, List.getElem?_eq_getElem h]; rfl
theorem cntL_ints (xs : List Int) : cntL xs = xs.length := by
  induction xs with
  | nil => rfl
  | cons x xs ih => simp only [cntL, cnt_int, ih, List.length_cons]; omega
theorem mkTo_set_int {xs : List Int} {m : Int} {k : Nat} (h : k < xs.length) : (mkTo xs m k).set k (m + k) = mkTo xs m (k + 1) := by
  have := mkTo_set (m := m) (get_lt h)
  rw [cntL_ints, List.length_take, Nat.min_eq_left (by omega)] at this
  exact this
theorem mkTo_end {α : Type} [Mk α] {xs : List α} {m : Int} {k : Nat} (h : xs.length ≤ k) : mkTo xs m k = mkL xs m := by
  unfold mkTo
  rw [List.take_of_length_le h, List.drop_of_length_le h, List.append_nil]
theorem mkL_get {α : Type} [Mk α] [Inhabited α] {xs : List α} {m : Int} {k : Nat} (h : k < xs.length) : (mkL xs m).getD k default = Mk.by_ (xs.getD k default) (m + cntL (xs.take k)) := by
  induction xs generalizing m k with
  | nil => simp at h
  | cons x xs ih =>
    cases k with
    | zero => simp [mkL, cntL]
    | succ k =>
      have := ih (m := m + Mk.cnt x) (k := k) (by simpa using h)
      simp only [mkL, List.getD_cons_succ, this, List.take_succ_cons, cntL]
      congr 1
      omega
theorem mkL_get_int {xs : List Int} {m : Int} {k : Nat} (h : k < xs.length) : (mkL xs m).getD k 0 = m + k := by
  have := mkL_get (m := m) h
  rw [cntL_ints, List.length_take, Nat.min_eq_left (by omega)] at this
  exact this
theorem rep_set {α : Type} {xs : List α} {k : Nat} {y z : α} (h : xs[k]? = some y) : (xs.take k ++ List.replicate (xs.length - k) z).set k y = xs.take (k + 1) ++ List.replicate (xs.length - (k + 1)) z := by
  obtain ⟨hk, hy⟩ := List.getElem?_eq_some_iff.1 h
  rw [List.set_append_right _ _ (by simp; omega), List.length_take, Nat.min_eq_left (by omega), Nat.sub_self, show xs.length - k = (xs.length - (k + 1)) + 1 by omega, List.replicate_succ, List.set_cons_zero,
    List.take_succ_eq_append_getElem hk, hy, List.append_assoc]
  rfl
theorem rep_set_int {xs : List Int} {k : Nat} {z : Int} (h : k < xs.length) : (xs.take k ++ List.replicate (xs.length - k) z).set k (xs.getD k 0) = xs.take (k + 1) ++ List.replicate (xs.length - (k + 1)) z := rep_set (by rw [List.getD_eq_getElem?_getD, List.getElem?_eq_getElem h]; rfl)
theorem mk_eta {α β : Type} {p : α × β} : (p.1, p.2) = p := rfl
theorem rep_end {α : Type} {xs : List α} {k : Nat} {z : α} (h : xs.length ≤ k) : xs.take k ++ List.replicate (xs.length - k) z = xs := by
  rw [List.take_of_length_le h, show xs.length - k = 0 by omega, List.replicate_zero, List.append_nil]
theorem take_next {α : Type} [Inhabited α] {xs ys : List α} {k : Nat} (h : xs.take k = ys.take k) (h1 : k < xs.length) (h2 : k < ys.length) (he : xs.getD k default = ys.getD k default) : xs.take (k + 1) = ys.take (k + 1) := by
  rw [List.getD_eq_getElem?_getD, List.getD_eq_getElem?_getD, List.getElem?_eq_getElem h1, List.getElem?_eq_getElem h2] at he
  simp only [Option.getD_some] at he
  rw [List.take_succ_eq_append_getElem h1, List.take_succ_eq_append_getElem h2, h, he]
theorem take_end {α : Type} {xs ys : List α} {k : Nat} (h : xs.take k = ys.take k) (h1 : xs.length ≤ k) (h2 : xs.length = ys.length) : xs = ys := by
  rw [List.take_of_length_le h1, List.take_of_length_le (by omega)] at h
  exact h
theorem ne_getD {α : Type} [Inhabited α] {xs ys : List α} {k : Nat} (h : ¬ xs.getD k default = ys.getD k default) : xs ≠ ys := fun e => h (by rw [e])
/-- What is left of a bound behind k more; -1 where nothing is. -/
def lft (n : Int) (k : Nat) : Int := if n - k < 0 then -1 else n - k
theorem lft_spec (n : Int) (k : Nat) : (n < k ∧ lft n k = -1) ∨ (k ≤ n ∧ lft n k = n - k) := by
  unfold lft
  split <;> omega
instance : Siz ByteArray := ⟨fun _ => 0⟩
theorem siz_str (x : ByteArray) : Siz.size x = 0 := rfl
end Go.Eng
