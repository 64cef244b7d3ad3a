/- Nodes of chains and of two walks. -/
import Derived.Test.YtjijabgiochefaaNode
namespace Go.Proofs.Ytjijabgiochefaa
open Go Go.Eng
set_option linter.unusedVariables false
set_option linter.unusedSimpArgs false

def flag (b : Bool) : Int := if b then 1 else 0
theorem flag_le (b : Bool) : 0 ≤ flag b ∧ flag b ≤ 1 := by cases b <;> decide
def sizedB (t : List Int) : Bool := decide (1 ≤ t.length ∧ t.length ≤ 60)
theorem siz_le' {xs : List (List Int)} {m : Nat} (h : ∀ x ∈ xs, x.length ≤ m) : Siz.size xs ≤ xs.length + xs.length * m := by
  rw [siz_list]
  induction xs with
  | nil => simp [sumL]
  | cons x xs ih =>
    have h1 := h x (by simp)
    have h2 := ih (fun y hy => h y (by simp [hy]))
    simp only [sumL, List.length_cons, siz_ints, Nat.add_mul, Nat.one_mul] at h2 ⊢
    omega
def chNums : List SMove → List Int
  | [] => []
  | m :: r => m.1 :: m.2.1 :: flag m.2.2.1 :: chNums r
theorem chNums_take {xs : List SMove} {k : Nat} {y : SMove} (h : xs[k]? = some y) : chNums (xs.take (k + 1)) = chNums (xs.take k) ++ [y.1, y.2.1, flag y.2.2.1] := by
  induction xs generalizing k with
  | nil => simp at h
  | cons x xs ih =>
    cases k with
    | zero =>
      simp only [List.getElem?_cons_zero, Option.some.injEq] at h
      subst h
      simp [chNums]
    | succ k =>
      simp only [List.getElem?_cons_succ] at h
      simp [chNums, ih h]
theorem chNums_len (xs : List SMove) : (chNums xs).length = 3 * xs.length := by
  induction xs with
  | nil => rfl
  | cons x xs ih => simp only [chNums, List.length_cons, ih]; omega
def chTerms (xs : List SMove) : List (List Int) := xs.map (·.2.2.2)
theorem chTerms_take {xs : List SMove} {k : Nat} {y : SMove} (h : xs[k]? = some y) : chTerms (xs.take (k + 1)) = chTerms (xs.take k) ++ [y.2.2.2] := by
  obtain ⟨hk, he⟩ := List.getElem?_eq_some_iff.1 h
  unfold chTerms
  rw [List.take_succ_eq_append_getElem hk, he, List.map_append]; rfl
def chOk (x : SChain) : Bool := decide (x.2.length ≤ 60 ∧ 1 ≤ x.1.length ∧ x.1.length ≤ 60) && x.2.all fun m => sizedB m.2.2.2
def chainOf (x : SChain) : SNode := if chOk x = true then (11, chNums x.2, x.1 :: chTerms x.2, []) else (0, [], [], [])
theorem ch_no0 {x : SChain} (h : ¬ (x.2.length ≤ 60 ∧ 1 ≤ x.1.length ∧ x.1.length ≤ 60)) : chainOf x = (0, [], [], []) := by
  unfold chainOf chOk; rw [decide_eq_false h]; rfl
theorem ch_no1 {x : SChain} {k : Nat} (hk : k < x.2.length) (h : ¬ (1 ≤ (x.2.getD k default).2.2.2.length ∧ (x.2.getD k default).2.2.2.length ≤ 60)) : chainOf x = (0, [], [], []) := by
  unfold chainOf
  rw [if_neg]
  intro ho
  simp only [chOk, Bool.and_eq_true, List.all_eq_true, sizedB, decide_eq_true_eq] at ho
  exact h (ho.2 _ (by rw [List.getD_eq_getElem?_getD, List.getElem?_eq_getElem hk]; exact List.getElem_mem hk))
theorem ch_step {xs : List SMove} {k : Nat} (hk : k < xs.length) (h : (xs.take k).all (fun m => sizedB m.2.2.2) = true) (hn : 1 ≤ (xs.getD k default).2.2.2.length ∧ (xs.getD k default).2.2.2.length ≤ 60) : (xs.take (k + 1)).all (fun m => sizedB m.2.2.2) = true := by
  rw [List.take_succ_eq_append_getElem hk, List.all_append, h]
  rw [List.getD_eq_getElem?_getD, List.getElem?_eq_getElem hk] at hn
  simpa [sizedB] using hn
theorem ch_yes {x : SChain} (h : x.2.length ≤ 60 ∧ 1 ≤ x.1.length ∧ x.1.length ≤ 60) (h' : x.2.all (fun m => sizedB m.2.2.2) = true) : chainOf x = (11, chNums x.2, x.1 :: chTerms x.2, []) := by
  unfold chainOf chOk; rw [decide_eq_true h, h']; rfl

theorem chain_len (x : SChain) : (chainOf x).2.1.length ≤ 180 ∧ Siz.size (chainOf x).2.2.1 ≤ 61 + 61 * 60 ∧ (chainOf x).2.2.2.length = 0 := by
  unfold chainOf
  split
  · rename_i h
    simp only [chOk, Bool.and_eq_true, decide_eq_true_eq, List.all_eq_true, sizedB] at h
    have hl : (x.1 :: chTerms x.2).length = 1 + x.2.length := by simp [chTerms]; omega
    have := siz_le' (xs := x.1 :: chTerms x.2) (m := 60) (fun t ht => by
      rcases List.mem_cons.1 ht with rfl | ht
      · exact h.1.2.2
      · simp only [chTerms, List.mem_map] at ht
        obtain ⟨m, hm, rfl⟩ := ht
        exact (h.2 m hm).2)
    refine ⟨by simp only; rw [chNums_len]; omega, ?_, rfl⟩
    simp only
    rw [hl] at this
    have h3 : (1 + x.2.length) * 60 ≤ 61 * 60 := Nat.mul_le_mul_right _ (by omega)
    omega
  · exact ⟨by simp, by simp [siz_list, sumL], rfl⟩
end Go.Proofs.Ytjijabgiochefaa
