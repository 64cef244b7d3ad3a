/- What the plain form of a substitution gives: no program in sight. -/
import Derived.Test.YtfdpmkilhllkoaaL02
namespace Go.Proofs.Ytfdpmkilhllkoaa
open Go Go.Eng
set_option linter.unusedVariables false
set_option linter.unusedSimpArgs false

theorem strip_get : ∀ (l : List (List Int)) (i : Nat), (strip l).getD i [] = l.getD i []
  | [], i => rfl
  | x :: xs, i => by
    have ih := strip_get xs
    unfold strip
    split
    · rename_i h
      cases i with
      | zero => simp [h.2]
      | succ i =>
        have := ih i
        rw [h.1] at this
        simpa using this
    · cases i with
      | zero => simp
      | succ i => simpa using ih i
theorem trivL_get : ∀ (k : Nat) (l : List (List Int)) (i : Nat), (trivL k l).getD i [] = triv (k + i) (l.getD i [])
  | k, [], i => by simp [trivL, triv]
  | k, x :: xs, i => by
    unfold trivL
    cases i with
    | zero => simp
    | succ i =>
      have := trivL_get (k + 1) xs i
      simp only [List.getD_cons_succ]
      rw [this, show k + 1 + i = k + (i + 1) by omega]
theorem gives_getD (ts : List (List Int)) (i : Nat) : gives ts i = if ts.getD i [] = [] then [-1 - (i : Int)] else ts.getD i [] := by
  unfold gives
  by_cases h : ts.getD i [] = []
  · rw [if_pos h, if_neg]
    rintro ⟨_, h2⟩
    have : (ts.getD i default).length = 0 := by show (ts.getD i []).length = 0; rw [h]; rfl
    omega
  · rw [if_neg h, if_pos]
    · rfl
    · refine ⟨?_, List.length_pos_iff.2 h⟩
      by_cases hl : i < ts.length
      · exact hl
      · rw [List.getD_eq_getElem?_getD, List.getElem?_eq_none (by omega)] at h
        exact absurd rfl h
theorem gives_plain (ts : List (List Int)) (i : Nat) : gives (plainOf ts) i = gives ts i := by
  have key : (plainOf ts).getD i [] = triv i (ts.getD i []) := by
    unfold plainOf
    rw [strip_get, trivL_get, Nat.zero_add]
  rw [gives_getD, gives_getD, key]
  generalize ts.getD i [] = x
  unfold triv
  by_cases h1 : x = []
  · simp [h1]
  · by_cases h2 : x = [-1 - (i : Int)]
    · simp [h2]
    · simp [h1, h2]
end Go.Proofs.Ytfdpmkilhllkoaa
