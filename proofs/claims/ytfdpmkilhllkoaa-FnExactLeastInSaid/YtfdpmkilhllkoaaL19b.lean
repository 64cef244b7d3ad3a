/- Rules that hold their own left side. -/
import Derived.Test.YtfdpmkilhllkoaaL07b
namespace Go.Proofs.Ytfdpmkilhllkoaa
open Go Go.Eng
set_option linter.unusedVariables false
set_option linter.unusedSimpArgs false

def selfOf (x : SSystem) (k : Nat) : List Int := embedsIn x.1 (x.2.getD k default).1 (x.2.getD k default).2
theorem sys_right {x : SSystem} {k : Nat} (h : sysOk x = true) (hk : k < x.2.length) : termOk x.1 (x.2.getD k default).2 = true :=
  (of_decide_eq_true ((sysOk_iff.1 h).2 _ (getD_memD hk)) : RuleP _ _).1.2.1
def selfPl (x : SSystem) (n : Int) : List Int := if sysOk x = true ∧ 0 ≤ n ∧ n < x.2.length then selfOf x n.toNat else []
theorem selfPl_no {x : SSystem} {n : Int} (h : ¬ (sysOk x = true ∧ 0 ≤ n ∧ n < x.2.length)) : selfPl x n = [] := if_neg h
theorem selfPl_yes {x : SSystem} {n : Int} (h : sysOk x = true ∧ 0 ≤ n ∧ n < x.2.length) : selfPl x n = selfOf x n.toNat := if_pos h
theorem selfOf_len (x : SSystem) (k : Nat) : (selfOf x k).length ≤ 60 := embeds_len _ _ _
theorem selfPl_len (x : SSystem) (n : Int) : (selfPl x n).length ≤ 60 := by
  unfold selfPl
  split
  · exact selfOf_len _ _
  · simp
end Go.Proofs.Ytfdpmkilhllkoaa
namespace Go.Proofs.Ytfdpmkilhllkoaa
open Go Go.Eng
set_option linter.unusedVariables false
set_option linter.unusedSimpArgs false

def firstFrom (f : Nat → Nat) (k : Nat) : Nat → Int
  | 0 => -1
  | n + 1 => if 0 < f k then k else firstFrom f (k + 1) n
theorem first_yes {f : Nat → Nat} {k n : Nat} (hk : k < n) (h : 0 < f k) : firstFrom f k (n - k) = k := by
  rw [show n - k = (n - (k + 1)) + 1 by omega]; simp [firstFrom, h]
theorem first_no {f : Nat → Nat} {k n : Nat} (hk : k < n) (h : ¬ 0 < f k) : firstFrom f k (n - k) = firstFrom f (k + 1) (n - (k + 1)) := by
  rw [show n - k = (n - (k + 1)) + 1 by omega]; simp [firstFrom, h]
def selfRule (x : SSystem) : Int := if sysOk x = true then firstFrom (fun k => (selfOf x k).length) 0 x.2.length else -1
theorem selfRule_no {x : SSystem} (h : sysOk x = false) : selfRule x = -1 := if_neg (by rw [h]; simp)
end Go.Proofs.Ytfdpmkilhllkoaa
