/- The first rule that holds its own left side. -/
import Derived.Test.YtmlnobegikdenaaL19
namespace Go.Proofs.Ytmlnobegikdenaa
open Go Go.Eng
set_option linter.unusedVariables false
set_option linter.unusedSimpArgs false

def firstFrom (f : Nat → Nat) (k : Nat) : Nat → Int
  | 0 => -1
  | n + 1 => if 0 < f k then k else firstFrom f (k + 1) n
theorem first_yes {f : Nat → Nat} {k n : Nat} (hk : k < n) (h : 0 < f k) : firstFrom f k (n - k) = k := by
  rw [show n - k = (n - (k + 1)) + 1 by omega]; simp [firstFrom, h]
theorem first_no {f : Nat → Nat} {k n : Nat} (hk : k < n) (h : ¬ 0 < f k) : firstFrom f k (n - k) = firstFrom f (k + 1) (n - (k + 1)) := by
  rw [show n - k = (n - (k + 1)) + 1 by omega]; simp [firstFrom, h]
def selfRule (x : SSystem) : Int := if sysOk x = true then firstFrom (fun k => (selfOf x k).length) 0 x.2.length else -1
theorem selfRule_no {x : SSystem} (h : sysOk x = false) : selfRule x = -1 := if_neg (by rw [h]; simp)
end Go.Proofs.Ytmlnobegikdenaa
