/- The redexes of a term. -/
import Derived.Test.YtmlnobegikdenaaL19b
namespace Go.Proofs.Ytmlnobegikdenaa
open Go Go.Eng
set_option linter.unusedVariables false
set_option linter.unusedSimpArgs false

def hasRed (x : SSystem) (t : List Int) (k : Nat) : Bool := (List.range x.2.length).any (redN x t k)
theorem hasRed_iff {x : SSystem} {t : List Int} {k : Nat} : hasRed x t k = true ↔ ∃ r, r < x.2.length ∧ redN x t k r = true := by
  unfold hasRed
  simp only [List.any_eq_true, List.mem_range]
theorem hasRed_var {x : SSystem} {t : List Int} {k : Nat} (hs : sysOk x = true) (ht : termOk x.1 t = true) (hk : k < t.length) (hv : t.getD k 0 < 0) : hasRed x t k = false := by
  cases h : hasRed x t k with
  | false => rfl
  | true =>
    obtain ⟨r, hr, h'⟩ := hasRed_iff.1 h
    rw [var_no hs ht hk hr hv] at h'; cases h'
def redexesOf (x : SSystem) (t : List Int) : List Int := if sysOk x = true ∧ termOk x.1 t = true then selTo (hasRed x t) t.length else []
theorem redexesOf_no {x : SSystem} {t : List Int} (h : ¬ (sysOk x = true ∧ termOk x.1 t = true)) : redexesOf x t = [] := if_neg h
theorem redexesOf_yes {x : SSystem} {t : List Int} (h : sysOk x = true ∧ termOk x.1 t = true) : redexesOf x t = selTo (hasRed x t) t.length := if_pos h
theorem redexesOf_len (x : SSystem) (t : List Int) : (redexesOf x t).length ≤ 60 := by
  unfold redexesOf
  split
  · rename_i h
    have := selTo_len (hasRed x t) t.length
    have := termOk_len h.2
    omega
  · simp
end Go.Proofs.Ytmlnobegikdenaa
