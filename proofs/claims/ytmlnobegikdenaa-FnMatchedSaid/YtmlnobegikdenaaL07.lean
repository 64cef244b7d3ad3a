/- A redex at a place. -/
import Derived.Test.YtmlnobegikdenaaL06
namespace Go.Proofs.Ytmlnobegikdenaa
open Go Go.Eng
set_option linter.unusedVariables false
set_option linter.unusedSimpArgs false

def RedP (x : SSystem) (t : List Int) (at_ rule : Int) : Prop := sysOk x = true ∧ (termOk x.1 t = true ∧ 0 ≤ at_ ∧ at_ < t.length) ∧ 0 ≤ rule ∧ rule < x.2.length
instance {x : SSystem} {t : List Int} {at_ rule : Int} : Decidable (RedP x t at_ rule) := by unfold RedP; infer_instance
def redArgs (x : SSystem) (t : List Int) (at_ rule : Int) : Bool := decide (RedP x t at_ rule)
instance {x : SSystem} {t : List Int} {at_ rule : Int} : BoolP (redArgs x t at_ rule) (RedP x t at_ rule) := ⟨decide_eq_true_iff⟩
instance {x : SSystem} {t : List Int} {at_ rule : Int} : BoolN (redArgs x t at_ rule) (¬ RedP x t at_ rule) := ⟨decide_eq_false_iff_not⟩
theorem sys_left {x : SSystem} {k : Nat} (h : sysOk x = true) (hk : k < x.2.length) : termOk x.1 (x.2.getD k default).1 = true :=
  (of_decide_eq_true ((sysOk_iff.1 h).2 _ (getD_memD hk)) : RuleP _ _).1.1
def redOf (x : SSystem) (t : List Int) (at_ rule : Int) : Bool := instOf x.1 (x.2.getD rule.toNat default).1 (subt x.1 t at_.toNat)
def redexAt (x : SSystem) (t : List Int) (at_ rule : Int) : Bool := redArgs x t at_ rule && redOf x t at_ rule
end Go.Proofs.Ytmlnobegikdenaa
