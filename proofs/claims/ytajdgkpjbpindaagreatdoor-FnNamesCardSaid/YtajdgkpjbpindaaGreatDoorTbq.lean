/- Texts of the proof of FnNames. -/
import Derived.Test.YtajdgkpjbpindaaGreatDoorTbp
import Derived.LaidSub
import Derived.MakeChecks
set_option linter.unusedVariables false
set_option linter.unusedSimpArgs false
set_option linter.unusedSectionVars false
namespace Go.Proofs.YtajdgkpjbpindaaGreatDoor
open Go Go.Eng
set_option maxRecDepth 20000
end Go.Proofs.YtajdgkpjbpindaaGreatDoor
