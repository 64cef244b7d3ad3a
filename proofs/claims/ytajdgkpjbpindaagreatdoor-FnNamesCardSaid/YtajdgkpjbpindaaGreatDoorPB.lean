/- Parts of the closed facts of FnNames. -/
import Derived.Test.YtajdgkpjbpindaaGreatDoorCards
import Derived.Test.YtajdgkpjbpindaaGreatDoorTie
import Derived.ProofKit
import Derived.Stop.Joined
import Derived.SevenTiedAt
namespace Go.Proofs.YtajdgkpjbpindaaGreatDoor.fnNames
open Go Go.ChangeShapes Go.WideShapes Go.ChangeAt Go.RowKit
theorem j12 : (Rows.fnNamesRow.recurses == Tryz.prog.recurses 3) = true := by kernel_rfl
theorem j13 : (Rows.fnNamesRow.named == Tryz.prog.varsNamed 3) = true := by kernel_rfl
end Go.Proofs.YtajdgkpjbpindaaGreatDoor.fnNames
