/-
  DERIVED. GIVEN WITH THE SEED: THE CARDS: each row of YtcaljjkmaffedaaDoorRows.lean that lists a variable, with what it lists TIED to the program's text (the seventh form; the later family's looks); each row that meets fmt, with fmt's text TOLD by the authors' own Lean function (tested against real Go, not proved from fmt's source: count such statements apart). THE CARD IS WHAT COUNTS. Prove the row's statement (the work); the ties are given (YtcaljjkmaffedaaDoorTie.lean); close each card by the builder's one call (the guide's Derived/Test/ToyasCard.lean, 'card_holds'). Laid BY PROGRAM, IN A SANDBOX (cutbox-door.mjs). By AI agents, Wed Nov 11 2026. No macro, syntax, notation, axiom, sorry.
-/
import Derived.Test.YtcaljjkmaffedaaDoorRows
import GoSem.ClaimSeven
namespace Go.Proofs.YtcaljjkmaffedaaDoor
namespace Rows

/-- THE TIED CARD OF 'laws.FnExactTheoryEqs'. -/
def fnExactTheoryEqsCard : Claim7 := { stood := { row := fnExactTheoryEqsRow, standIns := [], harness := (true, "8b3fd4f8292f7b5eca3a86040b3d9c014cfcb8b49e55de913cd12f39e09d86b5"), looks := false }, kinds := [], alts := [], laidByText := true, laidKinds := [.data, .data, .data], laidTests := true, laidLooks := .later }
def FnExactTheoryEqsCardSaid : Prop := Claim7.holds Tryd.pinned (.plain (OpenSpec.ofChange fnExactTheoryEqsSpec)) fnExactTheoryEqsCard

/-- THE TIED CARD OF 'laws.FnExactTheoryRules'. -/
def fnExactTheoryRulesCard : Claim7 := { stood := { row := fnExactTheoryRulesRow, standIns := [], harness := (true, "8b3fd4f8292f7b5eca3a86040b3d9c014cfcb8b49e55de913cd12f39e09d86b5"), looks := false }, kinds := [], alts := [], laidByText := true, laidKinds := [.data, .data, .data], laidTests := true, laidLooks := .later }
def FnExactTheoryRulesCardSaid : Prop := Claim7.holds Tryd.pinned (.plain (OpenSpec.ofChange fnExactTheoryRulesSpec)) fnExactTheoryRulesCard

/-- THE TIED CARD OF 'laws.FnExactNodeText'. -/
def fnExactNodeTextCard : Claim7 := { stood := { row := fnExactNodeTextRow, standIns := [], harness := (true, "8b3fd4f8292f7b5eca3a86040b3d9c014cfcb8b49e55de913cd12f39e09d86b5"), looks := false }, kinds := [], alts := [], laidByText := true, laidKinds := [.data, .data, .data], laidTests := true, laidLooks := .later }
def FnExactNodeTextCardSaid : Prop := Claim7.holds Tryd.pinned (.plain (OpenSpec.ofChange fnExactNodeTextSpec)) fnExactNodeTextCard

/-- THE TIED CARD OF 'laws.FnExactProofText'. -/
def fnExactProofTextCard : Claim7 := { stood := { row := fnExactProofTextRow, standIns := [], harness := (true, "8b3fd4f8292f7b5eca3a86040b3d9c014cfcb8b49e55de913cd12f39e09d86b5"), looks := false }, kinds := [], alts := [], laidByText := true, laidKinds := [.data, .data, .data], laidTests := true, laidLooks := .later }
def FnExactProofTextCardSaid : Prop := Claim7.holds Tryd.pinned (.plain (OpenSpec.ofChange fnExactProofTextSpec)) fnExactProofTextCard

/-- THE SECOND FORM's CARD OF 'laws.FnExactTheoryEqs'. -/
def fnExactTheoryEqsUptoCard : Claim7 := { stood := { row := fnExactTheoryEqsUptoRow, standIns := [], harness := (true, "8b3fd4f8292f7b5eca3a86040b3d9c014cfcb8b49e55de913cd12f39e09d86b5"), looks := false }, kinds := [], alts := [], laidByText := true, laidKinds := [.data, .data, .data], laidTests := true, laidLooks := .later }
def FnExactTheoryEqsUptoCardSaid : Prop := Claim7.holds Tryd.pinned (.plain (OpenSpec.upto fnExactTheoryEqsSpec)) fnExactTheoryEqsUptoCard

/-- THE SECOND FORM's CARD OF 'laws.FnExactTheoryRules'. -/
def fnExactTheoryRulesUptoCard : Claim7 := { stood := { row := fnExactTheoryRulesUptoRow, standIns := [], harness := (true, "8b3fd4f8292f7b5eca3a86040b3d9c014cfcb8b49e55de913cd12f39e09d86b5"), looks := false }, kinds := [], alts := [], laidByText := true, laidKinds := [.data, .data, .data], laidTests := true, laidLooks := .later }
def FnExactTheoryRulesUptoCardSaid : Prop := Claim7.holds Tryd.pinned (.plain (OpenSpec.upto fnExactTheoryRulesSpec)) fnExactTheoryRulesUptoCard

/-- THE SECOND FORM's CARD OF 'laws.FnExactNodeText'. -/
def fnExactNodeTextUptoCard : Claim7 := { stood := { row := fnExactNodeTextUptoRow, standIns := [], harness := (true, "8b3fd4f8292f7b5eca3a86040b3d9c014cfcb8b49e55de913cd12f39e09d86b5"), looks := false }, kinds := [], alts := [], laidByText := true, laidKinds := [.data, .data, .data], laidTests := true, laidLooks := .later }
def FnExactNodeTextUptoCardSaid : Prop := Claim7.holds Tryd.pinned (.plain (OpenSpec.upto fnExactNodeTextSpec)) fnExactNodeTextUptoCard

/-- THE SECOND FORM's CARD OF 'laws.FnExactProofText'. -/
def fnExactProofTextUptoCard : Claim7 := { stood := { row := fnExactProofTextUptoRow, standIns := [], harness := (true, "8b3fd4f8292f7b5eca3a86040b3d9c014cfcb8b49e55de913cd12f39e09d86b5"), looks := false }, kinds := [], alts := [], laidByText := true, laidKinds := [.data, .data, .data], laidTests := true, laidLooks := .later }
def FnExactProofTextUptoCardSaid : Prop := Claim7.holds Tryd.pinned (.plain (OpenSpec.upto fnExactProofTextSpec)) fnExactProofTextUptoCard
end Rows
end Go.Proofs.YtcaljjkmaffedaaDoor
