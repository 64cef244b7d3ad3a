/-
  DERIVED. GIVEN WITH THE SEED: THE CARDS: each row of YtogmjihokkdcfaaGreatDoorRows.lean that lists a variable, with what it lists TIED to the program's text (the seventh form; the later family's looks); each row that meets fmt, with fmt's text TOLD by the authors' own Lean function (tested against real Go, not proved from fmt's source: count such statements apart). THE CARD IS WHAT COUNTS. Prove the row's statement (the work); the ties are given (YtogmjihokkdcfaaGreatDoorTie.lean); close each card by the builder's one call (the guide's Derived/Test/ToyasCard.lean, 'card_holds'). Laid BY PROGRAM, IN A SANDBOX (cutbox-door.mjs). By AI agents, Wed Nov 11 2026. No macro, syntax, notation, axiom, sorry.
-/
import Derived.Test.YtogmjihokkdcfaaGreatDoorRows
import GoSem.ClaimSeven
namespace Go.Proofs.YtogmjihokkdcfaaGreatDoor
namespace Rows

/-- THE TIED CARD OF 'laws.FnExactTextNode'. -/
def fnExactTextNodeCard : Claim7 := { stood := { row := fnExactTextNodeRow, standIns := [], harness := (true, "2f8119271182fc70a87a903dc23ff1384cd33438aaf9de91f1d004e5fba8558c"), looks := true }, kinds := [], alts := [], laidByText := true, laidKinds := [.data, .data, .data, .data, .sentinel, .sentinel, .pinned], laidTests := true, laidLooks := .later }
def FnExactTextNodeCardSaid : Prop := Claim7.holds Tryz.pinned (.plain (OpenSpec.ofChange fnExactTextNodeSpec)) fnExactTextNodeCard

/-- THE SECOND FORM's CARD OF 'laws.FnExactTextNode'. -/
def fnExactTextNodeUptoCard : Claim7 := { stood := { row := fnExactTextNodeUptoRow, standIns := [], harness := (true, "2f8119271182fc70a87a903dc23ff1384cd33438aaf9de91f1d004e5fba8558c"), looks := true }, kinds := [], alts := [], laidByText := true, laidKinds := [.data, .data, .data, .data, .sentinel, .sentinel, .pinned], laidTests := true, laidLooks := .later }
def FnExactTextNodeUptoCardSaid : Prop := Claim7.holds Tryz.pinned (.plain (OpenSpec.upto fnExactTextNodeSpec)) fnExactTextNodeUptoCard
end Rows
end Go.Proofs.YtogmjihokkdcfaaGreatDoor
