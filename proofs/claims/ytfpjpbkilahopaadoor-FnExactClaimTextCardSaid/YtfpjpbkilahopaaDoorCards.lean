/-
  DERIVED. GIVEN WITH THE SEED: THE CARDS: each row of YtfpjpbkilahopaaDoorRows.lean that lists a variable, with what it lists TIED to the program's text (the seventh form; the later family's looks); each row that meets fmt, with fmt's text TOLD by the authors' own Lean function (tested against real Go, not proved from fmt's source: count such statements apart). THE CARD IS WHAT COUNTS. Prove the row's statement (the work); the ties are given (YtfpjpbkilahopaaDoorTie.lean); close each card by the builder's one call (the guide's Derived/Test/ToyasCard.lean, 'card_holds'). Laid BY PROGRAM, IN A SANDBOX (cutbox-door.mjs). By AI agents, Wed Nov 11 2026. No macro, syntax, notation, axiom, sorry.
-/
import Derived.Test.YtfpjpbkilahopaaDoorRows
import GoSem.ClaimSeven
namespace Go.Proofs.YtfpjpbkilahopaaDoor
namespace Rows

/-- THE TIED CARD OF 'laws.FnExactClaimText'. -/
def fnExactClaimTextCard : Claim7 := { stood := { row := fnExactClaimTextRow, standIns := [], harness := (true, "3acc9319110814caf038a6875fa7aacd2b74c91a215373a75efed649a0640005"), looks := false }, kinds := [], alts := [], laidByText := true, laidKinds := [.data, .data, .data], laidTests := true, laidLooks := .later }
def FnExactClaimTextCardSaid : Prop := Claim7.holds Tryd.pinned (.plain (OpenSpec.ofChange fnExactClaimTextSpec)) fnExactClaimTextCard

/-- THE TIED CARD OF 'laws.FnExactTheoryEqs'. -/
def fnExactTheoryEqsCard : Claim7 := { stood := { row := fnExactTheoryEqsRow, standIns := [], harness := (true, "3acc9319110814caf038a6875fa7aacd2b74c91a215373a75efed649a0640005"), looks := false }, kinds := [], alts := [], laidByText := true, laidKinds := [.data, .data, .data], laidTests := true, laidLooks := .later }
def FnExactTheoryEqsCardSaid : Prop := Claim7.holds Tryd.pinned (.plain (OpenSpec.ofChange fnExactTheoryEqsSpec)) fnExactTheoryEqsCard

/-- THE SECOND FORM's CARD OF 'laws.FnExactClaimText'. -/
def fnExactClaimTextUptoCard : Claim7 := { stood := { row := fnExactClaimTextUptoRow, standIns := [], harness := (true, "3acc9319110814caf038a6875fa7aacd2b74c91a215373a75efed649a0640005"), looks := false }, kinds := [], alts := [], laidByText := true, laidKinds := [.data, .data, .data], laidTests := true, laidLooks := .later }
def FnExactClaimTextUptoCardSaid : Prop := Claim7.holds Tryd.pinned (.plain (OpenSpec.upto fnExactClaimTextSpec)) fnExactClaimTextUptoCard

/-- THE SECOND FORM's CARD OF 'laws.FnExactTheoryEqs'. -/
def fnExactTheoryEqsUptoCard : Claim7 := { stood := { row := fnExactTheoryEqsUptoRow, standIns := [], harness := (true, "3acc9319110814caf038a6875fa7aacd2b74c91a215373a75efed649a0640005"), looks := false }, kinds := [], alts := [], laidByText := true, laidKinds := [.data, .data, .data], laidTests := true, laidLooks := .later }
def FnExactTheoryEqsUptoCardSaid : Prop := Claim7.holds Tryd.pinned (.plain (OpenSpec.upto fnExactTheoryEqsSpec)) fnExactTheoryEqsUptoCard
end Rows
end Go.Proofs.YtfpjpbkilahopaaDoor
