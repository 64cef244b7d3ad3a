/-
  DERIVED. GIVEN WITH THE SEED: THE CARDS: each row of YtbbdjjlnachnlaaGreatDoorRows.lean that lists a variable, with what it lists TIED to the program's text (the seventh form; the later family's looks); each row that meets fmt, with fmt's text TOLD by the authors' own Lean function (tested against real Go, not proved from fmt's source: count such statements apart). THE CARD IS WHAT COUNTS. Prove the row's statement (the work); the ties are given (YtbbdjjlnachnlaaGreatDoorTie.lean); close each card by the builder's one call (the guide's Derived/Test/ToyasCard.lean, 'card_holds'). Laid BY PROGRAM, IN A SANDBOX (cutbox-door.mjs). By AI agents, Wed Nov 11 2026. No macro, syntax, notation, axiom, sorry.
-/
import Derived.Test.YtbbdjjlnachnlaaGreatDoorRows
import GoSem.ClaimSeven
namespace Go.Proofs.YtbbdjjlnachnlaaGreatDoor
namespace Rows

/-- THE TIED CARD OF 'laws.FnNormalAuto'. -/
def fnNormalAutoCard : Claim7 := { stood := { row := fnNormalAutoRow, standIns := [], harness := (true, "fc0a1e223786ba24019a91c69ccf183bbc6b470f245c475249abb15811092919"), looks := true }, kinds := [], alts := [], laidByText := true, laidKinds := [.data, .data, .data], laidTests := true, laidLooks := .later }
def FnNormalAutoCardSaid : Prop := Claim7.holds Tryz.pinned (.plain (OpenSpec.ofChange fnNormalAutoSpec)) fnNormalAutoCard

/-- THE TIED CARD OF 'laws.FnExactNormalStateOf'. -/
def fnExactNormalStateOfCard : Claim7 := { stood := { row := fnExactNormalStateOfRow, standIns := [], harness := (true, "fc0a1e223786ba24019a91c69ccf183bbc6b470f245c475249abb15811092919"), looks := true }, kinds := [], alts := [], laidByText := true, laidKinds := [.data, .data, .data], laidTests := true, laidLooks := .later }
def FnExactNormalStateOfCardSaid : Prop := Claim7.holds Tryz.pinned (.plain (OpenSpec.ofChange fnExactNormalStateOfSpec)) fnExactNormalStateOfCard

/-- THE TIED CARD OF 'laws.FnExactReducibleAuto'. -/
def fnExactReducibleAutoCard : Claim7 := { stood := { row := fnExactReducibleAutoRow, standIns := [], harness := (true, "fc0a1e223786ba24019a91c69ccf183bbc6b470f245c475249abb15811092919"), looks := true }, kinds := [], alts := [], laidByText := true, laidKinds := [.data, .data, .data], laidTests := true, laidLooks := .later }
def FnExactReducibleAutoCardSaid : Prop := Claim7.holds Tryz.pinned (.plain (OpenSpec.ofChange fnExactReducibleAutoSpec)) fnExactReducibleAutoCard

/-- THE SECOND FORM's CARD OF 'laws.FnNormalAuto'. -/
def fnNormalAutoUptoCard : Claim7 := { stood := { row := fnNormalAutoUptoRow, standIns := [], harness := (true, "fc0a1e223786ba24019a91c69ccf183bbc6b470f245c475249abb15811092919"), looks := true }, kinds := [], alts := [], laidByText := true, laidKinds := [.data, .data, .data], laidTests := true, laidLooks := .later }
def FnNormalAutoUptoCardSaid : Prop := Claim7.holds Tryz.pinned (.plain (OpenSpec.upto fnNormalAutoSpec)) fnNormalAutoUptoCard

/-- THE SECOND FORM's CARD OF 'laws.FnExactNormalStateOf'. -/
def fnExactNormalStateOfUptoCard : Claim7 := { stood := { row := fnExactNormalStateOfUptoRow, standIns := [], harness := (true, "fc0a1e223786ba24019a91c69ccf183bbc6b470f245c475249abb15811092919"), looks := true }, kinds := [], alts := [], laidByText := true, laidKinds := [.data, .data, .data], laidTests := true, laidLooks := .later }
def FnExactNormalStateOfUptoCardSaid : Prop := Claim7.holds Tryz.pinned (.plain (OpenSpec.upto fnExactNormalStateOfSpec)) fnExactNormalStateOfUptoCard

/-- THE SECOND FORM's CARD OF 'laws.FnExactReducibleAuto'. -/
def fnExactReducibleAutoUptoCard : Claim7 := { stood := { row := fnExactReducibleAutoUptoRow, standIns := [], harness := (true, "fc0a1e223786ba24019a91c69ccf183bbc6b470f245c475249abb15811092919"), looks := true }, kinds := [], alts := [], laidByText := true, laidKinds := [.data, .data, .data], laidTests := true, laidLooks := .later }
def FnExactReducibleAutoUptoCardSaid : Prop := Claim7.holds Tryz.pinned (.plain (OpenSpec.upto fnExactReducibleAutoSpec)) fnExactReducibleAutoUptoCard
end Rows
end Go.Proofs.YtbbdjjlnachnlaaGreatDoor
