/-
  No cell of these rows narrows 'for every input' (looked for: loops, veiled, ifaces, maps, wideKeys, modest, calm, conditions, laid).
  DERIVED. THE GIVEN ROWS OF THIS SEAT. 12 by the template 'for every input the law returns true; each argument reads behind the call as it read before'; 0 by the template 'total and deterministic' (their statements: YtmaaffklmafelaaTotals.lean).
  GIVEN WITH THE SEED: the statements are not yours to turn. If you find one false, say at which input.
  Laid BY PROGRAM, IN A SANDBOX (cutbox-rows.mjs): the forced cells as the released guide's own fill.sh prints them over the translation 67b8a41318bc630e… (all of the seat's roots in one cut). By AI agents, Wed Nov 11 2026. No macro, syntax, notation, axiom, sorry.
-/
import Derived.Test.YtmaaffklmafelaaChecked
import GoSem.Claim
import GoSem.ClaimJoined
import GoSem.ClaimMapViews
import Derived.JoinedTies
import Derived.KernelRfl
namespace Go.Proofs.Ytmaaffklmafelaa
/- THE CELL 'sum', in the pinned program and in every row, IS THE sha256 OF THE DUMP (.gsa) THAT YtmaaffklmafelaaProg.lean LOADS. Nothing in Lean hashes anything: it is a label: what it is worth is what the hold of that sum in a sandbox is worth. -/
noncomputable def Try.pinned : Pinned := { name := "ytmaaffklmafelaa", sum := "67b8a41318bc630ecd56d0972c6a7cb2209fde87cc366c5a2d117a3a6412cb57", checked := Try.checked }
namespace Rows
def none {H : Type} : Left H := { results := [], args := [] }

/-- 'laws.FnExactRedexAt': WHATEVER THE INPUT: true; the input reads as it did. -/
def fnExactRedexAtSpec : ChangeSpec := { name := "fnExactRedexAt", fn := fun _ => fun
  | [d1, d2, d3, d4] => { results := [.lit (.bool true)], args := [d1, d2, d3, d4] }
  | _ => none }
def fnExactRedexAtRow : OpenClaim := { program := "ytmaaffklmafelaa", sum := "67b8a41318bc630ecd56d0972c6a7cb2209fde87cc366c5a2d117a3a6412cb57", func := "loop.example/g00895/laws.FnExactRedexAt", spec := "fnExactRedexAt", apart := false }
def FnExactRedexAtSaid : Prop := fnExactRedexAtRow.holds Try.pinned (OpenSpec.ofChange fnExactRedexAtSpec)

/-- ITS FALSE NEIGHBOUR: 'it returns false'. Refute it at one input. -/
def fnExactRedexAtWrong : ChangeSpec := { name := "fnExactRedexAt", fn := fun _ => fun
  | [d1, d2, d3, d4] => { results := [.lit (.bool false)], args := [d1, d2, d3, d4] }
  | _ => none }
def FnExactRedexAtWrongFalsely : Prop := fnExactRedexAtRow.holds Try.pinned (OpenSpec.ofChange fnExactRedexAtWrong)

/-- 'laws.FnExactNormalIn': WHATEVER THE INPUT: true; the input reads as it did. -/
def fnExactNormalInSpec : ChangeSpec := { name := "fnExactNormalIn", fn := fun _ => fun
  | [d1, d2] => { results := [.lit (.bool true)], args := [d1, d2] }
  | _ => none }
def fnExactNormalInRow : OpenClaim := { program := "ytmaaffklmafelaa", sum := "67b8a41318bc630ecd56d0972c6a7cb2209fde87cc366c5a2d117a3a6412cb57", func := "loop.example/g00895/laws.FnExactNormalIn", spec := "fnExactNormalIn", apart := false }
def FnExactNormalInSaid : Prop := fnExactNormalInRow.holds Try.pinned (OpenSpec.ofChange fnExactNormalInSpec)

/-- ITS FALSE NEIGHBOUR: 'it returns false'. Refute it at one input. -/
def fnExactNormalInWrong : ChangeSpec := { name := "fnExactNormalIn", fn := fun _ => fun
  | [d1, d2] => { results := [.lit (.bool false)], args := [d1, d2] }
  | _ => none }
def FnExactNormalInWrongFalsely : Prop := fnExactNormalInRow.holds Try.pinned (OpenSpec.ofChange fnExactNormalInWrong)

/-- 'laws.FnExactSelfRule': WHATEVER THE INPUT: true; the input reads as it did. -/
def fnExactSelfRuleSpec : ChangeSpec := { name := "fnExactSelfRule", fn := fun _ => fun
  | [d] => { results := [.lit (.bool true)], args := [d] }
  | _ => none }
def fnExactSelfRuleRow : OpenClaim := { program := "ytmaaffklmafelaa", sum := "67b8a41318bc630ecd56d0972c6a7cb2209fde87cc366c5a2d117a3a6412cb57", func := "loop.example/g00895/laws.FnExactSelfRule", spec := "fnExactSelfRule", apart := false }
def FnExactSelfRuleSaid : Prop := fnExactSelfRuleRow.holds Try.pinned (OpenSpec.ofChange fnExactSelfRuleSpec)

/-- ITS FALSE NEIGHBOUR: 'it returns false'. Refute it at one input. -/
def fnExactSelfRuleWrong : ChangeSpec := { name := "fnExactSelfRule", fn := fun _ => fun
  | [d] => { results := [.lit (.bool false)], args := [d] }
  | _ => none }
def FnExactSelfRuleWrongFalsely : Prop := fnExactSelfRuleRow.holds Try.pinned (OpenSpec.ofChange fnExactSelfRuleWrong)

/-- 'laws.FnExactSelfPlaces': WHATEVER THE INPUT: true; the input reads as it did. -/
def fnExactSelfPlacesSpec : ChangeSpec := { name := "fnExactSelfPlaces", fn := fun _ => fun
  | [d1, d2] => { results := [.lit (.bool true)], args := [d1, d2] }
  | _ => none }
def fnExactSelfPlacesRow : OpenClaim := { program := "ytmaaffklmafelaa", sum := "67b8a41318bc630ecd56d0972c6a7cb2209fde87cc366c5a2d117a3a6412cb57", func := "loop.example/g00895/laws.FnExactSelfPlaces", spec := "fnExactSelfPlaces", apart := false }
def FnExactSelfPlacesSaid : Prop := fnExactSelfPlacesRow.holds Try.pinned (OpenSpec.ofChange fnExactSelfPlacesSpec)

/-- ITS FALSE NEIGHBOUR: 'it returns false'. Refute it at one input. -/
def fnExactSelfPlacesWrong : ChangeSpec := { name := "fnExactSelfPlaces", fn := fun _ => fun
  | [d1, d2] => { results := [.lit (.bool false)], args := [d1, d2] }
  | _ => none }
def FnExactSelfPlacesWrongFalsely : Prop := fnExactSelfPlacesRow.holds Try.pinned (OpenSpec.ofChange fnExactSelfPlacesWrong)

/-- 'laws.FnEmbeds': WHATEVER THE INPUT: true; the input reads as it did. -/
def fnEmbedsSpec : ChangeSpec := { name := "fnEmbeds", fn := fun _ => fun
  | [d] => { results := [.lit (.bool true)], args := [d] }
  | _ => none }
def fnEmbedsRow : OpenClaim := { program := "ytmaaffklmafelaa", sum := "67b8a41318bc630ecd56d0972c6a7cb2209fde87cc366c5a2d117a3a6412cb57", func := "loop.example/g00895/laws.FnEmbeds", spec := "fnEmbeds", recurses := true, apart := false }
def FnEmbedsSaid : Prop := fnEmbedsRow.holds Try.pinned (OpenSpec.ofChange fnEmbedsSpec)

/-- ITS FALSE NEIGHBOUR: 'it returns false'. Refute it at one input. -/
def fnEmbedsWrong : ChangeSpec := { name := "fnEmbeds", fn := fun _ => fun
  | [d] => { results := [.lit (.bool false)], args := [d] }
  | _ => none }
def FnEmbedsWrongFalsely : Prop := fnEmbedsRow.holds Try.pinned (OpenSpec.ofChange fnEmbedsWrong)

/-- 'laws.FnMatched': WHATEVER THE INPUT: true; the input reads as it did. -/
def fnMatchedSpec : ChangeSpec := { name := "fnMatched", fn := fun _ => fun
  | [d] => { results := [.lit (.bool true)], args := [d] }
  | _ => none }
def fnMatchedRow : OpenClaim := { program := "ytmaaffklmafelaa", sum := "67b8a41318bc630ecd56d0972c6a7cb2209fde87cc366c5a2d117a3a6412cb57", func := "loop.example/g00895/laws.FnMatched", spec := "fnMatched", unfollowed := true, recurses := true, apart := false }
def FnMatchedSaid : Prop := fnMatchedRow.holds Try.pinned (OpenSpec.ofChange fnMatchedSpec)

/-- ITS FALSE NEIGHBOUR: 'it returns false'. Refute it at one input. -/
def fnMatchedWrong : ChangeSpec := { name := "fnMatched", fn := fun _ => fun
  | [d] => { results := [.lit (.bool false)], args := [d] }
  | _ => none }
def FnMatchedWrongFalsely : Prop := fnMatchedRow.holds Try.pinned (OpenSpec.ofChange fnMatchedWrong)

/-- 'laws.FnGeneral': WHATEVER THE INPUT: true; the input reads as it did. -/
def fnGeneralSpec : ChangeSpec := { name := "fnGeneral", fn := fun _ => fun
  | [d] => { results := [.lit (.bool true)], args := [d] }
  | _ => none }
def fnGeneralRow : OpenClaim := { program := "ytmaaffklmafelaa", sum := "67b8a41318bc630ecd56d0972c6a7cb2209fde87cc366c5a2d117a3a6412cb57", func := "loop.example/g00895/laws.FnGeneral", spec := "fnGeneral", recurses := true, apart := false }
def FnGeneralSaid : Prop := fnGeneralRow.holds Try.pinned (OpenSpec.ofChange fnGeneralSpec)

/-- ITS FALSE NEIGHBOUR: 'it returns false'. Refute it at one input. -/
def fnGeneralWrong : ChangeSpec := { name := "fnGeneral", fn := fun _ => fun
  | [d] => { results := [.lit (.bool false)], args := [d] }
  | _ => none }
def FnGeneralWrongFalsely : Prop := fnGeneralRow.holds Try.pinned (OpenSpec.ofChange fnGeneralWrong)

/-- 'laws.FnExactRedexesIn': WHATEVER THE INPUT: true; the input reads as it did. -/
def fnExactRedexesInSpec : ChangeSpec := { name := "fnExactRedexesIn", fn := fun _ => fun
  | [d1, d2] => { results := [.lit (.bool true)], args := [d1, d2] }
  | _ => none }
def fnExactRedexesInRow : OpenClaim := { program := "ytmaaffklmafelaa", sum := "67b8a41318bc630ecd56d0972c6a7cb2209fde87cc366c5a2d117a3a6412cb57", func := "loop.example/g00895/laws.FnExactRedexesIn", spec := "fnExactRedexesIn", apart := false }
def FnExactRedexesInSaid : Prop := fnExactRedexesInRow.holds Try.pinned (OpenSpec.ofChange fnExactRedexesInSpec)

/-- ITS FALSE NEIGHBOUR: 'it returns false'. Refute it at one input. -/
def fnExactRedexesInWrong : ChangeSpec := { name := "fnExactRedexesIn", fn := fun _ => fun
  | [d1, d2] => { results := [.lit (.bool false)], args := [d1, d2] }
  | _ => none }
def FnExactRedexesInWrongFalsely : Prop := fnExactRedexesInRow.holds Try.pinned (OpenSpec.ofChange fnExactRedexesInWrong)

/-- 'laws.FnExactReducedIn': WHATEVER THE INPUT: true; the input reads as it did. -/
def fnExactReducedInSpec : ChangeSpec := { name := "fnExactReducedIn", fn := fun _ => fun
  | [d] => { results := [.lit (.bool true)], args := [d] }
  | _ => none }
def fnExactReducedInRow : OpenClaim := { program := "ytmaaffklmafelaa", sum := "67b8a41318bc630ecd56d0972c6a7cb2209fde87cc366c5a2d117a3a6412cb57", func := "loop.example/g00895/laws.FnExactReducedIn", spec := "fnExactReducedIn", apart := false }
def FnExactReducedInSaid : Prop := fnExactReducedInRow.holds Try.pinned (OpenSpec.ofChange fnExactReducedInSpec)

/-- ITS FALSE NEIGHBOUR: 'it returns false'. Refute it at one input. -/
def fnExactReducedInWrong : ChangeSpec := { name := "fnExactReducedIn", fn := fun _ => fun
  | [d] => { results := [.lit (.bool false)], args := [d] }
  | _ => none }
def FnExactReducedInWrongFalsely : Prop := fnExactReducedInRow.holds Try.pinned (OpenSpec.ofChange fnExactReducedInWrong)

/-- 'laws.FnExactOutmostIn': WHATEVER THE INPUT: true; the input reads as it did. -/
def fnExactOutmostInSpec : ChangeSpec := { name := "fnExactOutmostIn", fn := fun _ => fun
  | [d1, d2] => { results := [.lit (.bool true)], args := [d1, d2] }
  | _ => none }
def fnExactOutmostInRow : OpenClaim := { program := "ytmaaffklmafelaa", sum := "67b8a41318bc630ecd56d0972c6a7cb2209fde87cc366c5a2d117a3a6412cb57", func := "loop.example/g00895/laws.FnExactOutmostIn", spec := "fnExactOutmostIn", apart := false }
def FnExactOutmostInSaid : Prop := fnExactOutmostInRow.holds Try.pinned (OpenSpec.ofChange fnExactOutmostInSpec)

/-- ITS FALSE NEIGHBOUR: 'it returns false'. Refute it at one input. -/
def fnExactOutmostInWrong : ChangeSpec := { name := "fnExactOutmostIn", fn := fun _ => fun
  | [d1, d2] => { results := [.lit (.bool false)], args := [d1, d2] }
  | _ => none }
def FnExactOutmostInWrongFalsely : Prop := fnExactOutmostInRow.holds Try.pinned (OpenSpec.ofChange fnExactOutmostInWrong)

/-- 'laws.FnExactInmostIn': WHATEVER THE INPUT: true; the input reads as it did. -/
def fnExactInmostInSpec : ChangeSpec := { name := "fnExactInmostIn", fn := fun _ => fun
  | [d1, d2] => { results := [.lit (.bool true)], args := [d1, d2] }
  | _ => none }
def fnExactInmostInRow : OpenClaim := { program := "ytmaaffklmafelaa", sum := "67b8a41318bc630ecd56d0972c6a7cb2209fde87cc366c5a2d117a3a6412cb57", func := "loop.example/g00895/laws.FnExactInmostIn", spec := "fnExactInmostIn", apart := false }
def FnExactInmostInSaid : Prop := fnExactInmostInRow.holds Try.pinned (OpenSpec.ofChange fnExactInmostInSpec)

/-- ITS FALSE NEIGHBOUR: 'it returns false'. Refute it at one input. -/
def fnExactInmostInWrong : ChangeSpec := { name := "fnExactInmostIn", fn := fun _ => fun
  | [d1, d2] => { results := [.lit (.bool false)], args := [d1, d2] }
  | _ => none }
def FnExactInmostInWrongFalsely : Prop := fnExactInmostInRow.holds Try.pinned (OpenSpec.ofChange fnExactInmostInWrong)

/-- 'laws.FnExactLoopNode': WHATEVER THE INPUT: true; the input reads as it did. -/
def fnExactLoopNodeSpec : ChangeSpec := { name := "fnExactLoopNode", fn := fun _ => fun
  | [d] => { results := [.lit (.bool true)], args := [d] }
  | _ => none }
def fnExactLoopNodeRow : OpenClaim := { program := "ytmaaffklmafelaa", sum := "67b8a41318bc630ecd56d0972c6a7cb2209fde87cc366c5a2d117a3a6412cb57", func := "loop.example/g00895/laws.FnExactLoopNode", spec := "fnExactLoopNode", unfollowed := true, recurses := true, apart := false }
def FnExactLoopNodeSaid : Prop := fnExactLoopNodeRow.holds Try.pinned (OpenSpec.ofChange fnExactLoopNodeSpec)

/-- ITS FALSE NEIGHBOUR: 'it returns false'. Refute it at one input. -/
def fnExactLoopNodeWrong : ChangeSpec := { name := "fnExactLoopNode", fn := fun _ => fun
  | [d] => { results := [.lit (.bool false)], args := [d] }
  | _ => none }
def FnExactLoopNodeWrongFalsely : Prop := fnExactLoopNodeRow.holds Try.pinned (OpenSpec.ofChange fnExactLoopNodeWrong)

/- THE SECOND FORM. 'bulk': how many values and letters a reading holds, each counted each time it is reached (what is shared counts as often as it is met; a slice's spare places count too). A statement '..UptoSaid' is the law's where the arguments, and the package variables that the reading takes, are together of bulk at most 1048576: NARROWER than '..Said'. Prove '..Said' where nothing that the law and all that it calls make is longer than what came in: it says more and counts as full. Else prove '..UptoSaid'. A law counts once. -/
mutual
def uptoBulk {H : Type} : DataW H → Nat
  | .lit (.string bytes) => bytes.length + 1
  | .lit _ => 1
  | .nil => 1
  | .ptr d => uptoBulk d + 1
  | .slice elems spare => uptoBulkAll elems + uptoBulkAll spare + 1
  | .agg parts => uptoBulkAll parts + 1
  | .iface _ d => uptoBulk d + 1
  | .map entries => uptoBulkEntries entries + 1
  | .held _ => 1
def uptoBulkAll {H : Type} : List (DataW H) → Nat
  | [] => 0
  | d :: r => uptoBulk d + uptoBulkAll r
def uptoBulkEntries {H : Type} : List (Lit × DataW H) → Nat
  | [] => 0
  | x :: r => uptoBulkEntry x + uptoBulkEntries r
def uptoBulkEntry {H : Type} : Lit × DataW H → Nat
  | (.string bytes, d) => bytes.length + uptoBulk d + 1
  | (_, d) => uptoBulk d + 1
 end
def uptoSmall : (H : Type) → List (DataW H) → Bool := fun _ ds => decide (uptoBulkAll ds ≤ 1048576)
def OpenSpec.upto (s : _root_.Go.ChangeSpec) : _root_.Go.OpenSpec := { _root_.Go.OpenSpec.ofChange s with cond := some uptoSmall }

/-- 'laws.FnExactRedexAt', WHERE WHAT IT READS IS OF BULK AT MOST 1048576: true; the input reads as it did. -/
def fnExactRedexAtUptoRow : OpenClaim := { program := "ytmaaffklmafelaa", sum := "67b8a41318bc630ecd56d0972c6a7cb2209fde87cc366c5a2d117a3a6412cb57", func := "loop.example/g00895/laws.FnExactRedexAt", spec := "fnExactRedexAt", apart := false, narrowed := true }
def FnExactRedexAtUptoSaid : Prop := fnExactRedexAtUptoRow.holds Try.pinned (OpenSpec.upto fnExactRedexAtSpec)

/-- 'laws.FnExactNormalIn', WHERE WHAT IT READS IS OF BULK AT MOST 1048576: true; the input reads as it did. -/
def fnExactNormalInUptoRow : OpenClaim := { program := "ytmaaffklmafelaa", sum := "67b8a41318bc630ecd56d0972c6a7cb2209fde87cc366c5a2d117a3a6412cb57", func := "loop.example/g00895/laws.FnExactNormalIn", spec := "fnExactNormalIn", apart := false, narrowed := true }
def FnExactNormalInUptoSaid : Prop := fnExactNormalInUptoRow.holds Try.pinned (OpenSpec.upto fnExactNormalInSpec)

/-- 'laws.FnExactSelfRule', WHERE WHAT IT READS IS OF BULK AT MOST 1048576: true; the input reads as it did. -/
def fnExactSelfRuleUptoRow : OpenClaim := { program := "ytmaaffklmafelaa", sum := "67b8a41318bc630ecd56d0972c6a7cb2209fde87cc366c5a2d117a3a6412cb57", func := "loop.example/g00895/laws.FnExactSelfRule", spec := "fnExactSelfRule", apart := false, narrowed := true }
def FnExactSelfRuleUptoSaid : Prop := fnExactSelfRuleUptoRow.holds Try.pinned (OpenSpec.upto fnExactSelfRuleSpec)

/-- 'laws.FnExactSelfPlaces', WHERE WHAT IT READS IS OF BULK AT MOST 1048576: true; the input reads as it did. -/
def fnExactSelfPlacesUptoRow : OpenClaim := { program := "ytmaaffklmafelaa", sum := "67b8a41318bc630ecd56d0972c6a7cb2209fde87cc366c5a2d117a3a6412cb57", func := "loop.example/g00895/laws.FnExactSelfPlaces", spec := "fnExactSelfPlaces", apart := false, narrowed := true }
def FnExactSelfPlacesUptoSaid : Prop := fnExactSelfPlacesUptoRow.holds Try.pinned (OpenSpec.upto fnExactSelfPlacesSpec)

/-- 'laws.FnEmbeds', WHERE WHAT IT READS IS OF BULK AT MOST 1048576: true; the input reads as it did. -/
def fnEmbedsUptoRow : OpenClaim := { program := "ytmaaffklmafelaa", sum := "67b8a41318bc630ecd56d0972c6a7cb2209fde87cc366c5a2d117a3a6412cb57", func := "loop.example/g00895/laws.FnEmbeds", spec := "fnEmbeds", recurses := true, apart := false, narrowed := true }
def FnEmbedsUptoSaid : Prop := fnEmbedsUptoRow.holds Try.pinned (OpenSpec.upto fnEmbedsSpec)

/-- 'laws.FnMatched', WHERE WHAT IT READS IS OF BULK AT MOST 1048576: true; the input reads as it did. -/
def fnMatchedUptoRow : OpenClaim := { program := "ytmaaffklmafelaa", sum := "67b8a41318bc630ecd56d0972c6a7cb2209fde87cc366c5a2d117a3a6412cb57", func := "loop.example/g00895/laws.FnMatched", spec := "fnMatched", unfollowed := true, recurses := true, apart := false, narrowed := true }
def FnMatchedUptoSaid : Prop := fnMatchedUptoRow.holds Try.pinned (OpenSpec.upto fnMatchedSpec)

/-- 'laws.FnGeneral', WHERE WHAT IT READS IS OF BULK AT MOST 1048576: true; the input reads as it did. -/
def fnGeneralUptoRow : OpenClaim := { program := "ytmaaffklmafelaa", sum := "67b8a41318bc630ecd56d0972c6a7cb2209fde87cc366c5a2d117a3a6412cb57", func := "loop.example/g00895/laws.FnGeneral", spec := "fnGeneral", recurses := true, apart := false, narrowed := true }
def FnGeneralUptoSaid : Prop := fnGeneralUptoRow.holds Try.pinned (OpenSpec.upto fnGeneralSpec)

/-- 'laws.FnExactRedexesIn', WHERE WHAT IT READS IS OF BULK AT MOST 1048576: true; the input reads as it did. -/
def fnExactRedexesInUptoRow : OpenClaim := { program := "ytmaaffklmafelaa", sum := "67b8a41318bc630ecd56d0972c6a7cb2209fde87cc366c5a2d117a3a6412cb57", func := "loop.example/g00895/laws.FnExactRedexesIn", spec := "fnExactRedexesIn", apart := false, narrowed := true }
def FnExactRedexesInUptoSaid : Prop := fnExactRedexesInUptoRow.holds Try.pinned (OpenSpec.upto fnExactRedexesInSpec)

/-- 'laws.FnExactReducedIn', WHERE WHAT IT READS IS OF BULK AT MOST 1048576: true; the input reads as it did. -/
def fnExactReducedInUptoRow : OpenClaim := { program := "ytmaaffklmafelaa", sum := "67b8a41318bc630ecd56d0972c6a7cb2209fde87cc366c5a2d117a3a6412cb57", func := "loop.example/g00895/laws.FnExactReducedIn", spec := "fnExactReducedIn", apart := false, narrowed := true }
def FnExactReducedInUptoSaid : Prop := fnExactReducedInUptoRow.holds Try.pinned (OpenSpec.upto fnExactReducedInSpec)

/-- 'laws.FnExactOutmostIn', WHERE WHAT IT READS IS OF BULK AT MOST 1048576: true; the input reads as it did. -/
def fnExactOutmostInUptoRow : OpenClaim := { program := "ytmaaffklmafelaa", sum := "67b8a41318bc630ecd56d0972c6a7cb2209fde87cc366c5a2d117a3a6412cb57", func := "loop.example/g00895/laws.FnExactOutmostIn", spec := "fnExactOutmostIn", apart := false, narrowed := true }
def FnExactOutmostInUptoSaid : Prop := fnExactOutmostInUptoRow.holds Try.pinned (OpenSpec.upto fnExactOutmostInSpec)

/-- 'laws.FnExactInmostIn', WHERE WHAT IT READS IS OF BULK AT MOST 1048576: true; the input reads as it did. -/
def fnExactInmostInUptoRow : OpenClaim := { program := "ytmaaffklmafelaa", sum := "67b8a41318bc630ecd56d0972c6a7cb2209fde87cc366c5a2d117a3a6412cb57", func := "loop.example/g00895/laws.FnExactInmostIn", spec := "fnExactInmostIn", apart := false, narrowed := true }
def FnExactInmostInUptoSaid : Prop := fnExactInmostInUptoRow.holds Try.pinned (OpenSpec.upto fnExactInmostInSpec)

/-- 'laws.FnExactLoopNode', WHERE WHAT IT READS IS OF BULK AT MOST 1048576: true; the input reads as it did. -/
def fnExactLoopNodeUptoRow : OpenClaim := { program := "ytmaaffklmafelaa", sum := "67b8a41318bc630ecd56d0972c6a7cb2209fde87cc366c5a2d117a3a6412cb57", func := "loop.example/g00895/laws.FnExactLoopNode", spec := "fnExactLoopNode", unfollowed := true, recurses := true, apart := false, narrowed := true }
def FnExactLoopNodeUptoSaid : Prop := fnExactLoopNodeUptoRow.holds Try.pinned (OpenSpec.upto fnExactLoopNodeSpec)

end Rows
end Go.Proofs.Ytmaaffklmafelaa
