/-
  No cell of these rows narrows 'for every input' (looked for: loops, veiled, ifaces, maps, wideKeys, modest, calm, conditions, laid).
  DERIVED. THE GIVEN ROWS OF THIS SEAT. 12 by the template 'for every input the law returns true; each argument reads behind the call as it read before'; 0 by the template 'total and deterministic' (their statements: YtckbndcgkkohaaaTotals.lean).
  GIVEN WITH THE SEED: the statements are not yours to turn. If you find one false, say at which input.
  Laid BY PROGRAM, IN A SANDBOX (cutbox-rows.mjs): the forced cells as the released guide's own fill.sh prints them over the translation f7a66acc8befcf45… (all of the seat's roots in one cut). By AI agents, Wed Nov 11 2026. No macro, syntax, notation, axiom, sorry.
-/
import Derived.Test.YtckbndcgkkohaaaChecked
import GoSem.Claim
import GoSem.ClaimJoined
import GoSem.ClaimMapViews
import Derived.JoinedTies
import Derived.KernelRfl
namespace Go.Proofs.Ytckbndcgkkohaaa
/- THE CELL 'sum', in the pinned program and in every row, IS THE sha256 OF THE DUMP (.gsa) THAT YtckbndcgkkohaaaProg.lean LOADS. Nothing in Lean hashes anything: it is a label: what it is worth is what the hold of that sum in a sandbox is worth. -/
noncomputable def Try.pinned : Pinned := { name := "ytckbndcgkkohaaa", sum := "f7a66acc8befcf459b03ca6f0d278259f446efd2ec5431517ef328befdf37347", checked := Try.checked }
namespace Rows
def none {H : Type} : Left H := { results := [], args := [] }

/-- 'laws.FnExactReducedIn': WHATEVER THE INPUT: true; the input reads as it did. -/
def fnExactReducedInSpec : ChangeSpec := { name := "fnExactReducedIn", fn := fun _ => fun
  | [d] => { results := [.lit (.bool true)], args := [d] }
  | _ => none }
def fnExactReducedInRow : OpenClaim := { program := "ytckbndcgkkohaaa", sum := "f7a66acc8befcf459b03ca6f0d278259f446efd2ec5431517ef328befdf37347", func := "loop.example/g00895/laws.FnExactReducedIn", spec := "fnExactReducedIn", plainKeys := false, apart := false }
def FnExactReducedInSaid : Prop := fnExactReducedInRow.holds Try.pinned (OpenSpec.ofChange fnExactReducedInSpec)

/-- ITS FALSE NEIGHBOUR: 'it returns false'. Refute it at one input. -/
def fnExactReducedInWrong : ChangeSpec := { name := "fnExactReducedIn", fn := fun _ => fun
  | [d] => { results := [.lit (.bool false)], args := [d] }
  | _ => none }
def FnExactReducedInWrongFalsely : Prop := fnExactReducedInRow.holds Try.pinned (OpenSpec.ofChange fnExactReducedInWrong)

/-- 'laws.FnExactOutmostIn': WHATEVER THE INPUT: true; the input reads as it did. -/
def fnExactOutmostInSpec : ChangeSpec := { name := "fnExactOutmostIn", fn := fun _ => fun
  | [d1, d2] => { results := [.lit (.bool true)], args := [d1, d2] }
  | _ => none }
def fnExactOutmostInRow : OpenClaim := { program := "ytckbndcgkkohaaa", sum := "f7a66acc8befcf459b03ca6f0d278259f446efd2ec5431517ef328befdf37347", func := "loop.example/g00895/laws.FnExactOutmostIn", spec := "fnExactOutmostIn", plainKeys := false, apart := false }
def FnExactOutmostInSaid : Prop := fnExactOutmostInRow.holds Try.pinned (OpenSpec.ofChange fnExactOutmostInSpec)

/-- ITS FALSE NEIGHBOUR: 'it returns false'. Refute it at one input. -/
def fnExactOutmostInWrong : ChangeSpec := { name := "fnExactOutmostIn", fn := fun _ => fun
  | [d1, d2] => { results := [.lit (.bool false)], args := [d1, d2] }
  | _ => none }
def FnExactOutmostInWrongFalsely : Prop := fnExactOutmostInRow.holds Try.pinned (OpenSpec.ofChange fnExactOutmostInWrong)

/-- 'laws.FnExactInmostIn': WHATEVER THE INPUT: true; the input reads as it did. -/
def fnExactInmostInSpec : ChangeSpec := { name := "fnExactInmostIn", fn := fun _ => fun
  | [d1, d2] => { results := [.lit (.bool true)], args := [d1, d2] }
  | _ => none }
def fnExactInmostInRow : OpenClaim := { program := "ytckbndcgkkohaaa", sum := "f7a66acc8befcf459b03ca6f0d278259f446efd2ec5431517ef328befdf37347", func := "loop.example/g00895/laws.FnExactInmostIn", spec := "fnExactInmostIn", plainKeys := false, apart := false }
def FnExactInmostInSaid : Prop := fnExactInmostInRow.holds Try.pinned (OpenSpec.ofChange fnExactInmostInSpec)

/-- ITS FALSE NEIGHBOUR: 'it returns false'. Refute it at one input. -/
def fnExactInmostInWrong : ChangeSpec := { name := "fnExactInmostIn", fn := fun _ => fun
  | [d1, d2] => { results := [.lit (.bool false)], args := [d1, d2] }
  | _ => none }
def FnExactInmostInWrongFalsely : Prop := fnExactInmostInRow.holds Try.pinned (OpenSpec.ofChange fnExactInmostInWrong)

/-- 'laws.FnExactPickBy': WHATEVER THE INPUT: true; the input reads as it did. -/
def fnExactPickBySpec : ChangeSpec := { name := "fnExactPickBy", fn := fun _ => fun
  | [d1, d2, d3] => { results := [.lit (.bool true)], args := [d1, d2, d3] }
  | _ => none }
def fnExactPickByRow : OpenClaim := { program := "ytckbndcgkkohaaa", sum := "f7a66acc8befcf459b03ca6f0d278259f446efd2ec5431517ef328befdf37347", func := "loop.example/g00895/laws.FnExactPickBy", spec := "fnExactPickBy", unfollowed := true, recurses := true, plainKeys := false, apart := false }
def FnExactPickBySaid : Prop := fnExactPickByRow.holds Try.pinned (OpenSpec.ofChange fnExactPickBySpec)

/-- ITS FALSE NEIGHBOUR: 'it returns false'. Refute it at one input. -/
def fnExactPickByWrong : ChangeSpec := { name := "fnExactPickBy", fn := fun _ => fun
  | [d1, d2, d3] => { results := [.lit (.bool false)], args := [d1, d2, d3] }
  | _ => none }
def FnExactPickByWrongFalsely : Prop := fnExactPickByRow.holds Try.pinned (OpenSpec.ofChange fnExactPickByWrong)

/-- 'laws.FnExactStepAt': WHATEVER THE INPUT: true; the input reads as it did. -/
def fnExactStepAtSpec : ChangeSpec := { name := "fnExactStepAt", fn := fun _ => fun
  | [d1, d2, d3, d4] => { results := [.lit (.bool true)], args := [d1, d2, d3, d4] }
  | _ => none }
def fnExactStepAtRow : OpenClaim := { program := "ytckbndcgkkohaaa", sum := "f7a66acc8befcf459b03ca6f0d278259f446efd2ec5431517ef328befdf37347", func := "loop.example/g00895/laws.FnExactStepAt", spec := "fnExactStepAt", unfollowed := true, recurses := true, plainKeys := false, apart := false }
def FnExactStepAtSaid : Prop := fnExactStepAtRow.holds Try.pinned (OpenSpec.ofChange fnExactStepAtSpec)

/-- ITS FALSE NEIGHBOUR: 'it returns false'. Refute it at one input. -/
def fnExactStepAtWrong : ChangeSpec := { name := "fnExactStepAt", fn := fun _ => fun
  | [d1, d2, d3, d4] => { results := [.lit (.bool false)], args := [d1, d2, d3, d4] }
  | _ => none }
def FnExactStepAtWrongFalsely : Prop := fnExactStepAtRow.holds Try.pinned (OpenSpec.ofChange fnExactStepAtWrong)

/-- 'laws.FnExactParallelTo': WHATEVER THE INPUT: true; the input reads as it did. -/
def fnExactParallelToSpec : ChangeSpec := { name := "fnExactParallelTo", fn := fun _ => fun
  | [d1, d2, d3] => { results := [.lit (.bool true)], args := [d1, d2, d3] }
  | _ => none }
def fnExactParallelToRow : OpenClaim := { program := "ytckbndcgkkohaaa", sum := "f7a66acc8befcf459b03ca6f0d278259f446efd2ec5431517ef328befdf37347", func := "loop.example/g00895/laws.FnExactParallelTo", spec := "fnExactParallelTo", unfollowed := true, recurses := true, plainKeys := false, apart := false }
def FnExactParallelToSaid : Prop := fnExactParallelToRow.holds Try.pinned (OpenSpec.ofChange fnExactParallelToSpec)

/-- ITS FALSE NEIGHBOUR: 'it returns false'. Refute it at one input. -/
def fnExactParallelToWrong : ChangeSpec := { name := "fnExactParallelTo", fn := fun _ => fun
  | [d1, d2, d3] => { results := [.lit (.bool false)], args := [d1, d2, d3] }
  | _ => none }
def FnExactParallelToWrongFalsely : Prop := fnExactParallelToRow.holds Try.pinned (OpenSpec.ofChange fnExactParallelToWrong)

/-- 'laws.FnExactStepsFrom': WHATEVER THE INPUT: true; the input reads as it did. -/
def fnExactStepsFromSpec : ChangeSpec := { name := "fnExactStepsFrom", fn := fun _ => fun
  | [d1, d2] => { results := [.lit (.bool true)], args := [d1, d2] }
  | _ => none }
def fnExactStepsFromRow : OpenClaim := { program := "ytckbndcgkkohaaa", sum := "f7a66acc8befcf459b03ca6f0d278259f446efd2ec5431517ef328befdf37347", func := "loop.example/g00895/laws.FnExactStepsFrom", spec := "fnExactStepsFrom", unfollowed := true, recurses := true, plainKeys := false, apart := false }
def FnExactStepsFromSaid : Prop := fnExactStepsFromRow.holds Try.pinned (OpenSpec.ofChange fnExactStepsFromSpec)

/-- ITS FALSE NEIGHBOUR: 'it returns false'. Refute it at one input. -/
def fnExactStepsFromWrong : ChangeSpec := { name := "fnExactStepsFrom", fn := fun _ => fun
  | [d1, d2] => { results := [.lit (.bool false)], args := [d1, d2] }
  | _ => none }
def FnExactStepsFromWrongFalsely : Prop := fnExactStepsFromRow.holds Try.pinned (OpenSpec.ofChange fnExactStepsFromWrong)

/-- 'laws.FnExactWalkOk': WHATEVER THE INPUT: true; the input reads as it did. -/
def fnExactWalkOkSpec : ChangeSpec := { name := "fnExactWalkOk", fn := fun _ => fun
  | [d1, d2] => { results := [.lit (.bool true)], args := [d1, d2] }
  | _ => none }
def fnExactWalkOkRow : OpenClaim := { program := "ytckbndcgkkohaaa", sum := "f7a66acc8befcf459b03ca6f0d278259f446efd2ec5431517ef328befdf37347", func := "loop.example/g00895/laws.FnExactWalkOk", spec := "fnExactWalkOk", unfollowed := true, recurses := true, plainKeys := false, apart := false }
def FnExactWalkOkSaid : Prop := fnExactWalkOkRow.holds Try.pinned (OpenSpec.ofChange fnExactWalkOkSpec)

/-- ITS FALSE NEIGHBOUR: 'it returns false'. Refute it at one input. -/
def fnExactWalkOkWrong : ChangeSpec := { name := "fnExactWalkOk", fn := fun _ => fun
  | [d1, d2] => { results := [.lit (.bool false)], args := [d1, d2] }
  | _ => none }
def FnExactWalkOkWrongFalsely : Prop := fnExactWalkOkRow.holds Try.pinned (OpenSpec.ofChange fnExactWalkOkWrong)

/-- 'laws.FnExactFirstLine': WHATEVER THE INPUT: true; the input reads as it did. -/
def fnExactFirstLineSpec : ChangeSpec := { name := "fnExactFirstLine", fn := fun _ => fun
  | [d1, d2] => { results := [.lit (.bool true)], args := [d1, d2] }
  | _ => none }
def fnExactFirstLineRow : OpenClaim := { program := "ytckbndcgkkohaaa", sum := "f7a66acc8befcf459b03ca6f0d278259f446efd2ec5431517ef328befdf37347", func := "loop.example/g00895/laws.FnExactFirstLine", spec := "fnExactFirstLine", unfollowed := true, recurses := true, plainKeys := false, apart := false }
def FnExactFirstLineSaid : Prop := fnExactFirstLineRow.holds Try.pinned (OpenSpec.ofChange fnExactFirstLineSpec)

/-- ITS FALSE NEIGHBOUR: 'it returns false'. Refute it at one input. -/
def fnExactFirstLineWrong : ChangeSpec := { name := "fnExactFirstLine", fn := fun _ => fun
  | [d1, d2] => { results := [.lit (.bool false)], args := [d1, d2] }
  | _ => none }
def FnExactFirstLineWrongFalsely : Prop := fnExactFirstLineRow.holds Try.pinned (OpenSpec.ofChange fnExactFirstLineWrong)

/-- 'laws.FnExactMostGeneral': WHATEVER THE INPUT: true; the input reads as it did. -/
def fnExactMostGeneralSpec : ChangeSpec := { name := "fnExactMostGeneral", fn := fun _ => fun
  | [d1, d2] => { results := [.lit (.bool true)], args := [d1, d2] }
  | _ => none }
def fnExactMostGeneralRow : OpenClaim := { program := "ytckbndcgkkohaaa", sum := "f7a66acc8befcf459b03ca6f0d278259f446efd2ec5431517ef328befdf37347", func := "loop.example/g00895/laws.FnExactMostGeneral", spec := "fnExactMostGeneral", plainKeys := false, apart := false }
def FnExactMostGeneralSaid : Prop := fnExactMostGeneralRow.holds Try.pinned (OpenSpec.ofChange fnExactMostGeneralSpec)

/-- ITS FALSE NEIGHBOUR: 'it returns false'. Refute it at one input. -/
def fnExactMostGeneralWrong : ChangeSpec := { name := "fnExactMostGeneral", fn := fun _ => fun
  | [d1, d2] => { results := [.lit (.bool false)], args := [d1, d2] }
  | _ => none }
def FnExactMostGeneralWrongFalsely : Prop := fnExactMostGeneralRow.holds Try.pinned (OpenSpec.ofChange fnExactMostGeneralWrong)

/-- 'laws.FnExactReachedIn': WHATEVER THE INPUT: true; the input reads as it did. -/
def fnExactReachedInSpec : ChangeSpec := { name := "fnExactReachedIn", fn := fun _ => fun
  | [d1, d2] => { results := [.lit (.bool true)], args := [d1, d2] }
  | _ => none }
def fnExactReachedInRow : OpenClaim := { program := "ytckbndcgkkohaaa", sum := "f7a66acc8befcf459b03ca6f0d278259f446efd2ec5431517ef328befdf37347", func := "loop.example/g00895/laws.FnExactReachedIn", spec := "fnExactReachedIn", unfollowed := true, recurses := true, plainKeys := false, apart := false }
def FnExactReachedInSaid : Prop := fnExactReachedInRow.holds Try.pinned (OpenSpec.ofChange fnExactReachedInSpec)

/-- ITS FALSE NEIGHBOUR: 'it returns false'. Refute it at one input. -/
def fnExactReachedInWrong : ChangeSpec := { name := "fnExactReachedIn", fn := fun _ => fun
  | [d1, d2] => { results := [.lit (.bool false)], args := [d1, d2] }
  | _ => none }
def FnExactReachedInWrongFalsely : Prop := fnExactReachedInRow.holds Try.pinned (OpenSpec.ofChange fnExactReachedInWrong)

/-- 'laws.FnExactLeastIn': WHATEVER THE INPUT: true; the input reads as it did. -/
def fnExactLeastInSpec : ChangeSpec := { name := "fnExactLeastIn", fn := fun _ => fun
  | [d1, d2] => { results := [.lit (.bool true)], args := [d1, d2] }
  | _ => none }
def fnExactLeastInRow : OpenClaim := { program := "ytckbndcgkkohaaa", sum := "f7a66acc8befcf459b03ca6f0d278259f446efd2ec5431517ef328befdf37347", func := "loop.example/g00895/laws.FnExactLeastIn", spec := "fnExactLeastIn", unfollowed := true, recurses := true, plainKeys := false, apart := false }
def FnExactLeastInSaid : Prop := fnExactLeastInRow.holds Try.pinned (OpenSpec.ofChange fnExactLeastInSpec)

/-- ITS FALSE NEIGHBOUR: 'it returns false'. Refute it at one input. -/
def fnExactLeastInWrong : ChangeSpec := { name := "fnExactLeastIn", fn := fun _ => fun
  | [d1, d2] => { results := [.lit (.bool false)], args := [d1, d2] }
  | _ => none }
def FnExactLeastInWrongFalsely : Prop := fnExactLeastInRow.holds Try.pinned (OpenSpec.ofChange fnExactLeastInWrong)

/- THE SECOND FORM. 'bulk': how many values and letters a reading holds, each counted each time it is reached (what is shared counts as often as it is met; a slice's spare places count too). A statement '..UptoSaid' is the law's where the arguments, and the package variables that the reading takes, are together of bulk at most 1048576: NARROWER than '..Said'. Prove '..Said' where nothing that the law and all that it calls make is longer than what came in: it says more and counts as full. Else prove '..UptoSaid'. A law counts once. -/
mutual
def uptoBulk {H : Type} : DataW H → Nat
  | .lit (.string bytes) => bytes.length + 1
  | .lit _ => 1
  | .nil => 1
  | .ptr d => uptoBulk d + 1
  | .slice elems spare => uptoBulkAll elems + uptoBulkAll spare + 1
  | .agg parts => uptoBulkAll parts + 1
  | .iface _ d => uptoBulk d + 1
  | .map entries => uptoBulkEntries entries + 1
  | .held _ => 1
def uptoBulkAll {H : Type} : List (DataW H) → Nat
  | [] => 0
  | d :: r => uptoBulk d + uptoBulkAll r
def uptoBulkEntries {H : Type} : List (Lit × DataW H) → Nat
  | [] => 0
  | x :: r => uptoBulkEntry x + uptoBulkEntries r
def uptoBulkEntry {H : Type} : Lit × DataW H → Nat
  | (.string bytes, d) => bytes.length + uptoBulk d + 1
  | (_, d) => uptoBulk d + 1
 end
def uptoSmall : (H : Type) → List (DataW H) → Bool := fun _ ds => decide (uptoBulkAll ds ≤ 1048576)
def OpenSpec.upto (s : _root_.Go.ChangeSpec) : _root_.Go.OpenSpec := { _root_.Go.OpenSpec.ofChange s with cond := some uptoSmall }

/-- 'laws.FnExactReducedIn', WHERE WHAT IT READS IS OF BULK AT MOST 1048576: true; the input reads as it did. -/
def fnExactReducedInUptoRow : OpenClaim := { program := "ytckbndcgkkohaaa", sum := "f7a66acc8befcf459b03ca6f0d278259f446efd2ec5431517ef328befdf37347", func := "loop.example/g00895/laws.FnExactReducedIn", spec := "fnExactReducedIn", plainKeys := false, apart := false, narrowed := true }
def FnExactReducedInUptoSaid : Prop := fnExactReducedInUptoRow.holds Try.pinned (OpenSpec.upto fnExactReducedInSpec)

/-- 'laws.FnExactOutmostIn', WHERE WHAT IT READS IS OF BULK AT MOST 1048576: true; the input reads as it did. -/
def fnExactOutmostInUptoRow : OpenClaim := { program := "ytckbndcgkkohaaa", sum := "f7a66acc8befcf459b03ca6f0d278259f446efd2ec5431517ef328befdf37347", func := "loop.example/g00895/laws.FnExactOutmostIn", spec := "fnExactOutmostIn", plainKeys := false, apart := false, narrowed := true }
def FnExactOutmostInUptoSaid : Prop := fnExactOutmostInUptoRow.holds Try.pinned (OpenSpec.upto fnExactOutmostInSpec)

/-- 'laws.FnExactInmostIn', WHERE WHAT IT READS IS OF BULK AT MOST 1048576: true; the input reads as it did. -/
def fnExactInmostInUptoRow : OpenClaim := { program := "ytckbndcgkkohaaa", sum := "f7a66acc8befcf459b03ca6f0d278259f446efd2ec5431517ef328befdf37347", func := "loop.example/g00895/laws.FnExactInmostIn", spec := "fnExactInmostIn", plainKeys := false, apart := false, narrowed := true }
def FnExactInmostInUptoSaid : Prop := fnExactInmostInUptoRow.holds Try.pinned (OpenSpec.upto fnExactInmostInSpec)

/-- 'laws.FnExactPickBy', WHERE WHAT IT READS IS OF BULK AT MOST 1048576: true; the input reads as it did. -/
def fnExactPickByUptoRow : OpenClaim := { program := "ytckbndcgkkohaaa", sum := "f7a66acc8befcf459b03ca6f0d278259f446efd2ec5431517ef328befdf37347", func := "loop.example/g00895/laws.FnExactPickBy", spec := "fnExactPickBy", unfollowed := true, recurses := true, plainKeys := false, apart := false, narrowed := true }
def FnExactPickByUptoSaid : Prop := fnExactPickByUptoRow.holds Try.pinned (OpenSpec.upto fnExactPickBySpec)

/-- 'laws.FnExactStepAt', WHERE WHAT IT READS IS OF BULK AT MOST 1048576: true; the input reads as it did. -/
def fnExactStepAtUptoRow : OpenClaim := { program := "ytckbndcgkkohaaa", sum := "f7a66acc8befcf459b03ca6f0d278259f446efd2ec5431517ef328befdf37347", func := "loop.example/g00895/laws.FnExactStepAt", spec := "fnExactStepAt", unfollowed := true, recurses := true, plainKeys := false, apart := false, narrowed := true }
def FnExactStepAtUptoSaid : Prop := fnExactStepAtUptoRow.holds Try.pinned (OpenSpec.upto fnExactStepAtSpec)

/-- 'laws.FnExactParallelTo', WHERE WHAT IT READS IS OF BULK AT MOST 1048576: true; the input reads as it did. -/
def fnExactParallelToUptoRow : OpenClaim := { program := "ytckbndcgkkohaaa", sum := "f7a66acc8befcf459b03ca6f0d278259f446efd2ec5431517ef328befdf37347", func := "loop.example/g00895/laws.FnExactParallelTo", spec := "fnExactParallelTo", unfollowed := true, recurses := true, plainKeys := false, apart := false, narrowed := true }
def FnExactParallelToUptoSaid : Prop := fnExactParallelToUptoRow.holds Try.pinned (OpenSpec.upto fnExactParallelToSpec)

/-- 'laws.FnExactStepsFrom', WHERE WHAT IT READS IS OF BULK AT MOST 1048576: true; the input reads as it did. -/
def fnExactStepsFromUptoRow : OpenClaim := { program := "ytckbndcgkkohaaa", sum := "f7a66acc8befcf459b03ca6f0d278259f446efd2ec5431517ef328befdf37347", func := "loop.example/g00895/laws.FnExactStepsFrom", spec := "fnExactStepsFrom", unfollowed := true, recurses := true, plainKeys := false, apart := false, narrowed := true }
def FnExactStepsFromUptoSaid : Prop := fnExactStepsFromUptoRow.holds Try.pinned (OpenSpec.upto fnExactStepsFromSpec)

/-- 'laws.FnExactWalkOk', WHERE WHAT IT READS IS OF BULK AT MOST 1048576: true; the input reads as it did. -/
def fnExactWalkOkUptoRow : OpenClaim := { program := "ytckbndcgkkohaaa", sum := "f7a66acc8befcf459b03ca6f0d278259f446efd2ec5431517ef328befdf37347", func := "loop.example/g00895/laws.FnExactWalkOk", spec := "fnExactWalkOk", unfollowed := true, recurses := true, plainKeys := false, apart := false, narrowed := true }
def FnExactWalkOkUptoSaid : Prop := fnExactWalkOkUptoRow.holds Try.pinned (OpenSpec.upto fnExactWalkOkSpec)

/-- 'laws.FnExactFirstLine', WHERE WHAT IT READS IS OF BULK AT MOST 1048576: true; the input reads as it did. -/
def fnExactFirstLineUptoRow : OpenClaim := { program := "ytckbndcgkkohaaa", sum := "f7a66acc8befcf459b03ca6f0d278259f446efd2ec5431517ef328befdf37347", func := "loop.example/g00895/laws.FnExactFirstLine", spec := "fnExactFirstLine", unfollowed := true, recurses := true, plainKeys := false, apart := false, narrowed := true }
def FnExactFirstLineUptoSaid : Prop := fnExactFirstLineUptoRow.holds Try.pinned (OpenSpec.upto fnExactFirstLineSpec)

/-- 'laws.FnExactMostGeneral', WHERE WHAT IT READS IS OF BULK AT MOST 1048576: true; the input reads as it did. -/
def fnExactMostGeneralUptoRow : OpenClaim := { program := "ytckbndcgkkohaaa", sum := "f7a66acc8befcf459b03ca6f0d278259f446efd2ec5431517ef328befdf37347", func := "loop.example/g00895/laws.FnExactMostGeneral", spec := "fnExactMostGeneral", plainKeys := false, apart := false, narrowed := true }
def FnExactMostGeneralUptoSaid : Prop := fnExactMostGeneralUptoRow.holds Try.pinned (OpenSpec.upto fnExactMostGeneralSpec)

/-- 'laws.FnExactReachedIn', WHERE WHAT IT READS IS OF BULK AT MOST 1048576: true; the input reads as it did. -/
def fnExactReachedInUptoRow : OpenClaim := { program := "ytckbndcgkkohaaa", sum := "f7a66acc8befcf459b03ca6f0d278259f446efd2ec5431517ef328befdf37347", func := "loop.example/g00895/laws.FnExactReachedIn", spec := "fnExactReachedIn", unfollowed := true, recurses := true, plainKeys := false, apart := false, narrowed := true }
def FnExactReachedInUptoSaid : Prop := fnExactReachedInUptoRow.holds Try.pinned (OpenSpec.upto fnExactReachedInSpec)

/-- 'laws.FnExactLeastIn', WHERE WHAT IT READS IS OF BULK AT MOST 1048576: true; the input reads as it did. -/
def fnExactLeastInUptoRow : OpenClaim := { program := "ytckbndcgkkohaaa", sum := "f7a66acc8befcf459b03ca6f0d278259f446efd2ec5431517ef328befdf37347", func := "loop.example/g00895/laws.FnExactLeastIn", spec := "fnExactLeastIn", unfollowed := true, recurses := true, plainKeys := false, apart := false, narrowed := true }
def FnExactLeastInUptoSaid : Prop := fnExactLeastInUptoRow.holds Try.pinned (OpenSpec.upto fnExactLeastInSpec)

end Rows
end Go.Proofs.Ytckbndcgkkohaaa
