/-
  No cell of these rows narrows 'for every input' (looked for: loops, veiled, ifaces, maps, wideKeys, modest, calm, conditions, laid).
  DERIVED. THE GIVEN ROWS OF THIS SEAT. 12 by the template 'for every input the law returns true; each argument reads behind the call as it read before'; 0 by the template 'total and deterministic' (their statements: YtjdlpidhmlhfoaaTotals.lean).
  GIVEN WITH THE SEED: the statements are not yours to turn. If you find one false, say at which input.
  Laid BY PROGRAM, IN A SANDBOX (cutbox-rows.mjs): the forced cells as the released guide's own fill.sh prints them over the translation 536459c9b3d3f810… (all of the seat's roots in one cut). By AI agents, Wed Nov 11 2026. No macro, syntax, notation, axiom, sorry.
-/
import Derived.Test.YtjdlpidhmlhfoaaChecked
import GoSem.Claim
import GoSem.ClaimJoined
import GoSem.ClaimMapViews
import Derived.JoinedTies
import Derived.KernelRfl
namespace Go.Proofs.Ytjdlpidhmlhfoaa
/- THE CELL 'sum', in the pinned program and in every row, IS THE sha256 OF THE DUMP (.gsa) THAT YtjdlpidhmlhfoaaProg.lean LOADS. Nothing in Lean hashes anything: it is a label: what it is worth is what the hold of that sum in a sandbox is worth. -/
noncomputable def Try.pinned : Pinned := { name := "ytjdlpidhmlhfoaa", sum := "536459c9b3d3f8100317e5f6a86e6229bd4890c1948de9c741c91eaf27d7bb80", checked := Try.checked }
namespace Rows
def none {H : Type} : Left H := { results := [], args := [] }

/-- 'laws.FnExactNormalNode': WHATEVER THE INPUT: true; the input reads as it did. -/
def fnExactNormalNodeSpec : ChangeSpec := { name := "fnExactNormalNode", fn := fun _ => fun
  | [d] => { results := [.lit (.bool true)], args := [d] }
  | _ => none }
def fnExactNormalNodeRow : OpenClaim := { program := "ytjdlpidhmlhfoaa", sum := "536459c9b3d3f8100317e5f6a86e6229bd4890c1948de9c741c91eaf27d7bb80", func := "loop.example/g00895/laws.FnExactNormalNode", spec := "fnExactNormalNode", apart := false }
def FnExactNormalNodeSaid : Prop := fnExactNormalNodeRow.holds Try.pinned (OpenSpec.ofChange fnExactNormalNodeSpec)

/-- ITS FALSE NEIGHBOUR: 'it returns false'. Refute it at one input. -/
def fnExactNormalNodeWrong : ChangeSpec := { name := "fnExactNormalNode", fn := fun _ => fun
  | [d] => { results := [.lit (.bool false)], args := [d] }
  | _ => none }
def FnExactNormalNodeWrongFalsely : Prop := fnExactNormalNodeRow.holds Try.pinned (OpenSpec.ofChange fnExactNormalNodeWrong)

/-- 'laws.FnExactChainNode': WHATEVER THE INPUT: true; the input reads as it did. -/
def fnExactChainNodeSpec : ChangeSpec := { name := "fnExactChainNode", fn := fun _ => fun
  | [d] => { results := [.lit (.bool true)], args := [d] }
  | _ => none }
def fnExactChainNodeRow : OpenClaim := { program := "ytjdlpidhmlhfoaa", sum := "536459c9b3d3f8100317e5f6a86e6229bd4890c1948de9c741c91eaf27d7bb80", func := "loop.example/g00895/laws.FnExactChainNode", spec := "fnExactChainNode", apart := false }
def FnExactChainNodeSaid : Prop := fnExactChainNodeRow.holds Try.pinned (OpenSpec.ofChange fnExactChainNodeSpec)

/-- ITS FALSE NEIGHBOUR: 'it returns false'. Refute it at one input. -/
def fnExactChainNodeWrong : ChangeSpec := { name := "fnExactChainNode", fn := fun _ => fun
  | [d] => { results := [.lit (.bool false)], args := [d] }
  | _ => none }
def FnExactChainNodeWrongFalsely : Prop := fnExactChainNodeRow.holds Try.pinned (OpenSpec.ofChange fnExactChainNodeWrong)

/-- 'laws.FnExactJoinNode': WHATEVER THE INPUT: true; the input reads as it did. -/
def fnExactJoinNodeSpec : ChangeSpec := { name := "fnExactJoinNode", fn := fun _ => fun
  | [d1, d2] => { results := [.lit (.bool true)], args := [d1, d2] }
  | _ => none }
def fnExactJoinNodeRow : OpenClaim := { program := "ytjdlpidhmlhfoaa", sum := "536459c9b3d3f8100317e5f6a86e6229bd4890c1948de9c741c91eaf27d7bb80", func := "loop.example/g00895/laws.FnExactJoinNode", spec := "fnExactJoinNode", apart := false }
def FnExactJoinNodeSaid : Prop := fnExactJoinNodeRow.holds Try.pinned (OpenSpec.ofChange fnExactJoinNodeSpec)

/-- ITS FALSE NEIGHBOUR: 'it returns false'. Refute it at one input. -/
def fnExactJoinNodeWrong : ChangeSpec := { name := "fnExactJoinNode", fn := fun _ => fun
  | [d1, d2] => { results := [.lit (.bool false)], args := [d1, d2] }
  | _ => none }
def FnExactJoinNodeWrongFalsely : Prop := fnExactJoinNodeRow.holds Try.pinned (OpenSpec.ofChange fnExactJoinNodeWrong)

/-- 'laws.FnExactInstanceIn': WHATEVER THE INPUT: true; the input reads as it did. -/
def fnExactInstanceInSpec : ChangeSpec := { name := "fnExactInstanceIn", fn := fun _ => fun
  | [d1, d2, d3] => { results := [.lit (.bool true)], args := [d1, d2, d3] }
  | _ => none }
def fnExactInstanceInRow : OpenClaim := { program := "ytjdlpidhmlhfoaa", sum := "536459c9b3d3f8100317e5f6a86e6229bd4890c1948de9c741c91eaf27d7bb80", func := "loop.example/g00895/laws.FnExactInstanceIn", spec := "fnExactInstanceIn", apart := false }
def FnExactInstanceInSaid : Prop := fnExactInstanceInRow.holds Try.pinned (OpenSpec.ofChange fnExactInstanceInSpec)

/-- ITS FALSE NEIGHBOUR: 'it returns false'. Refute it at one input. -/
def fnExactInstanceInWrong : ChangeSpec := { name := "fnExactInstanceIn", fn := fun _ => fun
  | [d1, d2, d3] => { results := [.lit (.bool false)], args := [d1, d2, d3] }
  | _ => none }
def FnExactInstanceInWrongFalsely : Prop := fnExactInstanceInRow.holds Try.pinned (OpenSpec.ofChange fnExactInstanceInWrong)

/-- 'laws.FnExactMoreGeneral': WHATEVER THE INPUT: true; the input reads as it did. -/
def fnExactMoreGeneralSpec : ChangeSpec := { name := "fnExactMoreGeneral", fn := fun _ => fun
  | [d1, d2, d3] => { results := [.lit (.bool true)], args := [d1, d2, d3] }
  | _ => none }
def fnExactMoreGeneralRow : OpenClaim := { program := "ytjdlpidhmlhfoaa", sum := "536459c9b3d3f8100317e5f6a86e6229bd4890c1948de9c741c91eaf27d7bb80", func := "loop.example/g00895/laws.FnExactMoreGeneral", spec := "fnExactMoreGeneral", apart := false }
def FnExactMoreGeneralSaid : Prop := fnExactMoreGeneralRow.holds Try.pinned (OpenSpec.ofChange fnExactMoreGeneralSpec)

/-- ITS FALSE NEIGHBOUR: 'it returns false'. Refute it at one input. -/
def fnExactMoreGeneralWrong : ChangeSpec := { name := "fnExactMoreGeneral", fn := fun _ => fun
  | [d1, d2, d3] => { results := [.lit (.bool false)], args := [d1, d2, d3] }
  | _ => none }
def FnExactMoreGeneralWrongFalsely : Prop := fnExactMoreGeneralRow.holds Try.pinned (OpenSpec.ofChange fnExactMoreGeneralWrong)

/-- 'laws.FnExactEmbedsIn': WHATEVER THE INPUT: true; the input reads as it did. -/
def fnExactEmbedsInSpec : ChangeSpec := { name := "fnExactEmbedsIn", fn := fun _ => fun
  | [d1, d2, d3] => { results := [.lit (.bool true)], args := [d1, d2, d3] }
  | _ => none }
def fnExactEmbedsInRow : OpenClaim := { program := "ytjdlpidhmlhfoaa", sum := "536459c9b3d3f8100317e5f6a86e6229bd4890c1948de9c741c91eaf27d7bb80", func := "loop.example/g00895/laws.FnExactEmbedsIn", spec := "fnExactEmbedsIn", apart := false }
def FnExactEmbedsInSaid : Prop := fnExactEmbedsInRow.holds Try.pinned (OpenSpec.ofChange fnExactEmbedsInSpec)

/-- ITS FALSE NEIGHBOUR: 'it returns false'. Refute it at one input. -/
def fnExactEmbedsInWrong : ChangeSpec := { name := "fnExactEmbedsIn", fn := fun _ => fun
  | [d1, d2, d3] => { results := [.lit (.bool false)], args := [d1, d2, d3] }
  | _ => none }
def FnExactEmbedsInWrongFalsely : Prop := fnExactEmbedsInRow.holds Try.pinned (OpenSpec.ofChange fnExactEmbedsInWrong)

/-- 'laws.FnExactPairsNode': WHATEVER THE INPUT: true; the input reads as it did. -/
def fnExactPairsNodeSpec : ChangeSpec := { name := "fnExactPairsNode", fn := fun _ => fun
  | [d] => { results := [.lit (.bool true)], args := [d] }
  | _ => none }
def fnExactPairsNodeRow : OpenClaim := { program := "ytjdlpidhmlhfoaa", sum := "536459c9b3d3f8100317e5f6a86e6229bd4890c1948de9c741c91eaf27d7bb80", func := "loop.example/g00895/laws.FnExactPairsNode", spec := "fnExactPairsNode", apart := false }
def FnExactPairsNodeSaid : Prop := fnExactPairsNodeRow.holds Try.pinned (OpenSpec.ofChange fnExactPairsNodeSpec)

/-- ITS FALSE NEIGHBOUR: 'it returns false'. Refute it at one input. -/
def fnExactPairsNodeWrong : ChangeSpec := { name := "fnExactPairsNode", fn := fun _ => fun
  | [d] => { results := [.lit (.bool false)], args := [d] }
  | _ => none }
def FnExactPairsNodeWrongFalsely : Prop := fnExactPairsNodeRow.holds Try.pinned (OpenSpec.ofChange fnExactPairsNodeWrong)

/-- 'laws.FnExactMatched': WHATEVER THE INPUT: true; the input reads as it did. -/
def fnExactMatchedSpec : ChangeSpec := { name := "fnExactMatched", fn := fun _ => fun
  | [d1, d2, d3] => { results := [.lit (.bool true)], args := [d1, d2, d3] }
  | _ => none }
def fnExactMatchedRow : OpenClaim := { program := "ytjdlpidhmlhfoaa", sum := "536459c9b3d3f8100317e5f6a86e6229bd4890c1948de9c741c91eaf27d7bb80", func := "loop.example/g00895/laws.FnExactMatched", spec := "fnExactMatched", apart := false }
def FnExactMatchedSaid : Prop := fnExactMatchedRow.holds Try.pinned (OpenSpec.ofChange fnExactMatchedSpec)

/-- ITS FALSE NEIGHBOUR: 'it returns false'. Refute it at one input. -/
def fnExactMatchedWrong : ChangeSpec := { name := "fnExactMatched", fn := fun _ => fun
  | [d1, d2, d3] => { results := [.lit (.bool false)], args := [d1, d2, d3] }
  | _ => none }
def FnExactMatchedWrongFalsely : Prop := fnExactMatchedRow.holds Try.pinned (OpenSpec.ofChange fnExactMatchedWrong)

/-- 'laws.FnExactAddedNode': WHATEVER THE INPUT: true; the input reads as it did. -/
def fnExactAddedNodeSpec : ChangeSpec := { name := "fnExactAddedNode", fn := fun _ => fun
  | [d1, d2] => { results := [.lit (.bool true)], args := [d1, d2] }
  | _ => none }
def fnExactAddedNodeRow : OpenClaim := { program := "ytjdlpidhmlhfoaa", sum := "536459c9b3d3f8100317e5f6a86e6229bd4890c1948de9c741c91eaf27d7bb80", func := "loop.example/g00895/laws.FnExactAddedNode", spec := "fnExactAddedNode", unfollowed := true, recurses := true, apart := false }
def FnExactAddedNodeSaid : Prop := fnExactAddedNodeRow.holds Try.pinned (OpenSpec.ofChange fnExactAddedNodeSpec)

/-- ITS FALSE NEIGHBOUR: 'it returns false'. Refute it at one input. -/
def fnExactAddedNodeWrong : ChangeSpec := { name := "fnExactAddedNode", fn := fun _ => fun
  | [d1, d2] => { results := [.lit (.bool false)], args := [d1, d2] }
  | _ => none }
def FnExactAddedNodeWrongFalsely : Prop := fnExactAddedNodeRow.holds Try.pinned (OpenSpec.ofChange fnExactAddedNodeWrong)

/-- 'laws.FnExactJoinedProof': WHATEVER THE INPUT: true; the input reads as it did. -/
def fnExactJoinedProofSpec : ChangeSpec := { name := "fnExactJoinedProof", fn := fun _ => fun
  | [d1, d2] => { results := [.lit (.bool true)], args := [d1, d2] }
  | _ => none }
def fnExactJoinedProofRow : OpenClaim := { program := "ytjdlpidhmlhfoaa", sum := "536459c9b3d3f8100317e5f6a86e6229bd4890c1948de9c741c91eaf27d7bb80", func := "loop.example/g00895/laws.FnExactJoinedProof", spec := "fnExactJoinedProof", unfollowed := true, recurses := true, apart := false }
def FnExactJoinedProofSaid : Prop := fnExactJoinedProofRow.holds Try.pinned (OpenSpec.ofChange fnExactJoinedProofSpec)

/-- ITS FALSE NEIGHBOUR: 'it returns false'. Refute it at one input. -/
def fnExactJoinedProofWrong : ChangeSpec := { name := "fnExactJoinedProof", fn := fun _ => fun
  | [d1, d2] => { results := [.lit (.bool false)], args := [d1, d2] }
  | _ => none }
def FnExactJoinedProofWrongFalsely : Prop := fnExactJoinedProofRow.holds Try.pinned (OpenSpec.ofChange fnExactJoinedProofWrong)

/-- 'laws.FnExactMatchedAll': WHATEVER THE INPUT: true; the input reads as it did. -/
def fnExactMatchedAllSpec : ChangeSpec := { name := "fnExactMatchedAll", fn := fun _ => fun
  | [d1, d2, d3] => { results := [.lit (.bool true)], args := [d1, d2, d3] }
  | _ => none }
def fnExactMatchedAllRow : OpenClaim := { program := "ytjdlpidhmlhfoaa", sum := "536459c9b3d3f8100317e5f6a86e6229bd4890c1948de9c741c91eaf27d7bb80", func := "loop.example/g00895/laws.FnExactMatchedAll", spec := "fnExactMatchedAll", apart := false }
def FnExactMatchedAllSaid : Prop := fnExactMatchedAllRow.holds Try.pinned (OpenSpec.ofChange fnExactMatchedAllSpec)

/-- ITS FALSE NEIGHBOUR: 'it returns false'. Refute it at one input. -/
def fnExactMatchedAllWrong : ChangeSpec := { name := "fnExactMatchedAll", fn := fun _ => fun
  | [d1, d2, d3] => { results := [.lit (.bool false)], args := [d1, d2, d3] }
  | _ => none }
def FnExactMatchedAllWrongFalsely : Prop := fnExactMatchedAllRow.holds Try.pinned (OpenSpec.ofChange fnExactMatchedAllWrong)

/-- 'laws.FnExactUnifiesIn': WHATEVER THE INPUT: true; the input reads as it did. -/
def fnExactUnifiesInSpec : ChangeSpec := { name := "fnExactUnifiesIn", fn := fun _ => fun
  | [d1, d2, d3] => { results := [.lit (.bool true)], args := [d1, d2, d3] }
  | _ => none }
def fnExactUnifiesInRow : OpenClaim := { program := "ytjdlpidhmlhfoaa", sum := "536459c9b3d3f8100317e5f6a86e6229bd4890c1948de9c741c91eaf27d7bb80", func := "loop.example/g00895/laws.FnExactUnifiesIn", spec := "fnExactUnifiesIn", unfollowed := true, recurses := true, apart := false }
def FnExactUnifiesInSaid : Prop := fnExactUnifiesInRow.holds Try.pinned (OpenSpec.ofChange fnExactUnifiesInSpec)

/-- ITS FALSE NEIGHBOUR: 'it returns false'. Refute it at one input. -/
def fnExactUnifiesInWrong : ChangeSpec := { name := "fnExactUnifiesIn", fn := fun _ => fun
  | [d1, d2, d3] => { results := [.lit (.bool false)], args := [d1, d2, d3] }
  | _ => none }
def FnExactUnifiesInWrongFalsely : Prop := fnExactUnifiesInRow.holds Try.pinned (OpenSpec.ofChange fnExactUnifiesInWrong)

/- THE SECOND FORM. 'bulk': how many values and letters a reading holds, each counted each time it is reached (what is shared counts as often as it is met; a slice's spare places count too). A statement '..UptoSaid' is the law's where the arguments, and the package variables that the reading takes, are together of bulk at most 1048576: NARROWER than '..Said'. Prove '..Said' where nothing that the law and all that it calls make is longer than what came in: it says more and counts as full. Else prove '..UptoSaid'. A law counts once. -/
mutual
def uptoBulk {H : Type} : DataW H → Nat
  | .lit (.string bytes) => bytes.length + 1
  | .lit _ => 1
  | .nil => 1
  | .ptr d => uptoBulk d + 1
  | .slice elems spare => uptoBulkAll elems + uptoBulkAll spare + 1
  | .agg parts => uptoBulkAll parts + 1
  | .iface _ d => uptoBulk d + 1
  | .map entries => uptoBulkEntries entries + 1
  | .held _ => 1
def uptoBulkAll {H : Type} : List (DataW H) → Nat
  | [] => 0
  | d :: r => uptoBulk d + uptoBulkAll r
def uptoBulkEntries {H : Type} : List (Lit × DataW H) → Nat
  | [] => 0
  | x :: r => uptoBulkEntry x + uptoBulkEntries r
def uptoBulkEntry {H : Type} : Lit × DataW H → Nat
  | (.string bytes, d) => bytes.length + uptoBulk d + 1
  | (_, d) => uptoBulk d + 1
 end
def uptoSmall : (H : Type) → List (DataW H) → Bool := fun _ ds => decide (uptoBulkAll ds ≤ 1048576)
def OpenSpec.upto (s : _root_.Go.ChangeSpec) : _root_.Go.OpenSpec := { _root_.Go.OpenSpec.ofChange s with cond := some uptoSmall }

/-- 'laws.FnExactNormalNode', WHERE WHAT IT READS IS OF BULK AT MOST 1048576: true; the input reads as it did. -/
def fnExactNormalNodeUptoRow : OpenClaim := { program := "ytjdlpidhmlhfoaa", sum := "536459c9b3d3f8100317e5f6a86e6229bd4890c1948de9c741c91eaf27d7bb80", func := "loop.example/g00895/laws.FnExactNormalNode", spec := "fnExactNormalNode", apart := false, narrowed := true }
def FnExactNormalNodeUptoSaid : Prop := fnExactNormalNodeUptoRow.holds Try.pinned (OpenSpec.upto fnExactNormalNodeSpec)

/-- 'laws.FnExactChainNode', WHERE WHAT IT READS IS OF BULK AT MOST 1048576: true; the input reads as it did. -/
def fnExactChainNodeUptoRow : OpenClaim := { program := "ytjdlpidhmlhfoaa", sum := "536459c9b3d3f8100317e5f6a86e6229bd4890c1948de9c741c91eaf27d7bb80", func := "loop.example/g00895/laws.FnExactChainNode", spec := "fnExactChainNode", apart := false, narrowed := true }
def FnExactChainNodeUptoSaid : Prop := fnExactChainNodeUptoRow.holds Try.pinned (OpenSpec.upto fnExactChainNodeSpec)

/-- 'laws.FnExactJoinNode', WHERE WHAT IT READS IS OF BULK AT MOST 1048576: true; the input reads as it did. -/
def fnExactJoinNodeUptoRow : OpenClaim := { program := "ytjdlpidhmlhfoaa", sum := "536459c9b3d3f8100317e5f6a86e6229bd4890c1948de9c741c91eaf27d7bb80", func := "loop.example/g00895/laws.FnExactJoinNode", spec := "fnExactJoinNode", apart := false, narrowed := true }
def FnExactJoinNodeUptoSaid : Prop := fnExactJoinNodeUptoRow.holds Try.pinned (OpenSpec.upto fnExactJoinNodeSpec)

/-- 'laws.FnExactInstanceIn', WHERE WHAT IT READS IS OF BULK AT MOST 1048576: true; the input reads as it did. -/
def fnExactInstanceInUptoRow : OpenClaim := { program := "ytjdlpidhmlhfoaa", sum := "536459c9b3d3f8100317e5f6a86e6229bd4890c1948de9c741c91eaf27d7bb80", func := "loop.example/g00895/laws.FnExactInstanceIn", spec := "fnExactInstanceIn", apart := false, narrowed := true }
def FnExactInstanceInUptoSaid : Prop := fnExactInstanceInUptoRow.holds Try.pinned (OpenSpec.upto fnExactInstanceInSpec)

/-- 'laws.FnExactMoreGeneral', WHERE WHAT IT READS IS OF BULK AT MOST 1048576: true; the input reads as it did. -/
def fnExactMoreGeneralUptoRow : OpenClaim := { program := "ytjdlpidhmlhfoaa", sum := "536459c9b3d3f8100317e5f6a86e6229bd4890c1948de9c741c91eaf27d7bb80", func := "loop.example/g00895/laws.FnExactMoreGeneral", spec := "fnExactMoreGeneral", apart := false, narrowed := true }
def FnExactMoreGeneralUptoSaid : Prop := fnExactMoreGeneralUptoRow.holds Try.pinned (OpenSpec.upto fnExactMoreGeneralSpec)

/-- 'laws.FnExactEmbedsIn', WHERE WHAT IT READS IS OF BULK AT MOST 1048576: true; the input reads as it did. -/
def fnExactEmbedsInUptoRow : OpenClaim := { program := "ytjdlpidhmlhfoaa", sum := "536459c9b3d3f8100317e5f6a86e6229bd4890c1948de9c741c91eaf27d7bb80", func := "loop.example/g00895/laws.FnExactEmbedsIn", spec := "fnExactEmbedsIn", apart := false, narrowed := true }
def FnExactEmbedsInUptoSaid : Prop := fnExactEmbedsInUptoRow.holds Try.pinned (OpenSpec.upto fnExactEmbedsInSpec)

/-- 'laws.FnExactPairsNode', WHERE WHAT IT READS IS OF BULK AT MOST 1048576: true; the input reads as it did. -/
def fnExactPairsNodeUptoRow : OpenClaim := { program := "ytjdlpidhmlhfoaa", sum := "536459c9b3d3f8100317e5f6a86e6229bd4890c1948de9c741c91eaf27d7bb80", func := "loop.example/g00895/laws.FnExactPairsNode", spec := "fnExactPairsNode", apart := false, narrowed := true }
def FnExactPairsNodeUptoSaid : Prop := fnExactPairsNodeUptoRow.holds Try.pinned (OpenSpec.upto fnExactPairsNodeSpec)

/-- 'laws.FnExactMatched', WHERE WHAT IT READS IS OF BULK AT MOST 1048576: true; the input reads as it did. -/
def fnExactMatchedUptoRow : OpenClaim := { program := "ytjdlpidhmlhfoaa", sum := "536459c9b3d3f8100317e5f6a86e6229bd4890c1948de9c741c91eaf27d7bb80", func := "loop.example/g00895/laws.FnExactMatched", spec := "fnExactMatched", apart := false, narrowed := true }
def FnExactMatchedUptoSaid : Prop := fnExactMatchedUptoRow.holds Try.pinned (OpenSpec.upto fnExactMatchedSpec)

/-- 'laws.FnExactAddedNode', WHERE WHAT IT READS IS OF BULK AT MOST 1048576: true; the input reads as it did. -/
def fnExactAddedNodeUptoRow : OpenClaim := { program := "ytjdlpidhmlhfoaa", sum := "536459c9b3d3f8100317e5f6a86e6229bd4890c1948de9c741c91eaf27d7bb80", func := "loop.example/g00895/laws.FnExactAddedNode", spec := "fnExactAddedNode", unfollowed := true, recurses := true, apart := false, narrowed := true }
def FnExactAddedNodeUptoSaid : Prop := fnExactAddedNodeUptoRow.holds Try.pinned (OpenSpec.upto fnExactAddedNodeSpec)

/-- 'laws.FnExactJoinedProof', WHERE WHAT IT READS IS OF BULK AT MOST 1048576: true; the input reads as it did. -/
def fnExactJoinedProofUptoRow : OpenClaim := { program := "ytjdlpidhmlhfoaa", sum := "536459c9b3d3f8100317e5f6a86e6229bd4890c1948de9c741c91eaf27d7bb80", func := "loop.example/g00895/laws.FnExactJoinedProof", spec := "fnExactJoinedProof", unfollowed := true, recurses := true, apart := false, narrowed := true }
def FnExactJoinedProofUptoSaid : Prop := fnExactJoinedProofUptoRow.holds Try.pinned (OpenSpec.upto fnExactJoinedProofSpec)

/-- 'laws.FnExactMatchedAll', WHERE WHAT IT READS IS OF BULK AT MOST 1048576: true; the input reads as it did. -/
def fnExactMatchedAllUptoRow : OpenClaim := { program := "ytjdlpidhmlhfoaa", sum := "536459c9b3d3f8100317e5f6a86e6229bd4890c1948de9c741c91eaf27d7bb80", func := "loop.example/g00895/laws.FnExactMatchedAll", spec := "fnExactMatchedAll", apart := false, narrowed := true }
def FnExactMatchedAllUptoSaid : Prop := fnExactMatchedAllUptoRow.holds Try.pinned (OpenSpec.upto fnExactMatchedAllSpec)

/-- 'laws.FnExactUnifiesIn', WHERE WHAT IT READS IS OF BULK AT MOST 1048576: true; the input reads as it did. -/
def fnExactUnifiesInUptoRow : OpenClaim := { program := "ytjdlpidhmlhfoaa", sum := "536459c9b3d3f8100317e5f6a86e6229bd4890c1948de9c741c91eaf27d7bb80", func := "loop.example/g00895/laws.FnExactUnifiesIn", spec := "fnExactUnifiesIn", unfollowed := true, recurses := true, apart := false, narrowed := true }
def FnExactUnifiesInUptoSaid : Prop := fnExactUnifiesInUptoRow.holds Try.pinned (OpenSpec.upto fnExactUnifiesInSpec)

end Rows
end Go.Proofs.Ytjdlpidhmlhfoaa
