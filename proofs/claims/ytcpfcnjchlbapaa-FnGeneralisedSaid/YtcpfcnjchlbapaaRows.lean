/-
  No cell of these rows narrows 'for every input' (looked for: loops, veiled, ifaces, maps, wideKeys, modest, calm, conditions, laid).
  DERIVED. THE GIVEN ROWS OF THIS SEAT. 7 by the template 'for every input the law returns true; each argument reads behind the call as it read before'; 0 by the template 'total and deterministic' (their statements: YtcpfcnjchlbapaaTotals.lean).
  GIVEN WITH THE SEED: the statements are not yours to turn. If you find one false, say at which input.
  Laid BY PROGRAM, IN A SANDBOX (cutbox-rows.mjs): the forced cells as the released guide's own fill.sh prints them over the translation 96ceaed46f4a5f4d… (all of the seat's roots in one cut). By AI agents, Wed Nov 11 2026. No macro, syntax, notation, axiom, sorry.
-/
import Derived.Test.YtcpfcnjchlbapaaChecked
import GoSem.Claim
import GoSem.ClaimJoined
import GoSem.ClaimMapViews
import Derived.JoinedTies
import Derived.KernelRfl
namespace Go.Proofs.Ytcpfcnjchlbapaa
/- THE CELL 'sum', in the pinned program and in every row, IS THE sha256 OF THE DUMP (.gsa) THAT YtcpfcnjchlbapaaProg.lean LOADS. Nothing in Lean hashes anything: it is a label: what it is worth is what the hold of that sum in a sandbox is worth. -/
noncomputable def Try.pinned : Pinned := { name := "ytcpfcnjchlbapaa", sum := "96ceaed46f4a5f4d22403285e5da72adadf4f82c000770ee9051ef99f1a77251", checked := Try.checked }
namespace Rows
def none {H : Type} : Left H := { results := [], args := [] }

/-- 'laws.FnEmbeds': WHATEVER THE INPUT: true; the input reads as it did. -/
def fnEmbedsSpec : ChangeSpec := { name := "fnEmbeds", fn := fun _ => fun
  | [d] => { results := [.lit (.bool true)], args := [d] }
  | _ => none }
def fnEmbedsRow : OpenClaim := { program := "ytcpfcnjchlbapaa", sum := "96ceaed46f4a5f4d22403285e5da72adadf4f82c000770ee9051ef99f1a77251", func := "loop.example/g00895/laws.FnEmbeds", spec := "fnEmbeds", recurses := true, apart := false }
def FnEmbedsSaid : Prop := fnEmbedsRow.holds Try.pinned (OpenSpec.ofChange fnEmbedsSpec)

/-- ITS FALSE NEIGHBOUR: 'it returns false'. Refute it at one input. -/
def fnEmbedsWrong : ChangeSpec := { name := "fnEmbeds", fn := fun _ => fun
  | [d] => { results := [.lit (.bool false)], args := [d] }
  | _ => none }
def FnEmbedsWrongFalsely : Prop := fnEmbedsRow.holds Try.pinned (OpenSpec.ofChange fnEmbedsWrong)

/-- 'laws.FnMatched': WHATEVER THE INPUT: true; the input reads as it did. -/
def fnMatchedSpec : ChangeSpec := { name := "fnMatched", fn := fun _ => fun
  | [d] => { results := [.lit (.bool true)], args := [d] }
  | _ => none }
def fnMatchedRow : OpenClaim := { program := "ytcpfcnjchlbapaa", sum := "96ceaed46f4a5f4d22403285e5da72adadf4f82c000770ee9051ef99f1a77251", func := "loop.example/g00895/laws.FnMatched", spec := "fnMatched", unfollowed := true, recurses := true, apart := false }
def FnMatchedSaid : Prop := fnMatchedRow.holds Try.pinned (OpenSpec.ofChange fnMatchedSpec)

/-- ITS FALSE NEIGHBOUR: 'it returns false'. Refute it at one input. -/
def fnMatchedWrong : ChangeSpec := { name := "fnMatched", fn := fun _ => fun
  | [d] => { results := [.lit (.bool false)], args := [d] }
  | _ => none }
def FnMatchedWrongFalsely : Prop := fnMatchedRow.holds Try.pinned (OpenSpec.ofChange fnMatchedWrong)

/-- 'laws.FnGeneral': WHATEVER THE INPUT: true; the input reads as it did. -/
def fnGeneralSpec : ChangeSpec := { name := "fnGeneral", fn := fun _ => fun
  | [d] => { results := [.lit (.bool true)], args := [d] }
  | _ => none }
def fnGeneralRow : OpenClaim := { program := "ytcpfcnjchlbapaa", sum := "96ceaed46f4a5f4d22403285e5da72adadf4f82c000770ee9051ef99f1a77251", func := "loop.example/g00895/laws.FnGeneral", spec := "fnGeneral", recurses := true, apart := false }
def FnGeneralSaid : Prop := fnGeneralRow.holds Try.pinned (OpenSpec.ofChange fnGeneralSpec)

/-- ITS FALSE NEIGHBOUR: 'it returns false'. Refute it at one input. -/
def fnGeneralWrong : ChangeSpec := { name := "fnGeneral", fn := fun _ => fun
  | [d] => { results := [.lit (.bool false)], args := [d] }
  | _ => none }
def FnGeneralWrongFalsely : Prop := fnGeneralRow.holds Try.pinned (OpenSpec.ofChange fnGeneralWrong)

/-- 'laws.FnGeneralised': WHATEVER THE INPUT: true; the input reads as it did. -/
def fnGeneralisedSpec : ChangeSpec := { name := "fnGeneralised", fn := fun _ => fun
  | [d] => { results := [.lit (.bool true)], args := [d] }
  | _ => none }
def fnGeneralisedRow : OpenClaim := { program := "ytcpfcnjchlbapaa", sum := "96ceaed46f4a5f4d22403285e5da72adadf4f82c000770ee9051ef99f1a77251", func := "loop.example/g00895/laws.FnGeneralised", spec := "fnGeneralised", recurses := true, apart := false }
def FnGeneralisedSaid : Prop := fnGeneralisedRow.holds Try.pinned (OpenSpec.ofChange fnGeneralisedSpec)

/-- ITS FALSE NEIGHBOUR: 'it returns false'. Refute it at one input. -/
def fnGeneralisedWrong : ChangeSpec := { name := "fnGeneralised", fn := fun _ => fun
  | [d] => { results := [.lit (.bool false)], args := [d] }
  | _ => none }
def FnGeneralisedWrongFalsely : Prop := fnGeneralisedRow.holds Try.pinned (OpenSpec.ofChange fnGeneralisedWrong)

/-- 'laws.FnUnified': WHATEVER THE INPUT: true; the input reads as it did. -/
def fnUnifiedSpec : ChangeSpec := { name := "fnUnified", fn := fun _ => fun
  | [d] => { results := [.lit (.bool true)], args := [d] }
  | _ => none }
def fnUnifiedRow : OpenClaim := { program := "ytcpfcnjchlbapaa", sum := "96ceaed46f4a5f4d22403285e5da72adadf4f82c000770ee9051ef99f1a77251", func := "loop.example/g00895/laws.FnUnified", spec := "fnUnified", unfollowed := true, recurses := true, apart := false }
def FnUnifiedSaid : Prop := fnUnifiedRow.holds Try.pinned (OpenSpec.ofChange fnUnifiedSpec)

/-- ITS FALSE NEIGHBOUR: 'it returns false'. Refute it at one input. -/
def fnUnifiedWrong : ChangeSpec := { name := "fnUnified", fn := fun _ => fun
  | [d] => { results := [.lit (.bool false)], args := [d] }
  | _ => none }
def FnUnifiedWrongFalsely : Prop := fnUnifiedRow.holds Try.pinned (OpenSpec.ofChange fnUnifiedWrong)

/-- 'laws.FnStatesOf': WHATEVER THE INPUT: true; the input reads as it did. -/
def fnStatesOfSpec : ChangeSpec := { name := "fnStatesOf", fn := fun _ => fun
  | [d] => { results := [.lit (.bool true)], args := [d] }
  | _ => none }
def fnStatesOfRow : OpenClaim := { program := "ytcpfcnjchlbapaa", sum := "96ceaed46f4a5f4d22403285e5da72adadf4f82c000770ee9051ef99f1a77251", func := "loop.example/g00895/laws.FnStatesOf", spec := "fnStatesOf", unfollowed := true, recurses := true, apart := false }
def FnStatesOfSaid : Prop := fnStatesOfRow.holds Try.pinned (OpenSpec.ofChange fnStatesOfSpec)

/-- ITS FALSE NEIGHBOUR: 'it returns false'. Refute it at one input. -/
def fnStatesOfWrong : ChangeSpec := { name := "fnStatesOf", fn := fun _ => fun
  | [d] => { results := [.lit (.bool false)], args := [d] }
  | _ => none }
def FnStatesOfWrongFalsely : Prop := fnStatesOfRow.holds Try.pinned (OpenSpec.ofChange fnStatesOfWrong)

/-- 'laws.FnAtOnce': WHATEVER THE INPUT: true; the input reads as it did. -/
def fnAtOnceSpec : ChangeSpec := { name := "fnAtOnce", fn := fun _ => fun
  | [d] => { results := [.lit (.bool true)], args := [d] }
  | _ => none }
def fnAtOnceRow : OpenClaim := { program := "ytcpfcnjchlbapaa", sum := "96ceaed46f4a5f4d22403285e5da72adadf4f82c000770ee9051ef99f1a77251", func := "loop.example/g00895/laws.FnAtOnce", spec := "fnAtOnce", unfollowed := true, recurses := true, apart := false }
def FnAtOnceSaid : Prop := fnAtOnceRow.holds Try.pinned (OpenSpec.ofChange fnAtOnceSpec)

/-- ITS FALSE NEIGHBOUR: 'it returns false'. Refute it at one input. -/
def fnAtOnceWrong : ChangeSpec := { name := "fnAtOnce", fn := fun _ => fun
  | [d] => { results := [.lit (.bool false)], args := [d] }
  | _ => none }
def FnAtOnceWrongFalsely : Prop := fnAtOnceRow.holds Try.pinned (OpenSpec.ofChange fnAtOnceWrong)

/- THE SECOND FORM. 'bulk': how many values and letters a reading holds, each counted each time it is reached (what is shared counts as often as it is met; a slice's spare places count too). A statement '..UptoSaid' is the law's where the arguments, and the package variables that the reading takes, are together of bulk at most 1048576: NARROWER than '..Said'. Prove '..Said' where nothing that the law and all that it calls make is longer than what came in: it says more and counts as full. Else prove '..UptoSaid'. A law counts once. -/
mutual
def uptoBulk {H : Type} : DataW H → Nat
  | .lit (.string bytes) => bytes.length + 1
  | .lit _ => 1
  | .nil => 1
  | .ptr d => uptoBulk d + 1
  | .slice elems spare => uptoBulkAll elems + uptoBulkAll spare + 1
  | .agg parts => uptoBulkAll parts + 1
  | .iface _ d => uptoBulk d + 1
  | .map entries => uptoBulkEntries entries + 1
  | .held _ => 1
def uptoBulkAll {H : Type} : List (DataW H) → Nat
  | [] => 0
  | d :: r => uptoBulk d + uptoBulkAll r
def uptoBulkEntries {H : Type} : List (Lit × DataW H) → Nat
  | [] => 0
  | x :: r => uptoBulkEntry x + uptoBulkEntries r
def uptoBulkEntry {H : Type} : Lit × DataW H → Nat
  | (.string bytes, d) => bytes.length + uptoBulk d + 1
  | (_, d) => uptoBulk d + 1
 end
def uptoSmall : (H : Type) → List (DataW H) → Bool := fun _ ds => decide (uptoBulkAll ds ≤ 1048576)
def OpenSpec.upto (s : _root_.Go.ChangeSpec) : _root_.Go.OpenSpec := { _root_.Go.OpenSpec.ofChange s with cond := some uptoSmall }

/-- 'laws.FnEmbeds', WHERE WHAT IT READS IS OF BULK AT MOST 1048576: true; the input reads as it did. -/
def fnEmbedsUptoRow : OpenClaim := { program := "ytcpfcnjchlbapaa", sum := "96ceaed46f4a5f4d22403285e5da72adadf4f82c000770ee9051ef99f1a77251", func := "loop.example/g00895/laws.FnEmbeds", spec := "fnEmbeds", recurses := true, apart := false, narrowed := true }
def FnEmbedsUptoSaid : Prop := fnEmbedsUptoRow.holds Try.pinned (OpenSpec.upto fnEmbedsSpec)

/-- 'laws.FnMatched', WHERE WHAT IT READS IS OF BULK AT MOST 1048576: true; the input reads as it did. -/
def fnMatchedUptoRow : OpenClaim := { program := "ytcpfcnjchlbapaa", sum := "96ceaed46f4a5f4d22403285e5da72adadf4f82c000770ee9051ef99f1a77251", func := "loop.example/g00895/laws.FnMatched", spec := "fnMatched", unfollowed := true, recurses := true, apart := false, narrowed := true }
def FnMatchedUptoSaid : Prop := fnMatchedUptoRow.holds Try.pinned (OpenSpec.upto fnMatchedSpec)

/-- 'laws.FnGeneral', WHERE WHAT IT READS IS OF BULK AT MOST 1048576: true; the input reads as it did. -/
def fnGeneralUptoRow : OpenClaim := { program := "ytcpfcnjchlbapaa", sum := "96ceaed46f4a5f4d22403285e5da72adadf4f82c000770ee9051ef99f1a77251", func := "loop.example/g00895/laws.FnGeneral", spec := "fnGeneral", recurses := true, apart := false, narrowed := true }
def FnGeneralUptoSaid : Prop := fnGeneralUptoRow.holds Try.pinned (OpenSpec.upto fnGeneralSpec)

/-- 'laws.FnGeneralised', WHERE WHAT IT READS IS OF BULK AT MOST 1048576: true; the input reads as it did. -/
def fnGeneralisedUptoRow : OpenClaim := { program := "ytcpfcnjchlbapaa", sum := "96ceaed46f4a5f4d22403285e5da72adadf4f82c000770ee9051ef99f1a77251", func := "loop.example/g00895/laws.FnGeneralised", spec := "fnGeneralised", recurses := true, apart := false, narrowed := true }
def FnGeneralisedUptoSaid : Prop := fnGeneralisedUptoRow.holds Try.pinned (OpenSpec.upto fnGeneralisedSpec)

/-- 'laws.FnUnified', WHERE WHAT IT READS IS OF BULK AT MOST 1048576: true; the input reads as it did. -/
def fnUnifiedUptoRow : OpenClaim := { program := "ytcpfcnjchlbapaa", sum := "96ceaed46f4a5f4d22403285e5da72adadf4f82c000770ee9051ef99f1a77251", func := "loop.example/g00895/laws.FnUnified", spec := "fnUnified", unfollowed := true, recurses := true, apart := false, narrowed := true }
def FnUnifiedUptoSaid : Prop := fnUnifiedUptoRow.holds Try.pinned (OpenSpec.upto fnUnifiedSpec)

/-- 'laws.FnStatesOf', WHERE WHAT IT READS IS OF BULK AT MOST 1048576: true; the input reads as it did. -/
def fnStatesOfUptoRow : OpenClaim := { program := "ytcpfcnjchlbapaa", sum := "96ceaed46f4a5f4d22403285e5da72adadf4f82c000770ee9051ef99f1a77251", func := "loop.example/g00895/laws.FnStatesOf", spec := "fnStatesOf", unfollowed := true, recurses := true, apart := false, narrowed := true }
def FnStatesOfUptoSaid : Prop := fnStatesOfUptoRow.holds Try.pinned (OpenSpec.upto fnStatesOfSpec)

/-- 'laws.FnAtOnce', WHERE WHAT IT READS IS OF BULK AT MOST 1048576: true; the input reads as it did. -/
def fnAtOnceUptoRow : OpenClaim := { program := "ytcpfcnjchlbapaa", sum := "96ceaed46f4a5f4d22403285e5da72adadf4f82c000770ee9051ef99f1a77251", func := "loop.example/g00895/laws.FnAtOnce", spec := "fnAtOnce", unfollowed := true, recurses := true, apart := false, narrowed := true }
def FnAtOnceUptoSaid : Prop := fnAtOnceUptoRow.holds Try.pinned (OpenSpec.upto fnAtOnceSpec)

end Rows
end Go.Proofs.Ytcpfcnjchlbapaa
