/-
  No cell of these rows narrows 'for every input' (looked for: loops, veiled, ifaces, maps, wideKeys, modest, calm, conditions, laid).
  DERIVED. THE GIVEN ROWS OF THIS SEAT. 7 by the template 'for every input the law returns true; each argument reads behind the call as it read before'; 0 by the template 'total and deterministic' (their statements: YtimniaojfchoiaaTotals.lean).
  GIVEN WITH THE SEED: the statements are not yours to turn. If you find one false, say at which input.
  Laid BY PROGRAM, IN A SANDBOX (cutbox-rows.mjs): the forced cells as the released guide's own fill.sh prints them over the translation c1cb35e44f58da80… (all of the seat's roots in one cut). By AI agents, Wed Nov 11 2026. No macro, syntax, notation, axiom, sorry.
-/
import Derived.Test.YtimniaojfchoiaaChecked
import GoSem.Claim
import GoSem.ClaimJoined
import GoSem.ClaimMapViews
import Derived.JoinedTies
import Derived.KernelRfl
namespace Go.Proofs.Ytimniaojfchoiaa
/- THE CELL 'sum', in the pinned program and in every row, IS THE sha256 OF THE DUMP (.gsa) THAT YtimniaojfchoiaaProg.lean LOADS. Nothing in Lean hashes anything: it is a label: what it is worth is what the hold of that sum in a sandbox is worth. -/
noncomputable def Try.pinned : Pinned := { name := "ytimniaojfchoiaa", sum := "c1cb35e44f58da805cd899200acb94a252ac4e0ce7ad47f421fef334211676d7", checked := Try.checked }
namespace Rows
def none {H : Type} : Left H := { results := [], args := [] }

/-- 'laws.FnExactStatesOf': WHATEVER THE INPUT: true; the input reads as it did. -/
def fnExactStatesOfSpec : ChangeSpec := { name := "fnExactStatesOf", fn := fun _ => fun
  | [d1, d2, d3] => { results := [.lit (.bool true)], args := [d1, d2, d3] }
  | _ => none }
def fnExactStatesOfRow : OpenClaim := { program := "ytimniaojfchoiaa", sum := "c1cb35e44f58da805cd899200acb94a252ac4e0ce7ad47f421fef334211676d7", func := "loop.example/g00895/laws.FnExactStatesOf", spec := "fnExactStatesOf", unfollowed := true, recurses := true, apart := false }
def FnExactStatesOfSaid : Prop := fnExactStatesOfRow.holds Try.pinned (OpenSpec.ofChange fnExactStatesOfSpec)

/-- ITS FALSE NEIGHBOUR: 'it returns false'. Refute it at one input. -/
def fnExactStatesOfWrong : ChangeSpec := { name := "fnExactStatesOf", fn := fun _ => fun
  | [d1, d2, d3] => { results := [.lit (.bool false)], args := [d1, d2, d3] }
  | _ => none }
def FnExactStatesOfWrongFalsely : Prop := fnExactStatesOfRow.holds Try.pinned (OpenSpec.ofChange fnExactStatesOfWrong)

/-- 'laws.FnExactUnifiesIn': WHATEVER THE INPUT: true; the input reads as it did. -/
def fnExactUnifiesInSpec : ChangeSpec := { name := "fnExactUnifiesIn", fn := fun _ => fun
  | [d1, d2, d3] => { results := [.lit (.bool true)], args := [d1, d2, d3] }
  | _ => none }
def fnExactUnifiesInRow : OpenClaim := { program := "ytimniaojfchoiaa", sum := "c1cb35e44f58da805cd899200acb94a252ac4e0ce7ad47f421fef334211676d7", func := "loop.example/g00895/laws.FnExactUnifiesIn", spec := "fnExactUnifiesIn", unfollowed := true, recurses := true, apart := false }
def FnExactUnifiesInSaid : Prop := fnExactUnifiesInRow.holds Try.pinned (OpenSpec.ofChange fnExactUnifiesInSpec)

/-- ITS FALSE NEIGHBOUR: 'it returns false'. Refute it at one input. -/
def fnExactUnifiesInWrong : ChangeSpec := { name := "fnExactUnifiesIn", fn := fun _ => fun
  | [d1, d2, d3] => { results := [.lit (.bool false)], args := [d1, d2, d3] }
  | _ => none }
def FnExactUnifiesInWrongFalsely : Prop := fnExactUnifiesInRow.holds Try.pinned (OpenSpec.ofChange fnExactUnifiesInWrong)

/-- 'laws.FnExactUnified': WHATEVER THE INPUT: true; the input reads as it did. -/
def fnExactUnifiedSpec : ChangeSpec := { name := "fnExactUnified", fn := fun _ => fun
  | [d1, d2, d3] => { results := [.lit (.bool true)], args := [d1, d2, d3] }
  | _ => none }
def fnExactUnifiedRow : OpenClaim := { program := "ytimniaojfchoiaa", sum := "c1cb35e44f58da805cd899200acb94a252ac4e0ce7ad47f421fef334211676d7", func := "loop.example/g00895/laws.FnExactUnified", spec := "fnExactUnified", unfollowed := true, recurses := true, apart := false }
def FnExactUnifiedSaid : Prop := fnExactUnifiedRow.holds Try.pinned (OpenSpec.ofChange fnExactUnifiedSpec)

/-- ITS FALSE NEIGHBOUR: 'it returns false'. Refute it at one input. -/
def fnExactUnifiedWrong : ChangeSpec := { name := "fnExactUnified", fn := fun _ => fun
  | [d1, d2, d3] => { results := [.lit (.bool false)], args := [d1, d2, d3] }
  | _ => none }
def FnExactUnifiedWrongFalsely : Prop := fnExactUnifiedRow.holds Try.pinned (OpenSpec.ofChange fnExactUnifiedWrong)

/-- 'laws.FnExactUnifiedApart': WHATEVER THE INPUT: true; the input reads as it did. -/
def fnExactUnifiedApartSpec : ChangeSpec := { name := "fnExactUnifiedApart", fn := fun _ => fun
  | [d1, d2, d3] => { results := [.lit (.bool true)], args := [d1, d2, d3] }
  | _ => none }
def fnExactUnifiedApartRow : OpenClaim := { program := "ytimniaojfchoiaa", sum := "c1cb35e44f58da805cd899200acb94a252ac4e0ce7ad47f421fef334211676d7", func := "loop.example/g00895/laws.FnExactUnifiedApart", spec := "fnExactUnifiedApart", unfollowed := true, recurses := true, apart := false }
def FnExactUnifiedApartSaid : Prop := fnExactUnifiedApartRow.holds Try.pinned (OpenSpec.ofChange fnExactUnifiedApartSpec)

/-- ITS FALSE NEIGHBOUR: 'it returns false'. Refute it at one input. -/
def fnExactUnifiedApartWrong : ChangeSpec := { name := "fnExactUnifiedApart", fn := fun _ => fun
  | [d1, d2, d3] => { results := [.lit (.bool false)], args := [d1, d2, d3] }
  | _ => none }
def FnExactUnifiedApartWrongFalsely : Prop := fnExactUnifiedApartRow.holds Try.pinned (OpenSpec.ofChange fnExactUnifiedApartWrong)

/-- 'laws.FnExactMetOf': WHATEVER THE INPUT: true; the input reads as it did. -/
def fnExactMetOfSpec : ChangeSpec := { name := "fnExactMetOf", fn := fun _ => fun
  | [d1, d2, d3] => { results := [.lit (.bool true)], args := [d1, d2, d3] }
  | _ => none }
def fnExactMetOfRow : OpenClaim := { program := "ytimniaojfchoiaa", sum := "c1cb35e44f58da805cd899200acb94a252ac4e0ce7ad47f421fef334211676d7", func := "loop.example/g00895/laws.FnExactMetOf", spec := "fnExactMetOf", unfollowed := true, recurses := true, apart := false }
def FnExactMetOfSaid : Prop := fnExactMetOfRow.holds Try.pinned (OpenSpec.ofChange fnExactMetOfSpec)

/-- ITS FALSE NEIGHBOUR: 'it returns false'. Refute it at one input. -/
def fnExactMetOfWrong : ChangeSpec := { name := "fnExactMetOf", fn := fun _ => fun
  | [d1, d2, d3] => { results := [.lit (.bool false)], args := [d1, d2, d3] }
  | _ => none }
def FnExactMetOfWrongFalsely : Prop := fnExactMetOfRow.holds Try.pinned (OpenSpec.ofChange fnExactMetOfWrong)

/-- 'laws.FnExactFirstLine': WHATEVER THE INPUT: true; the input reads as it did. -/
def fnExactFirstLineSpec : ChangeSpec := { name := "fnExactFirstLine", fn := fun _ => fun
  | [d1, d2] => { results := [.lit (.bool true)], args := [d1, d2] }
  | _ => none }
def fnExactFirstLineRow : OpenClaim := { program := "ytimniaojfchoiaa", sum := "c1cb35e44f58da805cd899200acb94a252ac4e0ce7ad47f421fef334211676d7", func := "loop.example/g00895/laws.FnExactFirstLine", spec := "fnExactFirstLine", unfollowed := true, recurses := true, apart := false }
def FnExactFirstLineSaid : Prop := fnExactFirstLineRow.holds Try.pinned (OpenSpec.ofChange fnExactFirstLineSpec)

/-- ITS FALSE NEIGHBOUR: 'it returns false'. Refute it at one input. -/
def fnExactFirstLineWrong : ChangeSpec := { name := "fnExactFirstLine", fn := fun _ => fun
  | [d1, d2] => { results := [.lit (.bool false)], args := [d1, d2] }
  | _ => none }
def FnExactFirstLineWrongFalsely : Prop := fnExactFirstLineRow.holds Try.pinned (OpenSpec.ofChange fnExactFirstLineWrong)

/-- 'laws.FnExactOtherAuto': WHATEVER THE INPUT: true; the input reads as it did. -/
def fnExactOtherAutoSpec : ChangeSpec := { name := "fnExactOtherAuto", fn := fun _ => fun
  | [d1, d2] => { results := [.lit (.bool true)], args := [d1, d2] }
  | _ => none }
def fnExactOtherAutoRow : OpenClaim := { program := "ytimniaojfchoiaa", sum := "c1cb35e44f58da805cd899200acb94a252ac4e0ce7ad47f421fef334211676d7", func := "loop.example/g00895/laws.FnExactOtherAuto", spec := "fnExactOtherAuto", unfollowed := true, recurses := true, apart := false }
def FnExactOtherAutoSaid : Prop := fnExactOtherAutoRow.holds Try.pinned (OpenSpec.ofChange fnExactOtherAutoSpec)

/-- ITS FALSE NEIGHBOUR: 'it returns false'. Refute it at one input. -/
def fnExactOtherAutoWrong : ChangeSpec := { name := "fnExactOtherAuto", fn := fun _ => fun
  | [d1, d2] => { results := [.lit (.bool false)], args := [d1, d2] }
  | _ => none }
def FnExactOtherAutoWrongFalsely : Prop := fnExactOtherAutoRow.holds Try.pinned (OpenSpec.ofChange fnExactOtherAutoWrong)

/- THE SECOND FORM. 'bulk': how many values and letters a reading holds, each counted each time it is reached (what is shared counts as often as it is met; a slice's spare places count too). A statement '..UptoSaid' is the law's where the arguments, and the package variables that the reading takes, are together of bulk at most 1048576: NARROWER than '..Said'. Prove '..Said' where nothing that the law and all that it calls make is longer than what came in: it says more and counts as full. Else prove '..UptoSaid'. A law counts once. -/
mutual
def uptoBulk {H : Type} : DataW H → Nat
  | .lit (.string bytes) => bytes.length + 1
  | .lit _ => 1
  | .nil => 1
  | .ptr d => uptoBulk d + 1
  | .slice elems spare => uptoBulkAll elems + uptoBulkAll spare + 1
  | .agg parts => uptoBulkAll parts + 1
  | .iface _ d => uptoBulk d + 1
  | .map entries => uptoBulkEntries entries + 1
  | .held _ => 1
def uptoBulkAll {H : Type} : List (DataW H) → Nat
  | [] => 0
  | d :: r => uptoBulk d + uptoBulkAll r
def uptoBulkEntries {H : Type} : List (Lit × DataW H) → Nat
  | [] => 0
  | x :: r => uptoBulkEntry x + uptoBulkEntries r
def uptoBulkEntry {H : Type} : Lit × DataW H → Nat
  | (.string bytes, d) => bytes.length + uptoBulk d + 1
  | (_, d) => uptoBulk d + 1
 end
def uptoSmall : (H : Type) → List (DataW H) → Bool := fun _ ds => decide (uptoBulkAll ds ≤ 1048576)
def OpenSpec.upto (s : _root_.Go.ChangeSpec) : _root_.Go.OpenSpec := { _root_.Go.OpenSpec.ofChange s with cond := some uptoSmall }

/-- 'laws.FnExactStatesOf', WHERE WHAT IT READS IS OF BULK AT MOST 1048576: true; the input reads as it did. -/
def fnExactStatesOfUptoRow : OpenClaim := { program := "ytimniaojfchoiaa", sum := "c1cb35e44f58da805cd899200acb94a252ac4e0ce7ad47f421fef334211676d7", func := "loop.example/g00895/laws.FnExactStatesOf", spec := "fnExactStatesOf", unfollowed := true, recurses := true, apart := false, narrowed := true }
def FnExactStatesOfUptoSaid : Prop := fnExactStatesOfUptoRow.holds Try.pinned (OpenSpec.upto fnExactStatesOfSpec)

/-- 'laws.FnExactUnifiesIn', WHERE WHAT IT READS IS OF BULK AT MOST 1048576: true; the input reads as it did. -/
def fnExactUnifiesInUptoRow : OpenClaim := { program := "ytimniaojfchoiaa", sum := "c1cb35e44f58da805cd899200acb94a252ac4e0ce7ad47f421fef334211676d7", func := "loop.example/g00895/laws.FnExactUnifiesIn", spec := "fnExactUnifiesIn", unfollowed := true, recurses := true, apart := false, narrowed := true }
def FnExactUnifiesInUptoSaid : Prop := fnExactUnifiesInUptoRow.holds Try.pinned (OpenSpec.upto fnExactUnifiesInSpec)

/-- 'laws.FnExactUnified', WHERE WHAT IT READS IS OF BULK AT MOST 1048576: true; the input reads as it did. -/
def fnExactUnifiedUptoRow : OpenClaim := { program := "ytimniaojfchoiaa", sum := "c1cb35e44f58da805cd899200acb94a252ac4e0ce7ad47f421fef334211676d7", func := "loop.example/g00895/laws.FnExactUnified", spec := "fnExactUnified", unfollowed := true, recurses := true, apart := false, narrowed := true }
def FnExactUnifiedUptoSaid : Prop := fnExactUnifiedUptoRow.holds Try.pinned (OpenSpec.upto fnExactUnifiedSpec)

/-- 'laws.FnExactUnifiedApart', WHERE WHAT IT READS IS OF BULK AT MOST 1048576: true; the input reads as it did. -/
def fnExactUnifiedApartUptoRow : OpenClaim := { program := "ytimniaojfchoiaa", sum := "c1cb35e44f58da805cd899200acb94a252ac4e0ce7ad47f421fef334211676d7", func := "loop.example/g00895/laws.FnExactUnifiedApart", spec := "fnExactUnifiedApart", unfollowed := true, recurses := true, apart := false, narrowed := true }
def FnExactUnifiedApartUptoSaid : Prop := fnExactUnifiedApartUptoRow.holds Try.pinned (OpenSpec.upto fnExactUnifiedApartSpec)

/-- 'laws.FnExactMetOf', WHERE WHAT IT READS IS OF BULK AT MOST 1048576: true; the input reads as it did. -/
def fnExactMetOfUptoRow : OpenClaim := { program := "ytimniaojfchoiaa", sum := "c1cb35e44f58da805cd899200acb94a252ac4e0ce7ad47f421fef334211676d7", func := "loop.example/g00895/laws.FnExactMetOf", spec := "fnExactMetOf", unfollowed := true, recurses := true, apart := false, narrowed := true }
def FnExactMetOfUptoSaid : Prop := fnExactMetOfUptoRow.holds Try.pinned (OpenSpec.upto fnExactMetOfSpec)

/-- 'laws.FnExactFirstLine', WHERE WHAT IT READS IS OF BULK AT MOST 1048576: true; the input reads as it did. -/
def fnExactFirstLineUptoRow : OpenClaim := { program := "ytimniaojfchoiaa", sum := "c1cb35e44f58da805cd899200acb94a252ac4e0ce7ad47f421fef334211676d7", func := "loop.example/g00895/laws.FnExactFirstLine", spec := "fnExactFirstLine", unfollowed := true, recurses := true, apart := false, narrowed := true }
def FnExactFirstLineUptoSaid : Prop := fnExactFirstLineUptoRow.holds Try.pinned (OpenSpec.upto fnExactFirstLineSpec)

/-- 'laws.FnExactOtherAuto', WHERE WHAT IT READS IS OF BULK AT MOST 1048576: true; the input reads as it did. -/
def fnExactOtherAutoUptoRow : OpenClaim := { program := "ytimniaojfchoiaa", sum := "c1cb35e44f58da805cd899200acb94a252ac4e0ce7ad47f421fef334211676d7", func := "loop.example/g00895/laws.FnExactOtherAuto", spec := "fnExactOtherAuto", unfollowed := true, recurses := true, apart := false, narrowed := true }
def FnExactOtherAutoUptoSaid : Prop := fnExactOtherAutoUptoRow.holds Try.pinned (OpenSpec.upto fnExactOtherAutoSpec)

end Rows
end Go.Proofs.Ytimniaojfchoiaa
