/-
  No cell of these rows narrows 'for every input' (looked for: loops, veiled, ifaces, maps, wideKeys, modest, calm, conditions, laid).
  DERIVED. THE GIVEN ROWS OF THIS SEAT. 5 by the template 'for every input the law returns true; each argument reads behind the call as it read before'; 0 by the template 'total and deterministic' (their statements: YtbhaicloopllmaaTotals.lean).
  GIVEN WITH THE SEED: the statements are not yours to turn. If you find one false, say at which input.
  Laid BY PROGRAM, IN A SANDBOX (cutbox-rows.mjs): the forced cells as the released guide's own fill.sh prints them over the translation a1916032d242a13c… (all of the seat's roots in one cut). By AI agents, Wed Nov 11 2026. No macro, syntax, notation, axiom, sorry.
-/
import Derived.Test.YtbhaicloopllmaaChecked
import GoSem.Claim
import GoSem.ClaimJoined
import GoSem.ClaimMapViews
import Derived.JoinedTies
import Derived.KernelRfl
namespace Go.Proofs.Ytbhaicloopllmaa
/- THE CELL 'sum', in the pinned program and in every row, IS THE sha256 OF THE DUMP (.gsa) THAT YtbhaicloopllmaaProg.lean LOADS. Nothing in Lean hashes anything: it is a label: what it is worth is what the hold of that sum in a sandbox is worth. -/
noncomputable def Try.pinned : Pinned := { name := "ytbhaicloopllmaa", sum := "a1916032d242a13ce5f7d3452f9babeef0510595979e2d0f4ca6ed6366cc23e0", checked := Try.checked }
namespace Rows
def none {H : Type} : Left H := { results := [], args := [] }

/-- 'laws.FnExactKindName': WHATEVER THE INPUT: true; the input reads as it did. -/
def fnExactKindNameSpec : ChangeSpec := { name := "fnExactKindName", fn := fun _ => fun
  | [d] => { results := [.lit (.bool true)], args := [d] }
  | _ => none }
def fnExactKindNameRow : OpenClaim := { program := "ytbhaicloopllmaa", sum := "a1916032d242a13ce5f7d3452f9babeef0510595979e2d0f4ca6ed6366cc23e0", func := "loop.example/g00895/laws.FnExactKindName", spec := "fnExactKindName", apart := false }
def FnExactKindNameSaid : Prop := fnExactKindNameRow.holds Try.pinned (OpenSpec.ofChange fnExactKindNameSpec)

/-- ITS FALSE NEIGHBOUR: 'it returns false'. Refute it at one input. -/
def fnExactKindNameWrong : ChangeSpec := { name := "fnExactKindName", fn := fun _ => fun
  | [d] => { results := [.lit (.bool false)], args := [d] }
  | _ => none }
def FnExactKindNameWrongFalsely : Prop := fnExactKindNameRow.holds Try.pinned (OpenSpec.ofChange fnExactKindNameWrong)

/-- 'laws.FnExactTheoryName': WHATEVER THE INPUT: true; the input reads as it did. -/
def fnExactTheoryNameSpec : ChangeSpec := { name := "fnExactTheoryName", fn := fun _ => fun
  | [d] => { results := [.lit (.bool true)], args := [d] }
  | _ => none }
def fnExactTheoryNameRow : OpenClaim := { program := "ytbhaicloopllmaa", sum := "a1916032d242a13ce5f7d3452f9babeef0510595979e2d0f4ca6ed6366cc23e0", func := "loop.example/g00895/laws.FnExactTheoryName", spec := "fnExactTheoryName", apart := false }
def FnExactTheoryNameSaid : Prop := fnExactTheoryNameRow.holds Try.pinned (OpenSpec.ofChange fnExactTheoryNameSpec)

/-- ITS FALSE NEIGHBOUR: 'it returns false'. Refute it at one input. -/
def fnExactTheoryNameWrong : ChangeSpec := { name := "fnExactTheoryName", fn := fun _ => fun
  | [d] => { results := [.lit (.bool false)], args := [d] }
  | _ => none }
def FnExactTheoryNameWrongFalsely : Prop := fnExactTheoryNameRow.holds Try.pinned (OpenSpec.ofChange fnExactTheoryNameWrong)

/-- 'laws.FnExactNameKind': WHATEVER THE INPUT: true; the input reads as it did. -/
def fnExactNameKindSpec : ChangeSpec := { name := "fnExactNameKind", fn := fun _ => fun
  | [d] => { results := [.lit (.bool true)], args := [d] }
  | _ => none }
def fnExactNameKindRow : OpenClaim := { program := "ytbhaicloopllmaa", sum := "a1916032d242a13ce5f7d3452f9babeef0510595979e2d0f4ca6ed6366cc23e0", func := "loop.example/g00895/laws.FnExactNameKind", spec := "fnExactNameKind", apart := false }
def FnExactNameKindSaid : Prop := fnExactNameKindRow.holds Try.pinned (OpenSpec.ofChange fnExactNameKindSpec)

/-- ITS FALSE NEIGHBOUR: 'it returns false'. Refute it at one input. -/
def fnExactNameKindWrong : ChangeSpec := { name := "fnExactNameKind", fn := fun _ => fun
  | [d] => { results := [.lit (.bool false)], args := [d] }
  | _ => none }
def FnExactNameKindWrongFalsely : Prop := fnExactNameKindRow.holds Try.pinned (OpenSpec.ofChange fnExactNameKindWrong)

/-- 'laws.FnExactTheoryNumber': WHATEVER THE INPUT: true; the input reads as it did. -/
def fnExactTheoryNumberSpec : ChangeSpec := { name := "fnExactTheoryNumber", fn := fun _ => fun
  | [d] => { results := [.lit (.bool true)], args := [d] }
  | _ => none }
def fnExactTheoryNumberRow : OpenClaim := { program := "ytbhaicloopllmaa", sum := "a1916032d242a13ce5f7d3452f9babeef0510595979e2d0f4ca6ed6366cc23e0", func := "loop.example/g00895/laws.FnExactTheoryNumber", spec := "fnExactTheoryNumber", apart := false }
def FnExactTheoryNumberSaid : Prop := fnExactTheoryNumberRow.holds Try.pinned (OpenSpec.ofChange fnExactTheoryNumberSpec)

/-- ITS FALSE NEIGHBOUR: 'it returns false'. Refute it at one input. -/
def fnExactTheoryNumberWrong : ChangeSpec := { name := "fnExactTheoryNumber", fn := fun _ => fun
  | [d] => { results := [.lit (.bool false)], args := [d] }
  | _ => none }
def FnExactTheoryNumberWrongFalsely : Prop := fnExactTheoryNumberRow.holds Try.pinned (OpenSpec.ofChange fnExactTheoryNumberWrong)

/-- 'laws.FnExactSameClaim': WHATEVER THE INPUT: true; the input reads as it did. -/
def fnExactSameClaimSpec : ChangeSpec := { name := "fnExactSameClaim", fn := fun _ => fun
  | [d1, d2] => { results := [.lit (.bool true)], args := [d1, d2] }
  | _ => none }
def fnExactSameClaimRow : OpenClaim := { program := "ytbhaicloopllmaa", sum := "a1916032d242a13ce5f7d3452f9babeef0510595979e2d0f4ca6ed6366cc23e0", func := "loop.example/g00895/laws.FnExactSameClaim", spec := "fnExactSameClaim", apart := false }
def FnExactSameClaimSaid : Prop := fnExactSameClaimRow.holds Try.pinned (OpenSpec.ofChange fnExactSameClaimSpec)

/-- ITS FALSE NEIGHBOUR: 'it returns false'. Refute it at one input. -/
def fnExactSameClaimWrong : ChangeSpec := { name := "fnExactSameClaim", fn := fun _ => fun
  | [d1, d2] => { results := [.lit (.bool false)], args := [d1, d2] }
  | _ => none }
def FnExactSameClaimWrongFalsely : Prop := fnExactSameClaimRow.holds Try.pinned (OpenSpec.ofChange fnExactSameClaimWrong)

/- THE SECOND FORM. 'bulk': how many values and letters a reading holds, each counted each time it is reached (what is shared counts as often as it is met; a slice's spare places count too). A statement '..UptoSaid' is the law's where the arguments, and the package variables that the reading takes, are together of bulk at most 1048576: NARROWER than '..Said'. Prove '..Said' where nothing that the law and all that it calls make is longer than what came in: it says more and counts as full. Else prove '..UptoSaid'. A law counts once. -/
mutual
def uptoBulk {H : Type} : DataW H → Nat
  | .lit (.string bytes) => bytes.length + 1
  | .lit _ => 1
  | .nil => 1
  | .ptr d => uptoBulk d + 1
  | .slice elems spare => uptoBulkAll elems + uptoBulkAll spare + 1
  | .agg parts => uptoBulkAll parts + 1
  | .iface _ d => uptoBulk d + 1
  | .map entries => uptoBulkEntries entries + 1
  | .held _ => 1
def uptoBulkAll {H : Type} : List (DataW H) → Nat
  | [] => 0
  | d :: r => uptoBulk d + uptoBulkAll r
def uptoBulkEntries {H : Type} : List (Lit × DataW H) → Nat
  | [] => 0
  | x :: r => uptoBulkEntry x + uptoBulkEntries r
def uptoBulkEntry {H : Type} : Lit × DataW H → Nat
  | (.string bytes, d) => bytes.length + uptoBulk d + 1
  | (_, d) => uptoBulk d + 1
 end
def uptoSmall : (H : Type) → List (DataW H) → Bool := fun _ ds => decide (uptoBulkAll ds ≤ 1048576)
def OpenSpec.upto (s : _root_.Go.ChangeSpec) : _root_.Go.OpenSpec := { _root_.Go.OpenSpec.ofChange s with cond := some uptoSmall }

/-- 'laws.FnExactKindName', WHERE WHAT IT READS IS OF BULK AT MOST 1048576: true; the input reads as it did. -/
def fnExactKindNameUptoRow : OpenClaim := { program := "ytbhaicloopllmaa", sum := "a1916032d242a13ce5f7d3452f9babeef0510595979e2d0f4ca6ed6366cc23e0", func := "loop.example/g00895/laws.FnExactKindName", spec := "fnExactKindName", apart := false, narrowed := true }
def FnExactKindNameUptoSaid : Prop := fnExactKindNameUptoRow.holds Try.pinned (OpenSpec.upto fnExactKindNameSpec)

/-- 'laws.FnExactTheoryName', WHERE WHAT IT READS IS OF BULK AT MOST 1048576: true; the input reads as it did. -/
def fnExactTheoryNameUptoRow : OpenClaim := { program := "ytbhaicloopllmaa", sum := "a1916032d242a13ce5f7d3452f9babeef0510595979e2d0f4ca6ed6366cc23e0", func := "loop.example/g00895/laws.FnExactTheoryName", spec := "fnExactTheoryName", apart := false, narrowed := true }
def FnExactTheoryNameUptoSaid : Prop := fnExactTheoryNameUptoRow.holds Try.pinned (OpenSpec.upto fnExactTheoryNameSpec)

/-- 'laws.FnExactNameKind', WHERE WHAT IT READS IS OF BULK AT MOST 1048576: true; the input reads as it did. -/
def fnExactNameKindUptoRow : OpenClaim := { program := "ytbhaicloopllmaa", sum := "a1916032d242a13ce5f7d3452f9babeef0510595979e2d0f4ca6ed6366cc23e0", func := "loop.example/g00895/laws.FnExactNameKind", spec := "fnExactNameKind", apart := false, narrowed := true }
def FnExactNameKindUptoSaid : Prop := fnExactNameKindUptoRow.holds Try.pinned (OpenSpec.upto fnExactNameKindSpec)

/-- 'laws.FnExactTheoryNumber', WHERE WHAT IT READS IS OF BULK AT MOST 1048576: true; the input reads as it did. -/
def fnExactTheoryNumberUptoRow : OpenClaim := { program := "ytbhaicloopllmaa", sum := "a1916032d242a13ce5f7d3452f9babeef0510595979e2d0f4ca6ed6366cc23e0", func := "loop.example/g00895/laws.FnExactTheoryNumber", spec := "fnExactTheoryNumber", apart := false, narrowed := true }
def FnExactTheoryNumberUptoSaid : Prop := fnExactTheoryNumberUptoRow.holds Try.pinned (OpenSpec.upto fnExactTheoryNumberSpec)

/-- 'laws.FnExactSameClaim', WHERE WHAT IT READS IS OF BULK AT MOST 1048576: true; the input reads as it did. -/
def fnExactSameClaimUptoRow : OpenClaim := { program := "ytbhaicloopllmaa", sum := "a1916032d242a13ce5f7d3452f9babeef0510595979e2d0f4ca6ed6366cc23e0", func := "loop.example/g00895/laws.FnExactSameClaim", spec := "fnExactSameClaim", apart := false, narrowed := true }
def FnExactSameClaimUptoSaid : Prop := fnExactSameClaimUptoRow.holds Try.pinned (OpenSpec.upto fnExactSameClaimSpec)

end Rows
end Go.Proofs.Ytbhaicloopllmaa
