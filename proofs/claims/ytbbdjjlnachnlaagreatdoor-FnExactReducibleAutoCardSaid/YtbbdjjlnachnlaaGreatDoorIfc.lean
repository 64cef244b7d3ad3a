/- The rules of the walk: values of interface types. -/
import Derived.Test.YtbbdjjlnachnlaaGreatDoorInst
import Derived.Laws.Build
namespace Go.Eng
open Go Go.RowKit
set_option linter.unusedVariables false
set_option linter.unusedSimpArgs false
/-- A struct type whose values may stand in an interface. -/
class IfT (P : Program) (T : TypeId) : Prop where
  conc : P.concrete T = true
  str : ∃ fs, P.underlying T = some (.struct fs)
section
variable {P : Program} {w0 : World} {l : List Value} {Γ : List Atom} {ty T S : TypeId} {x : Operand} {v : Value}
instance [h : Ev l x v] [hT : IfT P T] : PuC P l Γ (.makeInterface T x) ty (.iface T v) := ⟨fun w0 =>
  pu_of (s := Instr.makeInterface T v) (fun o ho _ => by unfold execOp; rw [ho]; simp only [h.eq]) (fun w _ => run_makeInterface w T v hT.conc)⟩
instance [h : Ev l x (.iface T v)] [hT : IfT P T] : PuC P l Γ (.typeAssert x S T true) ty (.tuple #[v, .bool true]) := ⟨fun w0 =>
  pu_of (s := Instr.typeAssert (.iface T v) S T true) (fun o ho _ => by unfold execOp; rw [ho]; simp only [h.eq]) (fun w _ => by
    obtain ⟨fs, hu⟩ := hT.str
    simp [Instr.typeAssert, run_underlying hu])⟩
end
end Go.Eng
namespace Go.Proofs.YtbbdjjlnachnlaaGreatDoor
open Go Go.Eng
instance : IfT Tryz.prog 95 := ⟨by kernel_rfl, _, Tryz.underlying95⟩
end Go.Proofs.YtbbdjjlnachnlaaGreatDoor
