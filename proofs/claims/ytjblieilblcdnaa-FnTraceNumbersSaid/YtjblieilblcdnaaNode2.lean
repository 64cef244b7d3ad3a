/- Nodes of chains and of two walks. -/
import Derived.Test.YtjblieilblcdnaaL06
namespace Go.Proofs.Ytjblieilblcdnaa
open Go Go.Eng
set_option linter.unusedVariables false
set_option linter.unusedSimpArgs false

def flag (b : Bool) : Int := if b then 1 else 0
theorem l1Flag_spec {w0 : World} {Γ : List Atom} {b : Bool} : CJ Try.prog 82 [.bool b] w0 Γ (fun _ : Unit => .int .i64 (flag b)) (fun _ => Γ) := by
  refine cj_enter Try.func82 Try.ntmps82 ?_
  repeat' (first | refine red ?_ | (refine redi (fun hc => ?_) (fun hc => ?_) <;> try first | (exfalso; omega) | exact absurd rfl hc) | fail)
  all_goals exact ⟨(), ret_int (by simp [flag, hc]), ent_e⟩
instance l1Flag_ctr {Γ : List Atom} {b : Bool} :
    CtrC Try.prog 82 [.bool b] Γ (True) (Unit) (fun _ : Unit => .int .i64 (flag b)) (fun _ => Γ) := ⟨fun s w0 => l1Flag_spec⟩

end Go.Proofs.Ytjblieilblcdnaa
