/- Small helpers of the laws. -/
import Derived.Test.YtbbdjjlnachnlaaGreatEngY
import Derived.Test.YtbbdjjlnachnlaaGreatInst
import Derived.Test.YtbbdjjlnachnlaaGreatL01
namespace Go.Proofs.YtbbdjjlnachnlaaGreat
open Go Go.Eng
set_option linter.unusedVariables false
set_option linter.unusedSimpArgs false
set_option synthInstance.maxHeartbeats 400000
set_option synthInstance.maxSize 1000
instance : U8T Tryz.prog 5 := ⟨Tryz.underlying5⟩
instance : Op_ Tryz.prog 5 UInt8 repU8 := op_u8 Tryz.underlying5 (by kernel_rfl)
instance : Op_ Tryz.prog 44 (List UInt8) repList := op_slice Tryz.underlying44 (by kernel_rfl) inferInstance
theorem take_eq {xs ys : List Int} {k : Nat} (hk : k < xs.length) (hl : xs.length = ys.length) (h : xs.take k = ys.take k) (e : xs.getD k 0 = ys.getD k 0) : xs.take (k + 1) = ys.take (k + 1) := by
  have hk2 : k < ys.length := by omega
  have e2 : xs[k] = ys[k] := by
    rw [List.getD_eq_getElem?_getD, List.getElem?_eq_getElem hk, List.getD_eq_getElem?_getD, List.getElem?_eq_getElem hk2] at e
    simpa using e
  exact (List.take_succ_eq_append_getElem hk).trans (by rw [h, e2]; exact (List.take_succ_eq_append_getElem hk2).symm)
theorem big_spec {w0 : World} {Γ : List Atom} {v : Value} {code : List UInt8} [hv : HasRd (List UInt8) repList Γ [v] code] :
    CJ Tryz.prog 14 [v] w0 Γ (fun _ : Unit => .bool (decide (4096 < code.length))) (fun _ => Γ) := by
  refine cj_len v fun hlx => ?_
  refine cj_enter Tryz.func14 Tryz.ntmps14 ?_
  repeat' (first | refine red ?_ | fail)
  exact ⟨(), ret_bool (by congr 1; simp only [eq_iff_iff]; omega), ent_e⟩
instance big_ctr {Γ : List Atom} {v : Value} {code : List UInt8} [hv : HasRd (List UInt8) repList Γ [v] code] :
    CtrC Tryz.prog 14 [v] Γ (True) (Unit) (fun _ : Unit => .bool (decide (4096 < code.length))) (fun _ => Γ) := ⟨fun s w0 => big_spec⟩

end Go.Proofs.YtbbdjjlnachnlaaGreat
