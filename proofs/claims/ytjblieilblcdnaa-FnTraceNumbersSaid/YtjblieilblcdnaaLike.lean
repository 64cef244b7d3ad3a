/- Small helpers of the laws. -/
import Derived.Test.YtjblieilblcdnaaEngW
import Derived.Test.YtjblieilblcdnaaInst
import Derived.Test.YtjblieilblcdnaaL06
namespace Go.Proofs.Ytjblieilblcdnaa
open Go Go.Eng
set_option linter.unusedVariables false
set_option linter.unusedSimpArgs false
set_option synthInstance.maxHeartbeats 400000
set_option synthInstance.maxSize 1000
instance : Op_ Try.prog 5 UInt8 repU8 := op_u8 Try.underlying5 (by kernel_rfl)
instance : Op_ Try.prog 22 (List UInt8) repList := op_slice Try.underlying22 (by kernel_rfl) inferInstance
theorem take_eq {xs ys : List Int} {k : Nat} (hk : k < xs.length) (hl : xs.length = ys.length) (h : xs.take k = ys.take k) (e : xs.getD k 0 = ys.getD k 0) : xs.take (k + 1) = ys.take (k + 1) := by
  have hk2 : k < ys.length := by omega
  have e2 : xs[k] = ys[k] := by
    rw [List.getD_eq_getElem?_getD, List.getElem?_eq_getElem hk, List.getD_eq_getElem?_getD, List.getElem?_eq_getElem hk2] at e
    simpa using e
  exact (List.take_succ_eq_append_getElem hk).trans (by rw [h, e2]; exact (List.take_succ_eq_append_getElem hk2).symm)
theorem likeInts_spec {w0 : World} {Γ : List Atom} {av bv : Value} {xs ys : List Int} [h : HasRd (List Int) repList Γ [av] xs] [h' : HasRd (List Int) repList Γ [bv] ys] :
    CJ Try.prog 8 [av, bv] w0 Γ (fun _ : Unit => .bool (decide (xs = ys))) (fun _ => Γ) := by
  refine cj_len av fun hlx => ?_
  refine cj_len bv fun hly => ?_
  refine cj_enter Try.func8 Try.ntmps8 ?_
  repeat' (first | refine red ?_ | (refine redi (fun hc => ?_) (fun hc => ?_) <;> try first | (exfalso; omega) | exact absurd rfl hc) | fail)
  · exact ⟨(), ret_bool (decide_eq_false (fun e => hc (by rw [e]))), ent_e⟩
  refine wc_loop_c [5] [11, 12, 13, 14, 17, 18, 19, 20, 21, 22, 23, 24, 25, 4, 15, 16] (ι := Nat) (fun k => [.int .i64 k]) (fun k => k ≤ xs.length ∧ xs.take k = ys.take k) (fun k => xs.length - k) 0 (by kernel_rfl) ⟨Nat.zero_le _, rfl⟩ ?_
  intro k u l' hl' ⟨hk, hkk⟩
  simp only [patch, List.map_cons, List.map_nil, List.set_cons_zero, List.set_cons_succ] at hl'
  subst hl'
  repeat' (first | refine red ?_ | refine reds ?_ | (refine redi (fun hc => ?_) (fun hc => ?_) <;> try first | (exfalso; omega) | exact absurd rfl hc) | ((refine wa_begin 6 [false, false, false, false, false, false, false, false, false] [] ?_ <;> refine wa_p 0 ?_ <;> refine wa_p 1 ?_ <;> refine wa_p 2 ?_ <;> (first | refine wa_f 3 fun hbi => ?_ | fail) <;> refine wa_p 4 ?_ <;> refine wa_p 5 ?_ <;> refine wa_p 6 ?_ <;> (first | refine wa_f 7 fun hbi => ?_ | fail) <;> (first | refine wa_p 8 ?_ | fail)) <;> (refine wa_end ?_)) | fail)
  · exact ⟨(), ret_bool (decide_eq_false (fun e => hc (by rw [e]))), ent_e⟩
  · exact wq_next (k + 1) ⟨by omega, take_eq (by omega) (by omega) hkk hc⟩ (by omega) (by kernel_rfl) ent_e
  · rw [List.take_of_length_le (by omega), List.take_of_length_le (by omega)] at hkk
    exact ⟨(), ret_bool (decide_eq_true hkk), ent_e⟩
instance likeInts_ctr {Γ : List Atom} {av bv : Value} {xs ys : List Int} [h : HasRd (List Int) repList Γ [av] xs] [h' : HasRd (List Int) repList Γ [bv] ys] :
    CtrC Try.prog 8 [av, bv] Γ (True) (Unit) (fun _ : Unit => .bool (decide (xs = ys))) (fun _ => Γ) := ⟨fun s w0 => likeInts_spec⟩

theorem big_spec {w0 : World} {Γ : List Atom} {v : Value} {code : List UInt8} [hv : HasRd (List UInt8) repList Γ [v] code] :
    CJ Try.prog 4 [v] w0 Γ (fun _ : Unit => .bool (decide (4096 < code.length))) (fun _ => Γ) := by
  refine cj_len v fun hlx => ?_
  refine cj_enter Try.func4 Try.ntmps4 ?_
  repeat' (first | refine red ?_ | fail)
  exact ⟨(), ret_bool (by congr 1; simp only [eq_iff_iff]; omega), ent_e⟩
instance big_ctr {Γ : List Atom} {v : Value} {code : List UInt8} [hv : HasRd (List UInt8) repList Γ [v] code] :
    CtrC Try.prog 4 [v] Γ (True) (Unit) (fun _ : Unit => .bool (decide (4096 < code.length))) (fun _ => Γ) := ⟨fun s w0 => big_spec⟩

end Go.Proofs.Ytjblieilblcdnaa
