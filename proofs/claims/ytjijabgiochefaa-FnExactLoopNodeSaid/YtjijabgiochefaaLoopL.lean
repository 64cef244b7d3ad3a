/- The law of the node of a loop. -/
import Derived.Test.YtjijabgiochefaaLoopS
namespace Go.Proofs.Ytjijabgiochefaa
open Go Go.Eng
set_option linter.unusedVariables false
set_option linter.unusedSimpArgs false
theorem loop_len (x : SLoop) : (loopOf x).2.1.length ≤ 200 ∧ Siz.size (loopOf x).2.2.1 ≤ 1525 ∧ (loopOf x).2.2.2.length = 0 := by
  unfold loopOf
  split
  · rename_i h
    have hp := plain_len x.2.2
    have h1 := h.2.1
    have h2 := h.1
    have hll := plain_le (long_le h.2.2)
    have := siz_le' (xs := x.1.1 :: givTo (plainOf x.2.2) (plainOf x.2.2).length) (m := 60) (fun t ht => by
      rcases List.mem_cons.1 ht with ht | ht
      · rw [ht]; omega
      · exact giv_le _ hll _ t ht)
    rw [List.length_cons, givTo_len] at this
    refine ⟨by simp only [List.length_cons, numsOf_length]; omega, by simp only; omega, rfl⟩
  · exact ⟨by simp, by simp [siz_list, sumL], rfl⟩
set_option maxHeartbeats 0 in
set_option synthInstance.maxHeartbeats 400000 in
set_option synthInstance.maxSize 1000 in
theorem FnExactLoopNode_law {w0 : World} {Γ : List Atom} {x0 : SLoop} {v0_0 v0_1 v0_3 : Value} [h0_0 : HasRd (List Int) repList Γ [v0_0] x0.1.1] [h0_1 : HasRd (List SStep) repList Γ [v0_1] x0.1.2] [h0_3 : HasRd (List (List Int)) repList Γ [v0_3] x0.2.2] (hf0 : ((x0.1.1.length ≤ 9223372036854775807) ∧ x0.1.2.length ≤ 9223372036854775807) ∧ (-9223372036854775808 ≤ x0.2.1 ∧ x0.2.1 ≤ 9223372036854775807) ∧ x0.2.2.length ≤ 9223372036854775807) :
    CJ Try.prog 3 [.agg #[v0_0, v0_1, .int .i64 x0.2.1, v0_3]] w0 Γ (fun _ : Unit => .bool true) (fun _ => Γ) := by
  have hz0 := lft_spec 1048576 (Siz.size x0)
  have hs0 : Siz.size x0 = Siz.size x0.1.1 + Siz.size x0.1.2 + Siz.size x0.2.2 := by simp only [siz_pair, siz_int, siz_bool, siz_str] <;> omega
  have hb0_0 := cntL_le x0.1.1
  have hl0_0 := siz_ints x0.1.1
  have hb0_1 := cntL_le x0.1.2
  have hb0_3 := cntL_le x0.2.2
  have hn := loop_len x0
  have g0 := cntL_ints (loopOf x0).2.1
  have g1 := cntL_le (loopOf x0).2.2.1
  have g2 := cntL_ints (loopOf x0).2.2.2
  refine cj_enter Try.func3 Try.ntmps3 ?_
  repeat' (first
    | refine red ?_
    | refine redf fun hbi => ?_
    | refine reds ?_
    | refine redc fun r => ?_
    | refine redv fun sv => ?_
    | refine redn fun b => ?_
    | refine redz fun zs => ?_
    | refine redq (fun hc => ?_) (fun hc => ?_)
    | with_reducible refine wq_blk_o rfl ?_
    | (refine redd fun p cs as_ hcs has hf => ?_; simp only [Un.cells, Un.atoms, Un.fact, List.cons_append, List.nil_append] at hcs has hf; subst hcs has)
    | (refine redi (fun hc => ?_) (fun hc => ?_) <;> try first | (exfalso; omega) | exact absurd rfl hc)
    | ((refine wa_begin 10 [false, false, false, false, false] [] ?_ <;> (first | refine wa_f 0 fun hbi => ?_ | refine wa_p 0 ?_ | fail) <;> (first | refine wa_f 1 fun hbi => ?_ | refine wa_p 1 ?_ | fail) <;> (refine wa_do 2 ?_ <;> (repeat' (first | refine red ?_ | refine redc fun r => ?_ | refine redv fun sv => ?_ | refine redf fun hbi => ?_ | refine redn fun b => ?_ | refine reds ?_ | refine redi (fun hc => ?_) (fun hc => ?_) | fail))) <;> (refine wa_do 3 ?_ <;> (repeat' (first | refine red ?_ | refine redc fun r => ?_ | refine redv fun sv => ?_ | refine redf fun hbi => ?_ | refine redn fun b => ?_ | refine reds ?_ | refine redi (fun hc => ?_) (fun hc => ?_) | fail))) <;> (first | refine wa_p 4 ?_ | refine wa_p0 4 ?_ | (refine wa_do 4 ?_ <;> (repeat' (first | refine red ?_ | refine redc fun r => ?_ | refine redv fun sv => ?_ | refine redf fun hbi => ?_ | refine redn fun b => ?_ | refine reds ?_ | refine redi (fun hc => ?_) (fun hc => ?_) | fail))) | fail)) <;> refine wa_end ?_)
    | fail)
  all_goals exact ⟨(), rfl, ent_e⟩

end Go.Proofs.Ytjijabgiochefaa
