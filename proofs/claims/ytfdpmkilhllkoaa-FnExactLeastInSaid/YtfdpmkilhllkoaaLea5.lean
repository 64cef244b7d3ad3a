/- The least term that an automaton takes: the reference. -/
import Derived.Test.YtfdpmkilhllkoaaLea4
namespace Go.Proofs.Ytfdpmkilhllkoaa
open Go Go.Eng
set_option linter.unusedVariables false
set_option linter.unusedSimpArgs false
set_option synthInstance.maxHeartbeats 400000
set_option synthInstance.maxSize 1000
set_option maxHeartbeats 2000000
set_option maxRecDepth 20000


def ltT (a b : List Int) : Prop := a.length < b.length ∨ (a.length = b.length ∧ cmpL a b < 0)
instance {a b : List Int} : Decidable (ltT a b) := by unfold ltT; infer_instance
theorem LessTerm_spec {w0 : World} {Γ : List Atom} {v v1 : Value} {xs ys : List Int} [h : HasRd (List Int) repList Γ [v] xs] [h1 : HasRd (List Int) repList Γ [v1] ys] : CJ Try.prog 57 [v, v1] w0 Γ (fun _ : Unit => .bool (decide (ltT xs ys))) (fun _ => Γ) := by
  refine cj_lift (R := [.rd [v] xs, .rd [v1] ys]) (A := fun _ => []) (fun w1 => ?_) (reads_cons h (reads_cons h1 (inferInstance))) (fun _ => inferInstance)
  simp only [List.cons_append, List.nil_append]
  refine cj_len v fun hlx => ?_
  refine cj_len v1 fun hly => ?_
  refine cj_enter Try.func57 Try.ntmps57 ?_
  repeat' (first | refine red ?_ | refine redf fun hbi => ?_ | refine reds ?_ | (refine redc fun r => ?_; try have hr := Subtype.property r) | refine redp (fun r => ?_) (fun r => ?_) | refine redv fun sv => ?_ | refine redn fun b => ?_ | refine redz fun zs => ?_ | refine redq (fun hc => ?_) (fun hc => ?_) | with_reducible refine wq_blk_o rfl ?_ | (refine redi (fun hc => ?_) (fun hc => ?_) <;> try first | (exfalso; omega) | with_reducible first | exact absurd rfl hc | exact absurd hc Bool.false_ne_true | exact absurd hc Bool.false_ne_true.symm) | ((refine wa_begin 6 [false, false, false, false, false, false, false, false, false] [] ?_ <;> (first | refine wa_p 0 ?_ | refine wa_p0 0 ?_) <;> (first | refine wa_p 1 ?_ | refine wa_p0 1 ?_) <;> refine wa_p 2 ?_ <;> (first | refine wa_f 3 fun hbi => ?_ | refine wa_p 3 ?_ | fail) <;> (first | refine wa_p 4 ?_ | refine wa_p0 4 ?_) <;> (first | refine wa_p 5 ?_ | refine wa_p0 5 ?_) <;> refine wa_p 6 ?_ <;> (first | refine wa_f 7 fun hbi => ?_ | refine wa_p 7 ?_ | (refine wa_do 7 ?_ <;> (repeat' (first | refine red ?_ | (refine redc fun r => ?_; try have hr := Subtype.property r) | refine redv fun sv => ?_ | refine redf fun hbi => ?_ | refine redn fun b => ?_ | refine reds ?_ | refine redi (fun hc => ?_) (fun hc => ?_) | refine redq (fun hc => ?_) (fun hc => ?_) | refine redp (fun r => ?_) (fun r => ?_) | fail))) | fail) <;> (first | refine wa_p 8 ?_ | refine wa_p0 8 ?_ | (refine wa_do 8 ?_ <;> (repeat' (first | refine red ?_ | (refine redc fun r => ?_; try have hr := Subtype.property r) | refine redv fun sv => ?_ | refine redf fun hbi => ?_ | refine redn fun b => ?_ | refine reds ?_ | refine redi (fun hc => ?_) (fun hc => ?_) | refine redq (fun hc => ?_) (fun hc => ?_) | refine redp (fun r => ?_) (fun r => ?_) | fail))) | fail)) <;> (first | refine wa_end ?_ | with_reducible refine wq_keep ?_)) | ((refine wa_begin 7 [false, false, false, false, false, false, false, false, false, false] [] ?_ <;> (first | refine wa_p 0 ?_ | refine wa_p0 0 ?_) <;> (first | refine wa_p 1 ?_ | refine wa_p0 1 ?_) <;> refine wa_p 2 ?_ <;> (first | refine wa_f 3 fun hbi => ?_ | refine wa_p 3 ?_ | fail) <;> (first | refine wa_p 4 ?_ | refine wa_p0 4 ?_) <;> (first | refine wa_p 5 ?_ | refine wa_p0 5 ?_) <;> refine wa_p 6 ?_ <;> (first | refine wa_f 7 fun hbi => ?_ | refine wa_p 7 ?_ | (refine wa_do 7 ?_ <;> (repeat' (first | refine red ?_ | (refine redc fun r => ?_; try have hr := Subtype.property r) | refine redv fun sv => ?_ | refine redf fun hbi => ?_ | refine redn fun b => ?_ | refine reds ?_ | refine redi (fun hc => ?_) (fun hc => ?_) | refine redq (fun hc => ?_) (fun hc => ?_) | refine redp (fun r => ?_) (fun r => ?_) | fail))) | fail) <;> refine wa_p 8 ?_ <;> (first | refine wa_p 9 ?_ | refine wa_p0 9 ?_)) <;> (first | refine wa_end ?_ | with_reducible refine wq_keep ?_)) | fail)
  · exact ⟨(), congrArg Value.bool (decide_eq_decide.2 ⟨fun h => by unfold ltT at h; omega, fun h => .inl (by omega)⟩), ent_e⟩
  refine wc_loop_c [5] [16, 17, 18, 19, 22, 23, 24, 25, 26, 27, 28, 29, 30, 31, 32, 33, 34, 35, 36, 37, 38, 39, 4, 20, 21] (ι := Nat) (fun k => [.int .i64 k]) (fun k => k ≤ xs.length ∧ cmpL xs ys = cmpL (xs.drop k) (ys.drop k)) (fun k => xs.length - k) 0 (by kernel_rfl) ⟨Nat.zero_le _, rfl⟩ ?_
  intro k u l' hl' ⟨hk, hkk⟩
  simp only [patch, List.map_cons, List.map_nil, List.set_cons_zero, List.set_cons_succ] at hl'
  subst hl'
  have hxy : xs.length = ys.length := by omega
  have hx : k < xs.length → xs.drop k = xs.getD k 0 :: xs.drop (k + 1) := fun h => by
    rw [List.drop_eq_getElem_cons h, List.getD_eq_getElem?_getD, List.getElem?_eq_getElem h]; rfl
  have hy : k < ys.length → ys.drop k = ys.getD k 0 :: ys.drop (k + 1) := fun h => by
    rw [List.drop_eq_getElem_cons h, List.getD_eq_getElem?_getD, List.getElem?_eq_getElem h]; rfl
  repeat' (first | refine red ?_ | refine redf fun hbi => ?_ | refine reds ?_ | (refine redc fun r => ?_; try have hr := Subtype.property r) | refine redp (fun r => ?_) (fun r => ?_) | refine redv fun sv => ?_ | refine redn fun b => ?_ | refine redz fun zs => ?_ | refine redq (fun hc => ?_) (fun hc => ?_) | with_reducible refine wq_blk_o rfl ?_ | (refine redi (fun hc => ?_) (fun hc => ?_) <;> try first | (exfalso; omega) | with_reducible first | exact absurd rfl hc | exact absurd hc Bool.false_ne_true | exact absurd hc Bool.false_ne_true.symm) | ((refine wa_begin 6 [false, false, false, false, false, false, false, false, false] [] ?_ <;> (first | refine wa_p 0 ?_ | refine wa_p0 0 ?_) <;> (first | refine wa_p 1 ?_ | refine wa_p0 1 ?_) <;> refine wa_p 2 ?_ <;> (first | refine wa_f 3 fun hbi => ?_ | refine wa_p 3 ?_ | fail) <;> (first | refine wa_p 4 ?_ | refine wa_p0 4 ?_) <;> (first | refine wa_p 5 ?_ | refine wa_p0 5 ?_) <;> refine wa_p 6 ?_ <;> (first | refine wa_f 7 fun hbi => ?_ | refine wa_p 7 ?_ | (refine wa_do 7 ?_ <;> (repeat' (first | refine red ?_ | (refine redc fun r => ?_; try have hr := Subtype.property r) | refine redv fun sv => ?_ | refine redf fun hbi => ?_ | refine redn fun b => ?_ | refine reds ?_ | refine redi (fun hc => ?_) (fun hc => ?_) | refine redq (fun hc => ?_) (fun hc => ?_) | refine redp (fun r => ?_) (fun r => ?_) | fail))) | fail) <;> (first | refine wa_p 8 ?_ | refine wa_p0 8 ?_ | (refine wa_do 8 ?_ <;> (repeat' (first | refine red ?_ | (refine redc fun r => ?_; try have hr := Subtype.property r) | refine redv fun sv => ?_ | refine redf fun hbi => ?_ | refine redn fun b => ?_ | refine reds ?_ | refine redi (fun hc => ?_) (fun hc => ?_) | refine redq (fun hc => ?_) (fun hc => ?_) | refine redp (fun r => ?_) (fun r => ?_) | fail))) | fail)) <;> (first | refine wa_end ?_ | with_reducible refine wq_keep ?_)) | ((refine wa_begin 7 [false, false, false, false, false, false, false, false, false, false] [] ?_ <;> (first | refine wa_p 0 ?_ | refine wa_p0 0 ?_) <;> (first | refine wa_p 1 ?_ | refine wa_p0 1 ?_) <;> refine wa_p 2 ?_ <;> (first | refine wa_f 3 fun hbi => ?_ | refine wa_p 3 ?_ | fail) <;> (first | refine wa_p 4 ?_ | refine wa_p0 4 ?_) <;> (first | refine wa_p 5 ?_ | refine wa_p0 5 ?_) <;> refine wa_p 6 ?_ <;> (first | refine wa_f 7 fun hbi => ?_ | refine wa_p 7 ?_ | (refine wa_do 7 ?_ <;> (repeat' (first | refine red ?_ | (refine redc fun r => ?_; try have hr := Subtype.property r) | refine redv fun sv => ?_ | refine redf fun hbi => ?_ | refine redn fun b => ?_ | refine reds ?_ | refine redi (fun hc => ?_) (fun hc => ?_) | refine redq (fun hc => ?_) (fun hc => ?_) | refine redp (fun r => ?_) (fun r => ?_) | fail))) | fail) <;> refine wa_p 8 ?_ <;> (first | refine wa_p 9 ?_ | refine wa_p0 9 ?_)) <;> (first | refine wa_end ?_ | with_reducible refine wq_keep ?_)) | fail)
  · refine ⟨(), congrArg Value.bool (decide_eq_decide.2 ?_), ent_e⟩
    unfold ltT
    rw [hkk, hx (by omega), hy (by omega), cmpL]
    constructor
    · rintro (h | ⟨_, h⟩)
      · omega
      · split at h
        · assumption
        · split at h <;> omega
    · intro h
      rw [if_pos h]
      exact .inr ⟨hxy, by decide⟩
  · refine wq_next (k + 1) ⟨by omega, ?_⟩ (by omega) (by kernel_rfl) ent_e
    rw [hkk, hx (by omega), hy (by omega), hc]
    exact cmpL_tl (by unfold cmpI; rw [if_neg (by omega), if_neg (by omega)])
  · refine ⟨(), congrArg Value.bool (decide_eq_false ?_), ent_e⟩
    unfold ltT
    rw [hkk, show xs.drop k = [] from List.drop_of_length_le (by omega), show ys.drop k = [] from List.drop_of_length_le (by omega)]
    rintro (h | ⟨_, h⟩)
    · omega
    · simp [cmpL] at h
instance LessTerm_ctr {Γ : List Atom} {v v1 : Value} {xs ys : List Int} [h : HasRd (List Int) repList Γ [v] xs] [h1 : HasRd (List Int) repList Γ [v1] ys] :
    CtrC Try.prog 57 [v, v1] Γ (True) (Unit) (fun _ : Unit => .bool (decide (ltT xs ys))) (fun _ => Γ) := ⟨fun s w0 => LessTerm_spec⟩

end Go.Proofs.Ytfdpmkilhllkoaa
