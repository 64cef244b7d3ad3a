/- Walks that are sequences of steps. -/
import Derived.Test.YtckbndcgkkohaaaL07c
namespace Go.Proofs.Ytckbndcgkkohaaa
open Go Go.Eng
set_option linter.unusedVariables false
set_option linter.unusedSimpArgs false

def walkR (x : SSystem) (t : List Int) : List SStep → Bool
  | [] => true
  | s :: ss => (stepAt x t s.1 s.2.1).isSome && (decide ((stepAt x t s.1 s.2.1).getD [] = s.2.2) && walkR x ((stepAt x t s.1 s.2.1).getD []) ss)
def walkGo (x : SSystem) (y : SWalk) : Bool := sysOk x && (termOk x.1 y.1 && (decide (y.2.length ≤ 60) && walkR x y.1 y.2))
theorem drop_getS {ss : List SStep} {k : Nat} (h : k < ss.length) : ss.drop k = ss.getD k default :: ss.drop (k + 1) := by
  rw [List.getD_eq_getElem?_getD, List.getElem?_eq_getElem h]
  exact List.drop_eq_getElem_cons h
theorem walkR_next {x : SSystem} {t : List Int} {s : SStep} {ss : List SStep} (h1 : (stepAt x t s.1 s.2.1).isSome = true) (h2 : (stepAt x t s.1 s.2.1).getD [] = s.2.2) : walkR x t (s :: ss) = walkR x ((stepAt x t s.1 s.2.1).getD []) ss := by
  conv => lhs; unfold walkR
  rw [h1, Bool.true_and, decide_eq_true h2, Bool.true_and]
theorem impl_walkOk_spec {w0 : World} {Γ : List Atom} {v0 v1 v2 v3 : Value} {x : SSystem} {y : SWalk} [h0 : HasRd (List Int) repList Γ [v0] x.1] [h1 : HasRd (List SRule) repList Γ [v1] x.2] [h2 : HasRd (List Int) repList Γ [v2] y.1] [h3 : HasRd (List SStep) repList Γ [v3] y.2] (hs : sysOk x = true) : CJ Try.prog 107 [.agg #[v0, v1], .agg #[v2, v3]] w0 Γ (fun _ : Unit => .bool (walkGo x y)) (fun _ => Γ) := by
  unfold walkGo
  rw [hs, Bool.true_and]
  refine cj_lift (R := [.rd [v0] x.1, .rd [v1] x.2, .rd [v2] y.1, .rd [v3] y.2]) (A := fun _ => []) (fun w1 => ?_) (reads_cons h0 (reads_cons h1 (reads_cons h2 (reads_cons h3 (inferInstance))))) (fun _ => inferInstance)
  simp only [List.cons_append, List.nil_append]
  refine cj_len v3 fun hlx => ?_
  refine cj_enter Try.func107 Try.ntmps107 ?_
  repeat' (first
    | refine red ?_
    | refine redf fun hbi => ?_
    | refine reds ?_
    | refine redc fun r => ?_
    | refine redv fun sv => ?_
    | refine redn fun b => ?_
    | refine redz fun zs => ?_
    | refine redq (fun hc => ?_) (fun hc => ?_)
    | with_reducible refine wq_blk_o rfl ?_
    | (refine redd fun p cs as_ hcs has hf => ?_; simp only [Un.cells, Un.atoms, Un.fact, List.cons_append, List.nil_append] at hcs has hf; subst hcs has)
    | (refine redi (fun hc => ?_) (fun hc => ?_) <;> try first | (exfalso; omega) | exact absurd rfl hc)
    | fail)
  · exact ⟨(), ret_bool (by rw [‹termOk x.1 y.1 = false›]; rfl), ent_e⟩
  · exact ⟨(), ret_bool (by rw [decide_eq_false (by omega : ¬ y.2.length ≤ 60), Bool.false_and, Bool.and_false]), ent_e⟩
  have hT : termOk x.1 y.1 = true := by assumption
  refine wc_dup [v2] ?_
  refine wc_loop_p [5, 27] [28, 29, 30, 7, 32, 33, 34, 35, 36, 37, 38, 31, 39, 40, 8, 9, 41, 42, 43, 44, 45, 46, 47, 48, 49, 4, 50, 51] (ι := Nat × Value × List Int) (fun k => [k.2.1, .int .i64 k.1]) (fun k => [.rd [k.2.1] k.2.2]) (fun k => k.1 ≤ y.2.length ∧ walkR x y.1 y.2 = walkR x k.2.2 (y.2.drop k.1)) (fun k => y.2.length - k.1) (0, v2, y.1) [.rd [v2] y.1] (by kernel_rfl) ⟨Nat.zero_le _, rfl⟩ rfl ?_
  intro ⟨k, tv, t⟩ u l' hl' ⟨hk, hkk⟩
  simp only [patch, List.map_cons, List.map_nil, List.set_cons_zero, List.set_cons_succ] at hl'
  subst hl'
  simp only [List.cons_append, List.nil_append] at hk hkk ⊢
  repeat' (first
    | refine red ?_
    | refine redf fun hbi => ?_
    | refine reds ?_
    | refine redc fun r => ?_
    | refine redv fun sv => ?_
    | refine redn fun b => ?_
    | refine redz fun zs => ?_
    | refine redq (fun hc => ?_) (fun hc => ?_)
    | with_reducible refine wq_blk_o rfl ?_
    | (refine redd fun p cs as_ hcs has hf => ?_; simp only [Un.cells, Un.atoms, Un.fact, List.cons_append, List.nil_append] at hcs has hf; subst hcs has)
    | (refine redi (fun hc => ?_) (fun hc => ?_) <;> try first | (exfalso; omega) | exact absurd rfl hc)
    | fail)
  · refine ⟨(), ret_bool ?_, ent_e⟩
    rw [hkk, drop_getS (by omega)]
    simp only [walkR, hc, Bool.false_and, Bool.and_false]
  · refine ⟨(), ret_bool ?_, ent_e⟩
    rw [hkk, drop_getS (by omega)]
    simp only [walkR, decide_eq_false hc, Bool.false_and, Bool.and_false]
  · rename Value => rv
    refine wq_share rv ?_
    exact wq_next (k + 1, rv, _) ⟨by simp only; omega, by rw [hkk, drop_getS (by omega), walkR_next ‹(stepAt _ _ _ _).isSome = true› hc]⟩ (by simp only; omega) (by kernel_rfl) ent_e
  · refine ⟨(), ret_bool ?_, ent_e⟩
    rw [hkk, List.drop_of_length_le (by omega), hT, decide_eq_true (by omega : y.2.length ≤ 60)]
    rfl
instance impl_walkOk_ctr {Γ : List Atom} {v0 v1 v2 v3 : Value} {x : SSystem} {y : SWalk} [h0 : HasRd (List Int) repList Γ [v0] x.1] [h1 : HasRd (List SRule) repList Γ [v1] x.2] [h2 : HasRd (List Int) repList Γ [v2] y.1] [h3 : HasRd (List SStep) repList Γ [v3] y.2] :
    CtrC Try.prog 107 [.agg #[v0, v1], .agg #[v2, v3]] Γ (sysOk x = true) (Unit) (fun _ : Unit => .bool (walkGo x y)) (fun _ => Γ) := ⟨fun s w0 => impl_walkOk_spec s⟩

theorem impl_WalkOk_spec {w0 : World} {Γ : List Atom} {v0 v1 v2 v3 : Value} {x : SSystem} {y : SWalk} [h0 : HasRd (List Int) repList Γ [v0] x.1] [h1 : HasRd (List SRule) repList Γ [v1] x.2] [h2 : HasRd (List Int) repList Γ [v2] y.1] [h3 : HasRd (List SStep) repList Γ [v3] y.2] : CJ Try.prog 43 [.agg #[v0, v1], .agg #[v2, v3]] w0 Γ (fun _ : Unit => .bool (walkGo x y)) (fun _ => Γ) := by
  refine cj_enter Try.func43 Try.ntmps43 ?_
  repeat' (first
    | refine red ?_
    | refine redf fun hbi => ?_
    | refine reds ?_
    | refine redc fun r => ?_
    | refine redv fun sv => ?_
    | refine redn fun b => ?_
    | refine redz fun zs => ?_
    | refine redq (fun hc => ?_) (fun hc => ?_)
    | with_reducible refine wq_blk_o rfl ?_
    | (refine redd fun p cs as_ hcs has hf => ?_; simp only [Un.cells, Un.atoms, Un.fact, List.cons_append, List.nil_append] at hcs has hf; subst hcs has)
    | (refine redi (fun hc => ?_) (fun hc => ?_) <;> try first | (exfalso; omega) | exact absurd rfl hc)
    | fail)
  · exact ⟨(), rfl, ent_e⟩
  · exact ⟨(), ret_bool (by unfold walkGo; rw [hc, Bool.false_and]), ent_e⟩
instance impl_WalkOk_ctr {Γ : List Atom} {v0 v1 v2 v3 : Value} {x : SSystem} {y : SWalk} [h0 : HasRd (List Int) repList Γ [v0] x.1] [h1 : HasRd (List SRule) repList Γ [v1] x.2] [h2 : HasRd (List Int) repList Γ [v2] y.1] [h3 : HasRd (List SStep) repList Γ [v3] y.2] :
    CtrC Try.prog 43 [.agg #[v0, v1], .agg #[v2, v3]] Γ (True) (Unit) (fun _ : Unit => .bool (walkGo x y)) (fun _ => Γ) := ⟨fun s w0 => impl_WalkOk_spec⟩

theorem spec_WalkOk_spec {w0 : World} {Γ : List Atom} {v0 v1 v2 v3 : Value} {x : SSystem} {y : SWalk} [h0 : HasRd (List Int) repList Γ [v0] x.1] [h1 : HasRd (List SRule) repList Γ [v1] x.2] [h2 : HasRd (List Int) repList Γ [v2] y.1] [h3 : HasRd (List SStep) repList Γ [v3] y.2] : CJ Try.prog 41 [.agg #[v0, v1], .agg #[v2, v3]] w0 Γ (fun _ : Unit => .bool (walkGo x y)) (fun _ => Γ) := by
  unfold walkGo
  refine cj_lift (R := [.rd [v0] x.1, .rd [v1] x.2, .rd [v2] y.1, .rd [v3] y.2]) (A := fun _ => []) (fun w1 => ?_) (reads_cons h0 (reads_cons h1 (reads_cons h2 (reads_cons h3 (inferInstance))))) (fun _ => inferInstance)
  simp only [List.cons_append, List.nil_append]
  refine cj_len v3 fun hlx => ?_
  refine cj_enter Try.func41 Try.ntmps41 ?_
  repeat' (first
    | refine red ?_
    | refine redf fun hbi => ?_
    | refine reds ?_
    | refine redc fun r => ?_
    | refine redv fun sv => ?_
    | refine redn fun b => ?_
    | refine redz fun zs => ?_
    | refine redq (fun hc => ?_) (fun hc => ?_)
    | with_reducible refine wq_blk_o rfl ?_
    | (refine redd fun p cs as_ hcs has hf => ?_; simp only [Un.cells, Un.atoms, Un.fact, List.cons_append, List.nil_append] at hcs has hf; subst hcs has)
    | (refine redi (fun hc => ?_) (fun hc => ?_) <;> try first | (exfalso; omega) | exact absurd rfl hc)
    | ((refine wa_begin 7 [false, false, false, false, false, false, false, false, false, false, false, false, false, false, false, false, false, false, false, false] [] ?_ <;> (first | refine wa_f 0 fun hbi => ?_ | refine wa_p 0 ?_ | fail) <;> (first | refine wa_p 1 ?_ | refine wa_p0 1 ?_ | fail) <;> (first | refine wa_p 2 ?_ | refine wa_p0 2 ?_ | fail) <;> (first | refine wa_f 3 fun hbi => ?_ | refine wa_p 3 ?_ | fail) <;> (first | refine wa_p 4 ?_ | refine wa_p0 4 ?_ | fail) <;> (first | refine wa_p 5 ?_ | (refine wa_deep 5 fun p cs as_ asb_ hcs has hasb hf => ?_; simp only [Un.cells, Un.atoms, Un.fact, List.cons_append, List.nil_append] at hcs has hasb hf; subst hcs has hasb) | fail) <;> (first | refine wa_p 6 ?_ | refine wa_p0 6 ?_ | fail) <;> (first | refine wa_f 7 fun hbi => ?_ | refine wa_p 7 ?_ | fail) <;> (first | refine wa_p 8 ?_ | refine wa_p0 8 ?_ | fail) <;> (first | refine wa_f 9 fun hbi => ?_ | refine wa_p 9 ?_ | fail) <;> (first | refine wa_p 10 ?_ | refine wa_p0 10 ?_ | fail) <;> (first | refine wa_p 11 ?_ | (refine wa_deep 11 fun p cs as_ asb_ hcs has hasb hf => ?_; simp only [Un.cells, Un.atoms, Un.fact, List.cons_append, List.nil_append] at hcs has hasb hf; subst hcs has hasb) | fail) <;> (first | refine wa_p 12 ?_ | refine wa_p0 12 ?_ | fail) <;> (first | refine wa_f 13 fun hbi => ?_ | refine wa_p 13 ?_ | fail) <;> (refine wa_do 14 ?_ <;> (repeat' (first | refine red ?_ | refine redc fun r => ?_ | refine redv fun sv => ?_ | refine redf fun hbi => ?_ | refine redn fun b => ?_ | refine reds ?_ | refine redi (fun hc => ?_) (fun hc => ?_) | fail))) <;> (first | refine wa_p 15 ?_ | refine wa_p0 15 ?_ | fail) <;> (first | refine wa_p 16 ?_ | refine wa_p0 16 ?_ | fail) <;> (first | refine wa_p 17 ?_ | refine wa_p0 17 ?_ | fail) <;> (first | refine wa_p 18 ?_ | refine wa_p0 18 ?_ | fail) <;> (first | refine wa_p 19 ?_ | refine wa_p0 19 ?_ | fail)) <;> refine wa_end ?_)
    | fail)
  · refine ⟨(), ret_bool ?_, ent_e⟩
    cases h8 : sysOk x with
    | false => rfl
    | true =>
      cases h9 : termOk x.1 y.1 with
      | false => rfl
      | true => exact absurd ⟨h8, h9⟩ hc
  · exact ⟨(), ret_bool (by rw [decide_eq_false (by omega : ¬ y.2.length ≤ 60), Bool.false_and, Bool.and_false, Bool.and_false]), ent_e⟩
  have hT : sysOk x = true ∧ termOk x.1 y.1 = true := by assumption
  refine wc_dup [v2] ?_
  refine wc_loop_p [5, 6] [22, 23, 24, 25, 26, 30, 31, 32, 33, 34, 35, 36, 37, 38, 39, 40, 41, 42, 43, 44, 29, 45, 46, 7, 8, 47, 48, 49, 50, 51, 52, 53, 54, 55, 56, 57, 58, 59, 4, 60, 27, 28] (ι := Nat × Value × List Int) (fun k => [k.2.1, .int .i64 k.1]) (fun k => [.rd [k.2.1] k.2.2]) (fun k => k.1 ≤ y.2.length ∧ walkR x y.1 y.2 = walkR x k.2.2 (y.2.drop k.1)) (fun k => y.2.length - k.1) (0, v2, y.1) [.rd [v2] y.1] (by kernel_rfl) ⟨Nat.zero_le _, rfl⟩ rfl ?_
  intro ⟨k, tv, t⟩ u l' hl' ⟨hk, hkk⟩
  simp only [patch, List.map_cons, List.map_nil, List.set_cons_zero, List.set_cons_succ] at hl'
  subst hl'
  simp only [List.cons_append, List.nil_append] at hk hkk ⊢
  repeat' (first
    | refine red ?_
    | refine redf fun hbi => ?_
    | refine reds ?_
    | refine redc fun r => ?_
    | refine redv fun sv => ?_
    | refine redn fun b => ?_
    | refine redz fun zs => ?_
    | refine redq (fun hc => ?_) (fun hc => ?_)
    | with_reducible refine wq_blk_o rfl ?_
    | (refine redd fun p cs as_ hcs has hf => ?_; simp only [Un.cells, Un.atoms, Un.fact, List.cons_append, List.nil_append] at hcs has hf; subst hcs has)
    | (refine redi (fun hc => ?_) (fun hc => ?_) <;> try first | (exfalso; omega) | exact absurd rfl hc)
    | ((refine wa_begin 7 [false, false, false, false, false, false, false, false, false, false, false, false, false, false, false, false, false, false, false, false] [] ?_ <;> (first | refine wa_f 0 fun hbi => ?_ | refine wa_p 0 ?_ | fail) <;> (first | refine wa_p 1 ?_ | refine wa_p0 1 ?_ | fail) <;> (first | refine wa_p 2 ?_ | refine wa_p0 2 ?_ | fail) <;> (first | refine wa_f 3 fun hbi => ?_ | refine wa_p 3 ?_ | fail) <;> (first | refine wa_p 4 ?_ | refine wa_p0 4 ?_ | fail) <;> (first | refine wa_p 5 ?_ | (refine wa_deep 5 fun p cs as_ asb_ hcs has hasb hf => ?_; simp only [Un.cells, Un.atoms, Un.fact, List.cons_append, List.nil_append] at hcs has hasb hf; subst hcs has hasb) | fail) <;> (first | refine wa_p 6 ?_ | refine wa_p0 6 ?_ | fail) <;> (first | refine wa_f 7 fun hbi => ?_ | refine wa_p 7 ?_ | fail) <;> (first | refine wa_p 8 ?_ | refine wa_p0 8 ?_ | fail) <;> (first | refine wa_f 9 fun hbi => ?_ | refine wa_p 9 ?_ | fail) <;> (first | refine wa_p 10 ?_ | refine wa_p0 10 ?_ | fail) <;> (first | refine wa_p 11 ?_ | (refine wa_deep 11 fun p cs as_ asb_ hcs has hasb hf => ?_; simp only [Un.cells, Un.atoms, Un.fact, List.cons_append, List.nil_append] at hcs has hasb hf; subst hcs has hasb) | fail) <;> (first | refine wa_p 12 ?_ | refine wa_p0 12 ?_ | fail) <;> (first | refine wa_f 13 fun hbi => ?_ | refine wa_p 13 ?_ | fail) <;> (refine wa_do 14 ?_ <;> (repeat' (first | refine red ?_ | refine redc fun r => ?_ | refine redv fun sv => ?_ | refine redf fun hbi => ?_ | refine redn fun b => ?_ | refine reds ?_ | refine redi (fun hc => ?_) (fun hc => ?_) | fail))) <;> (first | refine wa_p 15 ?_ | refine wa_p0 15 ?_ | fail) <;> (first | refine wa_p 16 ?_ | refine wa_p0 16 ?_ | fail) <;> (first | refine wa_p 17 ?_ | refine wa_p0 17 ?_ | fail) <;> (first | refine wa_p 18 ?_ | refine wa_p0 18 ?_ | fail) <;> (first | refine wa_p 19 ?_ | refine wa_p0 19 ?_ | fail)) <;> refine wa_end ?_)
    | fail)
  · refine ⟨(), ret_bool ?_, ent_e⟩
    rw [hkk, drop_getS (by omega)]
    simp only [walkR, hc, Bool.false_and, Bool.and_false]
  · refine ⟨(), ret_bool ?_, ent_e⟩
    rw [hkk, drop_getS (by omega)]
    simp only [walkR, decide_eq_false hc, Bool.false_and, Bool.and_false]
  · rename Value => rv
    refine wq_share rv ?_
    exact wq_next (k + 1, rv, _) ⟨by simp only; omega, by rw [hkk, drop_getS (by omega), walkR_next ‹(stepAt _ _ _ _).isSome = true› hc]⟩ (by simp only; omega) (by kernel_rfl) ent_e
  · refine ⟨(), ret_bool ?_, ent_e⟩
    rw [hkk, List.drop_of_length_le (by omega), hT.1, hT.2, decide_eq_true (by omega : y.2.length ≤ 60)]
    rfl
instance spec_WalkOk_ctr {Γ : List Atom} {v0 v1 v2 v3 : Value} {x : SSystem} {y : SWalk} [h0 : HasRd (List Int) repList Γ [v0] x.1] [h1 : HasRd (List SRule) repList Γ [v1] x.2] [h2 : HasRd (List Int) repList Γ [v2] y.1] [h3 : HasRd (List SStep) repList Γ [v3] y.2] :
    CtrC Try.prog 41 [.agg #[v0, v1], .agg #[v2, v3]] Γ (True) (Unit) (fun _ : Unit => .bool (walkGo x y)) (fun _ => Γ) := ⟨fun s w0 => spec_WalkOk_spec⟩

set_option maxHeartbeats 0 in
set_option synthInstance.maxHeartbeats 400000 in
set_option synthInstance.maxSize 1000 in
theorem FnExactWalkOk_law {w0 : World} {Γ : List Atom} {x0 : SSystem} {x1 : SWalk} {v0_0 v0_1 v1_0 v1_1 : Value} [h0_0 : HasRd (List Int) repList Γ [v0_0] x0.1] [h0_1 : HasRd (List SRule) repList Γ [v0_1] x0.2] [h1_0 : HasRd (List Int) repList Γ [v1_0] x1.1] [h1_1 : HasRd (List SStep) repList Γ [v1_1] x1.2] (hf0 : (x0.1.length ≤ 9223372036854775807) ∧ x0.2.length ≤ 9223372036854775807) (hf1 : (x1.1.length ≤ 9223372036854775807) ∧ x1.2.length ≤ 9223372036854775807) :
    CJ Try.prog 10 [.agg #[v0_0, v0_1], .agg #[v1_0, v1_1]] w0 Γ (fun _ : Unit => .bool true) (fun _ => Γ) := by
  have hz0 := lft_spec 1048576 (Siz.size x0)
  have hz1 := lft_spec (lft 1048576 (Siz.size x0)) (Siz.size x1)
  have hs0 : Siz.size x0 = Siz.size x0.1 + Siz.size x0.2 := by simp only [siz_pair, siz_int, siz_bool, siz_str] <;> omega
  have hb0_0 := cntL_le x0.1
  have hl0_0 := siz_ints x0.1
  have hb0_1 := cntL_le x0.2
  have hs1 : Siz.size x1 = Siz.size x1.1 + Siz.size x1.2 := by simp only [siz_pair, siz_int, siz_bool, siz_str] <;> omega
  have hb1_0 := cntL_le x1.1
  have hl1_0 := siz_ints x1.1
  have hb1_1 := cntL_le x1.2
  refine cj_enter Try.func10 Try.ntmps10 ?_
  repeat' (first
    | refine red ?_
    | refine redf fun hbi => ?_
    | refine reds ?_
    | refine redc fun r => ?_
    | refine redv fun sv => ?_
    | refine redn fun b => ?_
    | refine redz fun zs => ?_
    | refine redq (fun hc => ?_) (fun hc => ?_)
    | with_reducible refine wq_blk_o rfl ?_
    | (refine redd fun p cs as_ hcs has hf => ?_; simp only [Un.cells, Un.atoms, Un.fact, List.cons_append, List.nil_append] at hcs has hf; subst hcs has)
    | (refine redi (fun hc => ?_) (fun hc => ?_) <;> try first | (exfalso; omega) | exact absurd rfl hc)
    | ((refine wa_begin 8 [false, false, false, false, false, false] [] ?_ <;> (first | refine wa_f 0 fun hbi => ?_ | refine wa_p 0 ?_ | fail) <;> (first | refine wa_f 2 fun hbi => ?_ | refine wa_p 2 ?_ | fail) <;> (refine wa_do 1 ?_ <;> (repeat' (first | refine red ?_ | refine redc fun r => ?_ | refine redv fun sv => ?_ | refine redf fun hbi => ?_ | refine redn fun b => ?_ | refine reds ?_ | refine redi (fun hc => ?_) (fun hc => ?_) | fail))) <;> (refine wa_do 3 ?_ <;> (repeat' (first | refine red ?_ | refine redc fun r => ?_ | refine redv fun sv => ?_ | refine redf fun hbi => ?_ | refine redn fun b => ?_ | refine reds ?_ | refine redi (fun hc => ?_) (fun hc => ?_) | fail))) <;> (refine wa_do 4 ?_ <;> (repeat' (first | refine red ?_ | refine redc fun r => ?_ | refine redv fun sv => ?_ | refine redf fun hbi => ?_ | refine redn fun b => ?_ | refine reds ?_ | refine redi (fun hc => ?_) (fun hc => ?_) | fail))) <;> (first | refine wa_p 5 ?_ | refine wa_p0 5 ?_ | fail)) <;> refine wa_end ?_)
    | ((refine wa_begin 14 [false, false, false, false, false] [] ?_ <;> (first | refine wa_f 0 fun hbi => ?_ | refine wa_p 0 ?_ | fail) <;> (first | refine wa_f 1 fun hbi => ?_ | refine wa_p 1 ?_ | fail) <;> (refine wa_do 2 ?_ <;> (repeat' (first | refine red ?_ | refine redc fun r => ?_ | refine redv fun sv => ?_ | refine redf fun hbi => ?_ | refine redn fun b => ?_ | refine reds ?_ | refine redi (fun hc => ?_) (fun hc => ?_) | fail))) <;> (refine wa_do 3 ?_ <;> (repeat' (first | refine red ?_ | refine redc fun r => ?_ | refine redv fun sv => ?_ | refine redf fun hbi => ?_ | refine redn fun b => ?_ | refine reds ?_ | refine redi (fun hc => ?_) (fun hc => ?_) | fail))) <;> (first | refine wa_p 4 ?_ | refine wa_p0 4 ?_ | fail)) <;> refine wa_end ?_)
    | ((refine wa_begin 16 [false, false, false, false, false] [] ?_ <;> (first | refine wa_f 0 fun hbi => ?_ | refine wa_p 0 ?_ | fail) <;> (first | refine wa_f 1 fun hbi => ?_ | refine wa_p 1 ?_ | fail) <;> (refine wa_do 2 ?_ <;> (repeat' (first | refine red ?_ | refine redc fun r => ?_ | refine redv fun sv => ?_ | refine redf fun hbi => ?_ | refine redn fun b => ?_ | refine reds ?_ | refine redi (fun hc => ?_) (fun hc => ?_) | fail))) <;> (refine wa_do 3 ?_ <;> (repeat' (first | refine red ?_ | refine redc fun r => ?_ | refine redv fun sv => ?_ | refine redf fun hbi => ?_ | refine redn fun b => ?_ | refine reds ?_ | refine redi (fun hc => ?_) (fun hc => ?_) | fail))) <;> (first | refine wa_p 4 ?_ | refine wa_p0 4 ?_ | fail)) <;> refine wa_end ?_)
    | fail)
  all_goals exact ⟨(), rfl, ent_e⟩

end Go.Proofs.Ytckbndcgkkohaaa
