/- Draws: two automata. -/
import Derived.Test.YtbbdjjlnachnlaaGreatDraw7
namespace Go.Proofs.YtbbdjjlnachnlaaGreat
open Go Go.Eng
set_option linter.unusedVariables false
set_option linter.unusedSimpArgs false
set_option synthInstance.maxHeartbeats 400000
set_option synthInstance.maxSize 1000
set_option maxHeartbeats 4000000
set_option maxRecDepth 20000


structure SgE (a : List Int) : Prop where
  len : 1 ≤ a.length ∧ a.length ≤ 8
  el : ∀ q ∈ a, 0 ≤ q ∧ q ≤ 3
theorem sgE_of {a : List Int} (h : sigOk a = true) : SgE a := by
  unfold sigOk at h
  rw [Bool.and_eq_true, decide_eq_true_iff, List.all_eq_true] at h
  exact ⟨h.1, fun q hq => by have := h.2 q hq; rwa [decide_eq_true_iff] at this⟩
theorem l23Draw8_spec {w0 : World} {Γ Δ : List Atom} {bc : Nat} {vb va : Value} {code : List UInt8} {p : CurS code} {a : List Int} [hb : PullBk Γ bc (cur vb p) Δ] [hv : HasRd (List UInt8) repList Δ [vb] code] [ha : HasRd (List Int) repList Δ [va] a] (h : SgE a) :
    CJ Tryz.prog 48 [.pointer (some ⟨bc, 0, none⟩), .agg #[va]] w0 Γ (fun q : { q : Value × Value × SAuto × CurS code // DrA q.2.2.1 } => .agg #[.int .i64 q.1.2.2.1.1, q.1.1, q.1.2.1]) (fun q => .ow [q.1.1] q.1.2.2.1.2.1 :: .ow [q.1.2.1] q.1.2.2.1.2.2 :: .bk bc (cur vb q.1.2.2.2) :: Δ) := by
  refine cj_perm hb.perm ?_
  have hal := h.len
  refine cj_enter Tryz.func48 Tryz.ntmps48 ?_
  repeat' (first | refine red ?_ | refine reds ?_ | (refine redc fun r => ?_; try have hr := Subtype.property r) | refine redn fun b => ?_ | fail)
  rename_i r1 hr1
  refine wc_loop_p [6] [20, 21, 24, 25, 26, 27, 28, 7, 29, 30, 8, 31, 32, 33, 34, 35, 38, 39, 40, 41, 42, 43, 44, 36, 37, 45, 46, 47, 48, 49, 50, 9, 10, 51, 52, 53, 54, 55, 56, 57, 60, 61, 62, 63, 64, 65, 66, 67, 68, 58, 59, 11, 12, 69, 70, 71, 72, 73, 76, 77, 78, 79, 80, 81, 82, 83, 84, 85, 86, 87, 88, 89, 90, 91, 92, 93, 94, 95, 96, 97, 74, 75, 98, 99, 100, 101, 102, 103, 104, 22, 23] (ι := Int × Value × List STrans × CurS code) (fun k => [.int .i64 k.1]) (fun k => [.bk b [.int .i64 (1 + r1.1.1), k.2.1, .slice none 0 0], .ow [k.2.1] k.2.2.1, .bk bc (cur vb k.2.2.2)]) (fun k => -1 ≤ k.1 ∧ k.1 + k.2.2.1.length ≤ 6 ∧ ∀ t ∈ k.2.2.1, t.2.1.length ≤ 10) (fun k => (k.1 + 1).toNat) (r.1.1, .slice none 0 0, [], r.1.2) [.bk b [.int .i64 (1 + r1.1.1), .slice none 0 0, .slice none 0 0], .ow [.slice none 0 0] ([] : List STrans), .bk bc (cur vb r.1.2)] (by kernel_rfl) ⟨by simp only; omega, by simp only [List.length_nil]; omega, fun t ht => by cases ht⟩ rfl ?_
  intro ⟨k, rv, rs, p1⟩ u l' hl' ⟨hk1, hk2, hk3⟩
  simp only [patch, List.map_cons, List.map_nil, List.set_cons_zero, List.set_cons_succ] at hl'
  subst hl'
  simp only [List.cons_append, List.nil_append] at hk1 hk2 hk3 ⊢
  repeat' (first | refine red ?_ | (refine redc fun r => ?_; try have hr := Subtype.property r) | refine redn fun b => ?_ | (refine redi (fun hc => ?_) (fun hc => ?_) <;> try first | (exfalso; omega) | exact absurd rfl hc) | fail)
  · refine wc_loop_c [7, 8] [31, 32, 33, 34, 35, 38, 39, 40, 41, 42, 43, 44, 36, 37] (ι := Int × Nat) (fun j => [.int .i64 j.1, .int .i64 j.2]) (fun j => (0 ≤ j.1 ∧ j.1 < a.length) ∧ j.2 ≤ a.length) (fun j => a.length - j.2) (r.1.1, 0) (by kernel_rfl) ⟨by simp only; omega, Nat.zero_le _⟩ ?_
    intro ⟨f, g⟩ u l' hl' ⟨hf, hg⟩
    simp only [patch, List.map_cons, List.map_nil, List.set_cons_zero, List.set_cons_succ] at hl'
    subst hl'
    simp only at hf hg ⊢
    repeat' (first | refine red ?_ | refine redf fun hbi => ?_ | refine reds ?_ | (refine redc fun r => ?_; try have hr := Subtype.property r) | refine redn fun b => ?_ | (refine redi (fun hc => ?_) (fun hc => ?_) <;> try first | (exfalso; omega) | exact absurd rfl hc) | fail)
    · exact wq_next ((g : Int), g + 1) ⟨by simp only; omega, by simp only; omega⟩ (by simp only; omega) (by kernel_rfl) ent_e
    · exact wq_next (f, g + 1) ⟨by simp only; omega, by simp only; omega⟩ (by simp only; omega) (by kernel_rfl) ent_e
    generalize hto : r.1.1 = to
    have hel := h.el _ (getK (k := (f).toNat) (xs := a) (by omega))
    refine wc_loop_p [10] [51, 52, 53, 54, 55, 56, 57, 60, 61, 62, 63, 64, 65, 66, 67, 68, 58, 59] (ι := Nat × Value × List Int × CurS code) (fun j => [.int .i64 j.1]) (fun j => [.bk b [.int .i64 f, j.2.1, .int .i64 to], .ow [j.2.1] j.2.2.1, .bk bc (cur vb j.2.2.2)]) (fun j => j.1 ≤ 3 ∧ j.2.2.1.length = j.1) (fun j => 4 - j.1) (0, .slice none 0 0, [], r.1.2) [.bk b [.int .i64 f, .slice none 0 0, .int .i64 to], .ow [.slice none 0 0] ([] : List Int), .bk bc (cur vb r.1.2)] (by kernel_rfl) ⟨by simp only; omega, rfl⟩ rfl ?_
    intro ⟨i, av, xs, p2⟩ u l' hl' ⟨hi1, hi2⟩
    simp only [patch, List.map_cons, List.map_nil, List.set_cons_zero, List.set_cons_succ] at hl'
    subst hl'
    simp only [List.cons_append, List.nil_append] at hi1 hi2 ⊢
    repeat' (first | refine red ?_ | refine redf fun hbi => ?_ | refine reds ?_ | (refine redi (fun hc => ?_) (fun hc => ?_) <;> try first | (exfalso; omega) | exact absurd rfl hc) | fail)
    · ((refine wa_beginc 16 [false, false, false, false, false, false, false, false, false, false] [7, 9] ?_ <;> (first | refine wa_p 0 ?_ | fail) <;> (first | refine wa_p 1 ?_ | fail) <;> refine wa_p 2 ?_ <;> (first | refine wa_p 3 ?_ | fail) <;> (first | refine wa_p 4 ?_ | fail) <;> (refine wa_do 5 ?_ <;> (repeat' (first | refine red ?_ | (refine redc fun r => ?_; try have hr := Subtype.property r) | fail))) <;> (refine wa_do 6 ?_ <;> (repeat' (first | refine red ?_ | refine redv fun sv => ?_ | fail))) <;> (refine wa_do 7 ?_ <;> (repeat' (first | refine red ?_ | refine redv fun sv => ?_ | fail))) <;> (first | refine wa_p0 8 ?_ | fail) <;> (refine wa_do 9 ?_ <;> (repeat' (first | refine red ?_ | fail)))) <;> (refine wa_end ?_))
      repeat' (first | refine red ?_ | refine reds ?_ | fail)
      exact wq_next (i + 1, sv, xs ++ [r.1.1], r.1.2) ⟨by simp only; omega, by simp only [List.length_append, List.length_singleton]; omega⟩ (by simp only; omega) (by kernel_rfl) ent_e
    refine wc_loop_c [11, 12] [69, 70, 71, 72, 73, 76, 77, 78, 79, 80, 81, 82, 83, 84, 85, 86, 87, 88, 89, 90, 91, 92, 93, 94, 95, 96, 97, 74, 75] (ι := Bool × Nat) (fun j => [.bool j.1, .int .i64 j.2]) (fun j => j.2 ≤ rs.length) (fun j => rs.length - j.2) (true, 0) (by kernel_rfl) (Nat.zero_le _) ?_
    intro ⟨fr, j⟩ u l' hl' hj
    simp only [patch, List.map_cons, List.map_nil, List.set_cons_zero, List.set_cons_succ] at hl'
    subst hl'
    simp only at hj ⊢
    cases fr
    · repeat' (first | refine red ?_ | refine reds ?_ | (refine redi (fun hc => ?_) (fun hc => ?_) <;> try first | (exfalso; omega) | exact absurd rfl hc) | fail)
      · ((refine wa_beginc 21 [false, false, false, false, false, false, false, false, false, false, false, false, false, false, false, false, false, false, false, false, false, false, false] [] ?_ <;> refine wa_p 0 ?_ <;> refine wa_p 1 ?_ <;> (first | refine wa_no 2 ?_ | fail) <;> (first | refine wa_no 3 ?_ | fail) <;> (first | refine wa_no 4 ?_ | fail) <;> (first | refine wa_no 5 ?_ | fail) <;> (first | refine wa_no 6 ?_ | fail) <;> (first | refine wa_no 7 ?_ | fail) <;> (refine wa_do 8 ?_ <;> (repeat' (first | refine red ?_ | fail))) <;> (first | refine wa_no 9 ?_ | fail) <;> (first | refine wa_no 10 ?_ | fail) <;> (first | refine wa_no 11 ?_ | fail) <;> (first | refine wa_no 12 ?_ | fail) <;> (first | refine wa_no 13 ?_ | fail) <;> (first | refine wa_no 14 ?_ | fail) <;> (first | refine wa_no 15 ?_ | fail) <;> (first | refine wa_no 16 ?_ | fail) <;> (first | refine wa_no 17 ?_ | fail) <;> (first | refine wa_no 18 ?_ | fail) <;> (first | refine wa_no 19 ?_ | fail) <;> (first | refine wa_no 20 ?_ | fail) <;> (first | refine wa_p 21 ?_ | fail) <;> refine wa_p 22 ?_) <;> (refine wa_end ?_))
        repeat' (first | refine red ?_ | refine reds ?_ | fail)
        exact wq_next (false, j + 1) (by simp only; omega) (by simp only; omega) (by kernel_rfl) ent_e
      · exact wq_next (k - 1, rv, rs, p2) ⟨by simp only; omega, by simp only; omega, hk3⟩ (by simp only; omega) (by kernel_rfl) ent_e
    · repeat' (first | refine red ?_ | refine reds ?_ | refine redv fun sv => ?_ | (refine redi (fun hc => ?_) (fun hc => ?_) <;> try first | (exfalso; omega) | exact absurd rfl hc) | fail)
      · refine wc_focus rv j (y := rs.getD j default) (getT? (by omega)) fun q hq => ?_
        simp only [UnO.cells, UnO.atoms, UnO.fact, List.cons_append, List.nil_append] at hq ⊢
        ((refine wa_beginc 21 [false, false, false, false, false, false, false, false, false, false, false, false, false, false, false, false, false, false, false, false, false, false, false] [] ?_ <;> refine wa_p 0 ?_ <;> refine wa_p 1 ?_ <;> (first | refine wa_pg 2 ?_ | fail) <;> (first | refine wa_pg 3 ?_ | fail) <;> (first | refine wa_pg 4 ?_ | fail) <;> (first | refine wa_pg 5 ?_ | fail) <;> (first | refine wa_pg 6 ?_ | fail) <;> (first | refine wa_pg 7 ?_ | fail) <;> (refine wa_do 8 ?_ <;> (repeat' (first | refine red ?_ | (refine redc fun r => ?_; try have hr := Subtype.property r) | fail))) <;> (first | refine wa_pg 9 ?_ | fail) <;> (first | (refine wa_if 85 (fun hc => ?_) (fun hc => ?_) <;> (try first | (exfalso; omega) | exact absurd rfl hc) <;> first | refine wa_pg 10 ?_ | refine wa_no 10 ?_) | fail) <;> (first | refine wa_pg 11 ?_ | refine wa_no 11 ?_ | fail) <;> (first | refine wa_pg 12 ?_ | refine wa_no 12 ?_ | fail) <;> (first | refine wa_pg 13 ?_ | refine wa_no 13 ?_ | fail) <;> (first | refine wa_pg 14 ?_ | refine wa_no 14 ?_ | fail) <;> (first | refine wa_pg 15 ?_ | refine wa_no 15 ?_ | fail) <;> (first | refine wa_pg 16 ?_ | refine wa_no 16 ?_ | fail) <;> (first | refine wa_pg 17 ?_ | refine wa_no 17 ?_ | fail) <;> (first | refine wa_pg 18 ?_ | refine wa_no 18 ?_ | fail) <;> (first | refine wa_pg 19 ?_ | fail) <;> (first | refine wa_pg 20 ?_ | fail) <;> (first | refine wa_p 21 ?_ | fail) <;> refine wa_p 22 ?_) <;> (refine wa_end ?_))
        · repeat' (first | refine red ?_ | refine reds ?_ | fail)
          refine wq_unfocus (Ε := ?Epx) rv (rs.getD j default) ?hpx ?_
          case hpx => exact own_cons (own_int hq.1) (own_cons (own_pull) (own_int hq.2.2))
          rw [set_getD]
          exact wq_next (!decide ((rs.getD j default).2.2 = to), j + 1) (by simp only; omega) (by simp only; omega) (by kernel_rfl) ent_e
        · repeat' (first | refine red ?_ | refine reds ?_ | fail)
          refine wq_unfocus (Ε := ?Epy) rv (rs.getD j default) ?hpy ?_
          case hpy => exact own_cons (own_int hq.1) (own_cons (own_pull) (own_int hq.2.2))
          rw [set_getD]
          exact wq_next (true, j + 1) (by simp only; omega) (by simp only; omega) (by kernel_rfl) ent_e
      · exact wq_next (k - 1, sv, rs ++ [(f, xs, to)], p2) ⟨by simp only; omega, by simp only [List.length_append, List.length_singleton]; omega, len_snoc hk3 (by omega)⟩ (by simp only; omega) (by kernel_rfl) ent_e
  · rename_i r2 hr2
    generalize hto : r.1.1 = to
    have hel := h.el _ (getK (k := (r2.1.1).toNat) (xs := a) (by omega))
    refine wc_loop_p [10] [51, 52, 53, 54, 55, 56, 57, 60, 61, 62, 63, 64, 65, 66, 67, 68, 58, 59] (ι := Nat × Value × List Int × CurS code) (fun j => [.int .i64 j.1]) (fun j => [.bk b [.int .i64 r2.1.1, j.2.1, .int .i64 to], .ow [j.2.1] j.2.2.1, .bk bc (cur vb j.2.2.2)]) (fun j => j.1 ≤ 3 ∧ j.2.2.1.length = j.1) (fun j => 4 - j.1) (0, .slice none 0 0, [], r.1.2) [.bk b [.int .i64 r2.1.1, .slice none 0 0, .int .i64 to], .ow [.slice none 0 0] ([] : List Int), .bk bc (cur vb r.1.2)] (by kernel_rfl) ⟨by simp only; omega, rfl⟩ rfl ?_
    intro ⟨i, av, xs, p2⟩ u l' hl' ⟨hi1, hi2⟩
    simp only [patch, List.map_cons, List.map_nil, List.set_cons_zero, List.set_cons_succ] at hl'
    subst hl'
    simp only [List.cons_append, List.nil_append] at hi1 hi2 ⊢
    repeat' (first | refine red ?_ | refine redf fun hbi => ?_ | refine reds ?_ | (refine redi (fun hc => ?_) (fun hc => ?_) <;> try first | (exfalso; omega) | exact absurd rfl hc) | fail)
    · ((refine wa_beginc 16 [false, false, false, false, false, false, false, false, false, false] [7, 9] ?_ <;> (first | refine wa_p 0 ?_ | fail) <;> (first | refine wa_p 1 ?_ | fail) <;> refine wa_p 2 ?_ <;> (first | refine wa_p 3 ?_ | fail) <;> (first | refine wa_p 4 ?_ | fail) <;> (refine wa_do 5 ?_ <;> (repeat' (first | refine red ?_ | (refine redc fun r => ?_; try have hr := Subtype.property r) | fail))) <;> (refine wa_do 6 ?_ <;> (repeat' (first | refine red ?_ | refine redv fun sv => ?_ | fail))) <;> (refine wa_do 7 ?_ <;> (repeat' (first | refine red ?_ | refine redv fun sv => ?_ | fail))) <;> (first | refine wa_p0 8 ?_ | fail) <;> (refine wa_do 9 ?_ <;> (repeat' (first | refine red ?_ | fail)))) <;> (refine wa_end ?_))
      repeat' (first | refine red ?_ | refine reds ?_ | fail)
      exact wq_next (i + 1, sv, xs ++ [r.1.1], r.1.2) ⟨by simp only; omega, by simp only [List.length_append, List.length_singleton]; omega⟩ (by simp only; omega) (by kernel_rfl) ent_e
    refine wc_loop_c [11, 12] [69, 70, 71, 72, 73, 76, 77, 78, 79, 80, 81, 82, 83, 84, 85, 86, 87, 88, 89, 90, 91, 92, 93, 94, 95, 96, 97, 74, 75] (ι := Bool × Nat) (fun j => [.bool j.1, .int .i64 j.2]) (fun j => j.2 ≤ rs.length) (fun j => rs.length - j.2) (true, 0) (by kernel_rfl) (Nat.zero_le _) ?_
    intro ⟨fr, j⟩ u l' hl' hj
    simp only [patch, List.map_cons, List.map_nil, List.set_cons_zero, List.set_cons_succ] at hl'
    subst hl'
    simp only at hj ⊢
    cases fr
    · repeat' (first | refine red ?_ | refine reds ?_ | (refine redi (fun hc => ?_) (fun hc => ?_) <;> try first | (exfalso; omega) | exact absurd rfl hc) | fail)
      · ((refine wa_beginc 21 [false, false, false, false, false, false, false, false, false, false, false, false, false, false, false, false, false, false, false, false, false, false, false] [] ?_ <;> refine wa_p 0 ?_ <;> refine wa_p 1 ?_ <;> (first | refine wa_no 2 ?_ | fail) <;> (first | refine wa_no 3 ?_ | fail) <;> (first | refine wa_no 4 ?_ | fail) <;> (first | refine wa_no 5 ?_ | fail) <;> (first | refine wa_no 6 ?_ | fail) <;> (first | refine wa_no 7 ?_ | fail) <;> (refine wa_do 8 ?_ <;> (repeat' (first | refine red ?_ | fail))) <;> (first | refine wa_no 9 ?_ | fail) <;> (first | refine wa_no 10 ?_ | fail) <;> (first | refine wa_no 11 ?_ | fail) <;> (first | refine wa_no 12 ?_ | fail) <;> (first | refine wa_no 13 ?_ | fail) <;> (first | refine wa_no 14 ?_ | fail) <;> (first | refine wa_no 15 ?_ | fail) <;> (first | refine wa_no 16 ?_ | fail) <;> (first | refine wa_no 17 ?_ | fail) <;> (first | refine wa_no 18 ?_ | fail) <;> (first | refine wa_no 19 ?_ | fail) <;> (first | refine wa_no 20 ?_ | fail) <;> (first | refine wa_p 21 ?_ | fail) <;> refine wa_p 22 ?_) <;> (refine wa_end ?_))
        repeat' (first | refine red ?_ | refine reds ?_ | fail)
        exact wq_next (false, j + 1) (by simp only; omega) (by simp only; omega) (by kernel_rfl) ent_e
      · exact wq_next (k - 1, rv, rs, p2) ⟨by simp only; omega, by simp only; omega, hk3⟩ (by simp only; omega) (by kernel_rfl) ent_e
    · repeat' (first | refine red ?_ | refine reds ?_ | refine redv fun sv => ?_ | (refine redi (fun hc => ?_) (fun hc => ?_) <;> try first | (exfalso; omega) | exact absurd rfl hc) | fail)
      · refine wc_focus rv j (y := rs.getD j default) (getT? (by omega)) fun q hq => ?_
        simp only [UnO.cells, UnO.atoms, UnO.fact, List.cons_append, List.nil_append] at hq ⊢
        ((refine wa_beginc 21 [false, false, false, false, false, false, false, false, false, false, false, false, false, false, false, false, false, false, false, false, false, false, false] [] ?_ <;> refine wa_p 0 ?_ <;> refine wa_p 1 ?_ <;> (first | refine wa_pg 2 ?_ | fail) <;> (first | refine wa_pg 3 ?_ | fail) <;> (first | refine wa_pg 4 ?_ | fail) <;> (first | refine wa_pg 5 ?_ | fail) <;> (first | refine wa_pg 6 ?_ | fail) <;> (first | refine wa_pg 7 ?_ | fail) <;> (refine wa_do 8 ?_ <;> (repeat' (first | refine red ?_ | (refine redc fun r => ?_; try have hr := Subtype.property r) | fail))) <;> (first | refine wa_pg 9 ?_ | fail) <;> (first | (refine wa_if 85 (fun hc => ?_) (fun hc => ?_) <;> (try first | (exfalso; omega) | exact absurd rfl hc) <;> first | refine wa_pg 10 ?_ | refine wa_no 10 ?_) | fail) <;> (first | refine wa_pg 11 ?_ | refine wa_no 11 ?_ | fail) <;> (first | refine wa_pg 12 ?_ | refine wa_no 12 ?_ | fail) <;> (first | refine wa_pg 13 ?_ | refine wa_no 13 ?_ | fail) <;> (first | refine wa_pg 14 ?_ | refine wa_no 14 ?_ | fail) <;> (first | refine wa_pg 15 ?_ | refine wa_no 15 ?_ | fail) <;> (first | refine wa_pg 16 ?_ | refine wa_no 16 ?_ | fail) <;> (first | refine wa_pg 17 ?_ | refine wa_no 17 ?_ | fail) <;> (first | refine wa_pg 18 ?_ | refine wa_no 18 ?_ | fail) <;> (first | refine wa_pg 19 ?_ | fail) <;> (first | refine wa_pg 20 ?_ | fail) <;> (first | refine wa_p 21 ?_ | fail) <;> refine wa_p 22 ?_) <;> (refine wa_end ?_))
        · repeat' (first | refine red ?_ | refine reds ?_ | fail)
          refine wq_unfocus (Ε := ?Eqx) rv (rs.getD j default) ?hqx ?_
          case hqx => exact own_cons (own_int hq.1) (own_cons (own_pull) (own_int hq.2.2))
          rw [set_getD]
          exact wq_next (!decide ((rs.getD j default).2.2 = to), j + 1) (by simp only; omega) (by simp only; omega) (by kernel_rfl) ent_e
        · repeat' (first | refine red ?_ | refine reds ?_ | fail)
          refine wq_unfocus (Ε := ?Eqy) rv (rs.getD j default) ?hqy ?_
          case hqy => exact own_cons (own_int hq.1) (own_cons (own_pull) (own_int hq.2.2))
          rw [set_getD]
          exact wq_next (true, j + 1) (by simp only; omega) (by simp only; omega) (by kernel_rfl) ent_e
      · exact wq_next (k - 1, sv, rs ++ [(r2.1.1, xs, to)], p2) ⟨by simp only; omega, by simp only [List.length_append, List.length_singleton]; omega, len_snoc hk3 (by omega)⟩ (by simp only; omega) (by kernel_rfl) ent_e
  · refine wc_loop_p [13] [105, 106, 107, 108, 111, 112, 113, 114, 115, 116, 117, 118, 109, 110] (ι := Nat × Value × List Int × CurS code) (fun j => [.int .i64 j.1]) (fun j => [.bk b [.int .i64 (1 + r1.1.1), rv, j.2.1], .ow [j.2.1] j.2.2.1, .bk bc (cur vb j.2.2.2)]) (fun j => j.1 ≤ 16 ∧ j.2.2.1.length ≤ j.1) (fun j => 17 - j.1) (0, .slice none 0 0, [], p1) [.bk b [.int .i64 (1 + r1.1.1), rv, .slice none 0 0], .ow [.slice none 0 0] ([] : List Int), .bk bc (cur vb p1)] (by kernel_rfl) ⟨Nat.zero_le _, Nat.le_refl _⟩ rfl ?_
    intro ⟨i, fv, fs, p2⟩ u l' hl' ⟨hi1, hi2⟩
    simp only [patch, List.map_cons, List.map_nil, List.set_cons_zero, List.set_cons_succ] at hl'
    subst hl'
    simp only [List.cons_append, List.nil_append] at hi1 hi2 ⊢
    repeat' (first | refine red ?_ | refine reds ?_ | (refine redc fun r => ?_; try have hr := Subtype.property r) | refine redv fun sv => ?_ | (refine redi (fun hc => ?_) (fun hc => ?_) <;> try first | (exfalso; omega) | exact absurd rfl hc) | fail)
    · exact wq_next (i + 1, sv, fs ++ [(i : Int)], r.2) ⟨by simp only; omega, by simp only [List.length_append, List.length_singleton]; omega⟩ (by simp only; omega) (by kernel_rfl) ent_e
    · exact wq_next (i + 1, fv, fs, r.2) ⟨by simp only; omega, by simp only; omega⟩ (by simp only; omega) (by kernel_rfl) ent_e
    · exact ⟨⟨(rv, fv, (1 + r1.1.1, rs, fs), p2), ⟨by simp only; omega, by simp only; omega, by simp only; omega, hk3⟩⟩, rfl, ent_e⟩
instance l23Draw8_ctr {Γ Δ : List Atom} {bc : Nat} {vb va : Value} {code : List UInt8} {p : CurS code} {a : List Int} [hb : PullBk Γ bc (cur vb p) Δ] [hv : HasRd (List UInt8) repList Δ [vb] code] [ha : HasRd (List Int) repList Δ [va] a] :
    CtrC Tryz.prog 48 [.pointer (some ⟨bc, 0, none⟩), .agg #[va]] Γ (SgE a) ({ q : Value × Value × SAuto × CurS code // DrA q.2.2.1 }) (fun q : { q : Value × Value × SAuto × CurS code // DrA q.2.2.1 } => .agg #[.int .i64 q.1.2.2.1.1, q.1.1, q.1.2.1]) (fun q => .ow [q.1.1] q.1.2.2.1.2.1 :: .ow [q.1.2.1] q.1.2.2.1.2.2 :: .bk bc (cur vb q.1.2.2.2) :: Δ) := ⟨fun s w0 => l23Draw8_spec s⟩

attribute [local instance 2000] l23Draw8_ctr
theorem ent_dup {w0 : World} {Γ Δ : List Atom} {α : Type} {i : Rep α} (c : Value) {x : α} [hp : HasIm α i Γ [c] x] (h : Ent w0 (@Atom.rd α i [c] x :: Γ) Δ) : Ent w0 Γ Δ := fun w hs => h w (hs.addrd fun F h => hp.get h)
theorem DrawBothAuto_spec {w0 : World} {Γ : List Atom} {v : Value} {code : List UInt8} [hv : HasRd (List UInt8) repList Γ [v] code] :
    CJ Tryz.prog 15 [v] w0 Γ (fun q : Value × List Int × Value × Value × SAuto × Value × Value × SAuto => .tuple #[.agg #[q.1], .agg #[.int .i64 q.2.2.2.2.1.1, q.2.2.1, q.2.2.2.1], .agg #[.int .i64 q.2.2.2.2.2.2.2.1, q.2.2.2.2.2.1, q.2.2.2.2.2.2.1]]) (fun q => .rd [q.1] q.2.1 :: .rd [q.2.2.1] q.2.2.2.2.1.2.1 :: .rd [q.2.2.2.1] q.2.2.2.2.1.2.2 :: .rd [q.2.2.2.2.2.1] q.2.2.2.2.2.2.2.2.1 :: .rd [q.2.2.2.2.2.2.1] q.2.2.2.2.2.2.2.2.2 :: Γ) := by
  refine cj_enter Tryz.func15 Tryz.ntmps15 ?_
  repeat' (first | refine red ?_ | (refine redc fun r => ?_; try have hr := Subtype.property r) | refine redn fun b => ?_ | (refine redi (fun hc => ?_) (fun hc => ?_) <;> try first | (exfalso; omega) | exact absurd rfl hc) | fail)
  · rename_i r1 _
    ((refine wa_begind 4 [false, false, false, false, false, false] [] ?_ <;> refine wa_p 0 ?_ <;> (first | refine wa_p 1 ?_ | fail) <;> (first | refine wa_p 2 ?_ | fail) <;> (refine wa_do 3 ?_ <;> (repeat' (first | refine red ?_ | fail))) <;> (refine wa_do 4 ?_ <;> (repeat' (first | refine red ?_ | fail))) <;> (refine wa_do 5 ?_ <;> (repeat' (first | refine red ?_ | fail)))) <;> (refine wa_end ?_))
    all_goals (repeat' (first | refine red ?_ | fail))
    all_goals exact ⟨(r1.1, r1.2.1, r1.2.2.1, r1.2.2.2.1, r1.2.2.2.2.1, r1.2.2.1, r1.2.2.2.1, r1.2.2.2.2.1), rfl, ent_dup r1.2.2.1 (ent_dup r1.2.2.2.1 ent_e)⟩
  · rename_i r1 _
    have he := sgE_of hc
    ((refine wa_begind 5 [false, false, false, false, false, false, false, false] [] ?_ <;> refine wa_p 0 ?_ <;> (first | refine wa_p 1 ?_ | fail) <;> refine wa_p 2 ?_ <;> refine wa_p 3 ?_ <;> (refine wa_do 4 ?_ <;> (repeat' (first | refine red ?_ | (refine redc fun r => ?_; try have hr := Subtype.property r) | fail))) <;> (refine wa_do 5 ?_ <;> (repeat' (first | refine red ?_ | fail))) <;> (refine wa_do 6 ?_ <;> (repeat' (first | refine red ?_ | fail))) <;> (refine wa_do 7 ?_ <;> (repeat' (first | refine red ?_ | fail)))) <;> (refine wa_end ?_))
    all_goals (repeat' (first | refine red ?_ | fail))
    all_goals first
      | exact ⟨(r1.1, r1.2.1, r1.2.2.1, r1.2.2.2.1, r1.2.2.2.2.1, r.1.1, r.1.2.1, r.1.2.2.1), rfl, ent_rd r.1.1 (ent_rd r.1.2.1 ent_e)⟩
      | fail
instance DrawBothAuto_ctr {Γ : List Atom} {v : Value} {code : List UInt8} [hv : HasRd (List UInt8) repList Γ [v] code] :
    CtrC Tryz.prog 15 [v] Γ (True) (Value × List Int × Value × Value × SAuto × Value × Value × SAuto) (fun q : Value × List Int × Value × Value × SAuto × Value × Value × SAuto => .tuple #[.agg #[q.1], .agg #[.int .i64 q.2.2.2.2.1.1, q.2.2.1, q.2.2.2.1], .agg #[.int .i64 q.2.2.2.2.2.2.2.1, q.2.2.2.2.2.1, q.2.2.2.2.2.2.1]]) (fun q => .rd [q.1] q.2.1 :: .rd [q.2.2.1] q.2.2.2.2.1.2.1 :: .rd [q.2.2.2.1] q.2.2.2.2.1.2.2 :: .rd [q.2.2.2.2.2.1] q.2.2.2.2.2.2.2.2.1 :: .rd [q.2.2.2.2.2.2.1] q.2.2.2.2.2.2.2.2.2 :: Γ) := ⟨fun s w0 => DrawBothAuto_spec⟩

end Go.Proofs.YtbbdjjlnachnlaaGreat
