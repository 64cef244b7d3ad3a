/- The place that a strategy picks. -/
import Derived.Test.YtckbndcgkkohaaaEngQ
import Derived.Test.YtckbndcgkkohaaaL08b
namespace Go.Proofs.Ytckbndcgkkohaaa
open Go Go.Eng
set_option linter.unusedVariables false
set_option linter.unusedSimpArgs false

def redF (x : SSystem) (t : List Int) (k r : Nat) : Nat := if redN x t k r = true then 1 else 0
theorem redF_pos {x : SSystem} {t : List Int} {k r : Nat} : 0 < redF x t k r ↔ redN x t k r = true := by
  unfold redF
  split <;> simp [*]
/-- The smallest rule with a redex at a place, or -1. -/
def firstRed (x : SSystem) (t : List Int) (k : Nat) : Int := firstFrom (redF x t k) 0 x.2.length
theorem firstFrom_b (f : Nat → Nat) : ∀ n k, -1 ≤ firstFrom f k n ∧ firstFrom f k n < (k + n : Nat)
  | 0, k => by simp only [firstFrom]; omega
  | n + 1, k => by
    have := firstFrom_b f n (k + 1)
    unfold firstFrom
    split
    · omega
    · omega
theorem ruleAtX {w0 : World} {Γ : List Atom} {v0 v1 v : Value} {x : SSystem} {t : List Int} {at_ : Int} [h0 : HasRd (List Int) repList Γ [v0] x.1] [h1 : HasRd (List SRule) repList Γ [v1] x.2] [h2 : HasRd (List Int) repList Γ [v] t] (hs : sysOk x = true ∧ termOk x.1 t = true ∧ 0 ≤ at_ ∧ at_ < t.length) : CJ Try.prog 90 [.agg #[v0, v1], v, .int .i64 at_] w0 Γ (fun _ : Unit => .int .i64 (firstRed x t at_.toNat)) (fun _ => Γ) := by
  obtain ⟨hs1, hs2, hs3, hs4⟩ := hs
  have hl1 := (sysOk_iff.1 hs1).1.2
  refine cj_enter Try.func90 Try.ntmps90 ?_
  repeat' (first
    | refine red ?_
    | refine redf fun hbi => ?_
    | refine reds ?_
    | refine redc fun r => ?_
    | refine redv fun sv => ?_
    | refine redn fun b => ?_
    | refine redz fun zs => ?_
    | refine redq (fun hc => ?_) (fun hc => ?_)
    | with_reducible refine wq_blk_o rfl ?_
    | (refine redd fun p cs as_ hcs has hf => ?_; simp only [Un.cells, Un.atoms, Un.fact, List.cons_append, List.nil_append] at hcs has hf; subst hcs has)
    | (refine redi (fun hc => ?_) (fun hc => ?_) <;> try first | (exfalso; omega) | exact absurd rfl hc)
    | fail)
  refine wc_loop_c [11] [12, 13, 7, 14, 15, 16, 17, 18, 19, 6, 20] (ι := Nat) (fun k => [.int .i64 k]) (fun k => k ≤ x.2.length ∧ firstRed x t at_.toNat = firstFrom (redF x t at_.toNat) k (x.2.length - k)) (fun k => x.2.length - k) 0 (by kernel_rfl) ⟨Nat.zero_le _, rfl⟩ ?_
  intro k u l' hl' ⟨hk, hkk⟩
  simp only [patch, List.map_cons, List.map_nil, List.set_cons_zero, List.set_cons_succ] at hl'
  subst hl'
  by_cases hlt : k < x.2.length
  · have hred : RedP x t at_ (k : Int) := ⟨hs1, ⟨hs2, hs3, hs4⟩, by omega, by omega⟩
    repeat' (first
      | refine red ?_
      | refine redf fun hbi => ?_
      | refine reds ?_
      | refine redc fun r => ?_
      | refine redv fun sv => ?_
      | refine redn fun b => ?_
      | refine redz fun zs => ?_
      | refine redq (fun hc => ?_) (fun hc => ?_)
      | with_reducible refine wq_blk_o rfl ?_
      | (refine redd fun p cs as_ hcs has hf => ?_; simp only [Un.cells, Un.atoms, Un.fact, List.cons_append, List.nil_append] at hcs has hf; subst hcs has)
      | (refine redi (fun hc => ?_) (fun hc => ?_) <;> try first | (exfalso; omega) | exact absurd rfl hc)
      | fail)
    · have hh : redN x t at_.toNat k = true := hc
      exact ⟨(), ret_int (by rw [hkk, first_yes hlt (redF_pos.2 hh)]), ent_e⟩
    · have hh : redN x t at_.toNat k = false := hc
      exact wq_next (k + 1) ⟨by omega, by rw [hkk, first_no hlt (fun h => by rw [redF_pos.1 h] at hh; cases hh)]⟩ (by omega) (by kernel_rfl) ent_e
  · repeat' (first
      | refine red ?_
      | refine redf fun hbi => ?_
      | refine reds ?_
      | refine redc fun r => ?_
      | refine redv fun sv => ?_
      | refine redn fun b => ?_
      | refine redz fun zs => ?_
      | refine redq (fun hc => ?_) (fun hc => ?_)
      | with_reducible refine wq_blk_o rfl ?_
      | (refine redd fun p cs as_ hcs has hf => ?_; simp only [Un.cells, Un.atoms, Un.fact, List.cons_append, List.nil_append] at hcs has hf; subst hcs has)
      | (refine redi (fun hc => ?_) (fun hc => ?_) <;> try first | (exfalso; omega) | exact absurd rfl hc)
      | fail)
    exact ⟨(), ret_int (by rw [hkk, show x.2.length - k = 0 by omega]; rfl), ent_e⟩
theorem l8RedexX {w0 : World} {Γ : List Atom} {v0 v1 v : Value} {x : SSystem} {t : List Int} {at_ : Int} [h0 : HasRd (List Int) repList Γ [v0] x.1] [h1 : HasRd (List SRule) repList Γ [v1] x.2] [h2 : HasRd (List Int) repList Γ [v] t] (hs : sysOk x = true ∧ termOk x.1 t = true ∧ 0 ≤ at_ ∧ at_ < t.length) : CJ Try.prog 87 [.agg #[v0, v1], v, .int .i64 at_] w0 Γ (fun _ : Unit => .int .i64 (firstRed x t at_.toNat)) (fun _ => Γ) := by
  refine cj_lift (R := [.rd [v0] x.1, .rd [v1] x.2, .rd [v] t]) (A := fun _ => []) (fun w1 => ?_) (reads_cons h0 (reads_cons h1 (reads_cons h2 (inferInstance)))) (fun _ => inferInstance)
  simp only [List.cons_append, List.nil_append]
  obtain ⟨hs1, hs2, hs3, hs4⟩ := hs
  have hl1 := (sysOk_iff.1 hs1).1.2
  have hT := subt_ok hs2 (k := at_.toNat) (by omega)
  refine cj_enter Try.func87 Try.ntmps87 ?_
  repeat' (first
    | refine red ?_
    | refine redf fun hbi => ?_
    | refine reds ?_
    | refine redc fun r => ?_
    | refine redv fun sv => ?_
    | refine redn fun b => ?_
    | refine redz fun zs => ?_
    | refine redq (fun hc => ?_) (fun hc => ?_)
    | with_reducible refine wq_blk_o rfl ?_
    | (refine redd fun p cs as_ hcs has hf => ?_; simp only [Un.cells, Un.atoms, Un.fact, List.cons_append, List.nil_append] at hcs has hf; subst hcs has)
    | (refine redi (fun hc => ?_) (fun hc => ?_) <;> try first | (exfalso; omega) | exact absurd rfl hc)
    | ((refine wa_begin 5 [false, false, false, false, false, false, false, false, false, false, false, false, false, false, false, false] [] ?_ <;> (first | refine wa_p 0 ?_ | refine wa_p0 0 ?_ | fail) <;> (first | refine wa_f 1 fun hbi => ?_ | refine wa_p 1 ?_ | fail) <;> (first | refine wa_p 2 ?_ | refine wa_p0 2 ?_ | fail) <;> (first | refine wa_f 3 fun hbi => ?_ | refine wa_p 3 ?_ | fail) <;> (first | refine wa_p 4 ?_ | refine wa_p0 4 ?_ | fail) <;> (first | refine wa_p 5 ?_ | (refine wa_deep 5 fun p cs as_ asb_ hcs has hasb hf => ?_; simp only [Un.cells, Un.atoms, Un.fact, List.cons_append, List.nil_append] at hcs has hasb hf; subst hcs has hasb) | fail) <;> (first | refine wa_p 6 ?_ | refine wa_p0 6 ?_ | fail) <;> (first | refine wa_f 7 fun hbi => ?_ | refine wa_p 7 ?_ | fail) <;> (first | refine wa_p 8 ?_ | refine wa_p0 8 ?_ | fail) <;> (refine wa_two 9 13 ?_ ?_; rotate_right; (focus ((repeat' (first | refine red ?_ | refine redc fun r => ?_ | refine redv fun sv => ?_ | refine redf fun hbi => ?_ | refine redn fun b => ?_ | refine reds ?_ | refine redi (fun hc => ?_) (fun hc => ?_) | fail)) <;> (refine wa_do 9 ?_ <;> (repeat' (first | refine red ?_ | refine redc fun r => ?_ | refine redv fun sv => ?_ | refine redf fun hbi => ?_ | refine redn fun b => ?_ | refine reds ?_ | refine redi (fun hc => ?_) (fun hc => ?_) | fail))) <;> (first | refine wa_p 10 ?_ | refine wa_p0 10 ?_ | (refine wa_do 10 ?_ <;> (repeat' (first | refine red ?_ | refine redc fun r => ?_ | refine redv fun sv => ?_ | refine redf fun hbi => ?_ | refine redn fun b => ?_ | refine reds ?_ | refine redi (fun hc => ?_) (fun hc => ?_) | fail))) | fail) <;> (first | refine wa_p 11 ?_ | refine wa_p0 11 ?_ | fail) <;> (first | refine wa_p 12 ?_ | refine wa_p0 12 ?_ | fail) <;> (refine wa_do 14 ?_ <;> (repeat' (first | refine red ?_ | refine redc fun r => ?_ | refine redv fun sv => ?_ | refine redf fun hbi => ?_ | refine redn fun b => ?_ | refine reds ?_ | refine redi (fun hc => ?_) (fun hc => ?_) | fail))) <;> (first | refine wa_p 15 ?_ | refine wa_p0 15 ?_ | (refine wa_do 15 ?_ <;> (repeat' (first | refine red ?_ | refine redc fun r => ?_ | refine redv fun sv => ?_ | refine redf fun hbi => ?_ | refine redn fun b => ?_ | refine reds ?_ | refine redi (fun hc => ?_) (fun hc => ?_) | fail))) | fail))); rotate_right; (focus ((repeat' (first | refine red ?_ | refine redc fun r => ?_ | refine redv fun sv => ?_ | refine redf fun hbi => ?_ | refine redn fun b => ?_ | refine reds ?_ | refine redi (fun hc => ?_) (fun hc => ?_) | fail)) <;> (first | refine wa_p 10 ?_ | refine wa_p0 10 ?_ | fail) <;> (first | refine wa_p 11 ?_ | refine wa_p0 11 ?_ | fail) <;> (first | refine wa_p 12 ?_ | refine wa_p0 12 ?_ | fail) <;> (refine wa_do 13 ?_ <;> (repeat' (first | refine red ?_ | refine redc fun r => ?_ | refine redv fun sv => ?_ | refine redf fun hbi => ?_ | refine redn fun b => ?_ | refine reds ?_ | refine redi (fun hc => ?_) (fun hc => ?_) | fail))) <;> (refine wa_do 14 ?_ <;> (repeat' (first | refine red ?_ | refine redc fun r => ?_ | refine redv fun sv => ?_ | refine redf fun hbi => ?_ | refine redn fun b => ?_ | refine reds ?_ | refine redi (fun hc => ?_) (fun hc => ?_) | fail))) <;> (first | refine wa_p 15 ?_ | refine wa_p0 15 ?_ | (refine wa_do 15 ?_ <;> (repeat' (first | refine red ?_ | refine redc fun r => ?_ | refine redv fun sv => ?_ | refine redf fun hbi => ?_ | refine redn fun b => ?_ | refine reds ?_ | refine redi (fun hc => ?_) (fun hc => ?_) | fail))) | fail))))) <;> refine wa_end ?_)
    | fail)
  refine wc_loop_c [8] [16, 17, 18, 19, 20, 24, 25, 26, 27, 28, 29, 30, 31, 32, 33, 23, 34, 35, 9, 10, 36, 37, 6, 21, 22] (ι := Nat) (fun k => [.int .i64 k]) (fun k => k ≤ x.2.length ∧ firstRed x t at_.toNat = firstFrom (redF x t at_.toNat) k (x.2.length - k)) (fun k => x.2.length - k) 0 (by kernel_rfl) ⟨Nat.zero_le _, rfl⟩ ?_
  intro k u l' hl' ⟨hk, hkk⟩
  simp only [patch, List.map_cons, List.map_nil, List.set_cons_zero, List.set_cons_succ] at hl'
  subst hl'
  by_cases hlt : k < x.2.length
  · have hL := sys_left hs1 hlt
    repeat' (first
      | refine red ?_
      | refine redf fun hbi => ?_
      | refine reds ?_
      | refine redc fun r => ?_
      | refine redv fun sv => ?_
      | refine redn fun b => ?_
      | refine redz fun zs => ?_
      | refine redq (fun hc => ?_) (fun hc => ?_)
      | with_reducible refine wq_blk_o rfl ?_
      | (refine redd fun p cs as_ hcs has hf => ?_; simp only [Un.cells, Un.atoms, Un.fact, List.cons_append, List.nil_append] at hcs has hf; subst hcs has)
      | (refine redi (fun hc => ?_) (fun hc => ?_) <;> try first | (exfalso; omega) | exact absurd rfl hc)
      | ((refine wa_begin 5 [false, false, false, false, false, false, false, false, false, false, false, false, false, false, false, false] [] ?_ <;> (first | refine wa_p 0 ?_ | refine wa_p0 0 ?_ | fail) <;> (first | refine wa_f 1 fun hbi => ?_ | refine wa_p 1 ?_ | fail) <;> (first | refine wa_p 2 ?_ | refine wa_p0 2 ?_ | fail) <;> (first | refine wa_f 3 fun hbi => ?_ | refine wa_p 3 ?_ | fail) <;> (first | refine wa_p 4 ?_ | refine wa_p0 4 ?_ | fail) <;> (first | refine wa_p 5 ?_ | (refine wa_deep 5 fun p cs as_ asb_ hcs has hasb hf => ?_; simp only [Un.cells, Un.atoms, Un.fact, List.cons_append, List.nil_append] at hcs has hasb hf; subst hcs has hasb) | fail) <;> (first | refine wa_p 6 ?_ | refine wa_p0 6 ?_ | fail) <;> (first | refine wa_f 7 fun hbi => ?_ | refine wa_p 7 ?_ | fail) <;> (first | refine wa_p 8 ?_ | refine wa_p0 8 ?_ | fail) <;> (refine wa_two 9 13 ?_ ?_; rotate_right; (focus ((repeat' (first | refine red ?_ | refine redc fun r => ?_ | refine redv fun sv => ?_ | refine redf fun hbi => ?_ | refine redn fun b => ?_ | refine reds ?_ | refine redi (fun hc => ?_) (fun hc => ?_) | fail)) <;> (refine wa_do 9 ?_ <;> (repeat' (first | refine red ?_ | refine redc fun r => ?_ | refine redv fun sv => ?_ | refine redf fun hbi => ?_ | refine redn fun b => ?_ | refine reds ?_ | refine redi (fun hc => ?_) (fun hc => ?_) | fail))) <;> (first | refine wa_p 10 ?_ | refine wa_p0 10 ?_ | (refine wa_do 10 ?_ <;> (repeat' (first | refine red ?_ | refine redc fun r => ?_ | refine redv fun sv => ?_ | refine redf fun hbi => ?_ | refine redn fun b => ?_ | refine reds ?_ | refine redi (fun hc => ?_) (fun hc => ?_) | fail))) | fail) <;> (first | refine wa_p 11 ?_ | refine wa_p0 11 ?_ | fail) <;> (first | refine wa_p 12 ?_ | refine wa_p0 12 ?_ | fail) <;> (refine wa_do 14 ?_ <;> (repeat' (first | refine red ?_ | refine redc fun r => ?_ | refine redv fun sv => ?_ | refine redf fun hbi => ?_ | refine redn fun b => ?_ | refine reds ?_ | refine redi (fun hc => ?_) (fun hc => ?_) | fail))) <;> (first | refine wa_p 15 ?_ | refine wa_p0 15 ?_ | (refine wa_do 15 ?_ <;> (repeat' (first | refine red ?_ | refine redc fun r => ?_ | refine redv fun sv => ?_ | refine redf fun hbi => ?_ | refine redn fun b => ?_ | refine reds ?_ | refine redi (fun hc => ?_) (fun hc => ?_) | fail))) | fail))); rotate_right; (focus ((repeat' (first | refine red ?_ | refine redc fun r => ?_ | refine redv fun sv => ?_ | refine redf fun hbi => ?_ | refine redn fun b => ?_ | refine reds ?_ | refine redi (fun hc => ?_) (fun hc => ?_) | fail)) <;> (first | refine wa_p 10 ?_ | refine wa_p0 10 ?_ | fail) <;> (first | refine wa_p 11 ?_ | refine wa_p0 11 ?_ | fail) <;> (first | refine wa_p 12 ?_ | refine wa_p0 12 ?_ | fail) <;> (refine wa_do 13 ?_ <;> (repeat' (first | refine red ?_ | refine redc fun r => ?_ | refine redv fun sv => ?_ | refine redf fun hbi => ?_ | refine redn fun b => ?_ | refine reds ?_ | refine redi (fun hc => ?_) (fun hc => ?_) | fail))) <;> (refine wa_do 14 ?_ <;> (repeat' (first | refine red ?_ | refine redc fun r => ?_ | refine redv fun sv => ?_ | refine redf fun hbi => ?_ | refine redn fun b => ?_ | refine reds ?_ | refine redi (fun hc => ?_) (fun hc => ?_) | fail))) <;> (first | refine wa_p 15 ?_ | refine wa_p0 15 ?_ | (refine wa_do 15 ?_ <;> (repeat' (first | refine red ?_ | refine redc fun r => ?_ | refine redv fun sv => ?_ | refine redf fun hbi => ?_ | refine redn fun b => ?_ | refine reds ?_ | refine redi (fun hc => ?_) (fun hc => ?_) | fail))) | fail))))) <;> refine wa_end ?_)
      | fail)
    all_goals first
      | (have hh : redN x t at_.toNat k = true := hc
         exact ⟨(), ret_int (by rw [hkk, first_yes hlt (redF_pos.2 hh)]), ent_e⟩)
      | (have hh : redN x t at_.toNat k = false := hc
         exact wq_next (k + 1) ⟨by omega, by rw [hkk, first_no hlt (fun h => by rw [redF_pos.1 h] at hh; cases hh)]⟩ (by omega) (by kernel_rfl) ent_e)
  · repeat' (first
      | refine red ?_
      | refine redf fun hbi => ?_
      | refine reds ?_
      | refine redc fun r => ?_
      | refine redv fun sv => ?_
      | refine redn fun b => ?_
      | refine redz fun zs => ?_
      | refine redq (fun hc => ?_) (fun hc => ?_)
      | with_reducible refine wq_blk_o rfl ?_
      | (refine redd fun p cs as_ hcs has hf => ?_; simp only [Un.cells, Un.atoms, Un.fact, List.cons_append, List.nil_append] at hcs has hf; subst hcs has)
      | (refine redi (fun hc => ?_) (fun hc => ?_) <;> try first | (exfalso; omega) | exact absurd rfl hc)
      | ((refine wa_begin 5 [false, false, false, false, false, false, false, false, false, false, false, false, false, false, false, false] [] ?_ <;> (first | refine wa_p 0 ?_ | refine wa_p0 0 ?_ | fail) <;> (first | refine wa_f 1 fun hbi => ?_ | refine wa_p 1 ?_ | fail) <;> (first | refine wa_p 2 ?_ | refine wa_p0 2 ?_ | fail) <;> (first | refine wa_f 3 fun hbi => ?_ | refine wa_p 3 ?_ | fail) <;> (first | refine wa_p 4 ?_ | refine wa_p0 4 ?_ | fail) <;> (first | refine wa_p 5 ?_ | (refine wa_deep 5 fun p cs as_ asb_ hcs has hasb hf => ?_; simp only [Un.cells, Un.atoms, Un.fact, List.cons_append, List.nil_append] at hcs has hasb hf; subst hcs has hasb) | fail) <;> (first | refine wa_p 6 ?_ | refine wa_p0 6 ?_ | fail) <;> (first | refine wa_f 7 fun hbi => ?_ | refine wa_p 7 ?_ | fail) <;> (first | refine wa_p 8 ?_ | refine wa_p0 8 ?_ | fail) <;> (refine wa_two 9 13 ?_ ?_; rotate_right; (focus ((repeat' (first | refine red ?_ | refine redc fun r => ?_ | refine redv fun sv => ?_ | refine redf fun hbi => ?_ | refine redn fun b => ?_ | refine reds ?_ | refine redi (fun hc => ?_) (fun hc => ?_) | fail)) <;> (refine wa_do 9 ?_ <;> (repeat' (first | refine red ?_ | refine redc fun r => ?_ | refine redv fun sv => ?_ | refine redf fun hbi => ?_ | refine redn fun b => ?_ | refine reds ?_ | refine redi (fun hc => ?_) (fun hc => ?_) | fail))) <;> (first | refine wa_p 10 ?_ | refine wa_p0 10 ?_ | (refine wa_do 10 ?_ <;> (repeat' (first | refine red ?_ | refine redc fun r => ?_ | refine redv fun sv => ?_ | refine redf fun hbi => ?_ | refine redn fun b => ?_ | refine reds ?_ | refine redi (fun hc => ?_) (fun hc => ?_) | fail))) | fail) <;> (first | refine wa_p 11 ?_ | refine wa_p0 11 ?_ | fail) <;> (first | refine wa_p 12 ?_ | refine wa_p0 12 ?_ | fail) <;> (refine wa_do 14 ?_ <;> (repeat' (first | refine red ?_ | refine redc fun r => ?_ | refine redv fun sv => ?_ | refine redf fun hbi => ?_ | refine redn fun b => ?_ | refine reds ?_ | refine redi (fun hc => ?_) (fun hc => ?_) | fail))) <;> (first | refine wa_p 15 ?_ | refine wa_p0 15 ?_ | (refine wa_do 15 ?_ <;> (repeat' (first | refine red ?_ | refine redc fun r => ?_ | refine redv fun sv => ?_ | refine redf fun hbi => ?_ | refine redn fun b => ?_ | refine reds ?_ | refine redi (fun hc => ?_) (fun hc => ?_) | fail))) | fail))); rotate_right; (focus ((repeat' (first | refine red ?_ | refine redc fun r => ?_ | refine redv fun sv => ?_ | refine redf fun hbi => ?_ | refine redn fun b => ?_ | refine reds ?_ | refine redi (fun hc => ?_) (fun hc => ?_) | fail)) <;> (first | refine wa_p 10 ?_ | refine wa_p0 10 ?_ | fail) <;> (first | refine wa_p 11 ?_ | refine wa_p0 11 ?_ | fail) <;> (first | refine wa_p 12 ?_ | refine wa_p0 12 ?_ | fail) <;> (refine wa_do 13 ?_ <;> (repeat' (first | refine red ?_ | refine redc fun r => ?_ | refine redv fun sv => ?_ | refine redf fun hbi => ?_ | refine redn fun b => ?_ | refine reds ?_ | refine redi (fun hc => ?_) (fun hc => ?_) | fail))) <;> (refine wa_do 14 ?_ <;> (repeat' (first | refine red ?_ | refine redc fun r => ?_ | refine redv fun sv => ?_ | refine redf fun hbi => ?_ | refine redn fun b => ?_ | refine reds ?_ | refine redi (fun hc => ?_) (fun hc => ?_) | fail))) <;> (first | refine wa_p 15 ?_ | refine wa_p0 15 ?_ | (refine wa_do 15 ?_ <;> (repeat' (first | refine red ?_ | refine redc fun r => ?_ | refine redv fun sv => ?_ | refine redf fun hbi => ?_ | refine redn fun b => ?_ | refine reds ?_ | refine redi (fun hc => ?_) (fun hc => ?_) | fail))) | fail))))) <;> refine wa_end ?_)
      | fail)
    exact ⟨(), ret_int (by rw [hkk, show x.2.length - k = 0 by omega]; rfl), ent_e⟩

def stratOk (x : SSystem) (t : List Int) (s : Int) : Prop := sysOk x = true ∧ termOk x.1 t = true ∧ 1 ≤ s ∧ s ≤ 3
instance {x : SSystem} {t : List Int} {s : Int} : Decidable (stratOk x t s) := by unfold stratOk; infer_instance
def stratB (x : SSystem) (t : List Int) (s : Int) : Bool := decide (stratOk x t s)
instance {x : SSystem} {t : List Int} {s : Int} : BoolP (stratB x t s) (stratOk x t s) := ⟨decide_eq_true_iff⟩
instance {x : SSystem} {t : List Int} {s : Int} : BoolN (stratB x t s) (¬ stratOk x t s) := ⟨decide_eq_false_iff_not⟩
theorem strategyOk_spec {w0 : World} {Γ : List Atom} {v0 v1 v : Value} {x : SSystem} {t : List Int} {s : Int} [h0 : HasRd (List Int) repList Γ [v0] x.1] [h1 : HasRd (List SRule) repList Γ [v1] x.2] [h2 : HasRd (List Int) repList Γ [v] t] : CJ Try.prog 88 [.agg #[v0, v1], v, .int .i64 s] w0 Γ (fun _ : Unit => .bool (stratB x t s)) (fun _ => Γ) := by
  refine cj_enter Try.func88 Try.ntmps88 ?_
  repeat' (first
    | refine red ?_
    | refine redf fun hbi => ?_
    | refine reds ?_
    | refine redc fun r => ?_
    | refine redv fun sv => ?_
    | refine redn fun b => ?_
    | refine redz fun zs => ?_
    | refine redq (fun hc => ?_) (fun hc => ?_)
    | with_reducible refine wq_blk_o rfl ?_
    | (refine redd fun p cs as_ hcs has hf => ?_; simp only [Un.cells, Un.atoms, Un.fact, List.cons_append, List.nil_append] at hcs has hf; subst hcs has)
    | (refine redi (fun hc => ?_) (fun hc => ?_) <;> try first | (exfalso; omega) | exact absurd rfl hc)
    | fail)
  all_goals first
    | exact ⟨(), ret_bool (decide_eq_decide.2 ⟨fun h => h.2.2.2, fun h => ⟨by assumption, by assumption, by omega, h⟩⟩), ent_e⟩
    | exact ⟨(), ret_bool (decide_eq_false fun h => by have := h.2.2; omega), ent_e⟩
    | exact ⟨(), ret_bool (decide_eq_false fun h => by rw [h.2.1] at hc; cases hc), ent_e⟩
    | exact ⟨(), ret_bool (decide_eq_false fun h => by rw [h.1] at hc; cases hc), ent_e⟩
    | trace_state
instance strategyOk_ctr {Γ : List Atom} {v0 v1 v : Value} {x : SSystem} {t : List Int} {s : Int} [h0 : HasRd (List Int) repList Γ [v0] x.1] [h1 : HasRd (List SRule) repList Γ [v1] x.2] [h2 : HasRd (List Int) repList Γ [v] t] :
    CtrC Try.prog 88 [.agg #[v0, v1], v, .int .i64 s] Γ (True) (Unit) (fun _ : Unit => .bool (stratB x t s)) (fun _ => Γ) := ⟨fun s w0 => strategyOk_spec⟩

theorem l8Right_spec {w0 : World} {Γ : List Atom} {v0 v1 v : Value} {x : SSystem} {t : List Int} {s : Int} [h0 : HasRd (List Int) repList Γ [v0] x.1] [h1 : HasRd (List SRule) repList Γ [v1] x.2] [h2 : HasRd (List Int) repList Γ [v] t] : CJ Try.prog 85 [.agg #[v0, v1], v, .int .i64 s] w0 Γ (fun _ : Unit => .bool (stratB x t s)) (fun _ => Γ) := by
  refine cj_enter Try.func85 Try.ntmps85 ?_
  repeat' (first
    | refine red ?_
    | refine redf fun hbi => ?_
    | refine reds ?_
    | refine redc fun r => ?_
    | refine redv fun sv => ?_
    | refine redn fun b => ?_
    | refine redz fun zs => ?_
    | refine redq (fun hc => ?_) (fun hc => ?_)
    | with_reducible refine wq_blk_o rfl ?_
    | (refine redd fun p cs as_ hcs has hf => ?_; simp only [Un.cells, Un.atoms, Un.fact, List.cons_append, List.nil_append] at hcs has hf; subst hcs has)
    | (refine redi (fun hc => ?_) (fun hc => ?_) <;> try first | (exfalso; omega) | exact absurd rfl hc)
    | fail)
  · exact ⟨(), ret_bool (decide_eq_decide.2 ⟨fun h => h.2.2, fun h => ⟨hc.1, hc.2, h⟩⟩), ent_e⟩
  · exact ⟨(), ret_bool (decide_eq_false fun h => hc ⟨h.1, h.2.1⟩), ent_e⟩

instance l8Right_ctr {Γ : List Atom} {v0 v1 v : Value} {x : SSystem} {t : List Int} {s : Int} [h0 : HasRd (List Int) repList Γ [v0] x.1] [h1 : HasRd (List SRule) repList Γ [v1] x.2] [h2 : HasRd (List Int) repList Γ [v] t] :
    CtrC Try.prog 85 [.agg #[v0, v1], v, .int .i64 s] Γ (True) (Unit) (fun _ : Unit => .bool (stratB x t s)) (fun _ => Γ) := ⟨fun s w0 => l8Right_spec⟩

/-- The places of which a strategy takes the first. -/
def placesOf (x : SSystem) (t : List Int) (s : Int) : List Int := if s = 1 then inmostOf x t else if s = 2 then redexesOf x t else (redexesOf x t).drop ((redexesOf x t).length - 1)
theorem keepTo_last {p : Nat → Bool} {l : List Int} {k : Nat} (h : p k = true) : 0 < (keepTo p l (k + 1)).length := by
  rw [keepTo_yes h]; simp
theorem inmost_pos {x : SSystem} {t : List Int} (h : 0 < (redexesOf x t).length) : 0 < (inmostOf x t).length := by
  unfold inmostOf
  obtain ⟨n, hn⟩ : ∃ n, (redexesOf x t).length = n + 1 := ⟨(redexesOf x t).length - 1, by omega⟩
  rw [hn]
  exact keepTo_last (decide_eq_true (.inl hn.symm))
theorem keepTo_get {p : Nat → Bool} {l : List Int} : ∀ {n i : Nat}, n ≤ l.length → i < (keepTo p l n).length → ∃ j, j < l.length ∧ (keepTo p l n).getD i 0 = l.getD j 0
  | 0, i, _, h => by simp [keepTo] at h
  | n + 1, i, hn, h => by
    cases hp : p n with
    | false =>
      rw [keepTo_no hp] at h ⊢
      exact keepTo_get (by omega) h
    | true =>
      rw [keepTo_yes hp] at h ⊢
      rw [getD_snoc]
      rw [List.length_append] at h
      simp only [List.length_cons, List.length_nil] at h
      split
      · exact keepTo_get (by omega) (by assumption)
      · exact ⟨n, by omega, by rw [if_pos (by omega)]⟩
theorem inmost_none {x : SSystem} {t : List Int} (h : ¬ 0 < (redexesOf x t).length) : inmostOf x t = [] := by
  unfold inmostOf
  rw [show (redexesOf x t).length = 0 by omega]; rfl
theorem places_pos {x : SSystem} {t : List Int} {s : Int} : 0 < (placesOf x t s).length ↔ 0 < (redexesOf x t).length := by
  unfold placesOf
  split
  · constructor
    · intro h
      by_cases h2 : 0 < (redexesOf x t).length
      · exact h2
      · rw [inmost_none h2] at h; simp at h
    · exact inmost_pos
  · split
    · exact Iff.rfl
    · rw [List.length_drop]; omega
theorem places_get {x : SSystem} {t : List Int} {s : Int} (h : 0 < (redexesOf x t).length) : 0 ≤ (placesOf x t s).getD 0 0 ∧ (placesOf x t s).getD 0 0 < t.length := by
  have hg : ∀ i, i < (redexesOf x t).length → 0 ≤ (redexesOf x t).getD i 0 ∧ (redexesOf x t).getD i 0 < t.length := fun i hi => let h := redexesOf_get hi; ⟨h.2.2.1, h.2.2.2.1⟩
  unfold placesOf
  split
  · obtain ⟨j, hj, he⟩ := keepTo_get (p := inI x.1 t (redexesOf x t)) (Nat.le_refl (redexesOf x t).length) (inmost_pos h)
    unfold inmostOf
    rw [he]
    exact hg j hj
  · split
    · exact hg 0 h
    · have e : ((redexesOf x t).drop ((redexesOf x t).length - 1)).getD 0 0 = (redexesOf x t).getD ((redexesOf x t).length - 1) 0 := by
        simp only [List.getD_eq_getElem?_getD, List.getElem?_drop, Nat.add_zero]
      rw [e]
      exact hg _ (by omega)
def pickOf (x : SSystem) (t : List Int) (s : Int) : Int := if 0 < (redexesOf x t).length then (placesOf x t s).getD 0 0 else -1
def pickBy (x : SSystem) (t : List Int) (s : Int) : Int × Int × Bool := if stratOk x t s ∧ 0 < (redexesOf x t).length then ((placesOf x t s).getD 0 0, firstRed x t ((placesOf x t s).getD 0 0).toNat, true) else (0, 0, false)
theorem pickBy_no {x : SSystem} {t : List Int} {s : Int} (h : ¬ stratOk x t s) : pickBy x t s = (0, 0, false) := if_neg (fun h' => h h'.1)
theorem pickBy_none {x : SSystem} {t : List Int} {s : Int} (h : ¬ 0 < (redexesOf x t).length) : pickBy x t s = (0, 0, false) := if_neg (fun h' => h h'.2)
theorem pickBy_yes {x : SSystem} {t : List Int} {s : Int} (h : stratOk x t s) (h' : 0 < (redexesOf x t).length) : pickBy x t s = ((placesOf x t s).getD 0 0, firstRed x t ((placesOf x t s).getD 0 0).toNat, true) := if_pos ⟨h, h'⟩
theorem choice_inmost_spec {w0 : World} {Γ : List Atom} {v0 v1 v va : Value} {x : SSystem} {t : List Int} [h0 : HasRd (List Int) repList Γ [v0] x.1] [h1 : HasRd (List SRule) repList Γ [v1] x.2] [h2 : HasRd (List Int) repList Γ [v] t] [h3 : HasRd (List Int) repList Γ [va] (redexesOf x t)] (hs : sysOk x = true ∧ termOk x.1 t = true ∧ 0 < (redexesOf x t).length) : CJ Try.prog 160 [.agg #[v0, v1, v, va]] w0 Γ (fun _ : Unit => .int .i64 ((inmostOf x t).getD 0 0)) (fun _ => Γ) := by
  obtain ⟨hs1, hs2, hs3⟩ := hs
  have hp := inmost_pos hs3
  refine cj_enter Try.func160 Try.ntmps160 ?_
  repeat' (first
    | refine red ?_
    | refine redf fun hbi => ?_
    | refine reds ?_
    | refine redc fun r => ?_
    | refine redv fun sv => ?_
    | refine redn fun b => ?_
    | refine redz fun zs => ?_
    | refine redq (fun hc => ?_) (fun hc => ?_)
    | with_reducible refine wq_blk_o rfl ?_
    | (refine redd fun p cs as_ hcs has hf => ?_; simp only [Un.cells, Un.atoms, Un.fact, List.cons_append, List.nil_append] at hcs has hf; subst hcs has)
    | (refine redi (fun hc => ?_) (fun hc => ?_) <;> try first | (exfalso; omega) | exact absurd rfl hc)
    | fail)
  exact ⟨(), rfl, ent_e⟩
instance choice_inmost_ctr {Γ : List Atom} {v0 v1 v va : Value} {x : SSystem} {t : List Int} [h0 : HasRd (List Int) repList Γ [v0] x.1] [h1 : HasRd (List SRule) repList Γ [v1] x.2] [h2 : HasRd (List Int) repList Γ [v] t] [h3 : HasRd (List Int) repList Γ [va] (redexesOf x t)] :
    CtrC Try.prog 160 [.agg #[v0, v1, v, va]] Γ (sysOk x = true ∧ termOk x.1 t = true ∧ 0 < (redexesOf x t).length) (Unit) (fun _ : Unit => .int .i64 ((inmostOf x t).getD 0 0)) (fun _ => Γ) := ⟨fun s w0 => choice_inmost_spec s⟩

theorem choice_outmost_spec {w0 : World} {Γ : List Atom} {v0 v1 v va : Value} {x : SSystem} {t : List Int} [h0 : HasRd (List Int) repList Γ [v0] x.1] [h1 : HasRd (List SRule) repList Γ [v1] x.2] [h2 : HasRd (List Int) repList Γ [v] t] [h3 : HasRd (List Int) repList Γ [va] (redexesOf x t)] (hs : sysOk x = true ∧ termOk x.1 t = true ∧ 0 < (redexesOf x t).length) : CJ Try.prog 161 [.agg #[v0, v1, v, va]] w0 Γ (fun _ : Unit => .int .i64 ((redexesOf x t).getD 0 0)) (fun _ => Γ) := by
  obtain ⟨hs1, hs2, hs3⟩ := hs
  refine cj_enter Try.func161 Try.ntmps161 ?_
  repeat' (first
    | refine red ?_
    | refine redf fun hbi => ?_
    | refine reds ?_
    | refine redc fun r => ?_
    | refine redv fun sv => ?_
    | refine redn fun b => ?_
    | refine redz fun zs => ?_
    | refine redq (fun hc => ?_) (fun hc => ?_)
    | with_reducible refine wq_blk_o rfl ?_
    | (refine redd fun p cs as_ hcs has hf => ?_; simp only [Un.cells, Un.atoms, Un.fact, List.cons_append, List.nil_append] at hcs has hf; subst hcs has)
    | (refine redi (fun hc => ?_) (fun hc => ?_) <;> try first | (exfalso; omega) | exact absurd rfl hc)
    | fail)
  exact ⟨(), rfl, ent_e⟩
instance choice_outmost_ctr {Γ : List Atom} {v0 v1 v va : Value} {x : SSystem} {t : List Int} [h0 : HasRd (List Int) repList Γ [v0] x.1] [h1 : HasRd (List SRule) repList Γ [v1] x.2] [h2 : HasRd (List Int) repList Γ [v] t] [h3 : HasRd (List Int) repList Γ [va] (redexesOf x t)] :
    CtrC Try.prog 161 [.agg #[v0, v1, v, va]] Γ (sysOk x = true ∧ termOk x.1 t = true ∧ 0 < (redexesOf x t).length) (Unit) (fun _ : Unit => .int .i64 ((redexesOf x t).getD 0 0)) (fun _ => Γ) := ⟨fun s w0 => choice_outmost_spec s⟩

theorem choice_last_spec {w0 : World} {Γ : List Atom} {v0 v1 v va : Value} {x : SSystem} {t : List Int} [h0 : HasRd (List Int) repList Γ [v0] x.1] [h1 : HasRd (List SRule) repList Γ [v1] x.2] [h2 : HasRd (List Int) repList Γ [v] t] [h3 : HasRd (List Int) repList Γ [va] (redexesOf x t)] (hs : sysOk x = true ∧ termOk x.1 t = true ∧ 0 < (redexesOf x t).length) : CJ Try.prog 162 [.agg #[v0, v1, v, va]] w0 Γ (fun _ : Unit => .int .i64 ((redexesOf x t).getD ((redexesOf x t).length - 1) 0)) (fun _ => Γ) := by
  obtain ⟨hs1, hs2, hs3⟩ := hs
  have h60 := redexesOf_len x t
  refine cj_enter Try.func162 Try.ntmps162 ?_
  repeat' (first
    | refine red ?_
    | refine redf fun hbi => ?_
    | refine reds ?_
    | refine redc fun r => ?_
    | refine redv fun sv => ?_
    | refine redn fun b => ?_
    | refine redz fun zs => ?_
    | refine redq (fun hc => ?_) (fun hc => ?_)
    | with_reducible refine wq_blk_o rfl ?_
    | (refine redd fun p cs as_ hcs has hf => ?_; simp only [Un.cells, Un.atoms, Un.fact, List.cons_append, List.nil_append] at hcs has hf; subst hcs has)
    | (refine redi (fun hc => ?_) (fun hc => ?_) <;> try first | (exfalso; omega) | exact absurd rfl hc)
    | fail)
  all_goals exact ⟨(), rfl, ent_e⟩
instance choice_last_ctr {Γ : List Atom} {v0 v1 v va : Value} {x : SSystem} {t : List Int} [h0 : HasRd (List Int) repList Γ [v0] x.1] [h1 : HasRd (List SRule) repList Γ [v1] x.2] [h2 : HasRd (List Int) repList Γ [v] t] [h3 : HasRd (List Int) repList Γ [va] (redexesOf x t)] :
    CtrC Try.prog 162 [.agg #[v0, v1, v, va]] Γ (sysOk x = true ∧ termOk x.1 t = true ∧ 0 < (redexesOf x t).length) (Unit) (fun _ : Unit => .int .i64 ((redexesOf x t).getD ((redexesOf x t).length - 1) 0)) (fun _ => Γ) := ⟨fun s w0 => choice_last_spec s⟩

instance : FvS Try.prog 183 := ⟨trivial⟩
theorem pick_spec {w0 : World} {Γ : List Atom} {v0 v1 v : Value} {x : SSystem} {t : List Int} {s : Int} [h0 : HasRd (List Int) repList Γ [v0] x.1] [h1 : HasRd (List SRule) repList Γ [v1] x.2] [h2 : HasRd (List Int) repList Γ [v] t] (hs : stratOk x t s) : CJ Try.prog 89 [.agg #[v0, v1], v, .int .i64 s] w0 Γ (fun _ : Unit => .int .i64 (pickOf x t s)) (fun _ => Γ) := by
  refine cj_lift (R := [.rd [v0] x.1, .rd [v1] x.2, .rd [v] t]) (A := fun _ => []) (fun w1 => ?_) (reads_cons h0 (reads_cons h1 (reads_cons h2 (inferInstance)))) (fun _ => inferInstance)
  simp only [List.cons_append, List.nil_append]
  obtain ⟨hs1, hs2, hs3, hs4⟩ := hs
  have h60 := redexesOf_len x t
  have hrx := redexesOf_yes ⟨hs1, hs2⟩
  have hc3 : s = 1 ∨ s = 2 ∨ s = 3 := by omega
  rcases hc3 with rfl | rfl | rfl
  all_goals
    refine cj_enter Try.func89 Try.ntmps89 ?_
    repeat' (first
      | refine red ?_
      | refine redf fun hbi => ?_
      | refine reds ?_
      | refine redc fun r => ?_
      | refine redv fun sv => ?_
      | refine redn fun b => ?_
      | refine redz fun zs => ?_
      | refine redq (fun hc => ?_) (fun hc => ?_)
      | with_reducible refine wq_blk_o rfl ?_
      | (refine redd fun p cs as_ hcs has hf => ?_; simp only [Un.cells, Un.atoms, Un.fact, List.cons_append, List.nil_append] at hcs has hf; subst hcs has)
      | (refine redi (fun hc => ?_) (fun hc => ?_) <;> try first | (exfalso; omega) | exact absurd rfl hc)
      | ((refine wa_begin 1 [false, false, false, false, false, false, false, false] [] ?_ <;> (first | refine wa_f 0 fun hbi => ?_ | refine wa_p 0 ?_ | fail) <;> (first | refine wa_p 1 ?_ | refine wa_p0 1 ?_ | fail) <;> (first | refine wa_f 2 fun hbi => ?_ | refine wa_p 2 ?_ | fail) <;> (first | refine wa_p 3 ?_ | refine wa_p0 3 ?_ | fail) <;> (refine wa_two 4 6 ?_ ?_; rotate_right; (focus ((repeat' (first | refine red ?_ | refine redc fun r => ?_ | refine redv fun sv => ?_ | refine redf fun hbi => ?_ | refine redn fun b => ?_ | refine reds ?_ | refine redi (fun hc => ?_) (fun hc => ?_) | fail)) <;> (refine wa_do 4 ?_ <;> (repeat' (first | refine red ?_ | refine redc fun r => ?_ | refine redv fun sv => ?_ | refine redf fun hbi => ?_ | refine redn fun b => ?_ | refine reds ?_ | refine redi (fun hc => ?_) (fun hc => ?_) | fail))) <;> (refine wa_do 5 ?_ <;> (repeat' (first | refine red ?_ | refine redc fun r => ?_ | refine redv fun sv => ?_ | refine redf fun hbi => ?_ | refine redn fun b => ?_ | refine reds ?_ | refine redi (fun hc => ?_) (fun hc => ?_) | fail))) <;> (refine wa_do 7 ?_ <;> (repeat' (first | refine red ?_ | refine redc fun r => ?_ | refine redv fun sv => ?_ | refine redf fun hbi => ?_ | refine redn fun b => ?_ | refine reds ?_ | refine redi (fun hc => ?_) (fun hc => ?_) | fail))))); rotate_right; (focus ((repeat' (first | refine red ?_ | refine redc fun r => ?_ | refine redv fun sv => ?_ | refine redf fun hbi => ?_ | refine redn fun b => ?_ | refine reds ?_ | refine redi (fun hc => ?_) (fun hc => ?_) | fail)) <;> (refine wa_two 5 6 ?_ ?_; rotate_right; (focus ((repeat' (first | refine red ?_ | refine redc fun r => ?_ | refine redv fun sv => ?_ | refine redf fun hbi => ?_ | refine redn fun b => ?_ | refine reds ?_ | refine redi (fun hc => ?_) (fun hc => ?_) | fail)) <;> (refine wa_do 5 ?_ <;> (repeat' (first | refine red ?_ | refine redc fun r => ?_ | refine redv fun sv => ?_ | refine redf fun hbi => ?_ | refine redn fun b => ?_ | refine reds ?_ | refine redi (fun hc => ?_) (fun hc => ?_) | fail))) <;> (refine wa_do 7 ?_ <;> (repeat' (first | refine red ?_ | refine redc fun r => ?_ | refine redv fun sv => ?_ | refine redf fun hbi => ?_ | refine redn fun b => ?_ | refine reds ?_ | refine redi (fun hc => ?_) (fun hc => ?_) | fail))))); rotate_right; (focus ((repeat' (first | refine red ?_ | refine redc fun r => ?_ | refine redv fun sv => ?_ | refine redf fun hbi => ?_ | refine redn fun b => ?_ | refine reds ?_ | refine redi (fun hc => ?_) (fun hc => ?_) | fail)) <;> (refine wa_do 6 ?_ <;> (repeat' (first | refine red ?_ | refine redc fun r => ?_ | refine redv fun sv => ?_ | refine redf fun hbi => ?_ | refine redn fun b => ?_ | refine reds ?_ | refine redi (fun hc => ?_) (fun hc => ?_) | fail))) <;> (refine wa_do 7 ?_ <;> (repeat' (first | refine red ?_ | refine redc fun r => ?_ | refine redv fun sv => ?_ | refine redf fun hbi => ?_ | refine redn fun b => ?_ | refine reds ?_ | refine redi (fun hc => ?_) (fun hc => ?_) | fail)))))))))) <;> refine wa_end ?_)
      | fail)
  all_goals rw [← hrx] at *
  all_goals first
    | (rw [show pickOf x t _ = -1 from if_neg (by omega)]
       exact ⟨(), rfl, ent_e⟩)
    | skip
  all_goals
    have hpos : 0 < (redexesOf x t).length := by omega
    simp only [Int.sub_self, Int.toNat_zero, show ((2 : Int) - 1).toNat = 1 from rfl, show ((3 : Int) - 1).toNat = 2 from rfl, List.getD_cons_zero, List.getD_cons_succ]
    repeat' (first
      | refine red ?_
      | refine redf fun hbi => ?_
      | refine reds ?_
      | refine redc fun r => ?_
      | refine redv fun sv => ?_
      | refine redn fun b => ?_
      | refine redz fun zs => ?_
      | refine redq (fun hc => ?_) (fun hc => ?_)
      | with_reducible refine wq_blk_o rfl ?_
      | (refine redd fun p cs as_ hcs has hf => ?_; simp only [Un.cells, Un.atoms, Un.fact, List.cons_append, List.nil_append] at hcs has hf; subst hcs has)
      | (refine redi (fun hc => ?_) (fun hc => ?_) <;> try first | (exfalso; omega) | exact absurd rfl hc)
      | ((refine wa_begin 1 [false, false, false, false, false, false, false, false] [] ?_ <;> (first | refine wa_f 0 fun hbi => ?_ | refine wa_p 0 ?_ | fail) <;> (first | refine wa_p 1 ?_ | refine wa_p0 1 ?_ | fail) <;> (first | refine wa_f 2 fun hbi => ?_ | refine wa_p 2 ?_ | fail) <;> (first | refine wa_p 3 ?_ | refine wa_p0 3 ?_ | fail) <;> (refine wa_two 4 6 ?_ ?_; rotate_right; (focus ((repeat' (first | refine red ?_ | refine redc fun r => ?_ | refine redv fun sv => ?_ | refine redf fun hbi => ?_ | refine redn fun b => ?_ | refine reds ?_ | refine redi (fun hc => ?_) (fun hc => ?_) | fail)) <;> (refine wa_do 4 ?_ <;> (repeat' (first | refine red ?_ | refine redc fun r => ?_ | refine redv fun sv => ?_ | refine redf fun hbi => ?_ | refine redn fun b => ?_ | refine reds ?_ | refine redi (fun hc => ?_) (fun hc => ?_) | fail))) <;> (refine wa_do 5 ?_ <;> (repeat' (first | refine red ?_ | refine redc fun r => ?_ | refine redv fun sv => ?_ | refine redf fun hbi => ?_ | refine redn fun b => ?_ | refine reds ?_ | refine redi (fun hc => ?_) (fun hc => ?_) | fail))) <;> (refine wa_do 7 ?_ <;> (repeat' (first | refine red ?_ | refine redc fun r => ?_ | refine redv fun sv => ?_ | refine redf fun hbi => ?_ | refine redn fun b => ?_ | refine reds ?_ | refine redi (fun hc => ?_) (fun hc => ?_) | fail))))); rotate_right; (focus ((repeat' (first | refine red ?_ | refine redc fun r => ?_ | refine redv fun sv => ?_ | refine redf fun hbi => ?_ | refine redn fun b => ?_ | refine reds ?_ | refine redi (fun hc => ?_) (fun hc => ?_) | fail)) <;> (refine wa_two 5 6 ?_ ?_; rotate_right; (focus ((repeat' (first | refine red ?_ | refine redc fun r => ?_ | refine redv fun sv => ?_ | refine redf fun hbi => ?_ | refine redn fun b => ?_ | refine reds ?_ | refine redi (fun hc => ?_) (fun hc => ?_) | fail)) <;> (refine wa_do 5 ?_ <;> (repeat' (first | refine red ?_ | refine redc fun r => ?_ | refine redv fun sv => ?_ | refine redf fun hbi => ?_ | refine redn fun b => ?_ | refine reds ?_ | refine redi (fun hc => ?_) (fun hc => ?_) | fail))) <;> (refine wa_do 7 ?_ <;> (repeat' (first | refine red ?_ | refine redc fun r => ?_ | refine redv fun sv => ?_ | refine redf fun hbi => ?_ | refine redn fun b => ?_ | refine reds ?_ | refine redi (fun hc => ?_) (fun hc => ?_) | fail))))); rotate_right; (focus ((repeat' (first | refine red ?_ | refine redc fun r => ?_ | refine redv fun sv => ?_ | refine redf fun hbi => ?_ | refine redn fun b => ?_ | refine reds ?_ | refine redi (fun hc => ?_) (fun hc => ?_) | fail)) <;> (refine wa_do 6 ?_ <;> (repeat' (first | refine red ?_ | refine redc fun r => ?_ | refine redv fun sv => ?_ | refine redf fun hbi => ?_ | refine redn fun b => ?_ | refine reds ?_ | refine redi (fun hc => ?_) (fun hc => ?_) | fail))) <;> (refine wa_do 7 ?_ <;> (repeat' (first | refine red ?_ | refine redc fun r => ?_ | refine redv fun sv => ?_ | refine redf fun hbi => ?_ | refine redn fun b => ?_ | refine reds ?_ | refine redi (fun hc => ?_) (fun hc => ?_) | fail)))))))))) <;> refine wa_end ?_)
      | fail)
  all_goals first
    | (rw [show pickOf x t 1 = (inmostOf x t).getD 0 0 from if_pos hpos]
       exact ⟨(), rfl, ent_e⟩)
    | (rw [show pickOf x t 2 = (redexesOf x t).getD 0 0 from if_pos hpos]
       exact ⟨(), rfl, ent_e⟩)
    | (rw [show pickOf x t 3 = (redexesOf x t).getD ((redexesOf x t).length - 1) 0 from (if_pos hpos).trans (by
         show ((redexesOf x t).drop ((redexesOf x t).length - 1)).getD 0 0 = _
         simp only [List.getD_eq_getElem?_getD, List.getElem?_drop, Nat.add_zero])]
       exact ⟨(), rfl, ent_e⟩)
    | trace_state
instance pick_ctr {Γ : List Atom} {v0 v1 v : Value} {x : SSystem} {t : List Int} {s : Int} [h0 : HasRd (List Int) repList Γ [v0] x.1] [h1 : HasRd (List SRule) repList Γ [v1] x.2] [h2 : HasRd (List Int) repList Γ [v] t] :
    CtrC Try.prog 89 [.agg #[v0, v1], v, .int .i64 s] Γ (stratOk x t s) (Unit) (fun _ : Unit => .int .i64 (pickOf x t s)) (fun _ => Γ) := ⟨fun s w0 => pick_spec s⟩

theorem l8Places_spec {w0 : World} {Γ : List Atom} {v0 v1 v : Value} {x : SSystem} {t : List Int} {s : Int} [h0 : HasRd (List Int) repList Γ [v0] x.1] [h1 : HasRd (List SRule) repList Γ [v1] x.2] [h2 : HasRd (List Int) repList Γ [v] t] (hs : stratOk x t s) : CJ Try.prog 86 [.agg #[v0, v1], v, .int .i64 s] w0 Γ (fun q : Value => q) (fun q => .rd [q] (placesOf x t s) :: Γ) := by
  obtain ⟨hs1, hs2, hs3, hs4⟩ := hs
  have h60 := redexesOf_len x t
  have hc3 : s = 1 ∨ s = 2 ∨ s = 3 := by omega
  rcases hc3 with rfl | rfl | rfl
  · rw [show placesOf x t 1 = inmostOf x t from rfl]
    refine cj_enter Try.func86 Try.ntmps86 ?_
    repeat' (first
      | refine red ?_
      | refine redf fun hbi => ?_
      | refine reds ?_
      | refine redc fun r => ?_
      | refine redv fun sv => ?_
      | refine redn fun b => ?_
      | refine redz fun zs => ?_
      | refine redq (fun hc => ?_) (fun hc => ?_)
      | with_reducible refine wq_blk_o rfl ?_
      | (refine redd fun p cs as_ hcs has hf => ?_; simp only [Un.cells, Un.atoms, Un.fact, List.cons_append, List.nil_append] at hcs has hf; subst hcs has)
      | (refine redi (fun hc => ?_) (fun hc => ?_) <;> try first | (exfalso; omega) | exact absurd rfl hc)
      | fail)
    exact ⟨_, rfl, ent_share r ent_e⟩
  · rw [show placesOf x t 2 = redexesOf x t from rfl]
    refine cj_enter Try.func86 Try.ntmps86 ?_
    repeat' (first
      | refine red ?_
      | refine redf fun hbi => ?_
      | refine reds ?_
      | refine redc fun r => ?_
      | refine redv fun sv => ?_
      | refine redn fun b => ?_
      | refine redz fun zs => ?_
      | refine redq (fun hc => ?_) (fun hc => ?_)
      | with_reducible refine wq_blk_o rfl ?_
      | (refine redd fun p cs as_ hcs has hf => ?_; simp only [Un.cells, Un.atoms, Un.fact, List.cons_append, List.nil_append] at hcs has hf; subst hcs has)
      | (refine redi (fun hc => ?_) (fun hc => ?_) <;> try first | (exfalso; omega) | exact absurd rfl hc)
      | fail)
    exact ⟨_, rfl, ent_share r ent_e⟩
  · rw [show placesOf x t 3 = (redexesOf x t).drop ((redexesOf x t).length - 1) from rfl]
    refine cj_enter Try.func86 Try.ntmps86 ?_
    repeat' (first
      | refine red ?_
      | refine redf fun hbi => ?_
      | refine reds ?_
      | refine redc fun r => ?_
      | refine redv fun sv => ?_
      | refine redn fun b => ?_
      | refine redz fun zs => ?_
      | refine redq (fun hc => ?_) (fun hc => ?_)
      | with_reducible refine wq_blk_o rfl ?_
      | (refine redd fun p cs as_ hcs has hf => ?_; simp only [Un.cells, Un.atoms, Un.fact, List.cons_append, List.nil_append] at hcs has hf; subst hcs has)
      | (refine redi (fun hc => ?_) (fun hc => ?_) <;> try first | (exfalso; omega) | exact absurd rfl hc)
      | fail)
    · refine wl_share r ?_
      repeat' (first
        | refine red ?_
        | refine redf fun hbi => ?_
        | refine reds ?_
        | refine redc fun r => ?_
        | refine redv fun sv => ?_
        | refine redn fun b => ?_
        | refine redz fun zs => ?_
        | refine redq (fun hc => ?_) (fun hc => ?_)
        | with_reducible refine wq_blk_o rfl ?_
        | (refine redd fun p cs as_ hcs has hf => ?_; simp only [Un.cells, Un.atoms, Un.fact, List.cons_append, List.nil_append] at hcs has hf; subst hcs has)
        | (refine redi (fun hc => ?_) (fun hc => ?_) <;> try first | (exfalso; omega) | exact absurd rfl hc)
        | fail)
      exact ⟨_, rfl, ent_e⟩
    · rw [show (redexesOf x t).length - 1 = 0 by omega, List.drop_zero]
      exact ⟨_, rfl, ent_share r ent_e⟩
instance l8Places_ctr {Γ : List Atom} {v0 v1 v : Value} {x : SSystem} {t : List Int} {s : Int} [h0 : HasRd (List Int) repList Γ [v0] x.1] [h1 : HasRd (List SRule) repList Γ [v1] x.2] [h2 : HasRd (List Int) repList Γ [v] t] :
    CtrC Try.prog 86 [.agg #[v0, v1], v, .int .i64 s] Γ (stratOk x t s) (Value) (fun q : Value => q) (fun q => .rd [q] (placesOf x t s) :: Γ) := ⟨fun s w0 => l8Places_spec s⟩

theorem impl_PickBy_spec {w0 : World} {Γ : List Atom} {v0 v1 v : Value} {x : SSystem} {t : List Int} {s : Int} [h0 : HasRd (List Int) repList Γ [v0] x.1] [h1 : HasRd (List SRule) repList Γ [v1] x.2] [h2 : HasRd (List Int) repList Γ [v] t] : CJ Try.prog 30 [.agg #[v0, v1], v, .int .i64 s] w0 Γ (fun _ : Unit => .tuple #[.int .i64 (pickBy x t s).1, .int .i64 (pickBy x t s).2.1, .bool (pickBy x t s).2.2]) (fun _ => Γ) := by
  refine cj_lift (R := [.rd [v0] x.1, .rd [v1] x.2, .rd [v] t]) (A := fun _ => []) (fun w1 => ?_) (reads_cons h0 (reads_cons h1 (reads_cons h2 (inferInstance)))) (fun _ => inferInstance)
  simp only [List.cons_append, List.nil_append]
  have hpg := places_get (x := x) (t := t) (s := s)
  refine cj_enter Try.func30 Try.ntmps30 ?_
  repeat' (first
    | refine red ?_
    | refine redf fun hbi => ?_
    | refine reds ?_
    | refine redc fun r => ?_
    | refine redv fun sv => ?_
    | refine redn fun b => ?_
    | refine redz fun zs => ?_
    | refine redq (fun hc => ?_) (fun hc => ?_)
    | with_reducible refine wq_blk_o rfl ?_
    | (refine redd fun p cs as_ hcs has hf => ?_; simp only [Un.cells, Un.atoms, Un.fact, List.cons_append, List.nil_append] at hcs has hf; subst hcs has)
    | (refine redi (fun hc => ?_) (fun hc => ?_) <;> try first | (exfalso; omega) | exact absurd rfl hc)
    | fail)
  · rw [pickBy_no hc]
    exact ⟨(), rfl, ent_e⟩
  · have hn : ¬ 0 < (redexesOf x t).length := fun h => by
      have e : pickOf x t s = (placesOf x t s).getD 0 0 := if_pos h
      have := hpg h
      omega
    rw [pickBy_none hn]
    exact ⟨(), rfl, ent_e⟩
  have hst : stratOk x t s := by assumption
  have hn : 0 < (redexesOf x t).length := by
    by_cases h : 0 < (redexesOf x t).length
    · exact h
    · have e : pickOf x t s = -1 := if_neg h
      omega
  have e : pickOf x t s = (placesOf x t s).getD 0 0 := if_pos hn
  have hp2 := hpg hn
  rw [e]
  have hra : sysOk x = true ∧ termOk x.1 t = true ∧ 0 ≤ (placesOf x t s).getD 0 0 ∧ (placesOf x t s).getD 0 0 < t.length := ⟨hst.1, hst.2.1, hp2.1, hp2.2⟩
  have hfb := firstFrom_b (redF x t ((placesOf x t s).getD 0 0).toNat) x.2.length 0
  repeat' (first
    | refine red ?_
    | refine redf fun hbi => ?_
    | refine reds ?_
    | (with_reducible refine wl_call (ruleAtX hra) ?_; intro r)
    | refine redc fun r => ?_
    | refine redv fun sv => ?_
    | refine redn fun b => ?_
    | refine redz fun zs => ?_
    | refine redq (fun hc => ?_) (fun hc => ?_)
    | with_reducible refine wq_blk_o rfl ?_
    | (refine redd fun p cs as_ hcs has hf => ?_; simp only [Un.cells, Un.atoms, Un.fact, List.cons_append, List.nil_append] at hcs has hf; subst hcs has)
    | (refine redi (fun hc => ?_) (fun hc => ?_) <;> try first | (exfalso; omega) | exact absurd rfl hc)
    | fail)
  rw [pickBy_yes hst hn]
  exact ⟨(), rfl, ent_e⟩
instance impl_PickBy_ctr {Γ : List Atom} {v0 v1 v : Value} {x : SSystem} {t : List Int} {s : Int} [h0 : HasRd (List Int) repList Γ [v0] x.1] [h1 : HasRd (List SRule) repList Γ [v1] x.2] [h2 : HasRd (List Int) repList Γ [v] t] :
    CtrC Try.prog 30 [.agg #[v0, v1], v, .int .i64 s] Γ (True) (Unit) (fun _ : Unit => .tuple #[.int .i64 (pickBy x t s).1, .int .i64 (pickBy x t s).2.1, .bool (pickBy x t s).2.2]) (fun _ => Γ) := ⟨fun s w0 => impl_PickBy_spec⟩

theorem spec_PickBy_spec {w0 : World} {Γ : List Atom} {v0 v1 v : Value} {x : SSystem} {t : List Int} {s : Int} [h0 : HasRd (List Int) repList Γ [v0] x.1] [h1 : HasRd (List SRule) repList Γ [v1] x.2] [h2 : HasRd (List Int) repList Γ [v] t] : CJ Try.prog 29 [.agg #[v0, v1], v, .int .i64 s] w0 Γ (fun _ : Unit => .tuple #[.int .i64 (pickBy x t s).1, .int .i64 (pickBy x t s).2.1, .bool (pickBy x t s).2.2]) (fun _ => Γ) := by
  refine cj_lift (R := [.rd [v0] x.1, .rd [v1] x.2, .rd [v] t]) (A := fun _ => []) (fun w1 => ?_) (reads_cons h0 (reads_cons h1 (reads_cons h2 (inferInstance)))) (fun _ => inferInstance)
  simp only [List.cons_append, List.nil_append]
  have hpg := places_get (x := x) (t := t) (s := s)
  have hpp := places_pos (x := x) (t := t) (s := s)
  refine cj_enter Try.func29 Try.ntmps29 ?_
  repeat' (first
    | refine red ?_
    | refine redf fun hbi => ?_
    | refine reds ?_
    | refine redc fun r => ?_
    | refine redv fun sv => ?_
    | refine redn fun b => ?_
    | refine redz fun zs => ?_
    | refine redq (fun hc => ?_) (fun hc => ?_)
    | with_reducible refine wq_blk_o rfl ?_
    | (refine redd fun p cs as_ hcs has hf => ?_; simp only [Un.cells, Un.atoms, Un.fact, List.cons_append, List.nil_append] at hcs has hf; subst hcs has)
    | (refine redi (fun hc => ?_) (fun hc => ?_) <;> try first | (exfalso; omega) | exact absurd rfl hc)
    | ((refine wa_begin 6 [false, false, false, false, false, false, false, false, false, false, false, false] [] ?_ <;> (first | refine wa_p 0 ?_ | refine wa_p0 0 ?_ | fail) <;> (first | refine wa_p 1 ?_ | (refine wa_deep 1 fun p cs as_ asb_ hcs has hasb hf => ?_; simp only [Un.cells, Un.atoms, Un.fact, List.cons_append, List.nil_append] at hcs has hasb hf; subst hcs has hasb) | fail) <;> (first | refine wa_f 2 fun hbi => ?_ | refine wa_p 2 ?_ | fail) <;> (first | refine wa_f 3 fun hbi => ?_ | refine wa_p 3 ?_ | fail) <;> (first | refine wa_p 4 ?_ | refine wa_p0 4 ?_ | fail) <;> (first | refine wa_p 5 ?_ | refine wa_p0 5 ?_ | (refine wa_do 5 ?_ <;> (repeat' (first | refine red ?_ | refine redc fun r => ?_ | refine redv fun sv => ?_ | refine redf fun hbi => ?_ | refine redn fun b => ?_ | refine reds ?_ | refine redi (fun hc => ?_) (fun hc => ?_) | fail))) | fail) <;> (first | refine wa_p 6 ?_ | (refine wa_deep 6 fun p cs as_ asb_ hcs has hasb hf => ?_; simp only [Un.cells, Un.atoms, Un.fact, List.cons_append, List.nil_append] at hcs has hasb hf; subst hcs has hasb) | fail) <;> (first | refine wa_f 7 fun hbi => ?_ | refine wa_p 7 ?_ | fail) <;> (refine wa_do 8 ?_ <;> (repeat' (first | refine red ?_ | refine redc fun r => ?_ | refine redv fun sv => ?_ | refine redf fun hbi => ?_ | refine redn fun b => ?_ | refine reds ?_ | refine redi (fun hc => ?_) (fun hc => ?_) | fail))) <;> (first | refine wa_p 9 ?_ | refine wa_p0 9 ?_ | (refine wa_do 9 ?_ <;> (repeat' (first | refine red ?_ | refine redc fun r => ?_ | refine redv fun sv => ?_ | refine redf fun hbi => ?_ | refine redn fun b => ?_ | refine reds ?_ | refine redi (fun hc => ?_) (fun hc => ?_) | fail))) | fail) <;> (first | refine wa_p 10 ?_ | refine wa_p0 10 ?_ | (refine wa_do 10 ?_ <;> (repeat' (first | refine red ?_ | refine redc fun r => ?_ | refine redv fun sv => ?_ | refine redf fun hbi => ?_ | refine redn fun b => ?_ | refine reds ?_ | refine redi (fun hc => ?_) (fun hc => ?_) | fail))) | fail) <;> (first | refine wa_p 11 ?_ | refine wa_p0 11 ?_ | (refine wa_do 11 ?_ <;> (repeat' (first | refine red ?_ | refine redc fun r => ?_ | refine redv fun sv => ?_ | refine redf fun hbi => ?_ | refine redn fun b => ?_ | refine reds ?_ | refine redi (fun hc => ?_) (fun hc => ?_) | fail))) | fail)) <;> refine wa_end ?_)
    | fail)
  · rw [pickBy_no hc]
    exact ⟨(), rfl, ent_e⟩
  · rw [pickBy_none (fun h => by have := hpp.2 h; omega)]
    exact ⟨(), rfl, ent_e⟩
  have hst : stratOk x t s := by assumption
  have hn : 0 < (redexesOf x t).length := hpp.1 (by omega)
  have hp2 := hpg hn
  have hra : sysOk x = true ∧ termOk x.1 t = true ∧ 0 ≤ (placesOf x t s).getD 0 0 ∧ (placesOf x t s).getD 0 0 < t.length := ⟨hst.1, hst.2.1, hp2.1, hp2.2⟩
  haveI hX : ∀ (Δ : List Atom) [HasRd (List Int) repList Δ [v0] x.1] [HasRd (List SRule) repList Δ [v1] x.2] [HasRd (List Int) repList Δ [v] t], CtrC Try.prog 87 [.agg #[v0, v1], v, .int .i64 ((placesOf x t s).getD 0 0)] Δ True Unit (fun _ => .int .i64 (firstRed x t ((placesOf x t s).getD 0 0).toNat)) (fun _ => Δ) := fun Δ _ _ _ => ⟨fun _ w0 => l8RedexX hra⟩
  repeat' (first
    | refine red ?_
    | refine redf fun hbi => ?_
    | refine reds ?_
    | refine redc fun r => ?_
    | refine redv fun sv => ?_
    | refine redn fun b => ?_
    | refine redz fun zs => ?_
    | refine redq (fun hc => ?_) (fun hc => ?_)
    | with_reducible refine wq_blk_o rfl ?_
    | (refine redd fun p cs as_ hcs has hf => ?_; simp only [Un.cells, Un.atoms, Un.fact, List.cons_append, List.nil_append] at hcs has hf; subst hcs has)
    | (refine redi (fun hc => ?_) (fun hc => ?_) <;> try first | (exfalso; omega) | exact absurd rfl hc)
    | ((refine wa_begin 6 [false, false, false, false, false, false, false, false, false, false, false, false] [] ?_ <;> (first | refine wa_p 0 ?_ | refine wa_p0 0 ?_ | fail) <;> (first | refine wa_p 1 ?_ | (refine wa_deep 1 fun p cs as_ asb_ hcs has hasb hf => ?_; simp only [Un.cells, Un.atoms, Un.fact, List.cons_append, List.nil_append] at hcs has hasb hf; subst hcs has hasb) | fail) <;> (first | refine wa_f 2 fun hbi => ?_ | refine wa_p 2 ?_ | fail) <;> (first | refine wa_f 3 fun hbi => ?_ | refine wa_p 3 ?_ | fail) <;> (first | refine wa_p 4 ?_ | refine wa_p0 4 ?_ | fail) <;> (first | refine wa_p 5 ?_ | refine wa_p0 5 ?_ | (refine wa_do 5 ?_ <;> (repeat' (first | refine red ?_ | refine redc fun r => ?_ | refine redv fun sv => ?_ | refine redf fun hbi => ?_ | refine redn fun b => ?_ | refine reds ?_ | refine redi (fun hc => ?_) (fun hc => ?_) | fail))) | fail) <;> (first | refine wa_p 6 ?_ | (refine wa_deep 6 fun p cs as_ asb_ hcs has hasb hf => ?_; simp only [Un.cells, Un.atoms, Un.fact, List.cons_append, List.nil_append] at hcs has hasb hf; subst hcs has hasb) | fail) <;> (first | refine wa_f 7 fun hbi => ?_ | refine wa_p 7 ?_ | fail) <;> (refine wa_do 8 ?_ <;> (repeat' (first | refine red ?_ | refine redc fun r => ?_ | refine redv fun sv => ?_ | refine redf fun hbi => ?_ | refine redn fun b => ?_ | refine reds ?_ | refine redi (fun hc => ?_) (fun hc => ?_) | fail))) <;> (first | refine wa_p 9 ?_ | refine wa_p0 9 ?_ | (refine wa_do 9 ?_ <;> (repeat' (first | refine red ?_ | refine redc fun r => ?_ | refine redv fun sv => ?_ | refine redf fun hbi => ?_ | refine redn fun b => ?_ | refine reds ?_ | refine redi (fun hc => ?_) (fun hc => ?_) | fail))) | fail) <;> (first | refine wa_p 10 ?_ | refine wa_p0 10 ?_ | (refine wa_do 10 ?_ <;> (repeat' (first | refine red ?_ | refine redc fun r => ?_ | refine redv fun sv => ?_ | refine redf fun hbi => ?_ | refine redn fun b => ?_ | refine reds ?_ | refine redi (fun hc => ?_) (fun hc => ?_) | fail))) | fail) <;> (first | refine wa_p 11 ?_ | refine wa_p0 11 ?_ | (refine wa_do 11 ?_ <;> (repeat' (first | refine red ?_ | refine redc fun r => ?_ | refine redv fun sv => ?_ | refine redf fun hbi => ?_ | refine redn fun b => ?_ | refine reds ?_ | refine redi (fun hc => ?_) (fun hc => ?_) | fail))) | fail)) <;> refine wa_end ?_)
    | fail)
  all_goals
    rw [pickBy_yes hst hn]
    exact ⟨(), rfl, ent_e⟩
instance spec_PickBy_ctr {Γ : List Atom} {v0 v1 v : Value} {x : SSystem} {t : List Int} {s : Int} [h0 : HasRd (List Int) repList Γ [v0] x.1] [h1 : HasRd (List SRule) repList Γ [v1] x.2] [h2 : HasRd (List Int) repList Γ [v] t] :
    CtrC Try.prog 29 [.agg #[v0, v1], v, .int .i64 s] Γ (True) (Unit) (fun _ : Unit => .tuple #[.int .i64 (pickBy x t s).1, .int .i64 (pickBy x t s).2.1, .bool (pickBy x t s).2.2]) (fun _ => Γ) := ⟨fun s w0 => spec_PickBy_spec⟩

theorem pickBy_bounds (x : SSystem) (t : List Int) (s : Int) : -1 ≤ (pickBy x t s).1 := by
  unfold pickBy
  split
  · rename_i h
    have := places_get (s := s) h.2
    simp only; omega
  · simp only; omega
set_option maxHeartbeats 0 in
set_option synthInstance.maxHeartbeats 400000 in
set_option synthInstance.maxSize 1000 in
theorem FnExactPickBy_law {w0 : World} {Γ : List Atom} {x0 : SSystem} {x1 : List Int} {x2 : Int} {v0_0 v0_1 v1_0 : Value} [h0_0 : HasRd (List Int) repList Γ [v0_0] x0.1] [h0_1 : HasRd (List SRule) repList Γ [v0_1] x0.2] [h1_0 : HasRd (List Int) repList Γ [v1_0] x1] (hf0 : (x0.1.length ≤ 9223372036854775807) ∧ x0.2.length ≤ 9223372036854775807) (hf1 : x1.length ≤ 9223372036854775807) (hf2 : -9223372036854775808 ≤ x2 ∧ x2 ≤ 9223372036854775807) :
    CJ Try.prog 6 [.agg #[v0_0, v0_1], v1_0, .int .i64 x2] w0 Γ (fun _ : Unit => .bool true) (fun _ => Γ) := by
  have hz0 := lft_spec 1048576 (Siz.size x0)
  have hs0 : Siz.size x0 = Siz.size x0.1 + Siz.size x0.2 := by simp only [siz_pair, siz_int, siz_bool, siz_str] <;> omega
  have hb0_0 := cntL_le x0.1
  have hl0_0 := siz_ints x0.1
  have hb0_1 := cntL_le x0.2
  have hb1_0 := cntL_le x1
  have hl1_0 := siz_ints x1
  refine cj_enter Try.func6 Try.ntmps6 ?_
  repeat' (first
    | refine red ?_
    | refine redf fun hbi => ?_
    | refine reds ?_
    | refine redc fun r => ?_
    | refine redv fun sv => ?_
    | refine redn fun b => ?_
    | refine redz fun zs => ?_
    | refine redq (fun hc => ?_) (fun hc => ?_)
    | with_reducible refine wq_blk_o rfl ?_
    | (refine redd fun p cs as_ hcs has hf => ?_; simp only [Un.cells, Un.atoms, Un.fact, List.cons_append, List.nil_append] at hcs has hf; subst hcs has)
    | (refine redi (fun hc => ?_) (fun hc => ?_) <;> try first | (exfalso; omega) | exact absurd rfl hc)
    | ((refine wa_begin 13 [false, false, false, false, false] [] ?_ <;> (first | refine wa_f 0 fun hbi => ?_ | refine wa_p 0 ?_ | fail) <;> (first | refine wa_f 1 fun hbi => ?_ | refine wa_p 1 ?_ | fail) <;> (refine wa_do 2 ?_ <;> (repeat' (first | refine red ?_ | refine redc fun r => ?_ | refine redv fun sv => ?_ | refine redf fun hbi => ?_ | refine redn fun b => ?_ | refine reds ?_ | refine redi (fun hc => ?_) (fun hc => ?_) | fail))) <;> (refine wa_do 3 ?_ <;> (repeat' (first | refine red ?_ | refine redc fun r => ?_ | refine redv fun sv => ?_ | refine redf fun hbi => ?_ | refine redn fun b => ?_ | refine reds ?_ | refine redi (fun hc => ?_) (fun hc => ?_) | fail))) <;> (first | refine wa_p 4 ?_ | refine wa_p0 4 ?_ | (refine wa_do 4 ?_ <;> (repeat' (first | refine red ?_ | refine redc fun r => ?_ | refine redv fun sv => ?_ | refine redf fun hbi => ?_ | refine redn fun b => ?_ | refine reds ?_ | refine redi (fun hc => ?_) (fun hc => ?_) | fail))) | fail)) <;> refine wa_end ?_)
    | fail)
  all_goals exact ⟨(), rfl, ent_e⟩

end Go.Proofs.Ytckbndcgkkohaaa
