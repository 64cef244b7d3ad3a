/- Normal terms. -/
import Derived.Test.YtckbndcgkkohaaaL07
namespace Go.Proofs.Ytckbndcgkkohaaa
open Go Go.Eng
set_option linter.unusedVariables false
set_option linter.unusedSimpArgs false

def redN (x : SSystem) (t : List Int) (k r : Nat) : Bool := (matchOf x.1 (x.2.getD r default).1 (subt x.1 t k)).isSome
def NoRed (x : SSystem) (t : List Int) (k : Nat) : Prop := ∀ i, i < k → ∀ r, r < x.2.length → redN x t i r = false
instance {x : SSystem} {t : List Int} {k : Nat} : Decidable (NoRed x t k) := by unfold NoRed; infer_instance
theorem NoRed.step {x : SSystem} {t : List Int} {k : Nat} : NoRed x t (k + 1) ↔ NoRed x t k ∧ ∀ r, r < x.2.length → redN x t k r = false := by
  constructor
  · intro h
    exact ⟨fun i hi => h i (by omega), h k (by omega)⟩
  · rintro ⟨h1, h2⟩ i hi
    by_cases he : i = k
    · subst he; exact h2
    · exact h1 i (by omega)
theorem l7Redexes_spec {w0 : World} {Γ : List Atom} {v0 v1 v : Value} {x : SSystem} {t : List Int} [h0 : HasRd (List Int) repList Γ [v0] x.1] [h1 : HasRd (List SRule) repList Γ [v1] x.2] [h2 : HasRd (List Int) repList Γ [v] t] (hs : sysOk x = true ∧ termOk x.1 t = true) : CJ Try.prog 147 [.agg #[v0, v1], v] w0 Γ (fun q : { n : Nat // n = 0 ↔ NoRed x t t.length } => .int .i64 q.1) (fun _ => Γ) := by
  refine cj_lift (R := [.rd [v0] x.1, .rd [v1] x.2, .rd [v] t]) (A := fun _ => []) (fun w1 => ?_) (reads_cons h0 (reads_cons h1 (reads_cons h2 (inferInstance)))) (fun _ => inferInstance)
  simp only [List.cons_append, List.nil_append]
  obtain ⟨hs1, hs2⟩ := hs
  have hl1 := (sysOk_iff.1 hs1).1.2
  have hl2 := termOk_len hs2
  refine cj_enter Try.func147 Try.ntmps147 ?_
  repeat' (first
    | refine red ?_
    | refine redf fun hbi => ?_
    | refine reds ?_
    | refine redc fun r => ?_
    | refine redv fun sv => ?_
    | refine redn fun b => ?_
    | refine redz fun zs => ?_
    | refine redq (fun hc => ?_) (fun hc => ?_)
    | with_reducible refine wq_blk_o rfl ?_
    | (refine redd fun p cs as_ hcs has hf => ?_; simp only [Un.cells, Un.atoms, Un.fact, List.cons_append, List.nil_append] at hcs has hf; subst hcs has)
    | (refine redi (fun hc => ?_) (fun hc => ?_) <;> try first | (exfalso; omega) | exact absurd rfl hc)
    | ((refine wa_begin 8 [false, false, false, false, false, false, false, false, false, false, false, false, false, false, false, false, false, false, false, false] [] ?_ <;> (first | refine wa_p 0 ?_ | refine wa_p0 0 ?_ | fail) <;> (first | refine wa_f 1 fun hbi => ?_ | refine wa_p 1 ?_ | fail) <;> (first | refine wa_p 2 ?_ | refine wa_p0 2 ?_ | fail) <;> (first | refine wa_f 3 fun hbi => ?_ | refine wa_p 3 ?_ | fail) <;> (first | refine wa_p 4 ?_ | refine wa_p0 4 ?_ | fail) <;> (first | refine wa_p 5 ?_ | (refine wa_deep 5 fun p cs as_ asb_ hcs has hasb hf => ?_; simp only [Un.cells, Un.atoms, Un.fact, List.cons_append, List.nil_append] at hcs has hasb hf; subst hcs has hasb) | fail) <;> (first | refine wa_p 6 ?_ | refine wa_p0 6 ?_ | fail) <;> (first | refine wa_f 7 fun hbi => ?_ | refine wa_p 7 ?_ | fail) <;> (first | refine wa_p 8 ?_ | refine wa_p0 8 ?_ | fail) <;> (first | refine wa_f 9 fun hbi => ?_ | refine wa_p 9 ?_ | fail) <;> (first | refine wa_p 10 ?_ | refine wa_p0 10 ?_ | fail) <;> (first | refine wa_p 11 ?_ | refine wa_p0 11 ?_ | fail) <;> (refine wa_two 12 17 ?_ ?_; rotate_right; (focus ((repeat' (first | refine red ?_ | refine redc fun r => ?_ | refine redv fun sv => ?_ | refine redf fun hbi => ?_ | refine redn fun b => ?_ | refine reds ?_ | refine redi (fun hc => ?_) (fun hc => ?_) | fail)) <;> (refine wa_do 12 ?_ <;> (repeat' (first | refine red ?_ | refine redc fun r => ?_ | refine redv fun sv => ?_ | refine redf fun hbi => ?_ | refine redn fun b => ?_ | refine reds ?_ | refine redi (fun hc => ?_) (fun hc => ?_) | fail))) <;> (refine wa_do 13 ?_ <;> (repeat' (first | refine red ?_ | refine redc fun r => ?_ | refine redv fun sv => ?_ | refine redf fun hbi => ?_ | refine redn fun b => ?_ | refine reds ?_ | refine redi (fun hc => ?_) (fun hc => ?_) | fail))) <;> (first | refine wa_p 14 ?_ | refine wa_p0 14 ?_ | (refine wa_do 14 ?_ <;> (repeat' (first | refine red ?_ | refine redc fun r => ?_ | refine redv fun sv => ?_ | refine redf fun hbi => ?_ | refine redn fun b => ?_ | refine reds ?_ | refine redi (fun hc => ?_) (fun hc => ?_) | fail))) | fail) <;> (first | refine wa_p 15 ?_ | refine wa_p0 15 ?_ | fail) <;> (first | refine wa_p 16 ?_ | refine wa_p0 16 ?_ | fail) <;> (refine wa_do 18 ?_ <;> (repeat' (first | refine red ?_ | refine redc fun r => ?_ | refine redv fun sv => ?_ | refine redf fun hbi => ?_ | refine redn fun b => ?_ | refine reds ?_ | refine redi (fun hc => ?_) (fun hc => ?_) | fail))) <;> (first | refine wa_p 19 ?_ | refine wa_p0 19 ?_ | (refine wa_do 19 ?_ <;> (repeat' (first | refine red ?_ | refine redc fun r => ?_ | refine redv fun sv => ?_ | refine redf fun hbi => ?_ | refine redn fun b => ?_ | refine reds ?_ | refine redi (fun hc => ?_) (fun hc => ?_) | fail))) | fail))); rotate_right; (focus ((repeat' (first | refine red ?_ | refine redc fun r => ?_ | refine redv fun sv => ?_ | refine redf fun hbi => ?_ | refine redn fun b => ?_ | refine reds ?_ | refine redi (fun hc => ?_) (fun hc => ?_) | fail)) <;> (refine wa_two 13 17 ?_ ?_; rotate_right; (focus ((repeat' (first | refine red ?_ | refine redc fun r => ?_ | refine redv fun sv => ?_ | refine redf fun hbi => ?_ | refine redn fun b => ?_ | refine reds ?_ | refine redi (fun hc => ?_) (fun hc => ?_) | fail)) <;> (refine wa_do 13 ?_ <;> (repeat' (first | refine red ?_ | refine redc fun r => ?_ | refine redv fun sv => ?_ | refine redf fun hbi => ?_ | refine redn fun b => ?_ | refine reds ?_ | refine redi (fun hc => ?_) (fun hc => ?_) | fail))) <;> (first | refine wa_p 14 ?_ | refine wa_p0 14 ?_ | (refine wa_do 14 ?_ <;> (repeat' (first | refine red ?_ | refine redc fun r => ?_ | refine redv fun sv => ?_ | refine redf fun hbi => ?_ | refine redn fun b => ?_ | refine reds ?_ | refine redi (fun hc => ?_) (fun hc => ?_) | fail))) | fail) <;> (first | refine wa_p 15 ?_ | refine wa_p0 15 ?_ | fail) <;> (first | refine wa_p 16 ?_ | refine wa_p0 16 ?_ | fail) <;> (refine wa_do 18 ?_ <;> (repeat' (first | refine red ?_ | refine redc fun r => ?_ | refine redv fun sv => ?_ | refine redf fun hbi => ?_ | refine redn fun b => ?_ | refine reds ?_ | refine redi (fun hc => ?_) (fun hc => ?_) | fail))) <;> (first | refine wa_p 19 ?_ | refine wa_p0 19 ?_ | (refine wa_do 19 ?_ <;> (repeat' (first | refine red ?_ | refine redc fun r => ?_ | refine redv fun sv => ?_ | refine redf fun hbi => ?_ | refine redn fun b => ?_ | refine reds ?_ | refine redi (fun hc => ?_) (fun hc => ?_) | fail))) | fail))); rotate_right; (focus ((repeat' (first | refine red ?_ | refine redc fun r => ?_ | refine redv fun sv => ?_ | refine redf fun hbi => ?_ | refine redn fun b => ?_ | refine reds ?_ | refine redi (fun hc => ?_) (fun hc => ?_) | fail)) <;> (first | refine wa_p 14 ?_ | refine wa_p0 14 ?_ | fail) <;> (first | refine wa_p 15 ?_ | refine wa_p0 15 ?_ | fail) <;> (first | refine wa_p 16 ?_ | refine wa_p0 16 ?_ | fail) <;> (refine wa_do 17 ?_ <;> (repeat' (first | refine red ?_ | refine redc fun r => ?_ | refine redv fun sv => ?_ | refine redf fun hbi => ?_ | refine redn fun b => ?_ | refine reds ?_ | refine redi (fun hc => ?_) (fun hc => ?_) | fail))) <;> (refine wa_do 18 ?_ <;> (repeat' (first | refine red ?_ | refine redc fun r => ?_ | refine redv fun sv => ?_ | refine redf fun hbi => ?_ | refine redn fun b => ?_ | refine reds ?_ | refine redi (fun hc => ?_) (fun hc => ?_) | fail))) <;> (first | refine wa_p 19 ?_ | refine wa_p0 19 ?_ | (refine wa_do 19 ?_ <;> (repeat' (first | refine red ?_ | refine redc fun r => ?_ | refine redv fun sv => ?_ | refine redf fun hbi => ?_ | refine redn fun b => ?_ | refine reds ?_ | refine redi (fun hc => ?_) (fun hc => ?_) | fail))) | fail)))))))) <;> refine wa_end ?_)
    | fail)
  refine wc_loop_c [5, 6] [10, 11, 12, 13, 7, 16, 17, 18, 19, 20, 24, 25, 26, 27, 28, 29, 30, 31, 32, 33, 34, 35, 36, 37, 23, 38, 39, 8, 9, 40, 41, 42, 21, 22, 14, 15] (ι := Nat × Nat) (fun k => [.int .i64 k.2, .int .i64 k.1]) (fun k => k.1 ≤ t.length ∧ k.2 ≤ 12 * k.1 ∧ (k.2 = 0 ↔ NoRed x t k.1)) (fun k => t.length - k.1) (0, 0) (by kernel_rfl) ⟨Nat.zero_le _, by simp, ⟨fun _ i hi => by omega, fun _ => rfl⟩⟩ ?_
  intro ⟨k, c⟩ u l' hl' ⟨hk, hkc, hkk⟩
  simp only [patch, List.map_cons, List.map_nil, List.set_cons_zero, List.set_cons_succ] at hl'
  subst hl'
  simp only at hk hkc hkk ⊢
  repeat' (first
    | refine red ?_
    | refine redf fun hbi => ?_
    | refine reds ?_
    | refine redc fun r => ?_
    | refine redv fun sv => ?_
    | refine redn fun b => ?_
    | refine redz fun zs => ?_
    | refine redq (fun hc => ?_) (fun hc => ?_)
    | with_reducible refine wq_blk_o rfl ?_
    | (refine redd fun p cs as_ hcs has hf => ?_; simp only [Un.cells, Un.atoms, Un.fact, List.cons_append, List.nil_append] at hcs has hf; subst hcs has)
    | (refine redi (fun hc => ?_) (fun hc => ?_) <;> try first | (exfalso; omega) | exact absurd rfl hc)
    | ((refine wa_begin 8 [false, false, false, false, false, false, false, false, false, false, false, false, false, false, false, false, false, false, false, false] [] ?_ <;> (first | refine wa_p 0 ?_ | refine wa_p0 0 ?_ | fail) <;> (first | refine wa_f 1 fun hbi => ?_ | refine wa_p 1 ?_ | fail) <;> (first | refine wa_p 2 ?_ | refine wa_p0 2 ?_ | fail) <;> (first | refine wa_f 3 fun hbi => ?_ | refine wa_p 3 ?_ | fail) <;> (first | refine wa_p 4 ?_ | refine wa_p0 4 ?_ | fail) <;> (first | refine wa_p 5 ?_ | (refine wa_deep 5 fun p cs as_ asb_ hcs has hasb hf => ?_; simp only [Un.cells, Un.atoms, Un.fact, List.cons_append, List.nil_append] at hcs has hasb hf; subst hcs has hasb) | fail) <;> (first | refine wa_p 6 ?_ | refine wa_p0 6 ?_ | fail) <;> (first | refine wa_f 7 fun hbi => ?_ | refine wa_p 7 ?_ | fail) <;> (first | refine wa_p 8 ?_ | refine wa_p0 8 ?_ | fail) <;> (first | refine wa_f 9 fun hbi => ?_ | refine wa_p 9 ?_ | fail) <;> (first | refine wa_p 10 ?_ | refine wa_p0 10 ?_ | fail) <;> (first | refine wa_p 11 ?_ | refine wa_p0 11 ?_ | fail) <;> (refine wa_two 12 17 ?_ ?_; rotate_right; (focus ((repeat' (first | refine red ?_ | refine redc fun r => ?_ | refine redv fun sv => ?_ | refine redf fun hbi => ?_ | refine redn fun b => ?_ | refine reds ?_ | refine redi (fun hc => ?_) (fun hc => ?_) | fail)) <;> (refine wa_do 12 ?_ <;> (repeat' (first | refine red ?_ | refine redc fun r => ?_ | refine redv fun sv => ?_ | refine redf fun hbi => ?_ | refine redn fun b => ?_ | refine reds ?_ | refine redi (fun hc => ?_) (fun hc => ?_) | fail))) <;> (refine wa_do 13 ?_ <;> (repeat' (first | refine red ?_ | refine redc fun r => ?_ | refine redv fun sv => ?_ | refine redf fun hbi => ?_ | refine redn fun b => ?_ | refine reds ?_ | refine redi (fun hc => ?_) (fun hc => ?_) | fail))) <;> (first | refine wa_p 14 ?_ | refine wa_p0 14 ?_ | (refine wa_do 14 ?_ <;> (repeat' (first | refine red ?_ | refine redc fun r => ?_ | refine redv fun sv => ?_ | refine redf fun hbi => ?_ | refine redn fun b => ?_ | refine reds ?_ | refine redi (fun hc => ?_) (fun hc => ?_) | fail))) | fail) <;> (first | refine wa_p 15 ?_ | refine wa_p0 15 ?_ | fail) <;> (first | refine wa_p 16 ?_ | refine wa_p0 16 ?_ | fail) <;> (refine wa_do 18 ?_ <;> (repeat' (first | refine red ?_ | refine redc fun r => ?_ | refine redv fun sv => ?_ | refine redf fun hbi => ?_ | refine redn fun b => ?_ | refine reds ?_ | refine redi (fun hc => ?_) (fun hc => ?_) | fail))) <;> (first | refine wa_p 19 ?_ | refine wa_p0 19 ?_ | (refine wa_do 19 ?_ <;> (repeat' (first | refine red ?_ | refine redc fun r => ?_ | refine redv fun sv => ?_ | refine redf fun hbi => ?_ | refine redn fun b => ?_ | refine reds ?_ | refine redi (fun hc => ?_) (fun hc => ?_) | fail))) | fail))); rotate_right; (focus ((repeat' (first | refine red ?_ | refine redc fun r => ?_ | refine redv fun sv => ?_ | refine redf fun hbi => ?_ | refine redn fun b => ?_ | refine reds ?_ | refine redi (fun hc => ?_) (fun hc => ?_) | fail)) <;> (refine wa_two 13 17 ?_ ?_; rotate_right; (focus ((repeat' (first | refine red ?_ | refine redc fun r => ?_ | refine redv fun sv => ?_ | refine redf fun hbi => ?_ | refine redn fun b => ?_ | refine reds ?_ | refine redi (fun hc => ?_) (fun hc => ?_) | fail)) <;> (refine wa_do 13 ?_ <;> (repeat' (first | refine red ?_ | refine redc fun r => ?_ | refine redv fun sv => ?_ | refine redf fun hbi => ?_ | refine redn fun b => ?_ | refine reds ?_ | refine redi (fun hc => ?_) (fun hc => ?_) | fail))) <;> (first | refine wa_p 14 ?_ | refine wa_p0 14 ?_ | (refine wa_do 14 ?_ <;> (repeat' (first | refine red ?_ | refine redc fun r => ?_ | refine redv fun sv => ?_ | refine redf fun hbi => ?_ | refine redn fun b => ?_ | refine reds ?_ | refine redi (fun hc => ?_) (fun hc => ?_) | fail))) | fail) <;> (first | refine wa_p 15 ?_ | refine wa_p0 15 ?_ | fail) <;> (first | refine wa_p 16 ?_ | refine wa_p0 16 ?_ | fail) <;> (refine wa_do 18 ?_ <;> (repeat' (first | refine red ?_ | refine redc fun r => ?_ | refine redv fun sv => ?_ | refine redf fun hbi => ?_ | refine redn fun b => ?_ | refine reds ?_ | refine redi (fun hc => ?_) (fun hc => ?_) | fail))) <;> (first | refine wa_p 19 ?_ | refine wa_p0 19 ?_ | (refine wa_do 19 ?_ <;> (repeat' (first | refine red ?_ | refine redc fun r => ?_ | refine redv fun sv => ?_ | refine redf fun hbi => ?_ | refine redn fun b => ?_ | refine reds ?_ | refine redi (fun hc => ?_) (fun hc => ?_) | fail))) | fail))); rotate_right; (focus ((repeat' (first | refine red ?_ | refine redc fun r => ?_ | refine redv fun sv => ?_ | refine redf fun hbi => ?_ | refine redn fun b => ?_ | refine reds ?_ | refine redi (fun hc => ?_) (fun hc => ?_) | fail)) <;> (first | refine wa_p 14 ?_ | refine wa_p0 14 ?_ | fail) <;> (first | refine wa_p 15 ?_ | refine wa_p0 15 ?_ | fail) <;> (first | refine wa_p 16 ?_ | refine wa_p0 16 ?_ | fail) <;> (refine wa_do 17 ?_ <;> (repeat' (first | refine red ?_ | refine redc fun r => ?_ | refine redv fun sv => ?_ | refine redf fun hbi => ?_ | refine redn fun b => ?_ | refine reds ?_ | refine redi (fun hc => ?_) (fun hc => ?_) | fail))) <;> (refine wa_do 18 ?_ <;> (repeat' (first | refine red ?_ | refine redc fun r => ?_ | refine redv fun sv => ?_ | refine redf fun hbi => ?_ | refine redn fun b => ?_ | refine reds ?_ | refine redi (fun hc => ?_) (fun hc => ?_) | fail))) <;> (first | refine wa_p 19 ?_ | refine wa_p0 19 ?_ | (refine wa_do 19 ?_ <;> (repeat' (first | refine red ?_ | refine redc fun r => ?_ | refine redv fun sv => ?_ | refine redf fun hbi => ?_ | refine redn fun b => ?_ | refine reds ?_ | refine redi (fun hc => ?_) (fun hc => ?_) | fail))) | fail)))))))) <;> refine wa_end ?_)
    | fail)
  · refine wc_loop_c [5, 7] [16, 17, 18, 19, 20, 24, 25, 26, 27, 28, 29, 30, 31, 32, 33, 34, 35, 36, 37, 23, 38, 39, 8, 9, 40, 41, 42, 21, 22] (ι := Nat × Nat) (fun j => [.int .i64 j.2, .int .i64 j.1]) (fun j => j.1 ≤ x.2.length ∧ j.2 ≤ 12 * k + j.1 ∧ (j.2 = 0 ↔ NoRed x t k ∧ ∀ r, r < j.1 → redN x t k r = false)) (fun j => x.2.length - j.1) (0, c) (by kernel_rfl) ⟨Nat.zero_le _, by simpa using hkc, ⟨fun h => ⟨hkk.1 h, fun r hr => by omega⟩, fun h => hkk.2 h.1⟩⟩ ?_
    intro ⟨j, c'⟩ u l' hl' ⟨hj, hjc, hjj⟩
    simp only [patch, List.map_cons, List.map_nil, List.set_cons_zero, List.set_cons_succ] at hl'
    subst hl'
    simp only at hj hjc hjj ⊢
    by_cases hlt : j < x.2.length
    · have hL := sys_left hs1 hlt
      have hT := subt_ok hs2 (k := k) (by omega)
      repeat' (first
        | refine red ?_
        | refine redf fun hbi => ?_
        | refine reds ?_
        | refine redc fun r => ?_
        | refine redv fun sv => ?_
        | refine redn fun b => ?_
        | refine redz fun zs => ?_
        | refine redq (fun hc => ?_) (fun hc => ?_)
        | with_reducible refine wq_blk_o rfl ?_
        | (refine redd fun p cs as_ hcs has hf => ?_; simp only [Un.cells, Un.atoms, Un.fact, List.cons_append, List.nil_append] at hcs has hf; subst hcs has)
        | (refine redi (fun hc => ?_) (fun hc => ?_) <;> try first | (exfalso; omega) | exact absurd rfl hc)
        | ((refine wa_begin 8 [false, false, false, false, false, false, false, false, false, false, false, false, false, false, false, false, false, false, false, false] [] ?_ <;> (first | refine wa_p 0 ?_ | refine wa_p0 0 ?_ | fail) <;> (first | refine wa_f 1 fun hbi => ?_ | refine wa_p 1 ?_ | fail) <;> (first | refine wa_p 2 ?_ | refine wa_p0 2 ?_ | fail) <;> (first | refine wa_f 3 fun hbi => ?_ | refine wa_p 3 ?_ | fail) <;> (first | refine wa_p 4 ?_ | refine wa_p0 4 ?_ | fail) <;> (first | refine wa_p 5 ?_ | (refine wa_deep 5 fun p cs as_ asb_ hcs has hasb hf => ?_; simp only [Un.cells, Un.atoms, Un.fact, List.cons_append, List.nil_append] at hcs has hasb hf; subst hcs has hasb) | fail) <;> (first | refine wa_p 6 ?_ | refine wa_p0 6 ?_ | fail) <;> (first | refine wa_f 7 fun hbi => ?_ | refine wa_p 7 ?_ | fail) <;> (first | refine wa_p 8 ?_ | refine wa_p0 8 ?_ | fail) <;> (first | refine wa_f 9 fun hbi => ?_ | refine wa_p 9 ?_ | fail) <;> (first | refine wa_p 10 ?_ | refine wa_p0 10 ?_ | fail) <;> (first | refine wa_p 11 ?_ | refine wa_p0 11 ?_ | fail) <;> (refine wa_two 12 17 ?_ ?_; rotate_right; (focus ((repeat' (first | refine red ?_ | refine redc fun r => ?_ | refine redv fun sv => ?_ | refine redf fun hbi => ?_ | refine redn fun b => ?_ | refine reds ?_ | refine redi (fun hc => ?_) (fun hc => ?_) | fail)) <;> (refine wa_do 12 ?_ <;> (repeat' (first | refine red ?_ | refine redc fun r => ?_ | refine redv fun sv => ?_ | refine redf fun hbi => ?_ | refine redn fun b => ?_ | refine reds ?_ | refine redi (fun hc => ?_) (fun hc => ?_) | fail))) <;> (refine wa_do 13 ?_ <;> (repeat' (first | refine red ?_ | refine redc fun r => ?_ | refine redv fun sv => ?_ | refine redf fun hbi => ?_ | refine redn fun b => ?_ | refine reds ?_ | refine redi (fun hc => ?_) (fun hc => ?_) | fail))) <;> (first | refine wa_p 14 ?_ | refine wa_p0 14 ?_ | (refine wa_do 14 ?_ <;> (repeat' (first | refine red ?_ | refine redc fun r => ?_ | refine redv fun sv => ?_ | refine redf fun hbi => ?_ | refine redn fun b => ?_ | refine reds ?_ | refine redi (fun hc => ?_) (fun hc => ?_) | fail))) | fail) <;> (first | refine wa_p 15 ?_ | refine wa_p0 15 ?_ | fail) <;> (first | refine wa_p 16 ?_ | refine wa_p0 16 ?_ | fail) <;> (refine wa_do 18 ?_ <;> (repeat' (first | refine red ?_ | refine redc fun r => ?_ | refine redv fun sv => ?_ | refine redf fun hbi => ?_ | refine redn fun b => ?_ | refine reds ?_ | refine redi (fun hc => ?_) (fun hc => ?_) | fail))) <;> (first | refine wa_p 19 ?_ | refine wa_p0 19 ?_ | (refine wa_do 19 ?_ <;> (repeat' (first | refine red ?_ | refine redc fun r => ?_ | refine redv fun sv => ?_ | refine redf fun hbi => ?_ | refine redn fun b => ?_ | refine reds ?_ | refine redi (fun hc => ?_) (fun hc => ?_) | fail))) | fail))); rotate_right; (focus ((repeat' (first | refine red ?_ | refine redc fun r => ?_ | refine redv fun sv => ?_ | refine redf fun hbi => ?_ | refine redn fun b => ?_ | refine reds ?_ | refine redi (fun hc => ?_) (fun hc => ?_) | fail)) <;> (refine wa_two 13 17 ?_ ?_; rotate_right; (focus ((repeat' (first | refine red ?_ | refine redc fun r => ?_ | refine redv fun sv => ?_ | refine redf fun hbi => ?_ | refine redn fun b => ?_ | refine reds ?_ | refine redi (fun hc => ?_) (fun hc => ?_) | fail)) <;> (refine wa_do 13 ?_ <;> (repeat' (first | refine red ?_ | refine redc fun r => ?_ | refine redv fun sv => ?_ | refine redf fun hbi => ?_ | refine redn fun b => ?_ | refine reds ?_ | refine redi (fun hc => ?_) (fun hc => ?_) | fail))) <;> (first | refine wa_p 14 ?_ | refine wa_p0 14 ?_ | (refine wa_do 14 ?_ <;> (repeat' (first | refine red ?_ | refine redc fun r => ?_ | refine redv fun sv => ?_ | refine redf fun hbi => ?_ | refine redn fun b => ?_ | refine reds ?_ | refine redi (fun hc => ?_) (fun hc => ?_) | fail))) | fail) <;> (first | refine wa_p 15 ?_ | refine wa_p0 15 ?_ | fail) <;> (first | refine wa_p 16 ?_ | refine wa_p0 16 ?_ | fail) <;> (refine wa_do 18 ?_ <;> (repeat' (first | refine red ?_ | refine redc fun r => ?_ | refine redv fun sv => ?_ | refine redf fun hbi => ?_ | refine redn fun b => ?_ | refine reds ?_ | refine redi (fun hc => ?_) (fun hc => ?_) | fail))) <;> (first | refine wa_p 19 ?_ | refine wa_p0 19 ?_ | (refine wa_do 19 ?_ <;> (repeat' (first | refine red ?_ | refine redc fun r => ?_ | refine redv fun sv => ?_ | refine redf fun hbi => ?_ | refine redn fun b => ?_ | refine reds ?_ | refine redi (fun hc => ?_) (fun hc => ?_) | fail))) | fail))); rotate_right; (focus ((repeat' (first | refine red ?_ | refine redc fun r => ?_ | refine redv fun sv => ?_ | refine redf fun hbi => ?_ | refine redn fun b => ?_ | refine reds ?_ | refine redi (fun hc => ?_) (fun hc => ?_) | fail)) <;> (first | refine wa_p 14 ?_ | refine wa_p0 14 ?_ | fail) <;> (first | refine wa_p 15 ?_ | refine wa_p0 15 ?_ | fail) <;> (first | refine wa_p 16 ?_ | refine wa_p0 16 ?_ | fail) <;> (refine wa_do 17 ?_ <;> (repeat' (first | refine red ?_ | refine redc fun r => ?_ | refine redv fun sv => ?_ | refine redf fun hbi => ?_ | refine redn fun b => ?_ | refine reds ?_ | refine redi (fun hc => ?_) (fun hc => ?_) | fail))) <;> (refine wa_do 18 ?_ <;> (repeat' (first | refine red ?_ | refine redc fun r => ?_ | refine redv fun sv => ?_ | refine redf fun hbi => ?_ | refine redn fun b => ?_ | refine reds ?_ | refine redi (fun hc => ?_) (fun hc => ?_) | fail))) <;> (first | refine wa_p 19 ?_ | refine wa_p0 19 ?_ | (refine wa_do 19 ?_ <;> (repeat' (first | refine red ?_ | refine redc fun r => ?_ | refine redv fun sv => ?_ | refine redf fun hbi => ?_ | refine redn fun b => ?_ | refine reds ?_ | refine redi (fun hc => ?_) (fun hc => ?_) | fail))) | fail)))))))) <;> refine wa_end ?_)
        | fail)
      all_goals first
        | (have hh : redN x t k j = true := hc
           exact wq_next (j + 1, c' + 1) ⟨by simp only; omega, by simp only; omega, ⟨fun h => absurd h (by simp only; omega), fun h => absurd (h.2 j (by simp only; omega)) (by rw [hh]; simp)⟩⟩ (by simp only; omega) (by kernel_rfl) ent_e)
        | (have hh : redN x t k j = false := hc
           exact wq_next (j + 1, c') ⟨by simp only; omega, by simp only; omega, ⟨fun h => ⟨(hjj.1 h).1, fun r hr => by
             by_cases he : r = j
             · rw [he]; exact hh
             · exact (hjj.1 h).2 r (by simp only at hr; omega)⟩, fun h => hjj.2 ⟨h.1, fun r hr => h.2 r (by simp only; omega)⟩⟩⟩ (by simp only; omega) (by kernel_rfl) ent_e)
    · repeat' (first
        | refine red ?_
        | refine redf fun hbi => ?_
        | refine reds ?_
        | refine redc fun r => ?_
        | refine redv fun sv => ?_
        | refine redn fun b => ?_
        | refine redz fun zs => ?_
        | refine redq (fun hc => ?_) (fun hc => ?_)
        | with_reducible refine wq_blk_o rfl ?_
        | (refine redd fun p cs as_ hcs has hf => ?_; simp only [Un.cells, Un.atoms, Un.fact, List.cons_append, List.nil_append] at hcs has hf; subst hcs has)
        | (refine redi (fun hc => ?_) (fun hc => ?_) <;> try first | (exfalso; omega) | exact absurd rfl hc)
        | ((refine wa_begin 8 [false, false, false, false, false, false, false, false, false, false, false, false, false, false, false, false, false, false, false, false] [] ?_ <;> (first | refine wa_p 0 ?_ | refine wa_p0 0 ?_ | fail) <;> (first | refine wa_f 1 fun hbi => ?_ | refine wa_p 1 ?_ | fail) <;> (first | refine wa_p 2 ?_ | refine wa_p0 2 ?_ | fail) <;> (first | refine wa_f 3 fun hbi => ?_ | refine wa_p 3 ?_ | fail) <;> (first | refine wa_p 4 ?_ | refine wa_p0 4 ?_ | fail) <;> (first | refine wa_p 5 ?_ | (refine wa_deep 5 fun p cs as_ asb_ hcs has hasb hf => ?_; simp only [Un.cells, Un.atoms, Un.fact, List.cons_append, List.nil_append] at hcs has hasb hf; subst hcs has hasb) | fail) <;> (first | refine wa_p 6 ?_ | refine wa_p0 6 ?_ | fail) <;> (first | refine wa_f 7 fun hbi => ?_ | refine wa_p 7 ?_ | fail) <;> (first | refine wa_p 8 ?_ | refine wa_p0 8 ?_ | fail) <;> (first | refine wa_f 9 fun hbi => ?_ | refine wa_p 9 ?_ | fail) <;> (first | refine wa_p 10 ?_ | refine wa_p0 10 ?_ | fail) <;> (first | refine wa_p 11 ?_ | refine wa_p0 11 ?_ | fail) <;> (refine wa_two 12 17 ?_ ?_; rotate_right; (focus ((repeat' (first | refine red ?_ | refine redc fun r => ?_ | refine redv fun sv => ?_ | refine redf fun hbi => ?_ | refine redn fun b => ?_ | refine reds ?_ | refine redi (fun hc => ?_) (fun hc => ?_) | fail)) <;> (refine wa_do 12 ?_ <;> (repeat' (first | refine red ?_ | refine redc fun r => ?_ | refine redv fun sv => ?_ | refine redf fun hbi => ?_ | refine redn fun b => ?_ | refine reds ?_ | refine redi (fun hc => ?_) (fun hc => ?_) | fail))) <;> (refine wa_do 13 ?_ <;> (repeat' (first | refine red ?_ | refine redc fun r => ?_ | refine redv fun sv => ?_ | refine redf fun hbi => ?_ | refine redn fun b => ?_ | refine reds ?_ | refine redi (fun hc => ?_) (fun hc => ?_) | fail))) <;> (first | refine wa_p 14 ?_ | refine wa_p0 14 ?_ | (refine wa_do 14 ?_ <;> (repeat' (first | refine red ?_ | refine redc fun r => ?_ | refine redv fun sv => ?_ | refine redf fun hbi => ?_ | refine redn fun b => ?_ | refine reds ?_ | refine redi (fun hc => ?_) (fun hc => ?_) | fail))) | fail) <;> (first | refine wa_p 15 ?_ | refine wa_p0 15 ?_ | fail) <;> (first | refine wa_p 16 ?_ | refine wa_p0 16 ?_ | fail) <;> (refine wa_do 18 ?_ <;> (repeat' (first | refine red ?_ | refine redc fun r => ?_ | refine redv fun sv => ?_ | refine redf fun hbi => ?_ | refine redn fun b => ?_ | refine reds ?_ | refine redi (fun hc => ?_) (fun hc => ?_) | fail))) <;> (first | refine wa_p 19 ?_ | refine wa_p0 19 ?_ | (refine wa_do 19 ?_ <;> (repeat' (first | refine red ?_ | refine redc fun r => ?_ | refine redv fun sv => ?_ | refine redf fun hbi => ?_ | refine redn fun b => ?_ | refine reds ?_ | refine redi (fun hc => ?_) (fun hc => ?_) | fail))) | fail))); rotate_right; (focus ((repeat' (first | refine red ?_ | refine redc fun r => ?_ | refine redv fun sv => ?_ | refine redf fun hbi => ?_ | refine redn fun b => ?_ | refine reds ?_ | refine redi (fun hc => ?_) (fun hc => ?_) | fail)) <;> (refine wa_two 13 17 ?_ ?_; rotate_right; (focus ((repeat' (first | refine red ?_ | refine redc fun r => ?_ | refine redv fun sv => ?_ | refine redf fun hbi => ?_ | refine redn fun b => ?_ | refine reds ?_ | refine redi (fun hc => ?_) (fun hc => ?_) | fail)) <;> (refine wa_do 13 ?_ <;> (repeat' (first | refine red ?_ | refine redc fun r => ?_ | refine redv fun sv => ?_ | refine redf fun hbi => ?_ | refine redn fun b => ?_ | refine reds ?_ | refine redi (fun hc => ?_) (fun hc => ?_) | fail))) <;> (first | refine wa_p 14 ?_ | refine wa_p0 14 ?_ | (refine wa_do 14 ?_ <;> (repeat' (first | refine red ?_ | refine redc fun r => ?_ | refine redv fun sv => ?_ | refine redf fun hbi => ?_ | refine redn fun b => ?_ | refine reds ?_ | refine redi (fun hc => ?_) (fun hc => ?_) | fail))) | fail) <;> (first | refine wa_p 15 ?_ | refine wa_p0 15 ?_ | fail) <;> (first | refine wa_p 16 ?_ | refine wa_p0 16 ?_ | fail) <;> (refine wa_do 18 ?_ <;> (repeat' (first | refine red ?_ | refine redc fun r => ?_ | refine redv fun sv => ?_ | refine redf fun hbi => ?_ | refine redn fun b => ?_ | refine reds ?_ | refine redi (fun hc => ?_) (fun hc => ?_) | fail))) <;> (first | refine wa_p 19 ?_ | refine wa_p0 19 ?_ | (refine wa_do 19 ?_ <;> (repeat' (first | refine red ?_ | refine redc fun r => ?_ | refine redv fun sv => ?_ | refine redf fun hbi => ?_ | refine redn fun b => ?_ | refine reds ?_ | refine redi (fun hc => ?_) (fun hc => ?_) | fail))) | fail))); rotate_right; (focus ((repeat' (first | refine red ?_ | refine redc fun r => ?_ | refine redv fun sv => ?_ | refine redf fun hbi => ?_ | refine redn fun b => ?_ | refine reds ?_ | refine redi (fun hc => ?_) (fun hc => ?_) | fail)) <;> (first | refine wa_p 14 ?_ | refine wa_p0 14 ?_ | fail) <;> (first | refine wa_p 15 ?_ | refine wa_p0 15 ?_ | fail) <;> (first | refine wa_p 16 ?_ | refine wa_p0 16 ?_ | fail) <;> (refine wa_do 17 ?_ <;> (repeat' (first | refine red ?_ | refine redc fun r => ?_ | refine redv fun sv => ?_ | refine redf fun hbi => ?_ | refine redn fun b => ?_ | refine reds ?_ | refine redi (fun hc => ?_) (fun hc => ?_) | fail))) <;> (refine wa_do 18 ?_ <;> (repeat' (first | refine red ?_ | refine redc fun r => ?_ | refine redv fun sv => ?_ | refine redf fun hbi => ?_ | refine redn fun b => ?_ | refine reds ?_ | refine redi (fun hc => ?_) (fun hc => ?_) | fail))) <;> (first | refine wa_p 19 ?_ | refine wa_p0 19 ?_ | (refine wa_do 19 ?_ <;> (repeat' (first | refine red ?_ | refine redc fun r => ?_ | refine redv fun sv => ?_ | refine redf fun hbi => ?_ | refine redn fun b => ?_ | refine reds ?_ | refine redi (fun hc => ?_) (fun hc => ?_) | fail))) | fail)))))))) <;> refine wa_end ?_)
        | fail)
      rw [show j = x.2.length by omega] at hjj
      exact wq_next (k + 1, c') ⟨by simp only; omega, by simp only; omega, hjj.trans NoRed.step.symm⟩ (by simp only; omega) (by kernel_rfl) ent_e
  · exact ⟨⟨c, by rw [hkk, show k = t.length by omega]⟩, rfl, ent_e⟩

instance l7Redexes_ctr {Γ : List Atom} {v0 v1 v : Value} {x : SSystem} {t : List Int} [h0 : HasRd (List Int) repList Γ [v0] x.1] [h1 : HasRd (List SRule) repList Γ [v1] x.2] [h2 : HasRd (List Int) repList Γ [v] t] :
    CtrC Try.prog 147 [.agg #[v0, v1], v] Γ (sysOk x = true ∧ termOk x.1 t = true) ({ n : Nat // n = 0 ↔ NoRed x t t.length }) (fun q : { n : Nat // n = 0 ↔ NoRed x t t.length } => .int .i64 q.1) (fun _ => Γ) := ⟨fun s w0 => l7Redexes_spec s⟩

theorem var_no {x : SSystem} {t : List Int} {k r : Nat} (hs : sysOk x = true) (ht : termOk x.1 t = true) (hk : k < t.length) (hr : r < x.2.length) (hv : t.getD k 0 < 0) : redN x t k r = false := by
  have hl := (termOk_len (subt_ok ht hk)).1
  have hp := (termOk_len (sys_left hs hr)).1
  have hroot : 0 ≤ (x.2.getD r default).1.getD 0 0 := (of_decide_eq_true ((sysOk_iff.1 hs).2 _ (getD_memD hr)) : RuleP _ _).1.2.2
  have hh : (subt x.1 t k).getD 0 0 = t.getD k 0 := by
    unfold subt at hl ⊢
    rw [drop_get hk] at hl ⊢
    cases hz : sz x.1 t k with
    | zero => rw [hz] at hl; simp at hl
    | succ n => simp
  unfold redN matchOf
  have := match_sym_ne (a := x.1) (p := (x.2.getD r default).1) (t := subt x.1 t k) (b := List.replicate 24 []) (i := 0) (k := 0) (by omega) (by omega) hroot (by rw [hh]; omega)
  simp only [List.drop_zero] at this
  rw [this]; rfl
theorem ruleAt_spec {w0 : World} {Γ : List Atom} {v0 v1 v : Value} {x : SSystem} {t : List Int} {at_ : Int} [h0 : HasRd (List Int) repList Γ [v0] x.1] [h1 : HasRd (List SRule) repList Γ [v1] x.2] [h2 : HasRd (List Int) repList Γ [v] t] (hs : sysOk x = true ∧ termOk x.1 t = true ∧ 0 ≤ at_ ∧ at_ < t.length) : CJ Try.prog 90 [.agg #[v0, v1], v, .int .i64 at_] w0 Γ (fun q : { n : Int // 0 ≤ n ↔ ∃ r, r < x.2.length ∧ redN x t at_.toNat r = true } => .int .i64 q.1) (fun _ => Γ) := by
  refine cj_lift (R := [.rd [v0] x.1, .rd [v1] x.2, .rd [v] t]) (A := fun _ => []) (fun w1 => ?_) (reads_cons h0 (reads_cons h1 (reads_cons h2 (inferInstance)))) (fun _ => inferInstance)
  simp only [List.cons_append, List.nil_append]
  obtain ⟨hs1, hs2, hs3, hs4⟩ := hs
  have hl1 := (sysOk_iff.1 hs1).1.2
  refine cj_enter Try.func90 Try.ntmps90 ?_
  repeat' (first
    | refine red ?_
    | refine redf fun hbi => ?_
    | refine reds ?_
    | refine redc fun r => ?_
    | refine redv fun sv => ?_
    | refine redn fun b => ?_
    | refine redz fun zs => ?_
    | refine redq (fun hc => ?_) (fun hc => ?_)
    | with_reducible refine wq_blk_o rfl ?_
    | (refine redd fun p cs as_ hcs has hf => ?_; simp only [Un.cells, Un.atoms, Un.fact, List.cons_append, List.nil_append] at hcs has hf; subst hcs has)
    | (refine redi (fun hc => ?_) (fun hc => ?_) <;> try first | (exfalso; omega) | exact absurd rfl hc)
    | fail)
  refine wc_loop_c [11] [12, 13, 7, 14, 15, 16, 17, 18, 19, 6, 20] (ι := Nat) (fun k => [.int .i64 k]) (fun k => k ≤ x.2.length ∧ ∀ r, r < k → redN x t at_.toNat r = false) (fun k => x.2.length - k) 0 (by kernel_rfl) ⟨Nat.zero_le _, fun r hr => by omega⟩ ?_
  intro k u l' hl' ⟨hk, hkk⟩
  simp only [patch, List.map_cons, List.map_nil, List.set_cons_zero, List.set_cons_succ] at hl'
  subst hl'
  by_cases hlt : k < x.2.length
  · have hred : RedP x t at_ (k : Int) := ⟨hs1, ⟨hs2, hs3, hs4⟩, by omega, by omega⟩
    repeat' (first
      | refine red ?_
      | refine redf fun hbi => ?_
      | refine reds ?_
      | refine redc fun r => ?_
      | refine redv fun sv => ?_
      | refine redn fun b => ?_
      | refine redz fun zs => ?_
      | refine redq (fun hc => ?_) (fun hc => ?_)
      | with_reducible refine wq_blk_o rfl ?_
      | (refine redd fun p cs as_ hcs has hf => ?_; simp only [Un.cells, Un.atoms, Un.fact, List.cons_append, List.nil_append] at hcs has hf; subst hcs has)
      | (refine redi (fun hc => ?_) (fun hc => ?_) <;> try first | (exfalso; omega) | exact absurd rfl hc)
      | fail)
    · have hh : redN x t at_.toNat k = true := hc
      exact ⟨⟨(k : Int), ⟨fun _ => ⟨k, hlt, hh⟩, fun _ => by omega⟩⟩, rfl, ent_e⟩
    · have hh : redN x t at_.toNat k = false := hc
      exact wq_next (k + 1) ⟨by omega, fun r hr => by
        by_cases he : r = k
        · rw [he]; exact hh
        · exact hkk r (by omega)⟩ (by omega) (by kernel_rfl) ent_e
  · repeat' (first
      | refine red ?_
      | refine redf fun hbi => ?_
      | refine reds ?_
      | refine redc fun r => ?_
      | refine redv fun sv => ?_
      | refine redn fun b => ?_
      | refine redz fun zs => ?_
      | refine redq (fun hc => ?_) (fun hc => ?_)
      | with_reducible refine wq_blk_o rfl ?_
      | (refine redd fun p cs as_ hcs has hf => ?_; simp only [Un.cells, Un.atoms, Un.fact, List.cons_append, List.nil_append] at hcs has hf; subst hcs has)
      | (refine redi (fun hc => ?_) (fun hc => ?_) <;> try first | (exfalso; omega) | exact absurd rfl hc)
      | fail)
    exact ⟨⟨-1, ⟨fun h => by omega, fun ⟨r, hr, h⟩ => by rw [hkk r (by omega)] at h; cases h⟩⟩, rfl, ent_e⟩
instance ruleAt_ctr {Γ : List Atom} {v0 v1 v : Value} {x : SSystem} {t : List Int} {at_ : Int} [h0 : HasRd (List Int) repList Γ [v0] x.1] [h1 : HasRd (List SRule) repList Γ [v1] x.2] [h2 : HasRd (List Int) repList Γ [v] t] :
    CtrC Try.prog 90 [.agg #[v0, v1], v, .int .i64 at_] Γ (sysOk x = true ∧ termOk x.1 t = true ∧ 0 ≤ at_ ∧ at_ < t.length) ({ n : Int // 0 ≤ n ↔ ∃ r, r < x.2.length ∧ redN x t at_.toNat r = true }) (fun q : { n : Int // 0 ≤ n ↔ ∃ r, r < x.2.length ∧ redN x t at_.toNat r = true } => .int .i64 q.1) (fun _ => Γ) := ⟨fun s w0 => ruleAt_spec s⟩

theorem normal_spec {w0 : World} {Γ : List Atom} {v0 v1 v : Value} {x : SSystem} {t : List Int} [h0 : HasRd (List Int) repList Γ [v0] x.1] [h1 : HasRd (List SRule) repList Γ [v1] x.2] [h2 : HasRd (List Int) repList Γ [v] t] (hs : sysOk x = true ∧ termOk x.1 t = true) : CJ Try.prog 74 [.agg #[v0, v1], v] w0 Γ (fun _ : Unit => .bool (decide (NoRed x t t.length))) (fun _ => Γ) := by
  refine cj_lift (R := [.rd [v0] x.1, .rd [v1] x.2, .rd [v] t]) (A := fun _ => []) (fun w1 => ?_) (reads_cons h0 (reads_cons h1 (reads_cons h2 (inferInstance)))) (fun _ => inferInstance)
  simp only [List.cons_append, List.nil_append]
  obtain ⟨hs1, hs2⟩ := hs
  have hl2 := termOk_len hs2
  refine cj_enter Try.func74 Try.ntmps74 ?_
  repeat' (first
    | refine red ?_
    | refine redf fun hbi => ?_
    | refine reds ?_
    | refine redc fun r => ?_
    | refine redv fun sv => ?_
    | refine redn fun b => ?_
    | refine redz fun zs => ?_
    | refine redq (fun hc => ?_) (fun hc => ?_)
    | with_reducible refine wq_blk_o rfl ?_
    | (refine redd fun p cs as_ hcs has hf => ?_; simp only [Un.cells, Un.atoms, Un.fact, List.cons_append, List.nil_append] at hcs has hf; subst hcs has)
    | (refine redi (fun hc => ?_) (fun hc => ?_) <;> try first | (exfalso; omega) | exact absurd rfl hc)
    | fail)
  refine wc_loop_c [9] [10, 11, 12, 13, 5, 6, 14, 15, 16, 17, 18, 19, 20, 21, 22, 4, 23] (ι := Nat) (fun k => [.int .i64 k]) (fun k => k ≤ t.length ∧ NoRed x t k) (fun k => t.length - k) 0 (by kernel_rfl) ⟨Nat.zero_le _, fun i hi => by omega⟩ ?_
  intro k u l' hl' ⟨hk, hkk⟩
  simp only [patch, List.map_cons, List.map_nil, List.set_cons_zero, List.set_cons_succ] at hl'
  subst hl'
  repeat' (first
    | refine red ?_
    | refine redf fun hbi => ?_
    | refine reds ?_
    | refine redc fun r => ?_
    | refine redv fun sv => ?_
    | refine redn fun b => ?_
    | refine redz fun zs => ?_
    | refine redq (fun hc => ?_) (fun hc => ?_)
    | with_reducible refine wq_blk_o rfl ?_
    | (refine redd fun p cs as_ hcs has hf => ?_; simp only [Un.cells, Un.atoms, Un.fact, List.cons_append, List.nil_append] at hcs has hf; subst hcs has)
    | (refine redi (fun hc => ?_) (fun hc => ?_) <;> try first | (exfalso; omega) | exact absurd rfl hc)
    | fail)
  · refine ⟨(), ret_bool (decide_eq_false fun h => ?_), ent_e⟩
    obtain ⟨i, hi, hr⟩ := r.2.1 hc
    have hr' : redN x t k i = true := hr
    rw [h k (by omega) i hi] at hr'
    cases hr'
  · refine wq_next (k + 1) ⟨by omega, NoRed.step.2 ⟨hkk, fun i hi => ?_⟩⟩ (by omega) (by kernel_rfl) ent_e
    cases hr : redN x t k i with
    | false => rfl
    | true => exact absurd (r.2.2 ⟨i, hi, hr⟩) (by omega)
  · exact wq_next (k + 1) ⟨by omega, NoRed.step.2 ⟨hkk, fun i hi => var_no hs1 hs2 (by omega) hi hc⟩⟩ (by omega) (by kernel_rfl) ent_e
  · exact ⟨(), ret_bool (decide_eq_true (by rw [show k = t.length by omega] at hkk; exact hkk)), ent_e⟩
instance normal_ctr {Γ : List Atom} {v0 v1 v : Value} {x : SSystem} {t : List Int} [h0 : HasRd (List Int) repList Γ [v0] x.1] [h1 : HasRd (List SRule) repList Γ [v1] x.2] [h2 : HasRd (List Int) repList Γ [v] t] :
    CtrC Try.prog 74 [.agg #[v0, v1], v] Γ (sysOk x = true ∧ termOk x.1 t = true) (Unit) (fun _ : Unit => .bool (decide (NoRed x t t.length))) (fun _ => Γ) := ⟨fun s w0 => normal_spec s⟩

def normalIn (x : SSystem) (t : List Int) : Bool := sysOk x && (termOk x.1 t && decide (NoRed x t t.length))
theorem spec_NormalIn_spec {w0 : World} {Γ : List Atom} {v0 v1 v : Value} {x : SSystem} {t : List Int} [h0 : HasRd (List Int) repList Γ [v0] x.1] [h1 : HasRd (List SRule) repList Γ [v1] x.2] [h2 : HasRd (List Int) repList Γ [v] t] : CJ Try.prog 70 [.agg #[v0, v1], v] w0 Γ (fun _ : Unit => .bool (normalIn x t)) (fun _ => Γ) := by
  refine cj_enter Try.func70 Try.ntmps70 ?_
  repeat' (first
    | refine red ?_
    | refine redf fun hbi => ?_
    | refine reds ?_
    | refine redc fun r => ?_
    | refine redv fun sv => ?_
    | refine redn fun b => ?_
    | refine redz fun zs => ?_
    | refine redq (fun hc => ?_) (fun hc => ?_)
    | with_reducible refine wq_blk_o rfl ?_
    | (refine redd fun p cs as_ hcs has hf => ?_; simp only [Un.cells, Un.atoms, Un.fact, List.cons_append, List.nil_append] at hcs has hf; subst hcs has)
    | (refine redi (fun hc => ?_) (fun hc => ?_) <;> try first | (exfalso; omega) | exact absurd rfl hc)
    | fail)
  · refine ⟨(), ret_bool ?_, ent_e⟩
    unfold normalIn
    rw [hc.1, hc.2, Bool.true_and, Bool.true_and]
    refine decide_eq_decide.2 (r.2.symm.trans ⟨fun h => by omega, fun h => by omega⟩)
  · refine ⟨(), ret_bool ?_, ent_e⟩
    unfold normalIn
    cases h3 : sysOk x with
    | false => rfl
    | true =>
      cases h4 : termOk x.1 t with
      | false => rfl
      | true => exact absurd ⟨h3, h4⟩ hc
instance spec_NormalIn_ctr {Γ : List Atom} {v0 v1 v : Value} {x : SSystem} {t : List Int} [h0 : HasRd (List Int) repList Γ [v0] x.1] [h1 : HasRd (List SRule) repList Γ [v1] x.2] [h2 : HasRd (List Int) repList Γ [v] t] :
    CtrC Try.prog 70 [.agg #[v0, v1], v] Γ (True) (Unit) (fun _ : Unit => .bool (normalIn x t)) (fun _ => Γ) := ⟨fun s w0 => spec_NormalIn_spec⟩

end Go.Proofs.Ytckbndcgkkohaaa
