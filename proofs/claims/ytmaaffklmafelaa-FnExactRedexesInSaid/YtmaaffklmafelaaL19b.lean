/- The first rule that holds its own left side. -/
import Derived.Test.YtmaaffklmafelaaL19
namespace Go.Proofs.Ytmaaffklmafelaa
open Go Go.Eng
set_option linter.unusedVariables false
set_option linter.unusedSimpArgs false

def firstFrom (f : Nat → Nat) (k : Nat) : Nat → Int
  | 0 => -1
  | n + 1 => if 0 < f k then k else firstFrom f (k + 1) n
theorem first_yes {f : Nat → Nat} {k n : Nat} (hk : k < n) (h : 0 < f k) : firstFrom f k (n - k) = k := by
  rw [show n - k = (n - (k + 1)) + 1 by omega]; simp [firstFrom, h]
theorem first_no {f : Nat → Nat} {k n : Nat} (hk : k < n) (h : ¬ 0 < f k) : firstFrom f k (n - k) = firstFrom f (k + 1) (n - (k + 1)) := by
  rw [show n - k = (n - (k + 1)) + 1 by omega]; simp [firstFrom, h]
def selfRule (x : SSystem) : Int := if sysOk x = true then firstFrom (fun k => (selfOf x k).length) 0 x.2.length else -1
theorem selfRule_no {x : SSystem} (h : sysOk x = false) : selfRule x = -1 := if_neg (by rw [h]; simp)
theorem impl_SelfRule_spec {w0 : World} {Γ : List Atom} {v0 v1 : Value} {x : SSystem} [h0 : HasRd (List Int) repList Γ [v0] x.1] [h1 : HasRd (List SRule) repList Γ [v1] x.2] : CJ Try.prog 25 [.agg #[v0, v1]] w0 Γ (fun _ : Unit => .int .i64 (selfRule x)) (fun _ => Γ) := by
  refine cj_lift (R := [.rd [v0] x.1, .rd [v1] x.2]) (A := fun _ => []) (fun w1 => ?_) (reads_cons h0 (reads_cons h1 (inferInstance))) (fun _ => inferInstance)
  simp only [List.cons_append, List.nil_append]
  refine cj_len v1 fun hlx => ?_
  refine cj_enter Try.func25 Try.ntmps25 ?_
  repeat' (first
    | refine red ?_
    | refine redf fun hbi => ?_
    | refine reds ?_
    | refine redc fun r => ?_
    | refine redv fun sv => ?_
    | refine redn fun b => ?_
    | refine redz fun zs => ?_
    | refine redq (fun hc => ?_) (fun hc => ?_)
    | with_reducible refine wq_blk_o rfl ?_
    | (refine redd fun p cs as_ hcs has hf => ?_; simp only [Un.cells, Un.atoms, Un.fact, List.cons_append, List.nil_append] at hcs has hf; subst hcs has)
    | (refine redi (fun hc => ?_) (fun hc => ?_) <;> try first | (exfalso; omega) | exact absurd rfl hc)
    | fail)
  · rw [selfRule_no hc]
    exact ⟨(), rfl, ent_e⟩
  have hs1 : sysOk x = true := hc
  refine wc_loop_c [10] [11, 12, 3, 13, 14, 15, 16, 17, 18, 2, 19] (ι := Nat) (fun k => [.int .i64 k]) (fun k => k ≤ x.2.length ∧ selfRule x = firstFrom (fun k => (selfOf x k).length) k (x.2.length - k)) (fun k => x.2.length - k) 0 (by kernel_rfl) ⟨Nat.zero_le _, by unfold selfRule; rw [if_pos hs1]; rfl⟩ ?_
  intro k u l' hl' ⟨hk, hkk⟩
  simp only [patch, List.map_cons, List.map_nil, List.set_cons_zero, List.set_cons_succ] at hl'
  subst hl'
  repeat' (first
    | refine red ?_
    | refine redf fun hbi => ?_
    | refine reds ?_
    | refine redc fun r => ?_
    | refine redv fun sv => ?_
    | refine redn fun b => ?_
    | refine redz fun zs => ?_
    | refine redq (fun hc => ?_) (fun hc => ?_)
    | with_reducible refine wq_blk_o rfl ?_
    | (refine redd fun p cs as_ hcs has hf => ?_; simp only [Un.cells, Un.atoms, Un.fact, List.cons_append, List.nil_append] at hcs has hf; subst hcs has)
    | (refine redi (fun hc => ?_) (fun hc => ?_) <;> try first | (exfalso; omega) | exact absurd rfl hc)
    | fail)
  · rw [hkk, first_yes (by omega) (by omega)]
    exact ⟨(), rfl, ent_e⟩
  · exact wq_next (k + 1) ⟨by omega, by rw [hkk, first_no (by omega) (by omega)]⟩ (by omega) (by kernel_rfl) ent_e
  · rw [hkk, show x.2.length - k = 0 by omega]
    exact ⟨(), rfl, ent_e⟩
instance impl_SelfRule_ctr {Γ : List Atom} {v0 v1 : Value} {x : SSystem} [h0 : HasRd (List Int) repList Γ [v0] x.1] [h1 : HasRd (List SRule) repList Γ [v1] x.2] :
    CtrC Try.prog 25 [.agg #[v0, v1]] Γ (True) (Unit) (fun _ : Unit => .int .i64 (selfRule x)) (fun _ => Γ) := ⟨fun s w0 => impl_SelfRule_spec⟩

theorem spec_SelfRule_spec {w0 : World} {Γ : List Atom} {v0 v1 : Value} {x : SSystem} [h0 : HasRd (List Int) repList Γ [v0] x.1] [h1 : HasRd (List SRule) repList Γ [v1] x.2] : CJ Try.prog 24 [.agg #[v0, v1]] w0 Γ (fun _ : Unit => .int .i64 (selfRule x)) (fun _ => Γ) := by
  refine cj_lift (R := [.rd [v0] x.1, .rd [v1] x.2]) (A := fun _ => []) (fun w1 => ?_) (reads_cons h0 (reads_cons h1 (inferInstance))) (fun _ => inferInstance)
  simp only [List.cons_append, List.nil_append]
  refine cj_len v1 fun hlx => ?_
  refine cj_enter Try.func24 Try.ntmps24 ?_
  repeat' (first
    | refine red ?_
    | refine redf fun hbi => ?_
    | refine reds ?_
    | refine redc fun r => ?_
    | refine redv fun sv => ?_
    | refine redn fun b => ?_
    | refine redz fun zs => ?_
    | refine redq (fun hc => ?_) (fun hc => ?_)
    | with_reducible refine wq_blk_o rfl ?_
    | (refine redd fun p cs as_ hcs has hf => ?_; simp only [Un.cells, Un.atoms, Un.fact, List.cons_append, List.nil_append] at hcs has hf; subst hcs has)
    | (refine redi (fun hc => ?_) (fun hc => ?_) <;> try first | (exfalso; omega) | exact absurd rfl hc)
    | fail)
  refine wc_loop_c [3] [4, 5, 6, 7, 8, 9, 10, 11, 12, 15, 16, 17, 18, 19, 20, 2, 13, 14] (ι := Nat) (fun k => [.int .i64 k]) (fun k => k ≤ x.2.length ∧ (sysOk x = true → selfRule x = firstFrom (fun k => (selfOf x k).length) k (x.2.length - k))) (fun k => x.2.length - k) 0 (by kernel_rfl) ⟨Nat.zero_le _, fun h => by unfold selfRule; rw [if_pos h]; rfl⟩ ?_
  intro k u l' hl' ⟨hk, hkk⟩
  simp only [patch, List.map_cons, List.map_nil, List.set_cons_zero, List.set_cons_succ] at hl'
  subst hl'
  repeat' (first
    | refine red ?_
    | refine redf fun hbi => ?_
    | refine reds ?_
    | refine redc fun r => ?_
    | refine redv fun sv => ?_
    | refine redn fun b => ?_
    | refine redz fun zs => ?_
    | refine redq (fun hc => ?_) (fun hc => ?_)
    | with_reducible refine wq_blk_o rfl ?_
    | (refine redd fun p cs as_ hcs has hf => ?_; simp only [Un.cells, Un.atoms, Un.fact, List.cons_append, List.nil_append] at hcs has hf; subst hcs has)
    | (refine redi (fun hc => ?_) (fun hc => ?_) <;> try first | (exfalso; omega) | exact absurd rfl hc)
    | fail)
  · have hs : sysOk x = true := by assumption
    have e : selfPl x (k : Int) = selfOf x k := selfPl_yes ⟨hs, by omega, by omega⟩
    rw [e] at hc
    rw [hkk hs, first_yes (by omega) (by omega)]
    exact ⟨(), rfl, ent_e⟩
  · have hs : sysOk x = true := by assumption
    have e : selfPl x (k : Int) = selfOf x k := selfPl_yes ⟨hs, by omega, by omega⟩
    rw [e] at hc
    exact wq_next (k + 1) ⟨by omega, fun _ => by rw [hkk hs, first_no (by omega) (by omega)]⟩ (by omega) (by kernel_rfl) ent_e
  · rw [selfRule_no hc]
    exact ⟨(), rfl, ent_e⟩
  · cases hs : sysOk x with
    | true =>
      rw [hkk hs, show x.2.length - k = 0 by omega]
      exact ⟨(), rfl, ent_e⟩
    | false =>
      rw [selfRule_no hs]
      exact ⟨(), rfl, ent_e⟩
instance spec_SelfRule_ctr {Γ : List Atom} {v0 v1 : Value} {x : SSystem} [h0 : HasRd (List Int) repList Γ [v0] x.1] [h1 : HasRd (List SRule) repList Γ [v1] x.2] :
    CtrC Try.prog 24 [.agg #[v0, v1]] Γ (True) (Unit) (fun _ : Unit => .int .i64 (selfRule x)) (fun _ => Γ) := ⟨fun s w0 => spec_SelfRule_spec⟩

set_option maxHeartbeats 0 in
set_option synthInstance.maxHeartbeats 400000 in
set_option synthInstance.maxSize 1000 in
theorem FnExactSelfRule_law {w0 : World} {Γ : List Atom} {x0 : SSystem} {v0_0 v0_1 : Value} [h0_0 : HasRd (List Int) repList Γ [v0_0] x0.1] [h0_1 : HasRd (List SRule) repList Γ [v0_1] x0.2] (hf0 : (x0.1.length ≤ 9223372036854775807) ∧ x0.2.length ≤ 9223372036854775807) :
    CJ Try.prog 5 [.agg #[v0_0, v0_1]] w0 Γ (fun _ : Unit => .bool true) (fun _ => Γ) := by
  have hz0 := lft_spec 1048576 (Siz.size x0)
  have hs0 : Siz.size x0 = Siz.size x0.1 + Siz.size x0.2 := by simp only [siz_pair, siz_int, siz_bool, siz_str] <;> omega
  have hb0_0 := cntL_le x0.1
  have hl0_0 := siz_ints x0.1
  have hb0_1 := cntL_le x0.2
  refine cj_enter Try.func5 Try.ntmps5 ?_
  repeat' (first
    | refine red ?_
    | refine redf fun hbi => ?_
    | refine reds ?_
    | refine redc fun r => ?_
    | refine redv fun sv => ?_
    | refine redn fun b => ?_
    | refine redz fun zs => ?_
    | refine redq (fun hc => ?_) (fun hc => ?_)
    | with_reducible refine wq_blk_o rfl ?_
    | (refine redd fun p cs as_ hcs has hf => ?_; simp only [Un.cells, Un.atoms, Un.fact, List.cons_append, List.nil_append] at hcs has hf; subst hcs has)
    | (refine redi (fun hc => ?_) (fun hc => ?_) <;> try first | (exfalso; omega) | exact absurd rfl hc)
    | ((refine wa_begin 10 [false, false, false, false, false] [] ?_ <;> (first | refine wa_f 0 fun hbi => ?_ | refine wa_p 0 ?_ | fail) <;> (first | refine wa_f 1 fun hbi => ?_ | refine wa_p 1 ?_ | fail) <;> (refine wa_do 2 ?_ <;> (repeat' (first | refine red ?_ | refine redc fun r => ?_ | refine redv fun sv => ?_ | refine redf fun hbi => ?_ | refine redn fun b => ?_ | refine reds ?_ | refine redi (fun hc => ?_) (fun hc => ?_) | fail))) <;> (refine wa_do 3 ?_ <;> (repeat' (first | refine red ?_ | refine redc fun r => ?_ | refine redv fun sv => ?_ | refine redf fun hbi => ?_ | refine redn fun b => ?_ | refine reds ?_ | refine redi (fun hc => ?_) (fun hc => ?_) | fail))) <;> (first | refine wa_p 4 ?_ | refine wa_p0 4 ?_ | fail)) <;> refine wa_end ?_)
    | fail)
  all_goals exact ⟨(), rfl, ent_e⟩

end Go.Proofs.Ytmaaffklmafelaa
