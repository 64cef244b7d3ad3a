/- Unification: the laws. -/
import Derived.Test.YtimniaojfchoiaaUniW
namespace Go.Proofs.Ytimniaojfchoiaa
open Go Go.Eng
set_option linter.unusedVariables false
set_option linter.unusedSimpArgs false

theorem plain_bound {ts : List (List Int)} (hl : ts.length ≤ 24) (h : ∀ x ∈ ts, x.length ≤ 60) : (plainOf ts).length ≤ 24 ∧ ∀ x ∈ plainOf ts, x.length ≤ 60 := by
  unfold plainOf
  refine ⟨?_, fun x hx => ?_⟩
  · have := strip_len_le (trivL 0 ts)
    rw [trivL_len] at this
    omega
  · rcases trivL_mem (strip_sub hx) with e | e
    · rw [e]; simp
    · exact h x e
theorem uni_bound (a s t : List Int) : ((uniOf a s t).getD []).length ≤ 24 ∧ ∀ x ∈ (uniOf a s t).getD [], x.length ≤ 60 := by
  by_cases h : ∃ σ, IOM a s t σ ∧ LenOk σ s
  · obtain ⟨σ, h1, h2⟩ := h
    rw [uni_some h1 h2]
    refine plain_bound (by rw [tab_len]; exact Nat.le_refl _) (fun x hx => ?_)
    obtain ⟨k, hk, rfl⟩ := List.mem_map.1 hx
    have := List.mem_range.1 hk
    exact h2.2 _ (by omega) (by omega)
  · rw [uni_none fun σ h1 h2 => h ⟨σ, h1, h2⟩]
    simp
theorem unified_bound (a s t : List Int) : ((unified a s t).getD []).length ≤ 24 ∧ ∀ x ∈ (unified a s t).getD [], x.length ≤ 60 := by
  unfold unified
  split
  · exact uni_bound a s t
  · simp
theorem siz_le' {xs : List (List Int)} {m : Nat} (h : ∀ x ∈ xs, x.length ≤ m) : Siz.size xs ≤ xs.length + xs.length * m := siz_le h
set_option maxHeartbeats 0 in
set_option synthInstance.maxHeartbeats 400000 in
set_option synthInstance.maxSize 1000 in
theorem FnExactUnifiesIn_law {w0 : World} {Γ : List Atom} {x0 : SSig} {x1 : List Int} {x2 : List Int} {v0_0 v1_0 v2_0 : Value} [h0_0 : HasRd (List Int) repList Γ [v0_0] x0] [h1_0 : HasRd (List Int) repList Γ [v1_0] x1] [h2_0 : HasRd (List Int) repList Γ [v2_0] x2] (hf0 : x0.length ≤ 9223372036854775807) (hf1 : x1.length ≤ 9223372036854775807) (hf2 : x2.length ≤ 9223372036854775807) :
    CJ Try.prog 4 [.agg #[v0_0], v1_0, v2_0] w0 Γ (fun _ : Unit => .bool true) (fun _ => Γ) := by
  have hz0 := lft_spec 1048576 (Siz.size x0)
  have hb0_0 := cntL_le x0
  have hl0_0 := siz_ints x0
  have hb1_0 := cntL_le x1
  have hl1_0 := siz_ints x1
  have hb2_0 := cntL_le x2
  have hl2_0 := siz_ints x2
  refine cj_enter Try.func4 Try.ntmps4 ?_
  repeat' (first
    | refine red ?_
    | refine redf fun hbi => ?_
    | refine reds ?_
    | refine redc fun r => ?_
    | refine redp (fun r => ?_) (fun r => ?_)
    | refine redv fun sv => ?_
    | refine redn fun b => ?_
    | refine redz fun zs => ?_
    | refine redq (fun hc => ?_) (fun hc => ?_)
    | with_reducible refine wq_blk_o rfl ?_
    | (refine redd fun p cs as_ hcs has hf => ?_; simp only [Un.cells, Un.atoms, Un.fact, List.cons_append, List.nil_append] at hcs has hf; subst hcs has)
    | (refine redi (fun hc => ?_) (fun hc => ?_) <;> try first | (exfalso; omega) | exact absurd rfl hc)
    | ((refine wa_begin 16 [false, false, false, false, false] [] ?_ <;> (first | refine wa_f 0 fun hbi => ?_ | refine wa_p 0 ?_ | fail) <;> (first | refine wa_f 1 fun hbi => ?_ | refine wa_p 1 ?_ | (refine wa_do 1 ?_ <;> (repeat' (first | refine red ?_ | refine redc fun r => ?_ | refine redv fun sv => ?_ | refine redf fun hbi => ?_ | refine redn fun b => ?_ | refine reds ?_ | refine redi (fun hc => ?_) (fun hc => ?_) | refine redq (fun hc => ?_) (fun hc => ?_) | refine redp (fun r => ?_) (fun r => ?_) | fail))) | fail) <;> (refine wa_do 2 ?_ <;> (repeat' (first | refine red ?_ | refine redc fun r => ?_ | refine redv fun sv => ?_ | refine redf fun hbi => ?_ | refine redn fun b => ?_ | refine reds ?_ | refine redi (fun hc => ?_) (fun hc => ?_) | refine redq (fun hc => ?_) (fun hc => ?_) | refine redp (fun r => ?_) (fun r => ?_) | fail))) <;> (refine wa_do 3 ?_ <;> (repeat' (first | refine red ?_ | refine redc fun r => ?_ | refine redv fun sv => ?_ | refine redf fun hbi => ?_ | refine redn fun b => ?_ | refine reds ?_ | refine redi (fun hc => ?_) (fun hc => ?_) | refine redq (fun hc => ?_) (fun hc => ?_) | refine redp (fun r => ?_) (fun r => ?_) | fail))) <;> (first | refine wa_p 4 ?_ | refine wa_p0 4 ?_ | (refine wa_do 4 ?_ <;> (repeat' (first | refine red ?_ | refine redc fun r => ?_ | refine redv fun sv => ?_ | refine redf fun hbi => ?_ | refine redn fun b => ?_ | refine reds ?_ | refine redi (fun hc => ?_) (fun hc => ?_) | refine redq (fun hc => ?_) (fun hc => ?_) | refine redp (fun r => ?_) (fun r => ?_) | fail))) | fail)) <;> (first | refine wa_end ?_ | with_reducible refine wq_keep ?_))
    | fail)
  all_goals exact ⟨(), rfl, ent_e⟩

set_option maxHeartbeats 0 in
set_option synthInstance.maxHeartbeats 400000 in
set_option synthInstance.maxSize 1000 in
theorem FnExactUnified_law {w0 : World} {Γ : List Atom} {x0 : SSig} {x1 : List Int} {x2 : List Int} {v0_0 v1_0 v2_0 : Value} [h0_0 : HasRd (List Int) repList Γ [v0_0] x0] [h1_0 : HasRd (List Int) repList Γ [v1_0] x1] [h2_0 : HasRd (List Int) repList Γ [v2_0] x2] (hf0 : x0.length ≤ 9223372036854775807) (hf1 : x1.length ≤ 9223372036854775807) (hf2 : x2.length ≤ 9223372036854775807) :
    CJ Try.prog 5 [.agg #[v0_0], v1_0, v2_0] w0 Γ (fun _ : Unit => .bool true) (fun _ => Γ) := by
  have hz0 := lft_spec 1048576 (Siz.size x0)
  have hb0_0 := cntL_le x0
  have hl0_0 := siz_ints x0
  have hb1_0 := cntL_le x1
  have hl1_0 := siz_ints x1
  have hb2_0 := cntL_le x2
  have hl2_0 := siz_ints x2
  obtain ⟨hm1, hm2⟩ := unified_bound x0 x1 x2
  have hm3 := siz_le hm2
  have hm4 := cntL_le ((unified x0 x1 x2).getD [])
  refine cj_enter Try.func5 Try.ntmps5 ?_
  repeat' (first
    | refine red ?_
    | refine redf fun hbi => ?_
    | refine reds ?_
    | refine redc fun r => ?_
    | refine redp (fun r => ?_) (fun r => ?_)
    | refine redv fun sv => ?_
    | refine redn fun b => ?_
    | refine redz fun zs => ?_
    | refine redq (fun hc => ?_) (fun hc => ?_)
    | with_reducible refine wq_blk_o rfl ?_
    | (refine redd fun p cs as_ hcs has hf => ?_; simp only [Un.cells, Un.atoms, Un.fact, List.cons_append, List.nil_append] at hcs has hf; subst hcs has)
    | (refine redi (fun hc => ?_) (fun hc => ?_) <;> try first | (exfalso; omega) | exact absurd rfl hc)
    | ((refine wa_begin 16 [false, false, false, false, false] [] ?_ <;> (first | refine wa_f 0 fun hbi => ?_ | refine wa_p 0 ?_ | fail) <;> (first | refine wa_f 1 fun hbi => ?_ | refine wa_p 1 ?_ | (refine wa_do 1 ?_ <;> (repeat' (first | refine red ?_ | refine redc fun r => ?_ | refine redv fun sv => ?_ | refine redf fun hbi => ?_ | refine redn fun b => ?_ | refine reds ?_ | refine redi (fun hc => ?_) (fun hc => ?_) | refine redq (fun hc => ?_) (fun hc => ?_) | refine redp (fun r => ?_) (fun r => ?_) | fail))) | fail) <;> (refine wa_do 2 ?_ <;> (repeat' (first | refine red ?_ | refine redc fun r => ?_ | refine redv fun sv => ?_ | refine redf fun hbi => ?_ | refine redn fun b => ?_ | refine reds ?_ | refine redi (fun hc => ?_) (fun hc => ?_) | refine redq (fun hc => ?_) (fun hc => ?_) | refine redp (fun r => ?_) (fun r => ?_) | fail))) <;> (refine wa_do 3 ?_ <;> (repeat' (first | refine red ?_ | refine redc fun r => ?_ | refine redv fun sv => ?_ | refine redf fun hbi => ?_ | refine redn fun b => ?_ | refine reds ?_ | refine redi (fun hc => ?_) (fun hc => ?_) | refine redq (fun hc => ?_) (fun hc => ?_) | refine redp (fun r => ?_) (fun r => ?_) | fail))) <;> (first | refine wa_p 4 ?_ | refine wa_p0 4 ?_ | (refine wa_do 4 ?_ <;> (repeat' (first | refine red ?_ | refine redc fun r => ?_ | refine redv fun sv => ?_ | refine redf fun hbi => ?_ | refine redn fun b => ?_ | refine reds ?_ | refine redi (fun hc => ?_) (fun hc => ?_) | refine redq (fun hc => ?_) (fun hc => ?_) | refine redp (fun r => ?_) (fun r => ?_) | fail))) | fail)) <;> (first | refine wa_end ?_ | with_reducible refine wq_keep ?_))
    | fail)
  all_goals exact ⟨(), rfl, ent_e⟩

end Go.Proofs.Ytimniaojfchoiaa
