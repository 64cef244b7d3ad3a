/- All steps from a term: the reference. -/
import Derived.Test.YtfdpmkilhllkoaaL12b
namespace Go.Proofs.Ytfdpmkilhllkoaa
open Go Go.Eng
set_option linter.unusedVariables false
set_option linter.unusedSimpArgs false
set_option synthInstance.maxHeartbeats 400000
set_option synthInstance.maxSize 1000
set_option maxHeartbeats 1000000
/-- The steps at a place by the first rules; the steps at the first places. -/
def stepsR (x : SSystem) (t : List Int) (k : Nat) : Nat → List SStep
  | 0 => []
  | r + 1 => stepsR x t k r ++ (match stepOf x t k r with | none => [] | some b => [((k : Int), (r : Int), b)])
def stepsK (x : SSystem) (t : List Int) : Nat → List SStep
  | 0 => []
  | k + 1 => stepsK x t k ++ stepsR x t k x.2.length
def stepsOf (x : SSystem) (t : List Int) : List SStep := if sysOk x = true ∧ termOk x.1 t = true then stepsK x t t.length else []
theorem stepsR_no {x : SSystem} {t : List Int} {k r : Nat} (h : stepOf x t k r = none) : stepsR x t k (r + 1) = stepsR x t k r := by
  show stepsR x t k r ++ _ = _
  rw [h]
  exact List.append_nil _
theorem stepsR_yes {x : SSystem} {t b : List Int} {k r : Nat} (h : stepOf x t k r = some b) : stepsR x t k (r + 1) = stepsR x t k r ++ [((k : Int), (r : Int), b)] := by
  rw [stepsR, h]
theorem stepsR_len (x : SSystem) (t : List Int) (k : Nat) : ∀ r, (stepsR x t k r).length ≤ r
  | 0 => Nat.le_refl _
  | r + 1 => by
    have := stepsR_len x t k r
    rw [stepsR, List.length_append]
    split <;> simp <;> omega
theorem stepsK_len (x : SSystem) (t : List Int) (n : Nat) (hn : x.2.length ≤ n) : ∀ k, (stepsK x t k).length ≤ k * n
  | 0 => by simp [stepsK]
  | k + 1 => by
    have h1 := stepsK_len x t n hn k
    have h2 := stepsR_len x t k x.2.length
    rw [stepsK, List.length_append, Nat.add_mul, Nat.one_mul]
    omega
theorem stepsR_mem {x : SSystem} {t : List Int} {k : Nat} {s : SStep} : ∀ {r : Nat}, s ∈ stepsR x t k r → ∃ j, j < r ∧ stepOf x t k j = some s.2.2
  | r + 1, h => by
    rw [stepsR] at h
    rcases List.mem_append.1 h with h | h
    · obtain ⟨j, h1, h2⟩ := stepsR_mem h
      exact ⟨j, by omega, h2⟩
    · split at h
      · cases h
      · rw [List.mem_singleton] at h
        subst h
        exact ⟨r, by omega, by assumption⟩
theorem stepsK_mem {x : SSystem} {t : List Int} {s : SStep} : ∀ {k : Nat}, s ∈ stepsK x t k → ∃ i j, i < k ∧ j < x.2.length ∧ stepOf x t i j = some s.2.2
  | k + 1, h => by
    rw [stepsK] at h
    rcases List.mem_append.1 h with h | h
    · obtain ⟨i, j, h1, h2⟩ := stepsK_mem h
      exact ⟨i, j, by omega, h2⟩
    · obtain ⟨j, h1, h2⟩ := stepsR_mem h
      exact ⟨k, j, by omega, h1, h2⟩
theorem l7Steps_spec {w0 : World} {Γ : List Atom} {v0 v1 v : Value} {x : SSystem} {t : List Int} [h0 : HasRd (List Int) repList Γ [v0] x.1] [h1 : HasRd (List SRule) repList Γ [v1] x.2] [h2 : HasRd (List Int) repList Γ [v] t] (hs : sysOk x = true ∧ termOk x.1 t = true) : CJ Try.prog 73 [.agg #[v0, v1], v] w0 Γ (fun q : Value => q) (fun q => .ow [q] (stepsK x t t.length) :: Γ) := by
  refine cj_lift (R := [.rd [v0] x.1, .rd [v1] x.2, .rd [v] t]) (A := fun q : Value => [.ow [q] (stepsK x t t.length)]) (fun w1 => ?_) (reads_cons h0 (reads_cons h1 (reads_cons h2 (inferInstance)))) (fun _ => inferInstance)
  simp only [List.cons_append, List.nil_append]
  obtain ⟨hs1, hs2⟩ := hs
  have hl1 := (sysOk_iff.1 hs1).1.2
  have hl := termOk_len hs2
  refine cj_enter Try.func73 Try.ntmps73 ?_
  repeat' (first | refine red ?_ | refine redf fun hbi => ?_ | refine reds ?_ | refine redc fun r => ?_ | refine redp (fun r => ?_) (fun r => ?_) | refine redv fun sv => ?_ | refine redn fun b => ?_ | refine redz fun zs => ?_ | refine redq (fun hc => ?_) (fun hc => ?_) | with_reducible refine wq_blk_o rfl ?_ | (refine redi (fun hc => ?_) (fun hc => ?_) <;> try first | (exfalso; omega) | exact absurd rfl hc) | fail)
  refine wc_loop_p [5, 6] [11, 12, 13, 14, 7, 17, 18, 19, 20, 21, 25, 26, 27, 28, 29, 24, 30, 31, 8, 9, 32, 33, 34, 35, 36, 37, 38, 39, 22, 23, 15, 16] (ι := Value × Nat) (fun k => [k.1, .int .i64 k.2]) (fun k => [.ow [k.1] (stepsK x t k.2)]) (fun k => k.2 ≤ t.length) (fun k => t.length - k.2) (sv, 0) [.ow [sv] ([] : List SStep)] (by kernel_rfl) (Nat.zero_le _) rfl ?_
  intro ⟨sk, k⟩ u l' hl' hk
  simp only [patch, List.map_cons, List.map_nil, List.set_cons_zero, List.set_cons_succ] at hl'
  subst hl'
  simp only [List.cons_append, List.nil_append] at hk ⊢
  have hkl := stepsK_len x t 12 hl1 k
  by_cases hkt : k < t.length
  · repeat' (first | refine red ?_ | refine redf fun hbi => ?_ | refine reds ?_ | refine redc fun r => ?_ | refine redp (fun r => ?_) (fun r => ?_) | refine redv fun sv => ?_ | refine redn fun b => ?_ | refine redz fun zs => ?_ | refine redq (fun hc => ?_) (fun hc => ?_) | with_reducible refine wq_blk_o rfl ?_ | (refine redi (fun hc => ?_) (fun hc => ?_) <;> try first | (exfalso; omega) | exact absurd rfl hc) | fail)
    refine wc_loop_p [5, 7] [17, 18, 19, 20, 21, 25, 26, 27, 28, 29, 24, 30, 31, 8, 9, 32, 33, 34, 35, 36, 37, 38, 39, 22, 23] (ι := Value × Nat) (fun r => [r.1, .int .i64 r.2]) (fun r => [.ow [r.1] (stepsK x t k ++ stepsR x t k r.2)]) (fun r => r.2 ≤ x.2.length) (fun r => x.2.length - r.2) (sk, 0) [.ow [sk] (stepsK x t k)] (by kernel_rfl) (Nat.zero_le _) (by simp [stepsR]) ?_
    intro ⟨sr, j⟩ u2 l2 hl2 hj
    simp only [patch, List.map_cons, List.map_nil, List.set_cons_zero, List.set_cons_succ] at hl2
    subst hl2
    simp only [List.cons_append, List.nil_append] at hj ⊢
    have hrl := stepsR_len x t k j
    have hL : (stepsK x t k ++ stepsR x t k j).length ≤ 1000 := by rw [List.length_append]; omega
    by_cases hrt : j < x.2.length
    · have hP : RedP x t k j := ⟨hs1, ⟨hs2, by omega, by omega⟩, by omega, by omega⟩
      have hn : stepOf x t k j = none → stepsK x t k ++ stepsR x t k j = stepsK x t k ++ stepsR x t k (j + 1) := fun h => by rw [stepsR_no h]
      have hy : (stepOf x t k j).isSome = true → stepsK x t k ++ stepsR x t k j ++ [((k : Int), (j : Int), (stepOf x t k j).getD [])] = stepsK x t k ++ stepsR x t k (j + 1) := fun h => by
        cases hst : stepOf x t k j with
        | none => rw [hst] at h; cases h
        | some b => rw [stepsR_yes hst, List.append_assoc]; rfl
      generalize hXe : stepsK x t k ++ stepsR x t k j = X at *
      repeat' (first | refine red ?_ | refine redf fun hbi => ?_ | refine reds ?_ | refine redc fun r => ?_ | refine redp (fun r => ?_) (fun r => ?_) | refine redv fun sv => ?_ | refine redn fun b => ?_ | refine redz fun zs => ?_ | refine redq (fun hc => ?_) (fun hc => ?_) | with_reducible refine wq_blk_o rfl ?_ | (refine redi (fun hc => ?_) (fun hc => ?_) <;> try first | (exfalso; omega) | exact absurd rfl hc) | fail)
      · simp only [Int.toNat_natCast] at hc ⊢
        rw [hy hc]
        exact wq_next (sv, j + 1) (by simp only; omega) (by simp only; omega) (by kernel_rfl) ent_e
      · simp only [Int.toNat_natCast] at hc ⊢
        rw [hn (by simpa using hc)]
        exact wq_next (sr, j + 1) (by simp only; omega) (by simp only; omega) (by kernel_rfl) ent_e
    · obtain rfl : j = x.2.length := by omega
      repeat' (first | refine red ?_ | refine redf fun hbi => ?_ | refine reds ?_ | refine redc fun r => ?_ | refine redp (fun r => ?_) (fun r => ?_) | refine redv fun sv => ?_ | refine redn fun b => ?_ | refine redz fun zs => ?_ | refine redq (fun hc => ?_) (fun hc => ?_) | with_reducible refine wq_blk_o rfl ?_ | (refine redi (fun hc => ?_) (fun hc => ?_) <;> try first | (exfalso; omega) | exact absurd rfl hc) | fail)
      rw [show stepsK x t k ++ stepsR x t k x.2.length = stepsK x t (k + 1) from rfl]
      exact wq_next (sr, k + 1) (by simp only; omega) (by simp only; omega) (by kernel_rfl) ent_e
  · obtain rfl : k = t.length := by omega
    repeat' (first | refine red ?_ | refine redf fun hbi => ?_ | refine reds ?_ | refine redc fun r => ?_ | refine redp (fun r => ?_) (fun r => ?_) | refine redv fun sv => ?_ | refine redn fun b => ?_ | refine redz fun zs => ?_ | refine redq (fun hc => ?_) (fun hc => ?_) | with_reducible refine wq_blk_o rfl ?_ | (refine redi (fun hc => ?_) (fun hc => ?_) <;> try first | (exfalso; omega) | exact absurd rfl hc) | fail)
    exact ⟨_, rfl, ent_e⟩
instance l7Steps_ctr {Γ : List Atom} {v0 v1 v : Value} {x : SSystem} {t : List Int} [h0 : HasRd (List Int) repList Γ [v0] x.1] [h1 : HasRd (List SRule) repList Γ [v1] x.2] [h2 : HasRd (List Int) repList Γ [v] t] :
    CtrC Try.prog 73 [.agg #[v0, v1], v] Γ (sysOk x = true ∧ termOk x.1 t = true) (Value) (fun q : Value => q) (fun q => .ow [q] (stepsK x t t.length) :: Γ) := ⟨fun s w0 => l7Steps_spec s⟩

theorem spec_StepsFrom_spec {w0 : World} {Γ : List Atom} {v0 v1 v : Value} {x : SSystem} {t : List Int} [h0 : HasRd (List Int) repList Γ [v0] x.1] [h1 : HasRd (List SRule) repList Γ [v1] x.2] [h2 : HasRd (List Int) repList Γ [v] t] : CJ Try.prog 26 [.agg #[v0, v1], v] w0 Γ (fun q : Value => q) (fun q => .ow [q] (stepsOf x t) :: Γ) := by
  refine cj_enter Try.func26 Try.ntmps26 ?_
  repeat' (first | refine red ?_ | refine redf fun hbi => ?_ | refine reds ?_ | refine redc fun r => ?_ | refine redp (fun r => ?_) (fun r => ?_) | refine redv fun sv => ?_ | refine redn fun b => ?_ | refine redz fun zs => ?_ | refine redq (fun hc => ?_) (fun hc => ?_) | with_reducible refine wq_blk_o rfl ?_ | (refine redi (fun hc => ?_) (fun hc => ?_) <;> try first | (exfalso; omega) | exact absurd rfl hc) | fail)
  · rw [show stepsOf x t = [] from if_neg hc]
    exact ⟨_, rfl, ent_e⟩
  · rw [show stepsOf x t = stepsK x t t.length from if_pos hc]
    exact ⟨_, rfl, ent_e⟩
instance spec_StepsFrom_ctr {Γ : List Atom} {v0 v1 v : Value} {x : SSystem} {t : List Int} [h0 : HasRd (List Int) repList Γ [v0] x.1] [h1 : HasRd (List SRule) repList Γ [v1] x.2] [h2 : HasRd (List Int) repList Γ [v] t] :
    CtrC Try.prog 26 [.agg #[v0, v1], v] Γ (True) (Value) (fun q : Value => q) (fun q => .ow [q] (stepsOf x t) :: Γ) := ⟨fun s w0 => spec_StepsFrom_spec⟩

end Go.Proofs.Ytfdpmkilhllkoaa
