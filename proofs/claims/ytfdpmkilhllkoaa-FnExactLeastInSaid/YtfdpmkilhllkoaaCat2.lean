/- slices.Grow of nil, slices.Concat. -/
import Derived.Test.YtfdpmkilhllkoaaEngQ
import Derived.Test.YtfdpmkilhllkoaaL08b
namespace Go.Proofs.Ytfdpmkilhllkoaa
open Go Go.Eng
set_option linter.unusedVariables false
set_option linter.unusedSimpArgs false

theorem Grow_spec {w0 : World} {Γ : List Atom} {n : Int} (hn : 0 ≤ n ∧ n ≤ 1099511627776) : CJ Try.prog 158 [.slice none 0 0, .int .i64 n] w0 Γ (fun sv : Value => sv) (fun sv => .ow [sv] ([] : List Int) :: Γ) := by
  refine cj_enter Try.func158 Try.ntmps158 ?_
  repeat' (first | refine red ?_ | refine redf fun hbi => ?_ | refine reds ?_ | refine redc fun r => ?_ | refine redp (fun r => ?_) (fun r => ?_) | refine redv fun sv => ?_ | refine redn fun b => ?_ | refine redz fun zs => ?_ | refine redq (fun hc => ?_) (fun hc => ?_) | with_reducible refine wq_blk_o rfl ?_ | (refine redi (fun hc => ?_) (fun hc => ?_) <;> try first | (exfalso; omega) | exact absurd rfl hc) | fail)
  · rw [List.take_zero]
    exact ⟨_, rfl, ent_e⟩
  · exact ⟨_, rfl, ent_e⟩
instance Grow_ctr {Γ : List Atom} {n : Int} :
    CtrC Try.prog 158 [.slice none 0 0, .int .i64 n] Γ (0 ≤ n ∧ n ≤ 1099511627776) (Value) (fun sv : Value => sv) (fun sv => .ow [sv] ([] : List Int) :: Γ) := ⟨fun s w0 => Grow_spec s⟩

theorem flat_take {xs : List (List Int)} {k : Nat} (h : k < xs.length) : (xs.take (k + 1)).flatten = (xs.take k).flatten ++ xs.getD k [] := by
  rw [List.take_succ_eq_append_getElem h, List.flatten_append, List.getD_eq_getElem?_getD, List.getElem?_eq_getElem h]
  simp
theorem flat_take_le (xs : List (List Int)) (k : Nat) : (xs.take k).flatten.length ≤ xs.flatten.length := by
  conv => rhs; rw [← List.take_append_drop k xs, List.flatten_append, List.length_append]
  omega
theorem Concat_spec {w0 : World} {Γ : List Atom} {v : Value} {xs : List (List Int)} [h : HasRd (List (List Int)) repList Γ [v] xs] (hl : xs.flatten.length ≤ 1099511627776) : CJ Try.prog 101 [v] w0 Γ (fun sv : Value => sv) (fun sv => .ow [sv] xs.flatten :: Γ) := by
  refine cj_lift (R := [.rd [v] xs]) (A := fun sv : Value => [.ow [sv] xs.flatten]) (fun w1 => ?_) (reads_cons h (inferInstance)) (fun _ => inferInstance)
  simp only [List.cons_append, List.nil_append]
  refine cj_len v fun hlx => ?_
  refine cj_enter Try.func101 Try.ntmps101 ?_
  repeat' (first | refine red ?_ | refine redf fun hbi => ?_ | refine reds ?_ | refine redc fun r => ?_ | refine redp (fun r => ?_) (fun r => ?_) | refine redv fun sv => ?_ | refine redn fun b => ?_ | refine redz fun zs => ?_ | refine redq (fun hc => ?_) (fun hc => ?_) | with_reducible refine wq_blk_o rfl ?_ | (refine redd fun p cs as_ hcs has hf => ?_; simp only [Un.cells, Un.atoms, Un.fact, List.cons_append, List.nil_append] at hcs has hf; subst hcs has) | (refine redi (fun hc => ?_) (fun hc => ?_) <;> try first | (exfalso; omega) | exact absurd rfl hc) | fail)
  refine wc_loop_p [3, 11] [12, 13, 14, 5, 15, 16, 17, 18, 19, 20, 21, 22] (ι := Nat) (fun k => [.int .i64 (xs.take k).flatten.length, .int .i64 k]) (fun k => []) (fun k => k ≤ xs.length) (fun k => xs.length - k) 0 [] (by kernel_rfl) (Nat.zero_le _) rfl ?_
  · intro k u l' hl' hk
    simp only [patch, List.map_cons, List.map_nil, List.set_cons_zero, List.set_cons_succ] at hl'
    subst hl'
    simp only [List.cons_append, List.nil_append] at hk ⊢
    have h1 := flat_take_le xs k
    have h2 : k < xs.length → (xs.take k).flatten.length + (xs.getD k default).length ≤ xs.flatten.length := fun hh => by
      have e := congrArg List.length (flat_take hh)
      rw [List.length_append] at e
      have := flat_take_le xs (k + 1)
      show _ + (xs.getD k []).length ≤ _
      omega
    have h3 : k < xs.length → ((xs.take (k + 1)).flatten.length : Int) = (xs.take k).flatten.length + (xs.getD k default).length := fun hh => by
      rw [flat_take hh, List.length_append, Int.natCast_add]; rfl
    repeat' (first | refine red ?_ | refine redf fun hbi => ?_ | refine reds ?_ | refine redc fun r => ?_ | refine redp (fun r => ?_) (fun r => ?_) | refine redv fun sv => ?_ | refine redn fun b => ?_ | refine redz fun zs => ?_ | refine redq (fun hc => ?_) (fun hc => ?_) | with_reducible refine wq_blk_o rfl ?_ | (refine redd fun p cs as_ hcs has hf => ?_; simp only [Un.cells, Un.atoms, Un.fact, List.cons_append, List.nil_append] at hcs has hf; subst hcs has) | (refine redi (fun hc => ?_) (fun hc => ?_) <;> try first | (exfalso; omega) | exact absurd rfl hc) | fail)
    · rw [← h3 (by omega)]
      exact wq_next (k + 1) (by omega) (by omega) (by kernel_rfl) ent_e
    · refine wc_loop_p [6, 27] [28, 29, 30, 8, 31, 32, 33, 34] (ι := Nat × Value) (fun k => [k.2, .int .i64 k.1]) (fun k => [.ow [k.2] (xs.take k.1).flatten]) (fun k => k.1 ≤ xs.length) (fun k => xs.length - k.1) (0, r) [.ow [r] ([] : List Int)] (by kernel_rfl) (Nat.zero_le _) rfl ?_
      clear h1 h2 h3 hk
      intro ⟨k, s⟩ u l' hl' hk
      simp only [patch, List.map_cons, List.map_nil, List.set_cons_zero, List.set_cons_succ] at hl'
      subst hl'
      simp only [List.cons_append, List.nil_append] at hk ⊢
      have h1 := flat_take_le xs k
      have h2 : k < xs.length → (xs.take k).flatten.length + (xs.getD k default).length ≤ xs.flatten.length := fun hh => by
        have e := congrArg List.length (flat_take hh)
        rw [List.length_append] at e
        have := flat_take_le xs (k + 1)
        show _ + (xs.getD k []).length ≤ _
        omega
      repeat' (first | refine red ?_ | refine redf fun hbi => ?_ | refine reds ?_ | refine redc fun r => ?_ | refine redp (fun r => ?_) (fun r => ?_) | refine redv fun sv => ?_ | refine redn fun b => ?_ | refine redz fun zs => ?_ | refine redq (fun hc => ?_) (fun hc => ?_) | with_reducible refine wq_blk_o rfl ?_ | (refine redd fun p cs as_ hcs has hf => ?_; simp only [Un.cells, Un.atoms, Un.fact, List.cons_append, List.nil_append] at hcs has hf; subst hcs has) | (refine redi (fun hc => ?_) (fun hc => ?_) <;> try first | (exfalso; omega) | exact absurd rfl hc) | fail)
      · rw [show (xs.take k).flatten ++ xs.getD k default = (xs.take (k + 1)).flatten from (flat_take (by omega)).symm]
        exact wq_next (k + 1, sv) (by simp only; omega) (by simp only; omega) (by kernel_rfl) ent_e
      · rw [List.take_of_length_le (by omega)]
        exact ⟨_, rfl, ent_e⟩

instance Concat_ctr {Γ : List Atom} {v : Value} {xs : List (List Int)} [h : HasRd (List (List Int)) repList Γ [v] xs] :
    CtrC Try.prog 101 [v] Γ (xs.flatten.length ≤ 1099511627776) (Value) (fun sv : Value => sv) (fun sv => .ow [sv] xs.flatten :: Γ) := ⟨fun s w0 => Concat_spec s⟩

end Go.Proofs.Ytfdpmkilhllkoaa
