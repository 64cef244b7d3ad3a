/- Rules that hold their own left side. -/
import Derived.Test.YtckbndcgkkohaaaL07b
namespace Go.Proofs.Ytckbndcgkkohaaa
open Go Go.Eng
set_option linter.unusedVariables false
set_option linter.unusedSimpArgs false

theorem wide_spec {w0 : World} {Γ : List Atom} {v : Value} {xs : List Int} [h0 : HasRd (List Int) repList Γ [v] xs] (hl : xs.length ≤ 1048576) : CJ Try.prog 83 [v] w0 Γ (fun q : Value => q) (fun q => .ow [q] xs :: Γ) := by
  refine cj_lift (R := [.rd [v] xs]) (A := fun q : Value => [.ow [q] xs]) (fun w1 => ?_) (reads_cons h0 (inferInstance)) (fun _ => inferInstance)
  simp only [List.cons_append, List.nil_append]
  refine cj_enter Try.func83 Try.ntmps83 ?_
  repeat' (first
    | refine red ?_
    | refine redf fun hbi => ?_
    | refine reds ?_
    | refine redc fun r => ?_
    | refine redv fun sv => ?_
    | refine redn fun b => ?_
    | refine redz fun zs => ?_
    | refine redq (fun hc => ?_) (fun hc => ?_)
    | with_reducible refine wq_blk_o rfl ?_
    | (refine redd fun p cs as_ hcs has hf => ?_; simp only [Un.cells, Un.atoms, Un.fact, List.cons_append, List.nil_append] at hcs has hf; subst hcs has)
    | (refine redi (fun hc => ?_) (fun hc => ?_) <;> try first | (exfalso; omega) | exact absurd rfl hc)
    | fail)
  refine wc_loop_p [3, 8] [9, 10, 11, 5, 12, 13, 14, 15, 16] (ι := Nat × Value) (fun k => [k.2, .int .i64 k.1]) (fun k => [.ow [k.2] (xs.take k.1)]) (fun k => k.1 ≤ xs.length) (fun k => xs.length - k.1) (0, .slice none 0 0) [.ow [.slice none 0 0] ([] : List Int)] (by kernel_rfl) (Nat.zero_le _) rfl ?_
  intro ⟨k, s⟩ u l' hl' hk
  simp only [patch, List.map_cons, List.map_nil, List.set_cons_zero, List.set_cons_succ] at hl'
  subst hl'
  simp only [List.cons_append, List.nil_append] at hk ⊢
  have hn2 := List.length_take (i := k) (l := xs)
  repeat' (first
    | refine red ?_
    | refine redf fun hbi => ?_
    | refine reds ?_
    | refine redc fun r => ?_
    | refine redv fun sv => ?_
    | refine redn fun b => ?_
    | refine redz fun zs => ?_
    | refine redq (fun hc => ?_) (fun hc => ?_)
    | with_reducible refine wq_blk_o rfl ?_
    | (refine redd fun p cs as_ hcs has hf => ?_; simp only [Un.cells, Un.atoms, Un.fact, List.cons_append, List.nil_append] at hcs has hf; subst hcs has)
    | (refine redi (fun hc => ?_) (fun hc => ?_) <;> try first | (exfalso; omega) | exact absurd rfl hc)
    | fail)
  · have e : xs.take k ++ [xs.getD k 0] = xs.take (k + 1) := by
      rw [List.take_succ_eq_append_getElem (by omega : k < xs.length), List.getD_eq_getElem?_getD, List.getElem?_eq_getElem (by omega)]; rfl
    rw [e]
    exact wq_next (k + 1, sv) (by simp only; omega) (by simp only; omega) (by kernel_rfl) ent_e
  · rw [List.take_of_length_le (by omega)]
    exact ⟨_, rfl, ent_e⟩
instance wide_ctr {Γ : List Atom} {v : Value} {xs : List Int} [h0 : HasRd (List Int) repList Γ [v] xs] :
    CtrC Try.prog 83 [v] Γ (xs.length ≤ 1048576) (Value) (fun q : Value => q) (fun q => .ow [q] xs :: Γ) := ⟨fun s w0 => wide_spec s⟩

def selfOf (x : SSystem) (k : Nat) : List Int := embedsIn x.1 (x.2.getD k default).1 (x.2.getD k default).2
theorem sys_right {x : SSystem} {k : Nat} (h : sysOk x = true) (hk : k < x.2.length) : termOk x.1 (x.2.getD k default).2 = true :=
  (of_decide_eq_true ((sysOk_iff.1 h).2 _ (getD_memD hk)) : RuleP _ _).1.2.1
def selfPl (x : SSystem) (n : Int) : List Int := if sysOk x = true ∧ 0 ≤ n ∧ n < x.2.length then selfOf x n.toNat else []
theorem selfPl_no {x : SSystem} {n : Int} (h : ¬ (sysOk x = true ∧ 0 ≤ n ∧ n < x.2.length)) : selfPl x n = [] := if_neg h
theorem selfPl_yes {x : SSystem} {n : Int} (h : sysOk x = true ∧ 0 ≤ n ∧ n < x.2.length) : selfPl x n = selfOf x n.toNat := if_pos h
theorem selfOf_len (x : SSystem) (k : Nat) : (selfOf x k).length ≤ 60 := embeds_len _ _ _
theorem selfPl_len (x : SSystem) (n : Int) : (selfPl x n).length ≤ 60 := by
  unfold selfPl
  split
  · exact selfOf_len _ _
  · simp
end Go.Proofs.Ytckbndcgkkohaaa
