/- slices.Grow of nil, slices.Concat, and the node of two walks. -/
import Derived.Test.YtjdlpidhmlhfoaaEngP
import Derived.Test.YtjdlpidhmlhfoaaNode2
namespace Go.Proofs.Ytjdlpidhmlhfoaa
open Go Go.Eng
set_option linter.unusedVariables false
set_option linter.unusedSimpArgs false

theorem Grow_spec {w0 : World} {Γ : List Atom} {n : Int} (hn : 0 ≤ n ∧ n ≤ 1099511627776) : CJ Try.prog 135 [.slice none 0 0, .int .i64 n] w0 Γ (fun sv : Value => sv) (fun sv => .ow [sv] ([] : List Int) :: Γ) := by
  refine cj_enter Try.func135 Try.ntmps135 ?_
  repeat' (first
    | refine red ?_
    | refine redf fun hbi => ?_
    | refine reds ?_
    | refine redc fun r => ?_
    | refine redv fun sv => ?_
    | refine redn fun b => ?_
    | refine redz fun zs => ?_
    | refine redq (fun hc => ?_) (fun hc => ?_)
    | with_reducible refine wq_blk_o rfl ?_
    | (refine redd fun p cs as_ hcs has hf => ?_; simp only [Un.cells, Un.atoms, Un.fact, List.cons_append, List.nil_append] at hcs has hf; subst hcs has)
    | (refine redi (fun hc => ?_) (fun hc => ?_) <;> try first | (exfalso; omega) | exact absurd rfl hc)
    | fail)
  · rw [List.take_zero]
    exact ⟨_, rfl, ent_e⟩
  · exact ⟨_, rfl, ent_e⟩
instance Grow_ctr {Γ : List Atom} {n : Int} :
    CtrC Try.prog 135 [.slice none 0 0, .int .i64 n] Γ (0 ≤ n ∧ n ≤ 1099511627776) (Value) (fun sv : Value => sv) (fun sv => .ow [sv] ([] : List Int) :: Γ) := ⟨fun s w0 => Grow_spec s⟩

theorem flat_take {xs : List (List Int)} {k : Nat} (h : k < xs.length) : (xs.take (k + 1)).flatten = (xs.take k).flatten ++ xs.getD k [] := by
  rw [List.take_succ_eq_append_getElem h, List.flatten_append, List.getD_eq_getElem?_getD, List.getElem?_eq_getElem h]
  simp
theorem flat_take_le (xs : List (List Int)) (k : Nat) : (xs.take k).flatten.length ≤ xs.flatten.length := by
  conv => rhs; rw [← List.take_append_drop k xs, List.flatten_append, List.length_append]
  omega
theorem Concat_spec {w0 : World} {Γ : List Atom} {v : Value} {xs : List (List Int)} [h : HasRd (List (List Int)) repList Γ [v] xs] (hl : xs.flatten.length ≤ 1099511627776) : CJ Try.prog 95 [v] w0 Γ (fun sv : Value => sv) (fun sv => .ow [sv] xs.flatten :: Γ) := by
  refine cj_lift (R := [.rd [v] xs]) (A := fun sv : Value => [.ow [sv] xs.flatten]) (fun w1 => ?_) (reads_cons h (inferInstance)) (fun _ => inferInstance)
  simp only [List.cons_append, List.nil_append]
  refine cj_len v fun hlx => ?_
  refine cj_enter Try.func95 Try.ntmps95 ?_
  repeat' (first
    | refine red ?_
    | refine redf fun hbi => ?_
    | refine reds ?_
    | refine redc fun r => ?_
    | refine redv fun sv => ?_
    | refine redn fun b => ?_
    | refine redz fun zs => ?_
    | refine redq (fun hc => ?_) (fun hc => ?_)
    | with_reducible refine wq_blk_o rfl ?_
    | (refine redd fun p cs as_ hcs has hf => ?_; simp only [Un.cells, Un.atoms, Un.fact, List.cons_append, List.nil_append] at hcs has hf; subst hcs has)
    | (refine redi (fun hc => ?_) (fun hc => ?_) <;> try first | (exfalso; omega) | exact absurd rfl hc)
    | fail)
  refine wc_loop_p [3, 11] [12, 13, 14, 5, 15, 16, 17, 18, 19, 20, 21, 22] (ι := Nat) (fun k => [.int .i64 (xs.take k).flatten.length, .int .i64 k]) (fun k => []) (fun k => k ≤ xs.length) (fun k => xs.length - k) 0 [] (by kernel_rfl) (Nat.zero_le _) rfl ?_
  · intro k u l' hl' hk
    simp only [patch, List.map_cons, List.map_nil, List.set_cons_zero, List.set_cons_succ] at hl'
    subst hl'
    simp only [List.cons_append, List.nil_append] at hk ⊢
    have h1 := flat_take_le xs k
    have h2 : k < xs.length → (xs.take k).flatten.length + (xs.getD k default).length ≤ xs.flatten.length := fun hh => by
      have e := congrArg List.length (flat_take hh)
      rw [List.length_append] at e
      have := flat_take_le xs (k + 1)
      show _ + (xs.getD k []).length ≤ _
      omega
    have h3 : k < xs.length → ((xs.take (k + 1)).flatten.length : Int) = (xs.take k).flatten.length + (xs.getD k default).length := fun hh => by
      rw [flat_take hh, List.length_append, Int.natCast_add]; rfl
    repeat' (first
      | refine red ?_
      | refine redf fun hbi => ?_
      | refine reds ?_
      | refine redc fun r => ?_
      | refine redv fun sv => ?_
      | refine redn fun b => ?_
      | refine redz fun zs => ?_
      | refine redq (fun hc => ?_) (fun hc => ?_)
      | with_reducible refine wq_blk_o rfl ?_
      | (refine redd fun p cs as_ hcs has hf => ?_; simp only [Un.cells, Un.atoms, Un.fact, List.cons_append, List.nil_append] at hcs has hf; subst hcs has)
      | (refine redi (fun hc => ?_) (fun hc => ?_) <;> try first | (exfalso; omega) | exact absurd rfl hc)
      | fail)
    · rw [← h3 (by omega)]
      exact wq_next (k + 1) (by omega) (by omega) (by kernel_rfl) ent_e
    · refine wc_loop_p [6, 27] [28, 29, 30, 8, 31, 32, 33, 34] (ι := Nat × Value) (fun k => [k.2, .int .i64 k.1]) (fun k => [.ow [k.2] (xs.take k.1).flatten]) (fun k => k.1 ≤ xs.length) (fun k => xs.length - k.1) (0, r) [.ow [r] ([] : List Int)] (by kernel_rfl) (Nat.zero_le _) rfl ?_
      clear h1 h2 h3 hk
      intro ⟨k, s⟩ u l' hl' hk
      simp only [patch, List.map_cons, List.map_nil, List.set_cons_zero, List.set_cons_succ] at hl'
      subst hl'
      simp only [List.cons_append, List.nil_append] at hk ⊢
      have h1 := flat_take_le xs k
      have h2 : k < xs.length → (xs.take k).flatten.length + (xs.getD k default).length ≤ xs.flatten.length := fun hh => by
        have e := congrArg List.length (flat_take hh)
        rw [List.length_append] at e
        have := flat_take_le xs (k + 1)
        show _ + (xs.getD k []).length ≤ _
        omega
      repeat' (first
        | refine red ?_
        | refine redf fun hbi => ?_
        | refine reds ?_
        | refine redc fun r => ?_
        | refine redv fun sv => ?_
        | refine redn fun b => ?_
        | refine redz fun zs => ?_
        | refine redq (fun hc => ?_) (fun hc => ?_)
        | with_reducible refine wq_blk_o rfl ?_
        | (refine redd fun p cs as_ hcs has hf => ?_; simp only [Un.cells, Un.atoms, Un.fact, List.cons_append, List.nil_append] at hcs has hf; subst hcs has)
        | (refine redi (fun hc => ?_) (fun hc => ?_) <;> try first | (exfalso; omega) | exact absurd rfl hc)
        | fail)
      · rw [show (xs.take k).flatten ++ xs.getD k default = (xs.take (k + 1)).flatten from (flat_take (by omega)).symm]
        exact wq_next (k + 1, sv) (by simp only; omega) (by simp only; omega) (by kernel_rfl) ent_e
      · rw [List.take_of_length_le (by omega)]
        exact ⟨_, rfl, ent_e⟩

instance Concat_ctr {Γ : List Atom} {v : Value} {xs : List (List Int)} [h : HasRd (List (List Int)) repList Γ [v] xs] :
    CtrC Try.prog 95 [v] Γ (xs.flatten.length ≤ 1099511627776) (Value) (fun sv : Value => sv) (fun sv => .ow [sv] xs.flatten :: Γ) := ⟨fun s w0 => Concat_spec s⟩

def JoinOk (x y : SWalk) : Prop := (x.2.length ≤ 60 ∧ 1 ≤ x.1.length ∧ x.1.length ≤ 60) ∧ (y.2.length ≤ 60 ∧ 1 ≤ y.1.length ∧ y.1.length ≤ 60) ∧ 1 + 2 * x.2.length + 2 * y.2.length ≤ 200
instance {x y : SWalk} : Decidable (JoinOk x y) := by unfold JoinOk; infer_instance
def joinOf (x y : SWalk) : SNode := if JoinOk x y then (2, [(x.2.length : Int)] ++ numsOf x.2 ++ numsOf y.2, [x.1, y.1], []) else (0, [], [], [])
theorem join_no {x y : SWalk} (h : ¬ JoinOk x y) : joinOf x y = (0, [], [], []) := if_neg h
theorem join_yes {x y : SWalk} (h : JoinOk x y) : joinOf x y = (2, [(x.2.length : Int)] ++ numsOf x.2 ++ numsOf y.2, [x.1, y.1], []) := if_pos h
theorem spec_JoinNode_spec {w0 : World} {Γ : List Atom} {x y : SWalk} {v0 v1 v2 v3 : Value} [h : HasRd (List Int) repList Γ [v0] x.1] [h' : HasRd (List SStep) repList Γ [v1] x.2] [h2 : HasRd (List Int) repList Γ [v2] y.1] [h3 : HasRd (List SStep) repList Γ [v3] y.2] :
    CJ Try.prog 30 [.agg #[v0, v1], .agg #[v2, v3]] w0 Γ (fun p : Value × Value × Value => .agg #[.int .i64 (joinOf x y).1, p.1, p.2.1, p.2.2]) (fun p => .ow [p.1] (joinOf x y).2.1 :: .ow [p.2.1] (joinOf x y).2.2.1 :: .ow [p.2.2] (joinOf x y).2.2.2 :: Γ) := by
  refine cj_lift (R := [.rd [v0] x.1, .rd [v1] x.2, .rd [v2] y.1, .rd [v3] y.2]) (A := fun p : Value × Value × Value => [.ow [p.1] (joinOf x y).2.1, .ow [p.2.1] (joinOf x y).2.2.1, .ow [p.2.2] (joinOf x y).2.2.2]) (fun w1 => ?_) (reads_cons h (reads_cons h' (reads_cons h2 (reads_cons h3 (inferInstance))))) (fun _ => inferInstance)
  simp only [List.cons_append, List.nil_append]
  refine cj_len v1 fun hlx => ?_
  refine cj_len v3 fun hly => ?_
  refine cj_enter Try.func30 Try.ntmps30 ?_
  have hnx := numsOf_length x.2
  have hny := numsOf_length y.2
  repeat' (first
    | refine red ?_
    | refine redf fun hbi => ?_
    | refine reds ?_
    | refine redc fun r => ?_
    | refine redv fun sv => ?_
    | refine redn fun b => ?_
    | refine redz fun zs => ?_
    | refine redq (fun hc => ?_) (fun hc => ?_)
    | with_reducible refine wq_blk_o rfl ?_
    | (refine redd fun p cs as_ hcs has hf => ?_; simp only [Un.cells, Un.atoms, Un.fact, List.cons_append, List.nil_append] at hcs has hf; subst hcs has)
    | (refine redi (fun hc => ?_) (fun hc => ?_) <;> try first | (exfalso; omega) | exact absurd rfl hc)
    | ((refine wa_begin 3 [false, false, false, false, false, false, false, false] [6] ?_ <;> (first | refine wa_p 0 ?_ | refine wa_p0 0 ?_ | fail) <;> (first | refine wa_f 1 fun hbi => ?_ | refine wa_p 1 ?_ | fail) <;> (first | refine wa_p 2 ?_ | refine wa_p0 2 ?_ | fail) <;> (first | refine wa_f 4 fun hbi => ?_ | refine wa_p 4 ?_ | fail) <;> (refine wa_two 3 5 ?_ ?_; rotate_right; (focus ((repeat' (first | refine red ?_ | refine redc fun r => ?_ | refine redv fun sv => ?_ | refine redf fun hbi => ?_ | refine redn fun b => ?_ | refine reds ?_ | refine redi (fun hc => ?_) (fun hc => ?_) | fail)) <;> (refine wa_do 3 ?_ <;> (repeat' (first | refine red ?_ | refine redc fun r => ?_ | refine redv fun sv => ?_ | refine redf fun hbi => ?_ | refine redn fun b => ?_ | refine reds ?_ | refine redi (fun hc => ?_) (fun hc => ?_) | fail))) <;> (refine wa_do 6 ?_ <;> (repeat' (first | refine red ?_ | refine redc fun r => ?_ | refine redv fun sv => ?_ | refine redf fun hbi => ?_ | refine redn fun b => ?_ | refine reds ?_ | refine redi (fun hc => ?_) (fun hc => ?_) | fail))) <;> (first | refine wa_p 7 ?_ | refine wa_p0 7 ?_ | fail))); rotate_right; (focus ((repeat' (first | refine red ?_ | refine redc fun r => ?_ | refine redv fun sv => ?_ | refine redf fun hbi => ?_ | refine redn fun b => ?_ | refine reds ?_ | refine redi (fun hc => ?_) (fun hc => ?_) | fail)) <;> (refine wa_do 5 ?_ <;> (repeat' (first | refine red ?_ | refine redc fun r => ?_ | refine redv fun sv => ?_ | refine redf fun hbi => ?_ | refine redn fun b => ?_ | refine reds ?_ | refine redi (fun hc => ?_) (fun hc => ?_) | fail))) <;> (refine wa_do 6 ?_ <;> (repeat' (first | refine red ?_ | refine redc fun r => ?_ | refine redv fun sv => ?_ | refine redf fun hbi => ?_ | refine redn fun b => ?_ | refine reds ?_ | refine redi (fun hc => ?_) (fun hc => ?_) | fail))) <;> (first | refine wa_p 7 ?_ | refine wa_p0 7 ?_ | fail))))) <;> refine wa_end ?_)
    | ((refine wa_begin1 3 [false, false, false, false, false, false, false, false] [] ?_ <;> (first | refine wa_p 0 ?_ | refine wa_p0 0 ?_ | fail) <;> (first | refine wa_f 1 fun hbi => ?_ | refine wa_p 1 ?_ | fail) <;> (first | refine wa_p 2 ?_ | refine wa_p0 2 ?_ | fail) <;> (first | refine wa_f 4 fun hbi => ?_ | refine wa_p 4 ?_ | fail) <;> (refine wa_two 3 5 ?_ ?_; rotate_right; (focus ((repeat' (first | refine red ?_ | refine redc fun r => ?_ | refine redv fun sv => ?_ | refine redf fun hbi => ?_ | refine redn fun b => ?_ | refine reds ?_ | refine redi (fun hc => ?_) (fun hc => ?_) | fail)) <;> (refine wa_do 3 ?_ <;> (repeat' (first | refine red ?_ | refine redc fun r => ?_ | refine redv fun sv => ?_ | refine redf fun hbi => ?_ | refine redn fun b => ?_ | refine reds ?_ | refine redi (fun hc => ?_) (fun hc => ?_) | fail))) <;> (refine wa_do 6 ?_ <;> (repeat' (first | refine red ?_ | refine redc fun r => ?_ | refine redv fun sv => ?_ | refine redf fun hbi => ?_ | refine redn fun b => ?_ | refine reds ?_ | refine redi (fun hc => ?_) (fun hc => ?_) | fail))) <;> (first | refine wa_p 7 ?_ | refine wa_p0 7 ?_ | fail))); rotate_right; (focus ((repeat' (first | refine red ?_ | refine redc fun r => ?_ | refine redv fun sv => ?_ | refine redf fun hbi => ?_ | refine redn fun b => ?_ | refine reds ?_ | refine redi (fun hc => ?_) (fun hc => ?_) | fail)) <;> (refine wa_do 5 ?_ <;> (repeat' (first | refine red ?_ | refine redc fun r => ?_ | refine redv fun sv => ?_ | refine redf fun hbi => ?_ | refine redn fun b => ?_ | refine reds ?_ | refine redi (fun hc => ?_) (fun hc => ?_) | fail))) <;> (refine wa_do 6 ?_ <;> (repeat' (first | refine red ?_ | refine redc fun r => ?_ | refine redv fun sv => ?_ | refine redf fun hbi => ?_ | refine redn fun b => ?_ | refine reds ?_ | refine redi (fun hc => ?_) (fun hc => ?_) | fail))) <;> (first | refine wa_p 7 ?_ | refine wa_p0 7 ?_ | fail))))) <;> refine wa_end ?_)
    | ((refine wa_begin 4 [false, false, false, false, false, false, false, false, false, false, false, false, false] [3, 12] ?_ <;> (first | refine wa_p 0 ?_ | refine wa_p0 0 ?_ | fail) <;> (first | refine wa_f 1 fun hbi => ?_ | refine wa_p 1 ?_ | fail) <;> (first | refine wa_p 4 ?_ | refine wa_p0 4 ?_ | fail) <;> (first | refine wa_f 5 fun hbi => ?_ | refine wa_p 5 ?_ | fail) <;> (first | refine wa_p 7 ?_ | refine wa_p0 7 ?_ | fail) <;> (first | refine wa_f 8 fun hbi => ?_ | refine wa_p 8 ?_ | fail) <;> (refine wa_do 2 ?_ <;> (repeat' (first | refine red ?_ | refine redc fun r => ?_ | refine redv fun sv => ?_ | refine redf fun hbi => ?_ | refine redn fun b => ?_ | refine reds ?_ | refine redi (fun hc => ?_) (fun hc => ?_) | fail))) <;> (refine wa_do 3 ?_ <;> (repeat' (first | refine red ?_ | refine redc fun r => ?_ | refine redv fun sv => ?_ | refine redf fun hbi => ?_ | refine redn fun b => ?_ | refine reds ?_ | refine redi (fun hc => ?_) (fun hc => ?_) | fail))) <;> (refine wa_do 6 ?_ <;> (repeat' (first | refine red ?_ | refine redc fun r => ?_ | refine redv fun sv => ?_ | refine redf fun hbi => ?_ | refine redn fun b => ?_ | refine reds ?_ | refine redi (fun hc => ?_) (fun hc => ?_) | fail))) <;> (refine wa_do 9 ?_ <;> (repeat' (first | refine red ?_ | refine redc fun r => ?_ | refine redv fun sv => ?_ | refine redf fun hbi => ?_ | refine redn fun b => ?_ | refine reds ?_ | refine redi (fun hc => ?_) (fun hc => ?_) | fail))) <;> (refine wa_do 10 ?_ <;> (repeat' (first | refine red ?_ | refine redc fun r => ?_ | refine redv fun sv => ?_ | refine redf fun hbi => ?_ | refine redn fun b => ?_ | refine reds ?_ | refine redi (fun hc => ?_) (fun hc => ?_) | fail))) <;> (refine wa_do 11 ?_ <;> (repeat' (first | refine red ?_ | refine redc fun r => ?_ | refine redv fun sv => ?_ | refine redf fun hbi => ?_ | refine redn fun b => ?_ | refine reds ?_ | refine redi (fun hc => ?_) (fun hc => ?_) | fail))) <;> (refine wa_do 12 ?_ <;> (repeat' (first | refine red ?_ | refine redc fun r => ?_ | refine redv fun sv => ?_ | refine redf fun hbi => ?_ | refine redn fun b => ?_ | refine reds ?_ | refine redi (fun hc => ?_) (fun hc => ?_) | fail)))) <;> refine wa_end ?_)
    | ((refine wa_begin1 4 [false, false, false, false, false, false, false, false, false, false, false, false, false] [12] ?_ <;> (first | refine wa_p 0 ?_ | refine wa_p0 0 ?_ | fail) <;> (first | refine wa_f 1 fun hbi => ?_ | refine wa_p 1 ?_ | fail) <;> (first | refine wa_p 4 ?_ | refine wa_p0 4 ?_ | fail) <;> (first | refine wa_f 5 fun hbi => ?_ | refine wa_p 5 ?_ | fail) <;> (first | refine wa_p 7 ?_ | refine wa_p0 7 ?_ | fail) <;> (first | refine wa_f 8 fun hbi => ?_ | refine wa_p 8 ?_ | fail) <;> (refine wa_do 2 ?_ <;> (repeat' (first | refine red ?_ | refine redc fun r => ?_ | refine redv fun sv => ?_ | refine redf fun hbi => ?_ | refine redn fun b => ?_ | refine reds ?_ | refine redi (fun hc => ?_) (fun hc => ?_) | fail))) <;> (refine wa_do 3 ?_ <;> (repeat' (first | refine red ?_ | refine redc fun r => ?_ | refine redv fun sv => ?_ | refine redf fun hbi => ?_ | refine redn fun b => ?_ | refine reds ?_ | refine redi (fun hc => ?_) (fun hc => ?_) | fail))) <;> (refine wa_do 6 ?_ <;> (repeat' (first | refine red ?_ | refine redc fun r => ?_ | refine redv fun sv => ?_ | refine redf fun hbi => ?_ | refine redn fun b => ?_ | refine reds ?_ | refine redi (fun hc => ?_) (fun hc => ?_) | fail))) <;> (refine wa_do 9 ?_ <;> (repeat' (first | refine red ?_ | refine redc fun r => ?_ | refine redv fun sv => ?_ | refine redf fun hbi => ?_ | refine redn fun b => ?_ | refine reds ?_ | refine redi (fun hc => ?_) (fun hc => ?_) | fail))) <;> (refine wa_do 10 ?_ <;> (repeat' (first | refine red ?_ | refine redc fun r => ?_ | refine redv fun sv => ?_ | refine redf fun hbi => ?_ | refine redn fun b => ?_ | refine reds ?_ | refine redi (fun hc => ?_) (fun hc => ?_) | fail))) <;> (refine wa_do 11 ?_ <;> (repeat' (first | refine red ?_ | refine redc fun r => ?_ | refine redv fun sv => ?_ | refine redf fun hbi => ?_ | refine redn fun b => ?_ | refine reds ?_ | refine redi (fun hc => ?_) (fun hc => ?_) | fail))) <;> (refine wa_do 12 ?_ <;> (repeat' (first | refine red ?_ | refine redc fun r => ?_ | refine redv fun sv => ?_ | refine redf fun hbi => ?_ | refine redn fun b => ?_ | refine reds ?_ | refine redi (fun hc => ?_) (fun hc => ?_) | fail)))) <;> refine wa_end ?_)
    | fail)
  all_goals first
    | (rw [join_no (by unfold JoinOk; omega)]; exact ⟨(_, _, _), rfl, ent_e⟩)
    | (rw [join_yes (by unfold JoinOk; omega)]; exact ⟨(_, _, _), rfl, ent_e⟩)
instance spec_JoinNode_ctr {Γ : List Atom} {x y : SWalk} {v0 v1 v2 v3 : Value} [h : HasRd (List Int) repList Γ [v0] x.1] [h' : HasRd (List SStep) repList Γ [v1] x.2] [h2 : HasRd (List Int) repList Γ [v2] y.1] [h3 : HasRd (List SStep) repList Γ [v3] y.2] :
    CtrC Try.prog 30 [.agg #[v0, v1], .agg #[v2, v3]] Γ (True) (Value × Value × Value) (fun p : Value × Value × Value => .agg #[.int .i64 (joinOf x y).1, p.1, p.2.1, p.2.2]) (fun p => .ow [p.1] (joinOf x y).2.1 :: .ow [p.2.1] (joinOf x y).2.2.1 :: .ow [p.2.2] (joinOf x y).2.2.2 :: Γ) := ⟨fun s w0 => spec_JoinNode_spec⟩

theorem impl_JoinNode_spec {w0 : World} {Γ : List Atom} {x y : SWalk} {v0 v1 v2 v3 : Value} [h : HasRd (List Int) repList Γ [v0] x.1] [h' : HasRd (List SStep) repList Γ [v1] x.2] [h2 : HasRd (List Int) repList Γ [v2] y.1] [h3 : HasRd (List SStep) repList Γ [v3] y.2] :
    CJ Try.prog 31 [.agg #[v0, v1], .agg #[v2, v3]] w0 Γ (fun p : Value × Value × Value => .agg #[.int .i64 (joinOf x y).1, p.1, p.2.1, p.2.2]) (fun p => .ow [p.1] (joinOf x y).2.1 :: .ow [p.2.1] (joinOf x y).2.2.1 :: .ow [p.2.2] (joinOf x y).2.2.2 :: Γ) := by
  refine cj_lift (R := [.rd [v0] x.1, .rd [v1] x.2, .rd [v2] y.1, .rd [v3] y.2]) (A := fun p : Value × Value × Value => [.ow [p.1] (joinOf x y).2.1, .ow [p.2.1] (joinOf x y).2.2.1, .ow [p.2.2] (joinOf x y).2.2.2]) (fun w1 => ?_) (reads_cons h (reads_cons h' (reads_cons h2 (reads_cons h3 (inferInstance))))) (fun _ => inferInstance)
  simp only [List.cons_append, List.nil_append]
  refine cj_len v1 fun hlx => ?_
  refine cj_len v3 fun hly => ?_
  refine cj_enter Try.func31 Try.ntmps31 ?_
  have hnx := numsOf_length x.2
  have hny := numsOf_length y.2
  have hcc : [[(x.2.length : Int)], numsOf x.2, numsOf y.2].flatten.length = 1 + 2 * x.2.length + 2 * y.2.length := by simp [hnx, hny]; omega
  have hce : [[(x.2.length : Int)], numsOf x.2, numsOf y.2].flatten = [(x.2.length : Int)] ++ numsOf x.2 ++ numsOf y.2 := by simp
  repeat' (first
    | refine red ?_
    | refine redf fun hbi => ?_
    | refine reds ?_
    | refine redc fun r => ?_
    | refine redv fun sv => ?_
    | refine redn fun b => ?_
    | refine redz fun zs => ?_
    | refine redq (fun hc => ?_) (fun hc => ?_)
    | with_reducible refine wq_blk_o rfl ?_
    | (refine redd fun p cs as_ hcs has hf => ?_; simp only [Un.cells, Un.atoms, Un.fact, List.cons_append, List.nil_append] at hcs has hf; subst hcs has)
    | (refine redi (fun hc => ?_) (fun hc => ?_) <;> try first | (exfalso; omega) | exact absurd rfl hc)
    | ((refine wa_begin 3 [false, false, false, false, false, false, false, false, false, false, false] [] ?_ <;> (first | refine wa_p 0 ?_ | refine wa_p0 0 ?_ | fail) <;> (first | refine wa_f 1 fun hbi => ?_ | refine wa_p 1 ?_ | fail) <;> (first | refine wa_p 2 ?_ | refine wa_p0 2 ?_ | fail) <;> (first | refine wa_f 4 fun hbi => ?_ | refine wa_p 4 ?_ | fail) <;> (first | refine wa_f 6 fun hbi => ?_ | refine wa_p 6 ?_ | fail) <;> (refine wa_two 3 5 ?_ ?_; rotate_right; (focus ((repeat' (first | refine red ?_ | refine redc fun r => ?_ | refine redv fun sv => ?_ | refine redf fun hbi => ?_ | refine redn fun b => ?_ | refine reds ?_ | refine redi (fun hc => ?_) (fun hc => ?_) | fail)) <;> (refine wa_two 3 7 ?_ ?_; rotate_right; (focus ((repeat' (first | refine red ?_ | refine redc fun r => ?_ | refine redv fun sv => ?_ | refine redf fun hbi => ?_ | refine redn fun b => ?_ | refine reds ?_ | refine redi (fun hc => ?_) (fun hc => ?_) | fail)) <;> (refine wa_do 3 ?_ <;> (repeat' (first | refine red ?_ | refine redc fun r => ?_ | refine redv fun sv => ?_ | refine redf fun hbi => ?_ | refine redn fun b => ?_ | refine reds ?_ | refine redi (fun hc => ?_) (fun hc => ?_) | fail))) <;> (refine wa_do 8 ?_ <;> (repeat' (first | refine red ?_ | refine redc fun r => ?_ | refine redv fun sv => ?_ | refine redf fun hbi => ?_ | refine redn fun b => ?_ | refine reds ?_ | refine redi (fun hc => ?_) (fun hc => ?_) | fail))) <;> (refine wa_do 9 ?_ <;> (repeat' (first | refine red ?_ | refine redc fun r => ?_ | refine redv fun sv => ?_ | refine redf fun hbi => ?_ | refine redn fun b => ?_ | refine reds ?_ | refine redi (fun hc => ?_) (fun hc => ?_) | fail))) <;> (first | refine wa_p 10 ?_ | refine wa_p0 10 ?_ | fail))); rotate_right; (focus ((repeat' (first | refine red ?_ | refine redc fun r => ?_ | refine redv fun sv => ?_ | refine redf fun hbi => ?_ | refine redn fun b => ?_ | refine reds ?_ | refine redi (fun hc => ?_) (fun hc => ?_) | fail)) <;> (refine wa_do 7 ?_ <;> (repeat' (first | refine red ?_ | refine redc fun r => ?_ | refine redv fun sv => ?_ | refine redf fun hbi => ?_ | refine redn fun b => ?_ | refine reds ?_ | refine redi (fun hc => ?_) (fun hc => ?_) | fail))) <;> (refine wa_do 8 ?_ <;> (repeat' (first | refine red ?_ | refine redc fun r => ?_ | refine redv fun sv => ?_ | refine redf fun hbi => ?_ | refine redn fun b => ?_ | refine reds ?_ | refine redi (fun hc => ?_) (fun hc => ?_) | fail))) <;> (refine wa_do 9 ?_ <;> (repeat' (first | refine red ?_ | refine redc fun r => ?_ | refine redv fun sv => ?_ | refine redf fun hbi => ?_ | refine redn fun b => ?_ | refine reds ?_ | refine redi (fun hc => ?_) (fun hc => ?_) | fail))) <;> (first | refine wa_p 10 ?_ | refine wa_p0 10 ?_ | fail)))))); rotate_right; (focus ((repeat' (first | refine red ?_ | refine redc fun r => ?_ | refine redv fun sv => ?_ | refine redf fun hbi => ?_ | refine redn fun b => ?_ | refine reds ?_ | refine redi (fun hc => ?_) (fun hc => ?_) | fail)) <;> (refine wa_do 5 ?_ <;> (repeat' (first | refine red ?_ | refine redc fun r => ?_ | refine redv fun sv => ?_ | refine redf fun hbi => ?_ | refine redn fun b => ?_ | refine reds ?_ | refine redi (fun hc => ?_) (fun hc => ?_) | fail))) <;> (refine wa_do 7 ?_ <;> (repeat' (first | refine red ?_ | refine redc fun r => ?_ | refine redv fun sv => ?_ | refine redf fun hbi => ?_ | refine redn fun b => ?_ | refine reds ?_ | refine redi (fun hc => ?_) (fun hc => ?_) | fail))) <;> (refine wa_do 8 ?_ <;> (repeat' (first | refine red ?_ | refine redc fun r => ?_ | refine redv fun sv => ?_ | refine redf fun hbi => ?_ | refine redn fun b => ?_ | refine reds ?_ | refine redi (fun hc => ?_) (fun hc => ?_) | fail))) <;> (refine wa_do 9 ?_ <;> (repeat' (first | refine red ?_ | refine redc fun r => ?_ | refine redv fun sv => ?_ | refine redf fun hbi => ?_ | refine redn fun b => ?_ | refine reds ?_ | refine redi (fun hc => ?_) (fun hc => ?_) | fail))) <;> (first | refine wa_p 10 ?_ | refine wa_p0 10 ?_ | fail))))) <;> refine wa_end ?_)
    | ((refine wa_begin1 3 [false, false, false, false, false, false, false, false, false, false, false] [] ?_ <;> (first | refine wa_p 0 ?_ | refine wa_p0 0 ?_ | fail) <;> (first | refine wa_f 1 fun hbi => ?_ | refine wa_p 1 ?_ | fail) <;> (first | refine wa_p 2 ?_ | refine wa_p0 2 ?_ | fail) <;> (first | refine wa_f 4 fun hbi => ?_ | refine wa_p 4 ?_ | fail) <;> (first | refine wa_f 6 fun hbi => ?_ | refine wa_p 6 ?_ | fail) <;> (refine wa_two 3 5 ?_ ?_; rotate_right; (focus ((repeat' (first | refine red ?_ | refine redc fun r => ?_ | refine redv fun sv => ?_ | refine redf fun hbi => ?_ | refine redn fun b => ?_ | refine reds ?_ | refine redi (fun hc => ?_) (fun hc => ?_) | fail)) <;> (refine wa_two 3 7 ?_ ?_; rotate_right; (focus ((repeat' (first | refine red ?_ | refine redc fun r => ?_ | refine redv fun sv => ?_ | refine redf fun hbi => ?_ | refine redn fun b => ?_ | refine reds ?_ | refine redi (fun hc => ?_) (fun hc => ?_) | fail)) <;> (refine wa_do 3 ?_ <;> (repeat' (first | refine red ?_ | refine redc fun r => ?_ | refine redv fun sv => ?_ | refine redf fun hbi => ?_ | refine redn fun b => ?_ | refine reds ?_ | refine redi (fun hc => ?_) (fun hc => ?_) | fail))) <;> (refine wa_do 8 ?_ <;> (repeat' (first | refine red ?_ | refine redc fun r => ?_ | refine redv fun sv => ?_ | refine redf fun hbi => ?_ | refine redn fun b => ?_ | refine reds ?_ | refine redi (fun hc => ?_) (fun hc => ?_) | fail))) <;> (refine wa_do 9 ?_ <;> (repeat' (first | refine red ?_ | refine redc fun r => ?_ | refine redv fun sv => ?_ | refine redf fun hbi => ?_ | refine redn fun b => ?_ | refine reds ?_ | refine redi (fun hc => ?_) (fun hc => ?_) | fail))) <;> (first | refine wa_p 10 ?_ | refine wa_p0 10 ?_ | fail))); rotate_right; (focus ((repeat' (first | refine red ?_ | refine redc fun r => ?_ | refine redv fun sv => ?_ | refine redf fun hbi => ?_ | refine redn fun b => ?_ | refine reds ?_ | refine redi (fun hc => ?_) (fun hc => ?_) | fail)) <;> (refine wa_do 7 ?_ <;> (repeat' (first | refine red ?_ | refine redc fun r => ?_ | refine redv fun sv => ?_ | refine redf fun hbi => ?_ | refine redn fun b => ?_ | refine reds ?_ | refine redi (fun hc => ?_) (fun hc => ?_) | fail))) <;> (refine wa_do 8 ?_ <;> (repeat' (first | refine red ?_ | refine redc fun r => ?_ | refine redv fun sv => ?_ | refine redf fun hbi => ?_ | refine redn fun b => ?_ | refine reds ?_ | refine redi (fun hc => ?_) (fun hc => ?_) | fail))) <;> (refine wa_do 9 ?_ <;> (repeat' (first | refine red ?_ | refine redc fun r => ?_ | refine redv fun sv => ?_ | refine redf fun hbi => ?_ | refine redn fun b => ?_ | refine reds ?_ | refine redi (fun hc => ?_) (fun hc => ?_) | fail))) <;> (first | refine wa_p 10 ?_ | refine wa_p0 10 ?_ | fail)))))); rotate_right; (focus ((repeat' (first | refine red ?_ | refine redc fun r => ?_ | refine redv fun sv => ?_ | refine redf fun hbi => ?_ | refine redn fun b => ?_ | refine reds ?_ | refine redi (fun hc => ?_) (fun hc => ?_) | fail)) <;> (refine wa_do 5 ?_ <;> (repeat' (first | refine red ?_ | refine redc fun r => ?_ | refine redv fun sv => ?_ | refine redf fun hbi => ?_ | refine redn fun b => ?_ | refine reds ?_ | refine redi (fun hc => ?_) (fun hc => ?_) | fail))) <;> (refine wa_do 7 ?_ <;> (repeat' (first | refine red ?_ | refine redc fun r => ?_ | refine redv fun sv => ?_ | refine redf fun hbi => ?_ | refine redn fun b => ?_ | refine reds ?_ | refine redi (fun hc => ?_) (fun hc => ?_) | fail))) <;> (refine wa_do 8 ?_ <;> (repeat' (first | refine red ?_ | refine redc fun r => ?_ | refine redv fun sv => ?_ | refine redf fun hbi => ?_ | refine redn fun b => ?_ | refine reds ?_ | refine redi (fun hc => ?_) (fun hc => ?_) | fail))) <;> (refine wa_do 9 ?_ <;> (repeat' (first | refine red ?_ | refine redc fun r => ?_ | refine redv fun sv => ?_ | refine redf fun hbi => ?_ | refine redn fun b => ?_ | refine reds ?_ | refine redi (fun hc => ?_) (fun hc => ?_) | fail))) <;> (first | refine wa_p 10 ?_ | refine wa_p0 10 ?_ | fail))))) <;> refine wa_end ?_)
    | ((refine wa_begin 4 [false, false, false, false, false, false, false, false, false, false] [9] ?_ <;> (first | refine wa_p 0 ?_ | refine wa_p0 0 ?_ | fail) <;> (first | refine wa_p 1 ?_ | refine wa_p0 1 ?_ | fail) <;> (first | refine wa_f 2 fun hbi => ?_ | refine wa_p 2 ?_ | fail) <;> (first | refine wa_p 4 ?_ | refine wa_p0 4 ?_ | fail) <;> (first | refine wa_f 5 fun hbi => ?_ | refine wa_p 5 ?_ | fail) <;> (refine wa_do 3 ?_ <;> (repeat' (first | refine red ?_ | refine redc fun r => ?_ | refine redv fun sv => ?_ | refine redf fun hbi => ?_ | refine redn fun b => ?_ | refine reds ?_ | refine redi (fun hc => ?_) (fun hc => ?_) | fail))) <;> (refine wa_do 6 ?_ <;> (repeat' (first | refine red ?_ | refine redc fun r => ?_ | refine redv fun sv => ?_ | refine redf fun hbi => ?_ | refine redn fun b => ?_ | refine reds ?_ | refine redi (fun hc => ?_) (fun hc => ?_) | fail))) <;> (refine wa_do 7 ?_ <;> (repeat' (first | refine red ?_ | refine redc fun r => ?_ | refine redv fun sv => ?_ | refine redf fun hbi => ?_ | refine redn fun b => ?_ | refine reds ?_ | refine redi (fun hc => ?_) (fun hc => ?_) | fail))) <;> (refine wa_do 8 ?_ <;> (repeat' (first | refine red ?_ | refine redc fun r => ?_ | refine redv fun sv => ?_ | refine redf fun hbi => ?_ | refine redn fun b => ?_ | refine reds ?_ | refine redi (fun hc => ?_) (fun hc => ?_) | fail))) <;> (refine wa_do 9 ?_ <;> (repeat' (first | refine red ?_ | refine redc fun r => ?_ | refine redv fun sv => ?_ | refine redf fun hbi => ?_ | refine redn fun b => ?_ | refine reds ?_ | refine redi (fun hc => ?_) (fun hc => ?_) | fail)))) <;> refine wa_end ?_)
    | fail)
  all_goals first
    | (rw [join_no (by unfold JoinOk; omega)]; exact ⟨(_, _, _), rfl, ent_e⟩)
    | (rw [join_yes (by unfold JoinOk; omega), ← hce]; exact ⟨(_, _, _), rfl, ent_e⟩)
    | trace_state
instance impl_JoinNode_ctr {Γ : List Atom} {x y : SWalk} {v0 v1 v2 v3 : Value} [h : HasRd (List Int) repList Γ [v0] x.1] [h' : HasRd (List SStep) repList Γ [v1] x.2] [h2 : HasRd (List Int) repList Γ [v2] y.1] [h3 : HasRd (List SStep) repList Γ [v3] y.2] :
    CtrC Try.prog 31 [.agg #[v0, v1], .agg #[v2, v3]] Γ (True) (Value × Value × Value) (fun p : Value × Value × Value => .agg #[.int .i64 (joinOf x y).1, p.1, p.2.1, p.2.2]) (fun p => .ow [p.1] (joinOf x y).2.1 :: .ow [p.2.1] (joinOf x y).2.2.1 :: .ow [p.2.2] (joinOf x y).2.2.2 :: Γ) := ⟨fun s w0 => impl_JoinNode_spec⟩

theorem join_len (x y : SWalk) : (joinOf x y).2.1.length ≤ 200 ∧ Siz.size (joinOf x y).2.2.1 ≤ 122 ∧ (joinOf x y).2.2.2.length = 0 := by
  unfold joinOf
  split
  · rename_i h
    unfold JoinOk at h
    have := siz_le' (xs := [x.1, y.1]) (m := 60) (fun t ht => by
      simp only [List.mem_cons, List.not_mem_nil, or_false] at ht
      rcases ht with rfl | rfl <;> omega)
    refine ⟨by simp [numsOf_length]; omega, by simpa using this, rfl⟩
  · exact ⟨by simp, by simp [siz_list, sumL], rfl⟩
set_option maxHeartbeats 0 in
set_option synthInstance.maxHeartbeats 400000 in
set_option synthInstance.maxSize 1000 in
theorem FnExactJoinNode_law {w0 : World} {Γ : List Atom} {x0 : SWalk} {x1 : SWalk} {v0_0 v0_1 v1_0 v1_1 : Value} [h0_0 : HasRd (List Int) repList Γ [v0_0] x0.1] [h0_1 : HasRd (List SStep) repList Γ [v0_1] x0.2] [h1_0 : HasRd (List Int) repList Γ [v1_0] x1.1] [h1_1 : HasRd (List SStep) repList Γ [v1_1] x1.2] (hf0 : (x0.1.length ≤ 9223372036854775807) ∧ x0.2.length ≤ 9223372036854775807) (hf1 : (x1.1.length ≤ 9223372036854775807) ∧ x1.2.length ≤ 9223372036854775807) :
    CJ Try.prog 5 [.agg #[v0_0, v0_1], .agg #[v1_0, v1_1]] w0 Γ (fun _ : Unit => .bool true) (fun _ => Γ) := by
  have hz0 := lft_spec 1048576 (Siz.size x0)
  have hz1 := lft_spec (lft 1048576 (Siz.size x0)) (Siz.size x1)
  have hs0 : Siz.size x0 = Siz.size x0.1 + Siz.size x0.2 := by simp only [siz_pair, siz_int, siz_bool, siz_str] <;> omega
  have hb0_0 := cntL_le x0.1
  have hl0_0 := siz_ints x0.1
  have hb0_1 := cntL_le x0.2
  have hs1 : Siz.size x1 = Siz.size x1.1 + Siz.size x1.2 := by simp only [siz_pair, siz_int, siz_bool, siz_str] <;> omega
  have hb1_0 := cntL_le x1.1
  have hl1_0 := siz_ints x1.1
  have hb1_1 := cntL_le x1.2
  have hn := join_len x0 x1
  have g0 := cntL_ints (joinOf x0 x1).2.1
  have g1 := cntL_le (joinOf x0 x1).2.2.1
  have g2 := cntL_ints (joinOf x0 x1).2.2.2
  refine cj_enter Try.func5 Try.ntmps5 ?_
  repeat' (first
    | refine red ?_
    | refine redf fun hbi => ?_
    | refine reds ?_
    | refine redc fun r => ?_
    | refine redv fun sv => ?_
    | refine redn fun b => ?_
    | refine redz fun zs => ?_
    | refine redq (fun hc => ?_) (fun hc => ?_)
    | with_reducible refine wq_blk_o rfl ?_
    | (refine redd fun p cs as_ hcs has hf => ?_; simp only [Un.cells, Un.atoms, Un.fact, List.cons_append, List.nil_append] at hcs has hf; subst hcs has)
    | (refine redi (fun hc => ?_) (fun hc => ?_) <;> try first | (exfalso; omega) | exact absurd rfl hc)
    | ((refine wa_begin 8 [false, false, false, false, false, false, false] [] ?_ <;> (first | refine wa_f 0 fun hbi => ?_ | refine wa_p 0 ?_ | fail) <;> (first | refine wa_f 2 fun hbi => ?_ | refine wa_p 2 ?_ | fail) <;> (refine wa_two 1 5 ?_ ?_; rotate_right; (focus ((repeat' (first | refine red ?_ | refine redc fun r => ?_ | refine redv fun sv => ?_ | refine redf fun hbi => ?_ | refine redn fun b => ?_ | refine reds ?_ | refine redi (fun hc => ?_) (fun hc => ?_) | fail)) <;> (refine wa_do 1 ?_ <;> (repeat' (first | refine red ?_ | refine redc fun r => ?_ | refine redv fun sv => ?_ | refine redf fun hbi => ?_ | refine redn fun b => ?_ | refine reds ?_ | refine redi (fun hc => ?_) (fun hc => ?_) | fail))) <;> (refine wa_do 3 ?_ <;> (repeat' (first | refine red ?_ | refine redc fun r => ?_ | refine redv fun sv => ?_ | refine redf fun hbi => ?_ | refine redn fun b => ?_ | refine reds ?_ | refine redi (fun hc => ?_) (fun hc => ?_) | fail))) <;> (refine wa_do 4 ?_ <;> (repeat' (first | refine red ?_ | refine redc fun r => ?_ | refine redv fun sv => ?_ | refine redf fun hbi => ?_ | refine redn fun b => ?_ | refine reds ?_ | refine redi (fun hc => ?_) (fun hc => ?_) | fail))) <;> (refine wa_do 6 ?_ <;> (repeat' (first | refine red ?_ | refine redc fun r => ?_ | refine redv fun sv => ?_ | refine redf fun hbi => ?_ | refine redn fun b => ?_ | refine reds ?_ | refine redi (fun hc => ?_) (fun hc => ?_) | fail))))); rotate_right; (focus ((repeat' (first | refine red ?_ | refine redc fun r => ?_ | refine redv fun sv => ?_ | refine redf fun hbi => ?_ | refine redn fun b => ?_ | refine reds ?_ | refine redi (fun hc => ?_) (fun hc => ?_) | fail)) <;> (refine wa_two 3 5 ?_ ?_; rotate_right; (focus ((repeat' (first | refine red ?_ | refine redc fun r => ?_ | refine redv fun sv => ?_ | refine redf fun hbi => ?_ | refine redn fun b => ?_ | refine reds ?_ | refine redi (fun hc => ?_) (fun hc => ?_) | fail)) <;> (refine wa_do 3 ?_ <;> (repeat' (first | refine red ?_ | refine redc fun r => ?_ | refine redv fun sv => ?_ | refine redf fun hbi => ?_ | refine redn fun b => ?_ | refine reds ?_ | refine redi (fun hc => ?_) (fun hc => ?_) | fail))) <;> (refine wa_do 4 ?_ <;> (repeat' (first | refine red ?_ | refine redc fun r => ?_ | refine redv fun sv => ?_ | refine redf fun hbi => ?_ | refine redn fun b => ?_ | refine reds ?_ | refine redi (fun hc => ?_) (fun hc => ?_) | fail))) <;> (refine wa_do 6 ?_ <;> (repeat' (first | refine red ?_ | refine redc fun r => ?_ | refine redv fun sv => ?_ | refine redf fun hbi => ?_ | refine redn fun b => ?_ | refine reds ?_ | refine redi (fun hc => ?_) (fun hc => ?_) | fail))))); rotate_right; (focus ((repeat' (first | refine red ?_ | refine redc fun r => ?_ | refine redv fun sv => ?_ | refine redf fun hbi => ?_ | refine redn fun b => ?_ | refine reds ?_ | refine redi (fun hc => ?_) (fun hc => ?_) | fail)) <;> (refine wa_two 4 5 ?_ ?_; rotate_right; (focus ((repeat' (first | refine red ?_ | refine redc fun r => ?_ | refine redv fun sv => ?_ | refine redf fun hbi => ?_ | refine redn fun b => ?_ | refine reds ?_ | refine redi (fun hc => ?_) (fun hc => ?_) | fail)) <;> (refine wa_do 4 ?_ <;> (repeat' (first | refine red ?_ | refine redc fun r => ?_ | refine redv fun sv => ?_ | refine redf fun hbi => ?_ | refine redn fun b => ?_ | refine reds ?_ | refine redi (fun hc => ?_) (fun hc => ?_) | fail))) <;> (refine wa_do 6 ?_ <;> (repeat' (first | refine red ?_ | refine redc fun r => ?_ | refine redv fun sv => ?_ | refine redf fun hbi => ?_ | refine redn fun b => ?_ | refine reds ?_ | refine redi (fun hc => ?_) (fun hc => ?_) | fail))))); rotate_right; (focus ((repeat' (first | refine red ?_ | refine redc fun r => ?_ | refine redv fun sv => ?_ | refine redf fun hbi => ?_ | refine redn fun b => ?_ | refine reds ?_ | refine redi (fun hc => ?_) (fun hc => ?_) | fail)) <;> (refine wa_do 5 ?_ <;> (repeat' (first | refine red ?_ | refine redc fun r => ?_ | refine redv fun sv => ?_ | refine redf fun hbi => ?_ | refine redn fun b => ?_ | refine reds ?_ | refine redi (fun hc => ?_) (fun hc => ?_) | fail))) <;> (refine wa_do 6 ?_ <;> (repeat' (first | refine red ?_ | refine redc fun r => ?_ | refine redv fun sv => ?_ | refine redf fun hbi => ?_ | refine redn fun b => ?_ | refine reds ?_ | refine redi (fun hc => ?_) (fun hc => ?_) | fail))))))))))))) <;> refine wa_end ?_)
    | ((refine wa_begin 14 [false, false, false, false, false] [] ?_ <;> (first | refine wa_f 0 fun hbi => ?_ | refine wa_p 0 ?_ | fail) <;> (first | refine wa_f 1 fun hbi => ?_ | refine wa_p 1 ?_ | fail) <;> (refine wa_do 2 ?_ <;> (repeat' (first | refine red ?_ | refine redc fun r => ?_ | refine redv fun sv => ?_ | refine redf fun hbi => ?_ | refine redn fun b => ?_ | refine reds ?_ | refine redi (fun hc => ?_) (fun hc => ?_) | fail))) <;> (refine wa_do 3 ?_ <;> (repeat' (first | refine red ?_ | refine redc fun r => ?_ | refine redv fun sv => ?_ | refine redf fun hbi => ?_ | refine redn fun b => ?_ | refine reds ?_ | refine redi (fun hc => ?_) (fun hc => ?_) | fail))) <;> (first | refine wa_p 4 ?_ | refine wa_p0 4 ?_ | fail)) <;> refine wa_end ?_)
    | ((refine wa_begin 16 [false, false, false, false, false] [] ?_ <;> (first | refine wa_f 0 fun hbi => ?_ | refine wa_p 0 ?_ | fail) <;> (first | refine wa_f 1 fun hbi => ?_ | refine wa_p 1 ?_ | fail) <;> (refine wa_do 2 ?_ <;> (repeat' (first | refine red ?_ | refine redc fun r => ?_ | refine redv fun sv => ?_ | refine redf fun hbi => ?_ | refine redn fun b => ?_ | refine reds ?_ | refine redi (fun hc => ?_) (fun hc => ?_) | fail))) <;> (refine wa_do 3 ?_ <;> (repeat' (first | refine red ?_ | refine redc fun r => ?_ | refine redv fun sv => ?_ | refine redf fun hbi => ?_ | refine redn fun b => ?_ | refine reds ?_ | refine redi (fun hc => ?_) (fun hc => ?_) | fail))) <;> (first | refine wa_p 4 ?_ | refine wa_p0 4 ?_ | fail)) <;> refine wa_end ?_)
    | ((refine wa_begin 31 [false, false, false, false, false, false, false] [] ?_ <;> (first | refine wa_f 0 fun hbi => ?_ | refine wa_p 0 ?_ | fail) <;> (first | refine wa_f 2 fun hbi => ?_ | refine wa_p 2 ?_ | fail) <;> (refine wa_two 1 5 ?_ ?_; rotate_right; (focus ((repeat' (first | refine red ?_ | refine redc fun r => ?_ | refine redv fun sv => ?_ | refine redf fun hbi => ?_ | refine redn fun b => ?_ | refine reds ?_ | refine redi (fun hc => ?_) (fun hc => ?_) | fail)) <;> (refine wa_do 1 ?_ <;> (repeat' (first | refine red ?_ | refine redc fun r => ?_ | refine redv fun sv => ?_ | refine redf fun hbi => ?_ | refine redn fun b => ?_ | refine reds ?_ | refine redi (fun hc => ?_) (fun hc => ?_) | fail))) <;> (refine wa_do 3 ?_ <;> (repeat' (first | refine red ?_ | refine redc fun r => ?_ | refine redv fun sv => ?_ | refine redf fun hbi => ?_ | refine redn fun b => ?_ | refine reds ?_ | refine redi (fun hc => ?_) (fun hc => ?_) | fail))) <;> (refine wa_do 4 ?_ <;> (repeat' (first | refine red ?_ | refine redc fun r => ?_ | refine redv fun sv => ?_ | refine redf fun hbi => ?_ | refine redn fun b => ?_ | refine reds ?_ | refine redi (fun hc => ?_) (fun hc => ?_) | fail))) <;> (refine wa_do 6 ?_ <;> (repeat' (first | refine red ?_ | refine redc fun r => ?_ | refine redv fun sv => ?_ | refine redf fun hbi => ?_ | refine redn fun b => ?_ | refine reds ?_ | refine redi (fun hc => ?_) (fun hc => ?_) | fail))))); rotate_right; (focus ((repeat' (first | refine red ?_ | refine redc fun r => ?_ | refine redv fun sv => ?_ | refine redf fun hbi => ?_ | refine redn fun b => ?_ | refine reds ?_ | refine redi (fun hc => ?_) (fun hc => ?_) | fail)) <;> (refine wa_two 3 5 ?_ ?_; rotate_right; (focus ((repeat' (first | refine red ?_ | refine redc fun r => ?_ | refine redv fun sv => ?_ | refine redf fun hbi => ?_ | refine redn fun b => ?_ | refine reds ?_ | refine redi (fun hc => ?_) (fun hc => ?_) | fail)) <;> (refine wa_do 3 ?_ <;> (repeat' (first | refine red ?_ | refine redc fun r => ?_ | refine redv fun sv => ?_ | refine redf fun hbi => ?_ | refine redn fun b => ?_ | refine reds ?_ | refine redi (fun hc => ?_) (fun hc => ?_) | fail))) <;> (refine wa_do 4 ?_ <;> (repeat' (first | refine red ?_ | refine redc fun r => ?_ | refine redv fun sv => ?_ | refine redf fun hbi => ?_ | refine redn fun b => ?_ | refine reds ?_ | refine redi (fun hc => ?_) (fun hc => ?_) | fail))) <;> (refine wa_do 6 ?_ <;> (repeat' (first | refine red ?_ | refine redc fun r => ?_ | refine redv fun sv => ?_ | refine redf fun hbi => ?_ | refine redn fun b => ?_ | refine reds ?_ | refine redi (fun hc => ?_) (fun hc => ?_) | fail))))); rotate_right; (focus ((repeat' (first | refine red ?_ | refine redc fun r => ?_ | refine redv fun sv => ?_ | refine redf fun hbi => ?_ | refine redn fun b => ?_ | refine reds ?_ | refine redi (fun hc => ?_) (fun hc => ?_) | fail)) <;> (refine wa_two 4 5 ?_ ?_; rotate_right; (focus ((repeat' (first | refine red ?_ | refine redc fun r => ?_ | refine redv fun sv => ?_ | refine redf fun hbi => ?_ | refine redn fun b => ?_ | refine reds ?_ | refine redi (fun hc => ?_) (fun hc => ?_) | fail)) <;> (refine wa_do 4 ?_ <;> (repeat' (first | refine red ?_ | refine redc fun r => ?_ | refine redv fun sv => ?_ | refine redf fun hbi => ?_ | refine redn fun b => ?_ | refine reds ?_ | refine redi (fun hc => ?_) (fun hc => ?_) | fail))) <;> (refine wa_do 6 ?_ <;> (repeat' (first | refine red ?_ | refine redc fun r => ?_ | refine redv fun sv => ?_ | refine redf fun hbi => ?_ | refine redn fun b => ?_ | refine reds ?_ | refine redi (fun hc => ?_) (fun hc => ?_) | fail))))); rotate_right; (focus ((repeat' (first | refine red ?_ | refine redc fun r => ?_ | refine redv fun sv => ?_ | refine redf fun hbi => ?_ | refine redn fun b => ?_ | refine reds ?_ | refine redi (fun hc => ?_) (fun hc => ?_) | fail)) <;> (refine wa_do 5 ?_ <;> (repeat' (first | refine red ?_ | refine redc fun r => ?_ | refine redv fun sv => ?_ | refine redf fun hbi => ?_ | refine redn fun b => ?_ | refine reds ?_ | refine redi (fun hc => ?_) (fun hc => ?_) | fail))) <;> (refine wa_do 6 ?_ <;> (repeat' (first | refine red ?_ | refine redc fun r => ?_ | refine redv fun sv => ?_ | refine redf fun hbi => ?_ | refine redn fun b => ?_ | refine reds ?_ | refine redi (fun hc => ?_) (fun hc => ?_) | fail))))))))))))) <;> refine wa_end ?_)
    | fail)
  all_goals exact ⟨(), rfl, ent_e⟩

end Go.Proofs.Ytjdlpidhmlhfoaa
