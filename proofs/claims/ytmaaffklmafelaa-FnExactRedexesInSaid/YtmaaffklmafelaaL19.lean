/- Rules that hold their own left side. -/
import Derived.Test.YtmaaffklmafelaaL07b
namespace Go.Proofs.Ytmaaffklmafelaa
open Go Go.Eng
set_option linter.unusedVariables false
set_option linter.unusedSimpArgs false

theorem l11Rule_spec {w0 : World} {Γ : List Atom} {v0 v1 : Value} {x : SSystem} {n : Int} [h0 : HasRd (List Int) repList Γ [v0] x.1] [h1 : HasRd (List SRule) repList Γ [v1] x.2] : CJ Try.prog 87 [.agg #[v0, v1], .int .i64 n] w0 Γ (fun _ : Unit => .bool (decide (0 ≤ n ∧ n < x.2.length))) (fun _ => Γ) := by
  refine cj_len v1 fun hlx => ?_
  refine cj_enter Try.func87 Try.ntmps87 ?_
  repeat' (first
    | refine red ?_
    | refine redf fun hbi => ?_
    | refine reds ?_
    | refine redc fun r => ?_
    | refine redv fun sv => ?_
    | refine redn fun b => ?_
    | refine redz fun zs => ?_
    | refine redq (fun hc => ?_) (fun hc => ?_)
    | with_reducible refine wq_blk_o rfl ?_
    | (refine redd fun p cs as_ hcs has hf => ?_; simp only [Un.cells, Un.atoms, Un.fact, List.cons_append, List.nil_append] at hcs has hf; subst hcs has)
    | (refine redi (fun hc => ?_) (fun hc => ?_) <;> try first | (exfalso; omega) | exact absurd rfl hc)
    | fail)
  exact ⟨(), ret_bool (decide_eq_decide.2 ⟨fun h => ⟨h.1, by have := h.2; omega⟩, fun h => ⟨h.1, by have := h.2; omega⟩⟩), ent_e⟩
instance l11Rule_ctr {Γ : List Atom} {v0 v1 : Value} {x : SSystem} {n : Int} [h0 : HasRd (List Int) repList Γ [v0] x.1] [h1 : HasRd (List SRule) repList Γ [v1] x.2] :
    CtrC Try.prog 87 [.agg #[v0, v1], .int .i64 n] Γ (True) (Unit) (fun _ : Unit => .bool (decide (0 ≤ n ∧ n < x.2.length))) (fun _ => Γ) := ⟨fun s w0 => l11Rule_spec⟩

theorem ruleIn_spec {w0 : World} {Γ : List Atom} {v0 v1 : Value} {x : SSystem} {n : Int} [h0 : HasRd (List Int) repList Γ [v0] x.1] [h1 : HasRd (List SRule) repList Γ [v1] x.2] : CJ Try.prog 88 [.agg #[v0, v1], .int .i64 n] w0 Γ (fun _ : Unit => .bool (decide (0 ≤ n ∧ n < x.2.length))) (fun _ => Γ) := by
  refine cj_len v1 fun hlx => ?_
  refine cj_enter Try.func88 Try.ntmps88 ?_
  repeat' (first
    | refine red ?_
    | refine redf fun hbi => ?_
    | refine reds ?_
    | refine redc fun r => ?_
    | refine redv fun sv => ?_
    | refine redn fun b => ?_
    | refine redz fun zs => ?_
    | refine redq (fun hc => ?_) (fun hc => ?_)
    | with_reducible refine wq_blk_o rfl ?_
    | (refine redd fun p cs as_ hcs has hf => ?_; simp only [Un.cells, Un.atoms, Un.fact, List.cons_append, List.nil_append] at hcs has hf; subst hcs has)
    | (refine redi (fun hc => ?_) (fun hc => ?_) <;> try first | (exfalso; omega) | exact absurd rfl hc)
    | fail)
  · exact ⟨(), ret_bool (decide_eq_decide.2 ⟨fun h => h.2, fun h => ⟨hc, h⟩⟩), ent_e⟩
  · exact ⟨(), ret_bool (decide_eq_false fun h => by have := h.1; omega), ent_e⟩
instance ruleIn_ctr {Γ : List Atom} {v0 v1 : Value} {x : SSystem} {n : Int} [h0 : HasRd (List Int) repList Γ [v0] x.1] [h1 : HasRd (List SRule) repList Γ [v1] x.2] :
    CtrC Try.prog 88 [.agg #[v0, v1], .int .i64 n] Γ (True) (Unit) (fun _ : Unit => .bool (decide (0 ≤ n ∧ n < x.2.length))) (fun _ => Γ) := ⟨fun s w0 => ruleIn_spec⟩

theorem wide_spec {w0 : World} {Γ : List Atom} {v : Value} {xs : List Int} [h0 : HasRd (List Int) repList Γ [v] xs] (hl : xs.length ≤ 1048576) : CJ Try.prog 89 [v] w0 Γ (fun q : Value => q) (fun q => .ow [q] xs :: Γ) := by
  refine cj_lift (R := [.rd [v] xs]) (A := fun q : Value => [.ow [q] xs]) (fun w1 => ?_) (reads_cons h0 (inferInstance)) (fun _ => inferInstance)
  simp only [List.cons_append, List.nil_append]
  refine cj_enter Try.func89 Try.ntmps89 ?_
  repeat' (first
    | refine red ?_
    | refine redf fun hbi => ?_
    | refine reds ?_
    | refine redc fun r => ?_
    | refine redv fun sv => ?_
    | refine redn fun b => ?_
    | refine redz fun zs => ?_
    | refine redq (fun hc => ?_) (fun hc => ?_)
    | with_reducible refine wq_blk_o rfl ?_
    | (refine redd fun p cs as_ hcs has hf => ?_; simp only [Un.cells, Un.atoms, Un.fact, List.cons_append, List.nil_append] at hcs has hf; subst hcs has)
    | (refine redi (fun hc => ?_) (fun hc => ?_) <;> try first | (exfalso; omega) | exact absurd rfl hc)
    | fail)
  refine wc_loop_p [3, 8] [9, 10, 11, 5, 12, 13, 14, 15, 16] (ι := Nat × Value) (fun k => [k.2, .int .i64 k.1]) (fun k => [.ow [k.2] (xs.take k.1)]) (fun k => k.1 ≤ xs.length) (fun k => xs.length - k.1) (0, .slice none 0 0) [.ow [.slice none 0 0] ([] : List Int)] (by kernel_rfl) (Nat.zero_le _) rfl ?_
  intro ⟨k, s⟩ u l' hl' hk
  simp only [patch, List.map_cons, List.map_nil, List.set_cons_zero, List.set_cons_succ] at hl'
  subst hl'
  simp only [List.cons_append, List.nil_append] at hk ⊢
  have hn2 := List.length_take (i := k) (l := xs)
  repeat' (first
    | refine red ?_
    | refine redf fun hbi => ?_
    | refine reds ?_
    | refine redc fun r => ?_
    | refine redv fun sv => ?_
    | refine redn fun b => ?_
    | refine redz fun zs => ?_
    | refine redq (fun hc => ?_) (fun hc => ?_)
    | with_reducible refine wq_blk_o rfl ?_
    | (refine redd fun p cs as_ hcs has hf => ?_; simp only [Un.cells, Un.atoms, Un.fact, List.cons_append, List.nil_append] at hcs has hf; subst hcs has)
    | (refine redi (fun hc => ?_) (fun hc => ?_) <;> try first | (exfalso; omega) | exact absurd rfl hc)
    | fail)
  · have e : xs.take k ++ [xs.getD k 0] = xs.take (k + 1) := by
      rw [List.take_succ_eq_append_getElem (by omega : k < xs.length), List.getD_eq_getElem?_getD, List.getElem?_eq_getElem (by omega)]; rfl
    rw [e]
    exact wq_next (k + 1, sv) (by simp only; omega) (by simp only; omega) (by kernel_rfl) ent_e
  · rw [List.take_of_length_le (by omega)]
    exact ⟨_, rfl, ent_e⟩
instance wide_ctr {Γ : List Atom} {v : Value} {xs : List Int} [h0 : HasRd (List Int) repList Γ [v] xs] :
    CtrC Try.prog 89 [v] Γ (xs.length ≤ 1048576) (Value) (fun q : Value => q) (fun q => .ow [q] xs :: Γ) := ⟨fun s w0 => wide_spec s⟩

def selfOf (x : SSystem) (k : Nat) : List Int := embedsIn x.1 (x.2.getD k default).1 (x.2.getD k default).2
theorem sys_right {x : SSystem} {k : Nat} (h : sysOk x = true) (hk : k < x.2.length) : termOk x.1 (x.2.getD k default).2 = true :=
  (of_decide_eq_true ((sysOk_iff.1 h).2 _ (getD_memD hk)) : RuleP _ _).1.2.1
theorem selfPlaces_spec {w0 : World} {Γ : List Atom} {v0 v1 : Value} {x : SSystem} {n : Int} {m : Nat} [hm : ToN n m] [h0 : HasRd (List Int) repList Γ [v0] x.1] [h1 : HasRd (List SRule) repList Γ [v1] x.2] (hs : sysOk x = true ∧ 0 ≤ n ∧ n < x.2.length) : CJ Try.prog 86 [.agg #[v0, v1], .int .i64 n] w0 Γ (fun q : Value => q) (fun q => .ow [q] (selfOf x m) :: Γ) := by
  refine cj_lift (R := [.rd [v0] x.1, .rd [v1] x.2]) (A := fun q : Value => [.ow [q] (selfOf x m)]) (fun w1 => ?_) (reads_cons h0 (reads_cons h1 (inferInstance))) (fun _ => inferInstance)
  simp only [List.cons_append, List.nil_append]
  obtain ⟨hs1, hs2, hs3⟩ := hs
  have hmn := hm.eq
  have hp := sys_left hs1 (k := m) (by omega)
  have ht := sys_right hs1 (k := m) (by omega)
  have htl := termOk_len ht
  unfold selfOf
  rw [embeds_yes hp ht]
  refine cj_enter Try.func86 Try.ntmps86 ?_
  repeat' (first
    | refine red ?_
    | refine redf fun hbi => ?_
    | refine reds ?_
    | refine redc fun r => ?_
    | refine redv fun sv => ?_
    | refine redn fun b => ?_
    | refine redz fun zs => ?_
    | refine redq (fun hc => ?_) (fun hc => ?_)
    | with_reducible refine wq_blk_o rfl ?_
    | (refine redd fun p cs as_ hcs has hf => ?_; simp only [Un.cells, Un.atoms, Un.fact, List.cons_append, List.nil_append] at hcs has hf; subst hcs has)
    | (refine redi (fun hc => ?_) (fun hc => ?_) <;> try first | (exfalso; omega) | exact absurd rfl hc)
    | ((refine wa_begin 6 [false, false, false, false, false, false, false, false, false, false, false] [] ?_ <;> (first | refine wa_p 0 ?_ | refine wa_p0 0 ?_ | fail) <;> (first | refine wa_f 1 fun hbi => ?_ | refine wa_p 1 ?_ | fail) <;> (first | refine wa_p 2 ?_ | refine wa_p0 2 ?_ | fail) <;> (first | refine wa_f 3 fun hbi => ?_ | refine wa_p 3 ?_ | fail) <;> (first | refine wa_p 4 ?_ | refine wa_p0 4 ?_ | fail) <;> (first | refine wa_f 5 fun hbi => ?_ | refine wa_p 5 ?_ | fail) <;> (first | refine wa_p 6 ?_ | refine wa_p0 6 ?_ | fail) <;> (first | refine wa_f 7 fun hbi => ?_ | refine wa_p 7 ?_ | fail) <;> (first | refine wa_p 8 ?_ | refine wa_p0 8 ?_ | fail) <;> (refine wa_do 9 ?_ <;> (repeat' (first | refine red ?_ | refine redc fun r => ?_ | refine redv fun sv => ?_ | refine redf fun hbi => ?_ | refine redn fun b => ?_ | refine reds ?_ | refine redi (fun hc => ?_) (fun hc => ?_) | fail))) <;> (refine wa_do 10 ?_ <;> (repeat' (first | refine red ?_ | refine redc fun r => ?_ | refine redv fun sv => ?_ | refine redf fun hbi => ?_ | refine redn fun b => ?_ | refine reds ?_ | refine redi (fun hc => ?_) (fun hc => ?_) | fail)))) <;> refine wa_end ?_)
    | fail)
  refine wc_loop_p [5, 16] [17, 18, 7, 19, 20, 21, 22, 23, 24, 25, 26, 27, 28, 29, 30, 31, 32, 33, 34] (ι := Nat × Value) (fun k => [k.2, .int .i64 k.1]) (fun k => [.ow [k.2] (selTo (fun k => instOf x.1 (x.2.getD m default).1 (subt x.1 (x.2.getD m default).2 k)) k.1)]) (fun k => k.1 ≤ (x.2.getD m default).2.length) (fun k => (x.2.getD m default).2.length - k.1) (0, .slice none 0 0) [.ow [.slice none 0 0] ([] : List Int)] (by kernel_rfl) (Nat.zero_le _) rfl ?_
  intro ⟨k, sw⟩ u l' hl' hk
  simp only [patch, List.map_cons, List.map_nil, List.set_cons_zero, List.set_cons_succ] at hl'
  subst hl'
  simp only [List.cons_append, List.nil_append] at hk ⊢
  have hsl := selTo_len (fun k => instOf x.1 (x.2.getD m default).1 (subt x.1 (x.2.getD m default).2 k)) k
  by_cases hlt : k < (x.2.getD m default).2.length
  · have hsub := subt_ok ht hlt
    repeat' (first
      | refine red ?_
      | refine redf fun hbi => ?_
      | refine reds ?_
      | refine redc fun r => ?_
      | refine redv fun sv => ?_
      | refine redn fun b => ?_
      | refine redz fun zs => ?_
      | refine redq (fun hc => ?_) (fun hc => ?_)
      | with_reducible refine wq_blk_o rfl ?_
      | (refine redd fun p cs as_ hcs has hf => ?_; simp only [Un.cells, Un.atoms, Un.fact, List.cons_append, List.nil_append] at hcs has hf; subst hcs has)
      | (refine redi (fun hc => ?_) (fun hc => ?_) <;> try first | (exfalso; omega) | exact absurd rfl hc)
      | ((refine wa_begin 6 [false, false, false, false, false, false, false, false, false, false, false] [] ?_ <;> (first | refine wa_p 0 ?_ | refine wa_p0 0 ?_ | fail) <;> (first | refine wa_f 1 fun hbi => ?_ | refine wa_p 1 ?_ | fail) <;> (first | refine wa_p 2 ?_ | refine wa_p0 2 ?_ | fail) <;> (first | refine wa_f 3 fun hbi => ?_ | refine wa_p 3 ?_ | fail) <;> (first | refine wa_p 4 ?_ | refine wa_p0 4 ?_ | fail) <;> (first | refine wa_f 5 fun hbi => ?_ | refine wa_p 5 ?_ | fail) <;> (first | refine wa_p 6 ?_ | refine wa_p0 6 ?_ | fail) <;> (first | refine wa_f 7 fun hbi => ?_ | refine wa_p 7 ?_ | fail) <;> (first | refine wa_p 8 ?_ | refine wa_p0 8 ?_ | fail) <;> (refine wa_do 9 ?_ <;> (repeat' (first | refine red ?_ | refine redc fun r => ?_ | refine redv fun sv => ?_ | refine redf fun hbi => ?_ | refine redn fun b => ?_ | refine reds ?_ | refine redi (fun hc => ?_) (fun hc => ?_) | fail))) <;> (refine wa_do 10 ?_ <;> (repeat' (first | refine red ?_ | refine redc fun r => ?_ | refine redv fun sv => ?_ | refine redf fun hbi => ?_ | refine redn fun b => ?_ | refine reds ?_ | refine redi (fun hc => ?_) (fun hc => ?_) | fail)))) <;> refine wa_end ?_)
      | fail)
    all_goals first
      | (rw [← selTo_yes (f := fun k => instOf x.1 (x.2.getD m default).1 (subt x.1 (x.2.getD m default).2 k)) hc]; exact wq_next (k + 1, sv) (by simp only; omega) (by simp only; omega) (by kernel_rfl) ent_e)
      | exact wq_next (k + 1, sw) (by simp only; omega) (by simp only; omega) (by kernel_rfl) (by simp only [selTo_no (f := fun k => instOf x.1 (x.2.getD m default).1 (subt x.1 (x.2.getD m default).2 k)) hc]; exact ent_e)
  · repeat' (first
      | refine red ?_
      | refine redf fun hbi => ?_
      | refine reds ?_
      | refine redc fun r => ?_
      | refine redv fun sv => ?_
      | refine redn fun b => ?_
      | refine redz fun zs => ?_
      | refine redq (fun hc => ?_) (fun hc => ?_)
      | with_reducible refine wq_blk_o rfl ?_
      | (refine redd fun p cs as_ hcs has hf => ?_; simp only [Un.cells, Un.atoms, Un.fact, List.cons_append, List.nil_append] at hcs has hf; subst hcs has)
      | (refine redi (fun hc => ?_) (fun hc => ?_) <;> try first | (exfalso; omega) | exact absurd rfl hc)
      | ((refine wa_begin 6 [false, false, false, false, false, false, false, false, false, false, false] [] ?_ <;> (first | refine wa_p 0 ?_ | refine wa_p0 0 ?_ | fail) <;> (first | refine wa_f 1 fun hbi => ?_ | refine wa_p 1 ?_ | fail) <;> (first | refine wa_p 2 ?_ | refine wa_p0 2 ?_ | fail) <;> (first | refine wa_f 3 fun hbi => ?_ | refine wa_p 3 ?_ | fail) <;> (first | refine wa_p 4 ?_ | refine wa_p0 4 ?_ | fail) <;> (first | refine wa_f 5 fun hbi => ?_ | refine wa_p 5 ?_ | fail) <;> (first | refine wa_p 6 ?_ | refine wa_p0 6 ?_ | fail) <;> (first | refine wa_f 7 fun hbi => ?_ | refine wa_p 7 ?_ | fail) <;> (first | refine wa_p 8 ?_ | refine wa_p0 8 ?_ | fail) <;> (refine wa_do 9 ?_ <;> (repeat' (first | refine red ?_ | refine redc fun r => ?_ | refine redv fun sv => ?_ | refine redf fun hbi => ?_ | refine redn fun b => ?_ | refine reds ?_ | refine redi (fun hc => ?_) (fun hc => ?_) | fail))) <;> (refine wa_do 10 ?_ <;> (repeat' (first | refine red ?_ | refine redc fun r => ?_ | refine redv fun sv => ?_ | refine redf fun hbi => ?_ | refine redn fun b => ?_ | refine reds ?_ | refine redi (fun hc => ?_) (fun hc => ?_) | fail)))) <;> refine wa_end ?_)
      | fail)
    rw [show k = (x.2.getD m default).2.length by omega]
    exact ⟨_, rfl, ent_e⟩

instance selfPlaces_ctr {Γ : List Atom} {v0 v1 : Value} {x : SSystem} {n : Int} {m : Nat} [hm : ToN n m] [h0 : HasRd (List Int) repList Γ [v0] x.1] [h1 : HasRd (List SRule) repList Γ [v1] x.2] :
    CtrC Try.prog 86 [.agg #[v0, v1], .int .i64 n] Γ (sysOk x = true ∧ 0 ≤ n ∧ n < x.2.length) (Value) (fun q : Value => q) (fun q => .ow [q] (selfOf x m) :: Γ) := ⟨fun s w0 => selfPlaces_spec s⟩

def selfPl (x : SSystem) (n : Int) : List Int := if sysOk x = true ∧ 0 ≤ n ∧ n < x.2.length then selfOf x n.toNat else []
theorem selfPl_no {x : SSystem} {n : Int} (h : ¬ (sysOk x = true ∧ 0 ≤ n ∧ n < x.2.length)) : selfPl x n = [] := if_neg h
theorem selfPl_yes {x : SSystem} {n : Int} (h : sysOk x = true ∧ 0 ≤ n ∧ n < x.2.length) : selfPl x n = selfOf x n.toNat := if_pos h
theorem selfOf_len (x : SSystem) (k : Nat) : (selfOf x k).length ≤ 60 := embeds_len _ _ _
theorem selfPl_len (x : SSystem) (n : Int) : (selfPl x n).length ≤ 60 := by
  unfold selfPl
  split
  · exact selfOf_len _ _
  · simp
theorem spec_SelfPlaces_spec {w0 : World} {Γ : List Atom} {v0 v1 : Value} {x : SSystem} {n : Int} [h0 : HasRd (List Int) repList Γ [v0] x.1] [h1 : HasRd (List SRule) repList Γ [v1] x.2] : CJ Try.prog 26 [.agg #[v0, v1], .int .i64 n] w0 Γ (fun q : Value => q) (fun q => .ow [q] (selfPl x n) :: Γ) := by
  refine cj_lift (R := [.rd [v0] x.1, .rd [v1] x.2]) (A := fun q : Value => [.ow [q] (selfPl x n)]) (fun w1 => ?_) (reads_cons h0 (reads_cons h1 (inferInstance))) (fun _ => inferInstance)
  simp only [List.cons_append, List.nil_append]
  refine cj_enter Try.func26 Try.ntmps26 ?_
  repeat' (first
    | refine red ?_
    | refine redf fun hbi => ?_
    | refine reds ?_
    | refine redc fun r => ?_
    | refine redv fun sv => ?_
    | refine redn fun b => ?_
    | refine redz fun zs => ?_
    | refine redq (fun hc => ?_) (fun hc => ?_)
    | with_reducible refine wq_blk_o rfl ?_
    | (refine redd fun p cs as_ hcs has hf => ?_; simp only [Un.cells, Un.atoms, Un.fact, List.cons_append, List.nil_append] at hcs has hf; subst hcs has)
    | (refine redi (fun hc => ?_) (fun hc => ?_) <;> try first | (exfalso; omega) | exact absurd rfl hc)
    | ((refine wa_begin 3 [false, false, false, false, false, false, false, false, false, false, false, false, false, false, false, false] [] ?_ <;> (first | refine wa_p 0 ?_ | refine wa_p0 0 ?_ | fail) <;> (first | refine wa_f 1 fun hbi => ?_ | refine wa_p 1 ?_ | fail) <;> (first | refine wa_p 2 ?_ | refine wa_p0 2 ?_ | fail) <;> (first | refine wa_f 3 fun hbi => ?_ | refine wa_p 3 ?_ | fail) <;> (first | refine wa_p 4 ?_ | refine wa_p0 4 ?_ | fail) <;> (first | refine wa_p 5 ?_ | (refine wa_deep 5 fun p cs as_ asb_ hcs has hasb hf => ?_; simp only [Un.cells, Un.atoms, Un.fact, List.cons_append, List.nil_append] at hcs has hasb hf; subst hcs has hasb) | fail) <;> (first | refine wa_p 6 ?_ | refine wa_p0 6 ?_ | fail) <;> (first | refine wa_f 7 fun hbi => ?_ | refine wa_p 7 ?_ | fail) <;> (first | refine wa_p 8 ?_ | refine wa_p0 8 ?_ | fail) <;> (first | refine wa_f 9 fun hbi => ?_ | refine wa_p 9 ?_ | fail) <;> (first | refine wa_p 10 ?_ | refine wa_p0 10 ?_ | fail) <;> (first | refine wa_p 11 ?_ | (refine wa_deep 11 fun p cs as_ asb_ hcs has hasb hf => ?_; simp only [Un.cells, Un.atoms, Un.fact, List.cons_append, List.nil_append] at hcs has hasb hf; subst hcs has hasb) | fail) <;> (first | refine wa_p 12 ?_ | refine wa_p0 12 ?_ | fail) <;> (first | refine wa_f 13 fun hbi => ?_ | refine wa_p 13 ?_ | fail) <;> (refine wa_do 14 ?_ <;> (repeat' (first | refine red ?_ | refine redc fun r => ?_ | refine redv fun sv => ?_ | refine redf fun hbi => ?_ | refine redn fun b => ?_ | refine reds ?_ | refine redi (fun hc => ?_) (fun hc => ?_) | fail))) <;> (first | refine wa_p 15 ?_ | refine wa_p0 15 ?_ | fail)) <;> refine wa_end ?_)
    | fail)
  · rw [selfPl_no (fun h => by rw [h.1] at hc; cases hc)]
    exact ⟨_, rfl, ent_e⟩
  · rw [selfPl_no (fun h => hc h.2)]
    exact ⟨_, rfl, ent_e⟩
  all_goals
    rw [selfPl_yes ⟨by assumption, hc⟩]
    unfold selfOf
    exact ⟨_, rfl, ent_e⟩
instance spec_SelfPlaces_ctr {Γ : List Atom} {v0 v1 : Value} {x : SSystem} {n : Int} [h0 : HasRd (List Int) repList Γ [v0] x.1] [h1 : HasRd (List SRule) repList Γ [v1] x.2] :
    CtrC Try.prog 26 [.agg #[v0, v1], .int .i64 n] Γ (True) (Value) (fun q : Value => q) (fun q => .ow [q] (selfPl x n) :: Γ) := ⟨fun s w0 => spec_SelfPlaces_spec⟩

theorem impl_SelfPlaces_spec {w0 : World} {Γ : List Atom} {v0 v1 : Value} {x : SSystem} {n : Int} [h0 : HasRd (List Int) repList Γ [v0] x.1] [h1 : HasRd (List SRule) repList Γ [v1] x.2] : CJ Try.prog 27 [.agg #[v0, v1], .int .i64 n] w0 Γ (fun q : Value => q) (fun q => .ow [q] (selfPl x n) :: Γ) := by
  refine cj_lift (R := [.rd [v0] x.1, .rd [v1] x.2]) (A := fun q : Value => [.ow [q] (selfPl x n)]) (fun w1 => ?_) (reads_cons h0 (reads_cons h1 (inferInstance))) (fun _ => inferInstance)
  simp only [List.cons_append, List.nil_append]
  have hlen := selfOf_len x n.toNat
  refine cj_enter Try.func27 Try.ntmps27 ?_
  repeat' (first
    | refine red ?_
    | refine redf fun hbi => ?_
    | refine reds ?_
    | refine redc fun r => ?_
    | refine redv fun sv => ?_
    | refine redn fun b => ?_
    | refine redz fun zs => ?_
    | refine redq (fun hc => ?_) (fun hc => ?_)
    | with_reducible refine wq_blk_o rfl ?_
    | (refine redd fun p cs as_ hcs has hf => ?_; simp only [Un.cells, Un.atoms, Un.fact, List.cons_append, List.nil_append] at hcs has hf; subst hcs has)
    | (refine redi (fun hc => ?_) (fun hc => ?_) <;> try first | (exfalso; omega) | exact absurd rfl hc)
    | fail)
  · rw [selfPl_no (fun h => by rw [h.1] at hc; cases hc)]
    exact ⟨_, rfl, ent_e⟩
  · rw [selfPl_no (fun h => hc h.2)]
    exact ⟨_, rfl, ent_e⟩
  all_goals
    rw [selfPl_yes ⟨by assumption, hc⟩]
    exact ⟨_, rfl, ent_e⟩
instance impl_SelfPlaces_ctr {Γ : List Atom} {v0 v1 : Value} {x : SSystem} {n : Int} [h0 : HasRd (List Int) repList Γ [v0] x.1] [h1 : HasRd (List SRule) repList Γ [v1] x.2] :
    CtrC Try.prog 27 [.agg #[v0, v1], .int .i64 n] Γ (True) (Value) (fun q : Value => q) (fun q => .ow [q] (selfPl x n) :: Γ) := ⟨fun s w0 => impl_SelfPlaces_spec⟩

set_option maxHeartbeats 0 in
set_option synthInstance.maxHeartbeats 400000 in
set_option synthInstance.maxSize 1000 in
theorem FnExactSelfPlaces_law {w0 : World} {Γ : List Atom} {x0 : SSystem} {x1 : Int} {v0_0 v0_1 : Value} [h0_0 : HasRd (List Int) repList Γ [v0_0] x0.1] [h0_1 : HasRd (List SRule) repList Γ [v0_1] x0.2] (hf0 : (x0.1.length ≤ 9223372036854775807) ∧ x0.2.length ≤ 9223372036854775807) (hf1 : -9223372036854775808 ≤ x1 ∧ x1 ≤ 9223372036854775807) :
    CJ Try.prog 6 [.agg #[v0_0, v0_1], .int .i64 x1] w0 Γ (fun _ : Unit => .bool true) (fun _ => Γ) := by
  have hz0 := lft_spec 1048576 (Siz.size x0)
  have hs0 : Siz.size x0 = Siz.size x0.1 + Siz.size x0.2 := by simp only [siz_pair, siz_int, siz_bool, siz_str] <;> omega
  have hb0_0 := cntL_le x0.1
  have hl0_0 := siz_ints x0.1
  have hb0_1 := cntL_le x0.2
  have hm1 := selfPl_len x0 x1
  have hm2 := cntL_ints (selfPl x0 x1)
  refine cj_enter Try.func6 Try.ntmps6 ?_
  repeat' (first
    | refine red ?_
    | refine redf fun hbi => ?_
    | refine reds ?_
    | refine redc fun r => ?_
    | refine redv fun sv => ?_
    | refine redn fun b => ?_
    | refine redz fun zs => ?_
    | refine redq (fun hc => ?_) (fun hc => ?_)
    | with_reducible refine wq_blk_o rfl ?_
    | (refine redd fun p cs as_ hcs has hf => ?_; simp only [Un.cells, Un.atoms, Un.fact, List.cons_append, List.nil_append] at hcs has hf; subst hcs has)
    | (refine redi (fun hc => ?_) (fun hc => ?_) <;> try first | (exfalso; omega) | exact absurd rfl hc)
    | ((refine wa_begin 10 [false, false, false, false, false] [] ?_ <;> (first | refine wa_f 0 fun hbi => ?_ | refine wa_p 0 ?_ | fail) <;> (first | refine wa_f 1 fun hbi => ?_ | refine wa_p 1 ?_ | fail) <;> (refine wa_do 2 ?_ <;> (repeat' (first | refine red ?_ | refine redc fun r => ?_ | refine redv fun sv => ?_ | refine redf fun hbi => ?_ | refine redn fun b => ?_ | refine reds ?_ | refine redi (fun hc => ?_) (fun hc => ?_) | fail))) <;> (refine wa_do 3 ?_ <;> (repeat' (first | refine red ?_ | refine redc fun r => ?_ | refine redv fun sv => ?_ | refine redf fun hbi => ?_ | refine redn fun b => ?_ | refine reds ?_ | refine redi (fun hc => ?_) (fun hc => ?_) | fail))) <;> (first | refine wa_p 4 ?_ | refine wa_p0 4 ?_ | fail)) <;> refine wa_end ?_)
    | fail)
  all_goals exact ⟨(), rfl, ent_e⟩

end Go.Proofs.Ytmaaffklmafelaa
