/- Walks and what is read off them: the sizes that are asked, the numbers of a walk, copies. -/
import Derived.Test.YtjijabgiochefaaTypes
namespace Go.Proofs.Ytjijabgiochefaa
open Go Go.Eng
set_option linter.unusedVariables false
set_option linter.unusedSimpArgs false

theorem l1In_spec {w0 : World} {Γ : List Atom} {x lo hi : Int} : CJ Try.prog 118 [.int .i64 x, .int .i64 lo, .int .i64 hi] w0 Γ (fun _ : Unit => .bool (decide (lo ≤ x ∧ x ≤ hi))) (fun _ => Γ) := by
  refine cj_enter Try.func118 Try.ntmps118 ?_
  repeat' (first
    | refine red ?_
    | refine redf fun hbi => ?_
    | refine reds ?_
    | refine redc fun r => ?_
    | refine redv fun sv => ?_
    | refine redn fun b => ?_
    | refine redz fun zs => ?_
    | refine redq (fun hc => ?_) (fun hc => ?_)
    | with_reducible refine wq_blk_o rfl ?_
    | (refine redd fun p cs as_ hcs has hf => ?_; simp only [Un.cells, Un.atoms, Un.fact, List.cons_append, List.nil_append] at hcs has hf; subst hcs has)
    | (refine redi (fun hc => ?_) (fun hc => ?_) <;> try first | (exfalso; omega) | exact absurd rfl hc)
    | fail)
  all_goals exact ⟨(), ret_bool (by first | (refine decide_eq_decide.2 ?_; omega) | (refine (decide_eq_false ?_).symm; omega) | (simp; omega)), ent_e⟩

instance l1In_ctr {Γ : List Atom} {x lo hi : Int} :
    CtrC Try.prog 118 [.int .i64 x, .int .i64 lo, .int .i64 hi] Γ (True) (Unit) (fun _ : Unit => .bool (decide (lo ≤ x ∧ x ≤ hi))) (fun _ => Γ) := ⟨fun s w0 => l1In_spec⟩

theorem l29Term_spec {w0 : World} {Γ : List Atom} {av : Value} {xs : List Int} [h : HasRd (List Int) repList Γ [av] xs] :
    CJ Try.prog 71 [av] w0 Γ (fun _ : Unit => .bool (decide (1 ≤ xs.length ∧ xs.length ≤ 60))) (fun _ => Γ) := by
  refine cj_len av fun hlx => ?_
  refine cj_enter Try.func71 Try.ntmps71 ?_
  repeat' (first
    | refine red ?_
    | refine redf fun hbi => ?_
    | refine reds ?_
    | refine redc fun r => ?_
    | refine redv fun sv => ?_
    | refine redn fun b => ?_
    | refine redz fun zs => ?_
    | refine redq (fun hc => ?_) (fun hc => ?_)
    | with_reducible refine wq_blk_o rfl ?_
    | (refine redd fun p cs as_ hcs has hf => ?_; simp only [Un.cells, Un.atoms, Un.fact, List.cons_append, List.nil_append] at hcs has hf; subst hcs has)
    | (refine redi (fun hc => ?_) (fun hc => ?_) <;> try first | (exfalso; omega) | exact absurd rfl hc)
    | fail)
  all_goals exact ⟨(), ret_bool (decide_eq_decide.2 (by omega)), ent_e⟩

instance l29Term_ctr {Γ : List Atom} {av : Value} {xs : List Int} [h : HasRd (List Int) repList Γ [av] xs] :
    CtrC Try.prog 71 [av] Γ (True) (Unit) (fun _ : Unit => .bool (decide (1 ≤ xs.length ∧ xs.length ≤ 60))) (fun _ => Γ) := ⟨fun s w0 => l29Term_spec⟩

def walkOk (x : SWalk) : Bool := decide (x.2.length ≤ 60 ∧ 1 ≤ x.1.length ∧ x.1.length ≤ 60)
theorem walkOk_iff (x : SWalk) : walkOk x = true ↔ (x.2.length ≤ 60 ∧ 1 ≤ x.1.length ∧ x.1.length ≤ 60) := decide_eq_true_iff
instance {x : SWalk} : BoolP (walkOk x) (x.2.length ≤ 60 ∧ 1 ≤ x.1.length ∧ x.1.length ≤ 60) := ⟨walkOk_iff x⟩
instance {x : SWalk} : BoolN (walkOk x) (¬ (x.2.length ≤ 60 ∧ 1 ≤ x.1.length ∧ x.1.length ≤ 60)) := ⟨decide_eq_false_iff_not⟩

theorem l29Walk_spec {w0 : World} {Γ : List Atom} {x : SWalk} {v0 v1 : Value} [h : HasRd (List Int) repList Γ [v0] x.1] [h' : HasRd (List SStep) repList Γ [v1] x.2] :
    CJ Try.prog 66 [.agg #[v0, v1]] w0 Γ (fun _ : Unit => .bool (walkOk x)) (fun _ => Γ) := by
  unfold walkOk
  refine cj_enter Try.func66 Try.ntmps66 ?_
  repeat' (first
    | refine red ?_
    | refine redf fun hbi => ?_
    | refine reds ?_
    | refine redc fun r => ?_
    | refine redv fun sv => ?_
    | refine redn fun b => ?_
    | refine redz fun zs => ?_
    | refine redq (fun hc => ?_) (fun hc => ?_)
    | with_reducible refine wq_blk_o rfl ?_
    | (refine redd fun p cs as_ hcs has hf => ?_; simp only [Un.cells, Un.atoms, Un.fact, List.cons_append, List.nil_append] at hcs has hf; subst hcs has)
    | (refine redi (fun hc => ?_) (fun hc => ?_) <;> try first | (exfalso; omega) | exact absurd rfl hc)
    | fail)
  all_goals exact ⟨(), ret_bool (by first | (refine decide_eq_decide.2 ?_; omega) | (refine decide_eq_false ?_; omega) | (simp; omega)), ent_e⟩

instance l29Walk_ctr {Γ : List Atom} {x : SWalk} {v0 v1 : Value} [h : HasRd (List Int) repList Γ [v0] x.1] [h' : HasRd (List SStep) repList Γ [v1] x.2] :
    CtrC Try.prog 66 [.agg #[v0, v1]] Γ (True) (Unit) (fun _ : Unit => .bool (walkOk x)) (fun _ => Γ) := ⟨fun s w0 => l29Walk_spec⟩

theorem sized_spec {w0 : World} {Γ : List Atom} {av : Value} {xs : List Int} [h : HasRd (List Int) repList Γ [av] xs] :
    CJ Try.prog 151 [av] w0 Γ (fun _ : Unit => .bool (decide (1 ≤ xs.length ∧ xs.length ≤ 60))) (fun _ => Γ) := by
  refine cj_len av fun hlx => ?_
  refine cj_enter Try.func151 Try.ntmps151 ?_
  repeat' (first
    | refine red ?_
    | refine redf fun hbi => ?_
    | refine reds ?_
    | refine redc fun r => ?_
    | refine redv fun sv => ?_
    | refine redn fun b => ?_
    | refine redz fun zs => ?_
    | refine redq (fun hc => ?_) (fun hc => ?_)
    | with_reducible refine wq_blk_o rfl ?_
    | (refine redd fun p cs as_ hcs has hf => ?_; simp only [Un.cells, Un.atoms, Un.fact, List.cons_append, List.nil_append] at hcs has hf; subst hcs has)
    | (refine redi (fun hc => ?_) (fun hc => ?_) <;> try first | (exfalso; omega) | exact absurd rfl hc)
    | fail)
  all_goals exact ⟨(), ret_bool (by first | (refine decide_eq_decide.2 ?_; omega) | (refine decide_eq_false ?_; omega) | (simp; omega)), ent_e⟩

instance sized_ctr {Γ : List Atom} {av : Value} {xs : List Int} [h : HasRd (List Int) repList Γ [av] xs] :
    CtrC Try.prog 151 [av] Γ (True) (Unit) (fun _ : Unit => .bool (decide (1 ≤ xs.length ∧ xs.length ≤ 60))) (fun _ => Γ) := ⟨fun s w0 => sized_spec⟩

theorem Walk_sized_spec {w0 : World} {Γ : List Atom} {x : SWalk} {v0 v1 : Value} [h : HasRd (List Int) repList Γ [v0] x.1] [h' : HasRd (List SStep) repList Γ [v1] x.2] :
    CJ Try.prog 74 [.agg #[v0, v1]] w0 Γ (fun _ : Unit => .bool (walkOk x)) (fun _ => Γ) := by
  unfold walkOk
  refine cj_enter Try.func74 Try.ntmps74 ?_
  repeat' (first
    | refine red ?_
    | refine redf fun hbi => ?_
    | refine reds ?_
    | refine redc fun r => ?_
    | refine redv fun sv => ?_
    | refine redn fun b => ?_
    | refine redz fun zs => ?_
    | refine redq (fun hc => ?_) (fun hc => ?_)
    | with_reducible refine wq_blk_o rfl ?_
    | (refine redd fun p cs as_ hcs has hf => ?_; simp only [Un.cells, Un.atoms, Un.fact, List.cons_append, List.nil_append] at hcs has hf; subst hcs has)
    | (refine redi (fun hc => ?_) (fun hc => ?_) <;> try first | (exfalso; omega) | exact absurd rfl hc)
    | fail)
  all_goals exact ⟨(), ret_bool (by first | (refine decide_eq_decide.2 ?_; omega) | (refine decide_eq_false ?_; omega) | (simp; omega)), ent_e⟩

instance Walk_sized_ctr {Γ : List Atom} {x : SWalk} {v0 v1 : Value} [h : HasRd (List Int) repList Γ [v0] x.1] [h' : HasRd (List SStep) repList Γ [v1] x.2] :
    CtrC Try.prog 74 [.agg #[v0, v1]] Γ (True) (Unit) (fun _ : Unit => .bool (walkOk x)) (fun _ => Γ) := ⟨fun s w0 => Walk_sized_spec⟩

theorem l1Copy_spec {w0 : World} {Γ : List Atom} {av : Value} {xs : List Int} [h : HasRd (List Int) repList Γ [av] xs] (hl : xs.length ≤ 1048576) :
    CJ Try.prog 68 [av] w0 Γ (fun p : Value => p) (fun p => .ow [p] xs :: Γ) := by
  refine cj_enter Try.func68 Try.ntmps68 ?_
  repeat' (first
    | refine red ?_
    | refine redf fun hbi => ?_
    | refine reds ?_
    | refine redc fun r => ?_
    | refine redv fun sv => ?_
    | refine redn fun b => ?_
    | refine redz fun zs => ?_
    | refine redq (fun hc => ?_) (fun hc => ?_)
    | with_reducible refine wq_blk_o rfl ?_
    | (refine redd fun p cs as_ hcs has hf => ?_; simp only [Un.cells, Un.atoms, Un.fact, List.cons_append, List.nil_append] at hcs has hf; subst hcs has)
    | (refine redi (fun hc => ?_) (fun hc => ?_) <;> try first | (exfalso; omega) | exact absurd rfl hc)
    | fail)
  exact ⟨_, rfl, ent_e⟩

instance l1Copy_ctr {Γ : List Atom} {av : Value} {xs : List Int} [h : HasRd (List Int) repList Γ [av] xs] :
    CtrC Try.prog 68 [av] Γ (xs.length ≤ 1048576) (Value) (fun p : Value => p) (fun p => .ow [p] xs :: Γ) := ⟨fun s w0 => l1Copy_spec s⟩

theorem Clone_spec {w0 : World} {Γ : List Atom} {av : Value} {xs : List Int} [h : HasRd (List Int) repList Γ [av] xs] (hl : xs.length ≤ 1048576) :
    CJ Try.prog 79 [av] w0 Γ (fun p : Value => p) (fun p => .ow [p] xs :: Γ) := by
  refine cj_enter Try.func79 Try.ntmps79 ?_
  repeat' (first
    | refine red ?_
    | refine redf fun hbi => ?_
    | refine reds ?_
    | refine redc fun r => ?_
    | refine redv fun sv => ?_
    | refine redn fun b => ?_
    | refine redz fun zs => ?_
    | refine redq (fun hc => ?_) (fun hc => ?_)
    | with_reducible refine wq_blk_o rfl ?_
    | (refine redd fun p cs as_ hcs has hf => ?_; simp only [Un.cells, Un.atoms, Un.fact, List.cons_append, List.nil_append] at hcs has hf; subst hcs has)
    | (refine redi (fun hc => ?_) (fun hc => ?_) <;> try first | (exfalso; omega) | exact absurd rfl hc)
    | fail)
  · subst hc
    exact ⟨_, rfl, ent_e⟩
  · exact ⟨_, rfl, ent_e⟩

instance Clone_ctr {Γ : List Atom} {av : Value} {xs : List Int} [h : HasRd (List Int) repList Γ [av] xs] :
    CtrC Try.prog 79 [av] Γ (xs.length ≤ 1048576) (Value) (fun p : Value => p) (fun p => .ow [p] xs :: Γ) := ⟨fun s w0 => Clone_spec s⟩

def numsOf : List SStep → List Int
  | [] => []
  | s :: r => s.1 :: s.2.1 :: numsOf r
theorem numsOf_take {xs : List SStep} {k : Nat} {y : SStep} (h : xs[k]? = some y) : numsOf (xs.take (k + 1)) = numsOf (xs.take k) ++ [y.1, y.2.1] := by
  induction xs generalizing k with
  | nil => simp at h
  | cons x xs ih =>
    cases k with
    | zero =>
      simp only [List.getElem?_cons_zero, Option.some.injEq] at h
      subst h
      simp [numsOf]
    | succ k =>
      simp only [List.getElem?_cons_succ] at h
      simp [numsOf, ih h]
theorem numsOf_length (xs : List SStep) : (numsOf xs).length = 2 * xs.length := by
  induction xs with
  | nil => rfl
  | cons x xs ih => simp only [numsOf, List.length_cons, ih]; omega

theorem l29Nums_spec {w0 : World} {Γ : List Atom} {x : SWalk} {v0 v1 : Value} [h : HasRd (List Int) repList Γ [v0] x.1] [h' : HasRd (List SStep) repList Γ [v1] x.2] (hl : x.2.length ≤ 1048576) :
    CJ Try.prog 67 [.agg #[v0, v1]] w0 Γ (fun p : Value => p) (fun p => .ow [p] (numsOf x.2) :: Γ) := by
  refine cj_lift (R := [.rd [v0] x.1, .rd [v1] x.2]) (A := fun p => [.ow [p] (numsOf x.2)]) (fun w1 => ?_) (reads_cons h (reads_cons h' inferInstance)) (fun _ => inferInstance)
  simp only [List.cons_append, List.nil_append]
  refine cj_enter Try.func67 Try.ntmps67 ?_
  repeat' (first
    | refine red ?_
    | refine redf fun hbi => ?_
    | refine reds ?_
    | refine redc fun r => ?_
    | refine redv fun sv => ?_
    | refine redn fun b => ?_
    | refine redz fun zs => ?_
    | refine redq (fun hc => ?_) (fun hc => ?_)
    | with_reducible refine wq_blk_o rfl ?_
    | (refine redd fun p cs as_ hcs has hf => ?_; simp only [Un.cells, Un.atoms, Un.fact, List.cons_append, List.nil_append] at hcs has hf; subst hcs has)
    | (refine redi (fun hc => ?_) (fun hc => ?_) <;> try first | (exfalso; omega) | exact absurd rfl hc)
    | ((refine wa_begin 5 [false, false, false, false, false, false, false, false, false, false, false, false, false, false, false, false] [14] ?_ <;> (first | refine wa_p 0 ?_ | refine wa_p0 0 ?_ | fail) <;> (first | refine wa_p 1 ?_ | refine wa_p0 1 ?_ | fail) <;> (first | refine wa_f 2 fun hbi => ?_ | refine wa_p 2 ?_ | fail) <;> (first | refine wa_p 3 ?_ | refine wa_p0 3 ?_ | fail) <;> (first | refine wa_p 4 ?_ | (refine wa_deep 4 fun p cs as_ asb_ hcs has hasb hf => ?_; simp only [Un.cells, Un.atoms, Un.fact, List.cons_append, List.nil_append] at hcs has hasb hf; subst hcs has hasb) | fail) <;> (first | refine wa_p 5 ?_ | refine wa_p0 5 ?_ | fail) <;> (first | refine wa_f 6 fun hbi => ?_ | refine wa_p 6 ?_ | fail) <;> (first | refine wa_p 7 ?_ | refine wa_p0 7 ?_ | fail) <;> (first | refine wa_f 8 fun hbi => ?_ | refine wa_p 8 ?_ | fail) <;> (first | refine wa_p 9 ?_ | refine wa_p0 9 ?_ | (refine wa_do 9 ?_ <;> (repeat' (first | refine red ?_ | refine redc fun r => ?_ | refine redv fun sv => ?_ | refine redf fun hbi => ?_ | refine redn fun b => ?_ | refine reds ?_ | refine redi (fun hc => ?_) (fun hc => ?_) | fail))) | fail) <;> (first | refine wa_p 10 ?_ | (refine wa_deep 10 fun p cs as_ asb_ hcs has hasb hf => ?_; simp only [Un.cells, Un.atoms, Un.fact, List.cons_append, List.nil_append] at hcs has hasb hf; subst hcs has hasb) | fail) <;> (first | refine wa_p 11 ?_ | refine wa_p0 11 ?_ | (refine wa_do 11 ?_ <;> (repeat' (first | refine red ?_ | refine redc fun r => ?_ | refine redv fun sv => ?_ | refine redf fun hbi => ?_ | refine redn fun b => ?_ | refine reds ?_ | refine redi (fun hc => ?_) (fun hc => ?_) | fail))) | fail) <;> (first | refine wa_f 12 fun hbi => ?_ | refine wa_p 12 ?_ | fail) <;> (refine wa_do 13 ?_ <;> (repeat' (first | refine red ?_ | refine redc fun r => ?_ | refine redv fun sv => ?_ | refine redf fun hbi => ?_ | refine redn fun b => ?_ | refine reds ?_ | refine redi (fun hc => ?_) (fun hc => ?_) | fail))) <;> (refine wa_do 14 ?_ <;> (repeat' (first | refine red ?_ | refine redc fun r => ?_ | refine redv fun sv => ?_ | refine redf fun hbi => ?_ | refine redn fun b => ?_ | refine reds ?_ | refine redi (fun hc => ?_) (fun hc => ?_) | fail))) <;> (first | refine wa_p 15 ?_ | refine wa_p0 15 ?_ | (refine wa_do 15 ?_ <;> (repeat' (first | refine red ?_ | refine redc fun r => ?_ | refine redv fun sv => ?_ | refine redf fun hbi => ?_ | refine redn fun b => ?_ | refine reds ?_ | refine redi (fun hc => ?_) (fun hc => ?_) | fail))) | fail)) <;> refine wa_end ?_)
    | ((refine wa_begin1 5 [false, false, false, false, false, false, false, false, false, false, false, false, false, false, false, false] [] ?_ <;> (first | refine wa_p 0 ?_ | refine wa_p0 0 ?_ | fail) <;> (first | refine wa_p 1 ?_ | refine wa_p0 1 ?_ | fail) <;> (first | refine wa_f 2 fun hbi => ?_ | refine wa_p 2 ?_ | fail) <;> (first | refine wa_p 3 ?_ | refine wa_p0 3 ?_ | fail) <;> (first | refine wa_p 4 ?_ | (refine wa_deep 4 fun p cs as_ asb_ hcs has hasb hf => ?_; simp only [Un.cells, Un.atoms, Un.fact, List.cons_append, List.nil_append] at hcs has hasb hf; subst hcs has hasb) | fail) <;> (first | refine wa_p 5 ?_ | refine wa_p0 5 ?_ | fail) <;> (first | refine wa_f 6 fun hbi => ?_ | refine wa_p 6 ?_ | fail) <;> (first | refine wa_p 7 ?_ | refine wa_p0 7 ?_ | fail) <;> (first | refine wa_f 8 fun hbi => ?_ | refine wa_p 8 ?_ | fail) <;> (first | refine wa_p 9 ?_ | refine wa_p0 9 ?_ | (refine wa_do 9 ?_ <;> (repeat' (first | refine red ?_ | refine redc fun r => ?_ | refine redv fun sv => ?_ | refine redf fun hbi => ?_ | refine redn fun b => ?_ | refine reds ?_ | refine redi (fun hc => ?_) (fun hc => ?_) | fail))) | fail) <;> (first | refine wa_p 10 ?_ | (refine wa_deep 10 fun p cs as_ asb_ hcs has hasb hf => ?_; simp only [Un.cells, Un.atoms, Un.fact, List.cons_append, List.nil_append] at hcs has hasb hf; subst hcs has hasb) | fail) <;> (first | refine wa_p 11 ?_ | refine wa_p0 11 ?_ | (refine wa_do 11 ?_ <;> (repeat' (first | refine red ?_ | refine redc fun r => ?_ | refine redv fun sv => ?_ | refine redf fun hbi => ?_ | refine redn fun b => ?_ | refine reds ?_ | refine redi (fun hc => ?_) (fun hc => ?_) | fail))) | fail) <;> (first | refine wa_f 12 fun hbi => ?_ | refine wa_p 12 ?_ | fail) <;> (refine wa_do 13 ?_ <;> (repeat' (first | refine red ?_ | refine redc fun r => ?_ | refine redv fun sv => ?_ | refine redf fun hbi => ?_ | refine redn fun b => ?_ | refine reds ?_ | refine redi (fun hc => ?_) (fun hc => ?_) | fail))) <;> (refine wa_do 14 ?_ <;> (repeat' (first | refine red ?_ | refine redc fun r => ?_ | refine redv fun sv => ?_ | refine redf fun hbi => ?_ | refine redn fun b => ?_ | refine reds ?_ | refine redi (fun hc => ?_) (fun hc => ?_) | fail))) <;> (first | refine wa_p 15 ?_ | refine wa_p0 15 ?_ | (refine wa_do 15 ?_ <;> (repeat' (first | refine red ?_ | refine redc fun r => ?_ | refine redv fun sv => ?_ | refine redf fun hbi => ?_ | refine redn fun b => ?_ | refine reds ?_ | refine redi (fun hc => ?_) (fun hc => ?_) | fail))) | fail)) <;> refine wa_end ?_)
    | fail)
  refine wc_loop [3, 4] [6, 7, 8, 9, 10, 13, 14, 15, 16, 17, 18, 19, 20, 21, 22, 23, 24, 25, 26, 27, 11, 12] (ι := Nat × Value) (fun k => [k.2, .int .i64 k.1]) (fun k => [.ow [k.2] (numsOf (x.2.take k.1)), .bk b [v0, v1], .rd [v0] x.1, .rd [v1] x.2]) (fun k => k.1 ≤ x.2.length) (fun k => x.2.length - k.1) (0, sv) (by kernel_rfl) (Nat.zero_le _) (by show Ent _ _ [.ow [sv] [], .bk b [v0, v1], .rd [v0] x.1, .rd [v1] x.2]; exact ent_e) ?_
  intro ⟨k, sw⟩ u l' hl' hk
  simp only [patch, List.map_cons, List.map_nil, List.set_cons_zero, List.set_cons_succ] at hl'
  subst hl'
  simp only at hk ⊢
  have hn := numsOf_length (x.2.take k)
  have hn2 := List.length_take (i := k) (l := x.2)
  repeat' (first
    | refine red ?_
    | refine redf fun hbi => ?_
    | refine reds ?_
    | refine redc fun r => ?_
    | refine redv fun sv => ?_
    | refine redn fun b => ?_
    | refine redz fun zs => ?_
    | refine redq (fun hc => ?_) (fun hc => ?_)
    | with_reducible refine wq_blk_o rfl ?_
    | (refine redd fun p cs as_ hcs has hf => ?_; simp only [Un.cells, Un.atoms, Un.fact, List.cons_append, List.nil_append] at hcs has hf; subst hcs has)
    | (refine redi (fun hc => ?_) (fun hc => ?_) <;> try first | (exfalso; omega) | exact absurd rfl hc)
    | ((refine wa_begin 5 [false, false, false, false, false, false, false, false, false, false, false, false, false, false, false, false] [14] ?_ <;> (first | refine wa_p 0 ?_ | refine wa_p0 0 ?_ | fail) <;> (first | refine wa_p 1 ?_ | refine wa_p0 1 ?_ | fail) <;> (first | refine wa_f 2 fun hbi => ?_ | refine wa_p 2 ?_ | fail) <;> (first | refine wa_p 3 ?_ | refine wa_p0 3 ?_ | fail) <;> (first | refine wa_p 4 ?_ | (refine wa_deep 4 fun p cs as_ asb_ hcs has hasb hf => ?_; simp only [Un.cells, Un.atoms, Un.fact, List.cons_append, List.nil_append] at hcs has hasb hf; subst hcs has hasb) | fail) <;> (first | refine wa_p 5 ?_ | refine wa_p0 5 ?_ | fail) <;> (first | refine wa_f 6 fun hbi => ?_ | refine wa_p 6 ?_ | fail) <;> (first | refine wa_p 7 ?_ | refine wa_p0 7 ?_ | fail) <;> (first | refine wa_f 8 fun hbi => ?_ | refine wa_p 8 ?_ | fail) <;> (first | refine wa_p 9 ?_ | refine wa_p0 9 ?_ | (refine wa_do 9 ?_ <;> (repeat' (first | refine red ?_ | refine redc fun r => ?_ | refine redv fun sv => ?_ | refine redf fun hbi => ?_ | refine redn fun b => ?_ | refine reds ?_ | refine redi (fun hc => ?_) (fun hc => ?_) | fail))) | fail) <;> (first | refine wa_p 10 ?_ | (refine wa_deep 10 fun p cs as_ asb_ hcs has hasb hf => ?_; simp only [Un.cells, Un.atoms, Un.fact, List.cons_append, List.nil_append] at hcs has hasb hf; subst hcs has hasb) | fail) <;> (first | refine wa_p 11 ?_ | refine wa_p0 11 ?_ | (refine wa_do 11 ?_ <;> (repeat' (first | refine red ?_ | refine redc fun r => ?_ | refine redv fun sv => ?_ | refine redf fun hbi => ?_ | refine redn fun b => ?_ | refine reds ?_ | refine redi (fun hc => ?_) (fun hc => ?_) | fail))) | fail) <;> (first | refine wa_f 12 fun hbi => ?_ | refine wa_p 12 ?_ | fail) <;> (refine wa_do 13 ?_ <;> (repeat' (first | refine red ?_ | refine redc fun r => ?_ | refine redv fun sv => ?_ | refine redf fun hbi => ?_ | refine redn fun b => ?_ | refine reds ?_ | refine redi (fun hc => ?_) (fun hc => ?_) | fail))) <;> (refine wa_do 14 ?_ <;> (repeat' (first | refine red ?_ | refine redc fun r => ?_ | refine redv fun sv => ?_ | refine redf fun hbi => ?_ | refine redn fun b => ?_ | refine reds ?_ | refine redi (fun hc => ?_) (fun hc => ?_) | fail))) <;> (first | refine wa_p 15 ?_ | refine wa_p0 15 ?_ | (refine wa_do 15 ?_ <;> (repeat' (first | refine red ?_ | refine redc fun r => ?_ | refine redv fun sv => ?_ | refine redf fun hbi => ?_ | refine redn fun b => ?_ | refine reds ?_ | refine redi (fun hc => ?_) (fun hc => ?_) | fail))) | fail)) <;> refine wa_end ?_)
    | ((refine wa_begin1 5 [false, false, false, false, false, false, false, false, false, false, false, false, false, false, false, false] [] ?_ <;> (first | refine wa_p 0 ?_ | refine wa_p0 0 ?_ | fail) <;> (first | refine wa_p 1 ?_ | refine wa_p0 1 ?_ | fail) <;> (first | refine wa_f 2 fun hbi => ?_ | refine wa_p 2 ?_ | fail) <;> (first | refine wa_p 3 ?_ | refine wa_p0 3 ?_ | fail) <;> (first | refine wa_p 4 ?_ | (refine wa_deep 4 fun p cs as_ asb_ hcs has hasb hf => ?_; simp only [Un.cells, Un.atoms, Un.fact, List.cons_append, List.nil_append] at hcs has hasb hf; subst hcs has hasb) | fail) <;> (first | refine wa_p 5 ?_ | refine wa_p0 5 ?_ | fail) <;> (first | refine wa_f 6 fun hbi => ?_ | refine wa_p 6 ?_ | fail) <;> (first | refine wa_p 7 ?_ | refine wa_p0 7 ?_ | fail) <;> (first | refine wa_f 8 fun hbi => ?_ | refine wa_p 8 ?_ | fail) <;> (first | refine wa_p 9 ?_ | refine wa_p0 9 ?_ | (refine wa_do 9 ?_ <;> (repeat' (first | refine red ?_ | refine redc fun r => ?_ | refine redv fun sv => ?_ | refine redf fun hbi => ?_ | refine redn fun b => ?_ | refine reds ?_ | refine redi (fun hc => ?_) (fun hc => ?_) | fail))) | fail) <;> (first | refine wa_p 10 ?_ | (refine wa_deep 10 fun p cs as_ asb_ hcs has hasb hf => ?_; simp only [Un.cells, Un.atoms, Un.fact, List.cons_append, List.nil_append] at hcs has hasb hf; subst hcs has hasb) | fail) <;> (first | refine wa_p 11 ?_ | refine wa_p0 11 ?_ | (refine wa_do 11 ?_ <;> (repeat' (first | refine red ?_ | refine redc fun r => ?_ | refine redv fun sv => ?_ | refine redf fun hbi => ?_ | refine redn fun b => ?_ | refine reds ?_ | refine redi (fun hc => ?_) (fun hc => ?_) | fail))) | fail) <;> (first | refine wa_f 12 fun hbi => ?_ | refine wa_p 12 ?_ | fail) <;> (refine wa_do 13 ?_ <;> (repeat' (first | refine red ?_ | refine redc fun r => ?_ | refine redv fun sv => ?_ | refine redf fun hbi => ?_ | refine redn fun b => ?_ | refine reds ?_ | refine redi (fun hc => ?_) (fun hc => ?_) | fail))) <;> (refine wa_do 14 ?_ <;> (repeat' (first | refine red ?_ | refine redc fun r => ?_ | refine redv fun sv => ?_ | refine redf fun hbi => ?_ | refine redn fun b => ?_ | refine reds ?_ | refine redi (fun hc => ?_) (fun hc => ?_) | fail))) <;> (first | refine wa_p 15 ?_ | refine wa_p0 15 ?_ | (refine wa_do 15 ?_ <;> (repeat' (first | refine red ?_ | refine redc fun r => ?_ | refine redv fun sv => ?_ | refine redf fun hbi => ?_ | refine redn fun b => ?_ | refine reds ?_ | refine redi (fun hc => ?_) (fun hc => ?_) | fail))) | fail)) <;> refine wa_end ?_)
    | fail)
  · rw [← numsOf_take (get_lt (by omega))]
    exact wq_next (k + 1, sv) (by simp only; omega) (by simp only; omega) (by kernel_rfl) ent_e
  · rw [List.take_of_length_le (by omega)]
    exact ⟨_, rfl, ent_e⟩

instance l29Nums_ctr {Γ : List Atom} {x : SWalk} {v0 v1 : Value} [h : HasRd (List Int) repList Γ [v0] x.1] [h' : HasRd (List SStep) repList Γ [v1] x.2] :
    CtrC Try.prog 67 [.agg #[v0, v1]] Γ (x.2.length ≤ 1048576) (Value) (fun p : Value => p) (fun p => .ow [p] (numsOf x.2) :: Γ) := ⟨fun s w0 => l29Nums_spec s⟩

theorem sequence_spec {w0 : World} {Γ : List Atom} {x : SWalk} {v0 v1 : Value} [h : HasRd (List Int) repList Γ [v0] x.1] [h' : HasRd (List SStep) repList Γ [v1] x.2] (hl : x.2.length ≤ 1048576) :
    CJ Try.prog 78 [.agg #[v0, v1]] w0 Γ (fun p : Value => p) (fun p => .ow [p] (numsOf x.2) :: Γ) := by
  refine cj_lift (R := [.rd [v0] x.1, .rd [v1] x.2]) (A := fun p => [.ow [p] (numsOf x.2)]) (fun w1 => ?_) (reads_cons h (reads_cons h' inferInstance)) (fun _ => inferInstance)
  simp only [List.cons_append, List.nil_append]
  refine cj_enter Try.func78 Try.ntmps78 ?_
  repeat' (first
    | refine red ?_
    | refine redf fun hbi => ?_
    | refine reds ?_
    | refine redc fun r => ?_
    | refine redv fun sv => ?_
    | refine redn fun b => ?_
    | refine redz fun zs => ?_
    | refine redq (fun hc => ?_) (fun hc => ?_)
    | with_reducible refine wq_blk_o rfl ?_
    | (refine redd fun p cs as_ hcs has hf => ?_; simp only [Un.cells, Un.atoms, Un.fact, List.cons_append, List.nil_append] at hcs has hf; subst hcs has)
    | (refine redi (fun hc => ?_) (fun hc => ?_) <;> try first | (exfalso; omega) | exact absurd rfl hc)
    | fail)
  refine wc_loop [3, 9] [10, 11, 12, 5, 13, 14, 15, 16, 17, 18, 19, 20] (ι := Nat × Value) (fun k => [k.2, .int .i64 k.1]) (fun k => [.ow [k.2] (numsOf (x.2.take k.1)), .bk b [v0, v1], .rd [v0] x.1, .rd [v1] x.2]) (fun k => k.1 ≤ x.2.length) (fun k => x.2.length - k.1) (0, .slice none 0 0) (by kernel_rfl) (Nat.zero_le _) (by show Ent _ _ [.ow [.slice none 0 0] [], .bk b [v0, v1], .rd [v0] x.1, .rd [v1] x.2]; exact ent_e) ?_
  intro ⟨k, sw⟩ u l' hl' hk
  simp only [patch, List.map_cons, List.map_nil, List.set_cons_zero, List.set_cons_succ] at hl'
  subst hl'
  simp only at hk ⊢
  have hn := numsOf_length (x.2.take k)
  have hn2 := List.length_take (i := k) (l := x.2)
  repeat' (first
    | refine red ?_
    | refine redf fun hbi => ?_
    | refine reds ?_
    | refine redc fun r => ?_
    | refine redv fun sv => ?_
    | refine redn fun b => ?_
    | refine redz fun zs => ?_
    | refine redq (fun hc => ?_) (fun hc => ?_)
    | with_reducible refine wq_blk_o rfl ?_
    | (refine redd fun p cs as_ hcs has hf => ?_; simp only [Un.cells, Un.atoms, Un.fact, List.cons_append, List.nil_append] at hcs has hf; subst hcs has)
    | (refine redi (fun hc => ?_) (fun hc => ?_) <;> try first | (exfalso; omega) | exact absurd rfl hc)
    | fail)
  · rw [← numsOf_take (get_lt (by omega))]
    exact wq_next (k + 1, sv) (by simp only; omega) (by simp only; omega) (by kernel_rfl) ent_e
  · rw [List.take_of_length_le (by omega)]
    exact ⟨_, rfl, ent_e⟩

instance sequence_ctr {Γ : List Atom} {x : SWalk} {v0 v1 : Value} [h : HasRd (List Int) repList Γ [v0] x.1] [h' : HasRd (List SStep) repList Γ [v1] x.2] :
    CtrC Try.prog 78 [.agg #[v0, v1]] Γ (x.2.length ≤ 1048576) (Value) (fun p : Value => p) (fun p => .ow [p] (numsOf x.2) :: Γ) := ⟨fun s w0 => sequence_spec s⟩

def normalNodeOf (x : SWalk) : SNode := if x.2.length ≤ 60 ∧ 1 ≤ x.1.length ∧ x.1.length ≤ 60 then (1, numsOf x.2, [x.1], []) else (0, [], [], [])

theorem normal_len (x : SWalk) : (normalNodeOf x).2.1.length ≤ 2 * x.2.length ∧ Siz.size (normalNodeOf x).2.2.1 ≤ 1 + x.1.length ∧ (normalNodeOf x).2.2.2.length = 0 := by
  unfold normalNodeOf
  split
  · refine ⟨by simp only; rw [numsOf_length]; omega, ?_, rfl⟩
    simp only [siz_list, sumL, sumL_int, List.length_cons, List.length_nil]
    omega
  · exact ⟨by simp, by simp [siz_list, sumL], rfl⟩

end Go.Proofs.Ytjijabgiochefaa
