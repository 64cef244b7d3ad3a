/- Nodes of chains and of two walks. -/
import Derived.Test.YtjdlpidhmlhfoaaNode
namespace Go.Proofs.Ytjdlpidhmlhfoaa
open Go Go.Eng
set_option linter.unusedVariables false
set_option linter.unusedSimpArgs false

def flag (b : Bool) : Int := if b then 1 else 0
theorem l1Flag_spec {w0 : World} {Γ : List Atom} {b : Bool} : CJ Try.prog 90 [.bool b] w0 Γ (fun _ : Unit => .int .i64 (flag b)) (fun _ => Γ) := by
  refine cj_enter Try.func90 Try.ntmps90 ?_
  repeat' (first
    | refine red ?_
    | refine redf fun hbi => ?_
    | refine reds ?_
    | refine redc fun r => ?_
    | refine redv fun sv => ?_
    | refine redn fun b => ?_
    | refine redz fun zs => ?_
    | refine redq (fun hc => ?_) (fun hc => ?_)
    | with_reducible refine wq_blk_o rfl ?_
    | (refine redd fun p cs as_ hcs has hf => ?_; simp only [Un.cells, Un.atoms, Un.fact, List.cons_append, List.nil_append] at hcs has hf; subst hcs has)
    | (refine redi (fun hc => ?_) (fun hc => ?_) <;> try first | (exfalso; omega) | exact absurd rfl hc)
    | fail)
  all_goals exact ⟨(), ret_int (by simp [flag, hc]), ent_e⟩
instance l1Flag_ctr {Γ : List Atom} {b : Bool} :
    CtrC Try.prog 90 [.bool b] Γ (True) (Unit) (fun _ : Unit => .int .i64 (flag b)) (fun _ => Γ) := ⟨fun s w0 => l1Flag_spec⟩

theorem flag_le (b : Bool) : 0 ≤ flag b ∧ flag b ≤ 1 := by cases b <;> decide
def sizedB (t : List Int) : Bool := decide (1 ≤ t.length ∧ t.length ≤ 60)
theorem siz_le' {xs : List (List Int)} {m : Nat} (h : ∀ x ∈ xs, x.length ≤ m) : Siz.size xs ≤ xs.length + xs.length * m := by
  rw [siz_list]
  induction xs with
  | nil => simp [sumL]
  | cons x xs ih =>
    have h1 := h x (by simp)
    have h2 := ih (fun y hy => h y (by simp [hy]))
    simp only [sumL, List.length_cons, siz_ints, Nat.add_mul, Nat.one_mul] at h2 ⊢
    omega
def chNums : List SMove → List Int
  | [] => []
  | m :: r => m.1 :: m.2.1 :: flag m.2.2.1 :: chNums r
theorem chNums_take {xs : List SMove} {k : Nat} {y : SMove} (h : xs[k]? = some y) : chNums (xs.take (k + 1)) = chNums (xs.take k) ++ [y.1, y.2.1, flag y.2.2.1] := by
  induction xs generalizing k with
  | nil => simp at h
  | cons x xs ih =>
    cases k with
    | zero =>
      simp only [List.getElem?_cons_zero, Option.some.injEq] at h
      subst h
      simp [chNums]
    | succ k =>
      simp only [List.getElem?_cons_succ] at h
      simp [chNums, ih h]
theorem chNums_len (xs : List SMove) : (chNums xs).length = 3 * xs.length := by
  induction xs with
  | nil => rfl
  | cons x xs ih => simp only [chNums, List.length_cons, ih]; omega
def chTerms (xs : List SMove) : List (List Int) := xs.map (·.2.2.2)
theorem chTerms_take {xs : List SMove} {k : Nat} {y : SMove} (h : xs[k]? = some y) : chTerms (xs.take (k + 1)) = chTerms (xs.take k) ++ [y.2.2.2] := by
  obtain ⟨hk, he⟩ := List.getElem?_eq_some_iff.1 h
  unfold chTerms
  rw [List.take_succ_eq_append_getElem hk, he, List.map_append]; rfl
def chOk (x : SChain) : Bool := decide (x.2.length ≤ 60 ∧ 1 ≤ x.1.length ∧ x.1.length ≤ 60) && x.2.all fun m => sizedB m.2.2.2
def chainOf (x : SChain) : SNode := if chOk x = true then (11, chNums x.2, x.1 :: chTerms x.2, []) else (0, [], [], [])
theorem ch_no0 {x : SChain} (h : ¬ (x.2.length ≤ 60 ∧ 1 ≤ x.1.length ∧ x.1.length ≤ 60)) : chainOf x = (0, [], [], []) := by
  unfold chainOf chOk; rw [decide_eq_false h]; rfl
theorem ch_no1 {x : SChain} {k : Nat} (hk : k < x.2.length) (h : ¬ (1 ≤ (x.2.getD k default).2.2.2.length ∧ (x.2.getD k default).2.2.2.length ≤ 60)) : chainOf x = (0, [], [], []) := by
  unfold chainOf
  rw [if_neg]
  intro ho
  simp only [chOk, Bool.and_eq_true, List.all_eq_true, sizedB, decide_eq_true_eq] at ho
  exact h (ho.2 _ (by rw [List.getD_eq_getElem?_getD, List.getElem?_eq_getElem hk]; exact List.getElem_mem hk))
theorem ch_step {xs : List SMove} {k : Nat} (hk : k < xs.length) (h : (xs.take k).all (fun m => sizedB m.2.2.2) = true) (hn : 1 ≤ (xs.getD k default).2.2.2.length ∧ (xs.getD k default).2.2.2.length ≤ 60) : (xs.take (k + 1)).all (fun m => sizedB m.2.2.2) = true := by
  rw [List.take_succ_eq_append_getElem hk, List.all_append, h]
  rw [List.getD_eq_getElem?_getD, List.getElem?_eq_getElem hk] at hn
  simpa [sizedB] using hn
theorem ch_yes {x : SChain} (h : x.2.length ≤ 60 ∧ 1 ≤ x.1.length ∧ x.1.length ≤ 60) (h' : x.2.all (fun m => sizedB m.2.2.2) = true) : chainOf x = (11, chNums x.2, x.1 :: chTerms x.2, []) := by
  unfold chainOf chOk; rw [decide_eq_true h, h']; rfl

theorem spec_ChainNode_spec {w0 : World} {Γ : List Atom} {x : SChain} {v0 v1 : Value} [h : HasRd (List Int) repList Γ [v0] x.1] [h' : HasRd (List SMove) repList Γ [v1] x.2] :
    CJ Try.prog 25 [.agg #[v0, v1]] w0 Γ (fun p : Value × Value × Value => .agg #[.int .i64 (chainOf x).1, p.1, p.2.1, p.2.2]) (fun p => .ow [p.1] (chainOf x).2.1 :: .ow [p.2.1] (chainOf x).2.2.1 :: .ow [p.2.2] (chainOf x).2.2.2 :: Γ) := by
  refine cj_lift (R := [.rd [v0] x.1, .rd [v1] x.2]) (A := fun p : Value × Value × Value => [.ow [p.1] (chainOf x).2.1, .ow [p.2.1] (chainOf x).2.2.1, .ow [p.2.2] (chainOf x).2.2.2]) (fun w1 => ?_) (reads_cons h (reads_cons h' (inferInstance))) (fun _ => inferInstance)
  simp only [List.cons_append, List.nil_append]
  refine cj_len v1 fun hlx => ?_
  refine cj_enter Try.func25 Try.ntmps25 ?_
  repeat' (first
    | refine red ?_
    | refine redf fun hbi => ?_
    | refine reds ?_
    | refine redc fun r => ?_
    | refine redv fun sv => ?_
    | refine redn fun b => ?_
    | refine redz fun zs => ?_
    | refine redq (fun hc => ?_) (fun hc => ?_)
    | with_reducible refine wq_blk_o rfl ?_
    | (refine redd fun p cs as_ hcs has hf => ?_; simp only [Un.cells, Un.atoms, Un.fact, List.cons_append, List.nil_append] at hcs has hf; subst hcs has)
    | (refine redi (fun hc => ?_) (fun hc => ?_) <;> try first | (exfalso; omega) | exact absurd rfl hc)
    | ((refine wa_begin 10 [false, false, false, false, false, false, false, false, false, false, false, false, false] [10, 12] ?_ <;> (first | refine wa_p 0 ?_ | refine wa_p0 0 ?_ | fail) <;> (first | refine wa_f 1 fun hbi => ?_ | refine wa_p 1 ?_ | fail) <;> (first | refine wa_p 2 ?_ | refine wa_p0 2 ?_ | fail) <;> (first | refine wa_f 3 fun hbi => ?_ | refine wa_p 3 ?_ | fail) <;> (first | refine wa_p 4 ?_ | refine wa_p0 4 ?_ | fail) <;> (first | refine wa_f 5 fun hbi => ?_ | refine wa_p 5 ?_ | fail) <;> (first | refine wa_p 6 ?_ | refine wa_p0 6 ?_ | fail) <;> (first | refine wa_f 7 fun hbi => ?_ | refine wa_p 7 ?_ | fail) <;> (refine wa_do 8 ?_ <;> (repeat' (first | refine red ?_ | refine redc fun r => ?_ | refine redv fun sv => ?_ | refine redf fun hbi => ?_ | refine redn fun b => ?_ | refine reds ?_ | refine redi (fun hc => ?_) (fun hc => ?_) | fail))) <;> (refine wa_do 9 ?_ <;> (repeat' (first | refine red ?_ | refine redc fun r => ?_ | refine redv fun sv => ?_ | refine redf fun hbi => ?_ | refine redn fun b => ?_ | refine reds ?_ | refine redi (fun hc => ?_) (fun hc => ?_) | fail))) <;> (refine wa_do 10 ?_ <;> (repeat' (first | refine red ?_ | refine redc fun r => ?_ | refine redv fun sv => ?_ | refine redf fun hbi => ?_ | refine redn fun b => ?_ | refine reds ?_ | refine redi (fun hc => ?_) (fun hc => ?_) | fail))) <;> (first | refine wa_p 11 ?_ | refine wa_p0 11 ?_ | fail) <;> (refine wa_do 12 ?_ <;> (repeat' (first | refine red ?_ | refine redc fun r => ?_ | refine redv fun sv => ?_ | refine redf fun hbi => ?_ | refine redn fun b => ?_ | refine reds ?_ | refine redi (fun hc => ?_) (fun hc => ?_) | fail)))) <;> refine wa_end ?_)
    | ((refine wa_begin1 10 [false, false, false, false, false, false, false, false, false, false, false, false, false] [12] ?_ <;> (first | refine wa_p 0 ?_ | refine wa_p0 0 ?_ | fail) <;> (first | refine wa_f 1 fun hbi => ?_ | refine wa_p 1 ?_ | fail) <;> (first | refine wa_p 2 ?_ | refine wa_p0 2 ?_ | fail) <;> (first | refine wa_f 3 fun hbi => ?_ | refine wa_p 3 ?_ | fail) <;> (first | refine wa_p 4 ?_ | refine wa_p0 4 ?_ | fail) <;> (first | refine wa_f 5 fun hbi => ?_ | refine wa_p 5 ?_ | fail) <;> (first | refine wa_p 6 ?_ | refine wa_p0 6 ?_ | fail) <;> (first | refine wa_f 7 fun hbi => ?_ | refine wa_p 7 ?_ | fail) <;> (refine wa_do 8 ?_ <;> (repeat' (first | refine red ?_ | refine redc fun r => ?_ | refine redv fun sv => ?_ | refine redf fun hbi => ?_ | refine redn fun b => ?_ | refine reds ?_ | refine redi (fun hc => ?_) (fun hc => ?_) | fail))) <;> (refine wa_do 9 ?_ <;> (repeat' (first | refine red ?_ | refine redc fun r => ?_ | refine redv fun sv => ?_ | refine redf fun hbi => ?_ | refine redn fun b => ?_ | refine reds ?_ | refine redi (fun hc => ?_) (fun hc => ?_) | fail))) <;> (refine wa_do 10 ?_ <;> (repeat' (first | refine red ?_ | refine redc fun r => ?_ | refine redv fun sv => ?_ | refine redf fun hbi => ?_ | refine redn fun b => ?_ | refine reds ?_ | refine redi (fun hc => ?_) (fun hc => ?_) | fail))) <;> (first | refine wa_p 11 ?_ | refine wa_p0 11 ?_ | fail) <;> (refine wa_do 12 ?_ <;> (repeat' (first | refine red ?_ | refine redc fun r => ?_ | refine redv fun sv => ?_ | refine redf fun hbi => ?_ | refine redn fun b => ?_ | refine reds ?_ | refine redi (fun hc => ?_) (fun hc => ?_) | fail)))) <;> refine wa_end ?_)
    | ((refine wa_begin 11 [false, false, false, false, false, false, false, false, false] [6, 8] ?_ <;> (first | refine wa_p 0 ?_ | refine wa_p0 0 ?_ | fail) <;> (first | refine wa_f 1 fun hbi => ?_ | refine wa_p 1 ?_ | fail) <;> (first | refine wa_p 2 ?_ | refine wa_p0 2 ?_ | fail) <;> (first | refine wa_f 3 fun hbi => ?_ | refine wa_p 3 ?_ | fail) <;> (refine wa_do 4 ?_ <;> (repeat' (first | refine red ?_ | refine redc fun r => ?_ | refine redv fun sv => ?_ | refine redf fun hbi => ?_ | refine redn fun b => ?_ | refine reds ?_ | refine redi (fun hc => ?_) (fun hc => ?_) | fail))) <;> (refine wa_do 5 ?_ <;> (repeat' (first | refine red ?_ | refine redc fun r => ?_ | refine redv fun sv => ?_ | refine redf fun hbi => ?_ | refine redn fun b => ?_ | refine reds ?_ | refine redi (fun hc => ?_) (fun hc => ?_) | fail))) <;> (refine wa_do 6 ?_ <;> (repeat' (first | refine red ?_ | refine redc fun r => ?_ | refine redv fun sv => ?_ | refine redf fun hbi => ?_ | refine redn fun b => ?_ | refine reds ?_ | refine redi (fun hc => ?_) (fun hc => ?_) | fail))) <;> (first | refine wa_p 7 ?_ | refine wa_p0 7 ?_ | fail) <;> (refine wa_do 8 ?_ <;> (repeat' (first | refine red ?_ | refine redc fun r => ?_ | refine redv fun sv => ?_ | refine redf fun hbi => ?_ | refine redn fun b => ?_ | refine reds ?_ | refine redi (fun hc => ?_) (fun hc => ?_) | fail)))) <;> refine wa_end ?_)
    | ((refine wa_begin1 11 [false, false, false, false, false, false, false, false, false] [8] ?_ <;> (first | refine wa_p 0 ?_ | refine wa_p0 0 ?_ | fail) <;> (first | refine wa_f 1 fun hbi => ?_ | refine wa_p 1 ?_ | fail) <;> (first | refine wa_p 2 ?_ | refine wa_p0 2 ?_ | fail) <;> (first | refine wa_f 3 fun hbi => ?_ | refine wa_p 3 ?_ | fail) <;> (refine wa_do 4 ?_ <;> (repeat' (first | refine red ?_ | refine redc fun r => ?_ | refine redv fun sv => ?_ | refine redf fun hbi => ?_ | refine redn fun b => ?_ | refine reds ?_ | refine redi (fun hc => ?_) (fun hc => ?_) | fail))) <;> (refine wa_do 5 ?_ <;> (repeat' (first | refine red ?_ | refine redc fun r => ?_ | refine redv fun sv => ?_ | refine redf fun hbi => ?_ | refine redn fun b => ?_ | refine reds ?_ | refine redi (fun hc => ?_) (fun hc => ?_) | fail))) <;> (refine wa_do 6 ?_ <;> (repeat' (first | refine red ?_ | refine redc fun r => ?_ | refine redv fun sv => ?_ | refine redf fun hbi => ?_ | refine redn fun b => ?_ | refine reds ?_ | refine redi (fun hc => ?_) (fun hc => ?_) | fail))) <;> (first | refine wa_p 7 ?_ | refine wa_p0 7 ?_ | fail) <;> (refine wa_do 8 ?_ <;> (repeat' (first | refine red ?_ | refine redc fun r => ?_ | refine redv fun sv => ?_ | refine redf fun hbi => ?_ | refine redn fun b => ?_ | refine reds ?_ | refine redi (fun hc => ?_) (fun hc => ?_) | fail)))) <;> refine wa_end ?_)
    | fail)
  · rw [ch_no0 (by omega)]
    exact ⟨(_, _, _), rfl, ent_e⟩
  · rw [ch_no0 (by omega)]
    exact ⟨(_, _, _), rfl, ent_e⟩
  rename Value => tv
  refine wc_loop_p [4] [22, 23, 24, 25, 26, 29, 30, 31, 32, 33, 5, 34, 35, 36, 37, 38, 39, 40, 41, 42, 43, 44, 45, 46, 47, 48, 49, 50, 51, 52, 53, 54, 55, 56, 57, 58, 27, 28] (ι := Nat × Value × Value) (fun k => [.int .i64 k.1]) (fun k => [.bk b [.int .i64 11, k.2.1, k.2.2, .slice none 0 0], .ow [k.2.1] (chNums (x.2.take k.1)), .ow [k.2.2] (x.1 :: chTerms (x.2.take k.1))]) (fun k => k.1 ≤ x.2.length ∧ (x.2.take k.1).all (fun m => sizedB m.2.2.2) = true) (fun k => x.2.length - k.1) (0, .slice none 0 0, tv) [.bk b [.int .i64 11, .slice none 0 0, tv, .slice none 0 0], .ow [.slice none 0 0] ([] : List Int), .ow [tv] [x.1]] (by kernel_rfl) ⟨Nat.zero_le _, rfl⟩ rfl ?_
  intro ⟨k, s1, s2⟩ u l' hl' ⟨hk, hkk⟩
  simp only [patch, List.map_cons, List.map_nil, List.set_cons_zero, List.set_cons_succ] at hl'
  subst hl'
  simp only [List.cons_append, List.nil_append] at hk hkk ⊢
  have hn := chNums_len (x.2.take k)
  have hn2 := List.length_take (i := k) (l := x.2)
  have hn3 : (chTerms (x.2.take k)).length = (x.2.take k).length := by simp [chTerms]
  have hfl := flag_le (x.2.getD k default).2.2.1
  repeat' (first
    | refine red ?_
    | refine redf fun hbi => ?_
    | refine reds ?_
    | refine redc fun r => ?_
    | refine redv fun sv => ?_
    | refine redn fun b => ?_
    | refine redz fun zs => ?_
    | refine redq (fun hc => ?_) (fun hc => ?_)
    | with_reducible refine wq_blk_o rfl ?_
    | (refine redd fun p cs as_ hcs has hf => ?_; simp only [Un.cells, Un.atoms, Un.fact, List.cons_append, List.nil_append] at hcs has hf; subst hcs has)
    | (refine redi (fun hc => ?_) (fun hc => ?_) <;> try first | (exfalso; omega) | exact absurd rfl hc)
    | ((refine wa_begin 10 [false, false, false, false, false, false, false, false, false, false, false, false, false] [10, 12] ?_ <;> (first | refine wa_p 0 ?_ | refine wa_p0 0 ?_ | fail) <;> (first | refine wa_f 1 fun hbi => ?_ | refine wa_p 1 ?_ | fail) <;> (first | refine wa_p 2 ?_ | refine wa_p0 2 ?_ | fail) <;> (first | refine wa_f 3 fun hbi => ?_ | refine wa_p 3 ?_ | fail) <;> (first | refine wa_p 4 ?_ | refine wa_p0 4 ?_ | fail) <;> (first | refine wa_f 5 fun hbi => ?_ | refine wa_p 5 ?_ | fail) <;> (first | refine wa_p 6 ?_ | refine wa_p0 6 ?_ | fail) <;> (first | refine wa_f 7 fun hbi => ?_ | refine wa_p 7 ?_ | fail) <;> (refine wa_do 8 ?_ <;> (repeat' (first | refine red ?_ | refine redc fun r => ?_ | refine redv fun sv => ?_ | refine redf fun hbi => ?_ | refine redn fun b => ?_ | refine reds ?_ | refine redi (fun hc => ?_) (fun hc => ?_) | fail))) <;> (refine wa_do 9 ?_ <;> (repeat' (first | refine red ?_ | refine redc fun r => ?_ | refine redv fun sv => ?_ | refine redf fun hbi => ?_ | refine redn fun b => ?_ | refine reds ?_ | refine redi (fun hc => ?_) (fun hc => ?_) | fail))) <;> (refine wa_do 10 ?_ <;> (repeat' (first | refine red ?_ | refine redc fun r => ?_ | refine redv fun sv => ?_ | refine redf fun hbi => ?_ | refine redn fun b => ?_ | refine reds ?_ | refine redi (fun hc => ?_) (fun hc => ?_) | fail))) <;> (first | refine wa_p 11 ?_ | refine wa_p0 11 ?_ | fail) <;> (refine wa_do 12 ?_ <;> (repeat' (first | refine red ?_ | refine redc fun r => ?_ | refine redv fun sv => ?_ | refine redf fun hbi => ?_ | refine redn fun b => ?_ | refine reds ?_ | refine redi (fun hc => ?_) (fun hc => ?_) | fail)))) <;> refine wa_end ?_)
    | ((refine wa_begin1 10 [false, false, false, false, false, false, false, false, false, false, false, false, false] [12] ?_ <;> (first | refine wa_p 0 ?_ | refine wa_p0 0 ?_ | fail) <;> (first | refine wa_f 1 fun hbi => ?_ | refine wa_p 1 ?_ | fail) <;> (first | refine wa_p 2 ?_ | refine wa_p0 2 ?_ | fail) <;> (first | refine wa_f 3 fun hbi => ?_ | refine wa_p 3 ?_ | fail) <;> (first | refine wa_p 4 ?_ | refine wa_p0 4 ?_ | fail) <;> (first | refine wa_f 5 fun hbi => ?_ | refine wa_p 5 ?_ | fail) <;> (first | refine wa_p 6 ?_ | refine wa_p0 6 ?_ | fail) <;> (first | refine wa_f 7 fun hbi => ?_ | refine wa_p 7 ?_ | fail) <;> (refine wa_do 8 ?_ <;> (repeat' (first | refine red ?_ | refine redc fun r => ?_ | refine redv fun sv => ?_ | refine redf fun hbi => ?_ | refine redn fun b => ?_ | refine reds ?_ | refine redi (fun hc => ?_) (fun hc => ?_) | fail))) <;> (refine wa_do 9 ?_ <;> (repeat' (first | refine red ?_ | refine redc fun r => ?_ | refine redv fun sv => ?_ | refine redf fun hbi => ?_ | refine redn fun b => ?_ | refine reds ?_ | refine redi (fun hc => ?_) (fun hc => ?_) | fail))) <;> (refine wa_do 10 ?_ <;> (repeat' (first | refine red ?_ | refine redc fun r => ?_ | refine redv fun sv => ?_ | refine redf fun hbi => ?_ | refine redn fun b => ?_ | refine reds ?_ | refine redi (fun hc => ?_) (fun hc => ?_) | fail))) <;> (first | refine wa_p 11 ?_ | refine wa_p0 11 ?_ | fail) <;> (refine wa_do 12 ?_ <;> (repeat' (first | refine red ?_ | refine redc fun r => ?_ | refine redv fun sv => ?_ | refine redf fun hbi => ?_ | refine redn fun b => ?_ | refine reds ?_ | refine redi (fun hc => ?_) (fun hc => ?_) | fail)))) <;> refine wa_end ?_)
    | ((refine wa_begin 11 [false, false, false, false, false, false, false, false, false] [6, 8] ?_ <;> (first | refine wa_p 0 ?_ | refine wa_p0 0 ?_ | fail) <;> (first | refine wa_f 1 fun hbi => ?_ | refine wa_p 1 ?_ | fail) <;> (first | refine wa_p 2 ?_ | refine wa_p0 2 ?_ | fail) <;> (first | refine wa_f 3 fun hbi => ?_ | refine wa_p 3 ?_ | fail) <;> (refine wa_do 4 ?_ <;> (repeat' (first | refine red ?_ | refine redc fun r => ?_ | refine redv fun sv => ?_ | refine redf fun hbi => ?_ | refine redn fun b => ?_ | refine reds ?_ | refine redi (fun hc => ?_) (fun hc => ?_) | fail))) <;> (refine wa_do 5 ?_ <;> (repeat' (first | refine red ?_ | refine redc fun r => ?_ | refine redv fun sv => ?_ | refine redf fun hbi => ?_ | refine redn fun b => ?_ | refine reds ?_ | refine redi (fun hc => ?_) (fun hc => ?_) | fail))) <;> (refine wa_do 6 ?_ <;> (repeat' (first | refine red ?_ | refine redc fun r => ?_ | refine redv fun sv => ?_ | refine redf fun hbi => ?_ | refine redn fun b => ?_ | refine reds ?_ | refine redi (fun hc => ?_) (fun hc => ?_) | fail))) <;> (first | refine wa_p 7 ?_ | refine wa_p0 7 ?_ | fail) <;> (refine wa_do 8 ?_ <;> (repeat' (first | refine red ?_ | refine redc fun r => ?_ | refine redv fun sv => ?_ | refine redf fun hbi => ?_ | refine redn fun b => ?_ | refine reds ?_ | refine redi (fun hc => ?_) (fun hc => ?_) | fail)))) <;> refine wa_end ?_)
    | ((refine wa_begin1 11 [false, false, false, false, false, false, false, false, false] [8] ?_ <;> (first | refine wa_p 0 ?_ | refine wa_p0 0 ?_ | fail) <;> (first | refine wa_f 1 fun hbi => ?_ | refine wa_p 1 ?_ | fail) <;> (first | refine wa_p 2 ?_ | refine wa_p0 2 ?_ | fail) <;> (first | refine wa_f 3 fun hbi => ?_ | refine wa_p 3 ?_ | fail) <;> (refine wa_do 4 ?_ <;> (repeat' (first | refine red ?_ | refine redc fun r => ?_ | refine redv fun sv => ?_ | refine redf fun hbi => ?_ | refine redn fun b => ?_ | refine reds ?_ | refine redi (fun hc => ?_) (fun hc => ?_) | fail))) <;> (refine wa_do 5 ?_ <;> (repeat' (first | refine red ?_ | refine redc fun r => ?_ | refine redv fun sv => ?_ | refine redf fun hbi => ?_ | refine redn fun b => ?_ | refine reds ?_ | refine redi (fun hc => ?_) (fun hc => ?_) | fail))) <;> (refine wa_do 6 ?_ <;> (repeat' (first | refine red ?_ | refine redc fun r => ?_ | refine redv fun sv => ?_ | refine redf fun hbi => ?_ | refine redn fun b => ?_ | refine reds ?_ | refine redi (fun hc => ?_) (fun hc => ?_) | fail))) <;> (first | refine wa_p 7 ?_ | refine wa_p0 7 ?_ | fail) <;> (refine wa_do 8 ?_ <;> (repeat' (first | refine red ?_ | refine redc fun r => ?_ | refine redv fun sv => ?_ | refine redf fun hbi => ?_ | refine redn fun b => ?_ | refine reds ?_ | refine redi (fun hc => ?_) (fun hc => ?_) | fail)))) <;> refine wa_end ?_)
    | fail)
  · rw [ch_no1 (k := k) (by omega) hc]
    exact ⟨(_, _, _), rfl, ent_e⟩
  · rename_i n1 _ n3 _
    rw [← chNums_take (get_lt (by omega)), List.cons_append, ← chTerms_take (get_lt (by omega))]
    exact wq_next (k + 1, n3, sv) ⟨by simp only; omega, ch_step (by omega) hkk hc⟩ (by simp only; omega) (by kernel_rfl) ent_e
  · rw [ch_yes (by omega) (by rw [List.take_of_length_le (by omega)] at hkk; exact hkk), List.take_of_length_le (by omega)]
    exact ⟨(_, _, _), rfl, ent_e⟩
instance spec_ChainNode_ctr {Γ : List Atom} {x : SChain} {v0 v1 : Value} [h : HasRd (List Int) repList Γ [v0] x.1] [h' : HasRd (List SMove) repList Γ [v1] x.2] :
    CtrC Try.prog 25 [.agg #[v0, v1]] Γ (True) (Value × Value × Value) (fun p : Value × Value × Value => .agg #[.int .i64 (chainOf x).1, p.1, p.2.1, p.2.2]) (fun p => .ow [p.1] (chainOf x).2.1 :: .ow [p.2.1] (chainOf x).2.2.1 :: .ow [p.2.2] (chainOf x).2.2.2 :: Γ) := ⟨fun s w0 => spec_ChainNode_spec⟩

theorem impl_ChainNode_spec {w0 : World} {Γ : List Atom} {x : SChain} {v0 v1 : Value} [h : HasRd (List Int) repList Γ [v0] x.1] [h' : HasRd (List SMove) repList Γ [v1] x.2] :
    CJ Try.prog 27 [.agg #[v0, v1]] w0 Γ (fun p : Value × Value × Value => .agg #[.int .i64 (chainOf x).1, p.1, p.2.1, p.2.2]) (fun p => .ow [p.1] (chainOf x).2.1 :: .ow [p.2.1] (chainOf x).2.2.1 :: .ow [p.2.2] (chainOf x).2.2.2 :: Γ) := by
  refine cj_lift (R := [.rd [v0] x.1, .rd [v1] x.2]) (A := fun p : Value × Value × Value => [.ow [p.1] (chainOf x).2.1, .ow [p.2.1] (chainOf x).2.2.1, .ow [p.2.2] (chainOf x).2.2.2]) (fun w1 => ?_) (reads_cons h (reads_cons h' (inferInstance))) (fun _ => inferInstance)
  simp only [List.cons_append, List.nil_append]
  refine cj_len v1 fun hlx => ?_
  refine cj_enter Try.func27 Try.ntmps27 ?_
  repeat' (first
    | refine red ?_
    | refine redf fun hbi => ?_
    | refine reds ?_
    | refine redc fun r => ?_
    | refine redv fun sv => ?_
    | refine redn fun b => ?_
    | refine redz fun zs => ?_
    | refine redq (fun hc => ?_) (fun hc => ?_)
    | with_reducible refine wq_blk_o rfl ?_
    | (refine redd fun p cs as_ hcs has hf => ?_; simp only [Un.cells, Un.atoms, Un.fact, List.cons_append, List.nil_append] at hcs has hf; subst hcs has)
    | (refine redi (fun hc => ?_) (fun hc => ?_) <;> try first | (exfalso; omega) | exact absurd rfl hc)
    | ((refine wa_begin 13 [false, false, false, false, false, false, false, false, false] [6, 8] ?_ <;> (first | refine wa_p 0 ?_ | refine wa_p0 0 ?_ | fail) <;> (first | refine wa_f 1 fun hbi => ?_ | refine wa_p 1 ?_ | fail) <;> (first | refine wa_p 2 ?_ | refine wa_p0 2 ?_ | fail) <;> (first | refine wa_f 3 fun hbi => ?_ | refine wa_p 3 ?_ | fail) <;> (refine wa_do 4 ?_ <;> (repeat' (first | refine red ?_ | refine redc fun r => ?_ | refine redv fun sv => ?_ | refine redf fun hbi => ?_ | refine redn fun b => ?_ | refine reds ?_ | refine redi (fun hc => ?_) (fun hc => ?_) | fail))) <;> (refine wa_do 5 ?_ <;> (repeat' (first | refine red ?_ | refine redc fun r => ?_ | refine redv fun sv => ?_ | refine redf fun hbi => ?_ | refine redn fun b => ?_ | refine reds ?_ | refine redi (fun hc => ?_) (fun hc => ?_) | fail))) <;> (refine wa_do 6 ?_ <;> (repeat' (first | refine red ?_ | refine redc fun r => ?_ | refine redv fun sv => ?_ | refine redf fun hbi => ?_ | refine redn fun b => ?_ | refine reds ?_ | refine redi (fun hc => ?_) (fun hc => ?_) | fail))) <;> (first | refine wa_p 7 ?_ | refine wa_p0 7 ?_ | fail) <;> (refine wa_do 8 ?_ <;> (repeat' (first | refine red ?_ | refine redc fun r => ?_ | refine redv fun sv => ?_ | refine redf fun hbi => ?_ | refine redn fun b => ?_ | refine reds ?_ | refine redi (fun hc => ?_) (fun hc => ?_) | fail)))) <;> refine wa_end ?_)
    | ((refine wa_begin1 13 [false, false, false, false, false, false, false, false, false] [8] ?_ <;> (first | refine wa_p 0 ?_ | refine wa_p0 0 ?_ | fail) <;> (first | refine wa_f 1 fun hbi => ?_ | refine wa_p 1 ?_ | fail) <;> (first | refine wa_p 2 ?_ | refine wa_p0 2 ?_ | fail) <;> (first | refine wa_f 3 fun hbi => ?_ | refine wa_p 3 ?_ | fail) <;> (refine wa_do 4 ?_ <;> (repeat' (first | refine red ?_ | refine redc fun r => ?_ | refine redv fun sv => ?_ | refine redf fun hbi => ?_ | refine redn fun b => ?_ | refine reds ?_ | refine redi (fun hc => ?_) (fun hc => ?_) | fail))) <;> (refine wa_do 5 ?_ <;> (repeat' (first | refine red ?_ | refine redc fun r => ?_ | refine redv fun sv => ?_ | refine redf fun hbi => ?_ | refine redn fun b => ?_ | refine reds ?_ | refine redi (fun hc => ?_) (fun hc => ?_) | fail))) <;> (refine wa_do 6 ?_ <;> (repeat' (first | refine red ?_ | refine redc fun r => ?_ | refine redv fun sv => ?_ | refine redf fun hbi => ?_ | refine redn fun b => ?_ | refine reds ?_ | refine redi (fun hc => ?_) (fun hc => ?_) | fail))) <;> (first | refine wa_p 7 ?_ | refine wa_p0 7 ?_ | fail) <;> (refine wa_do 8 ?_ <;> (repeat' (first | refine red ?_ | refine redc fun r => ?_ | refine redv fun sv => ?_ | refine redf fun hbi => ?_ | refine redn fun b => ?_ | refine reds ?_ | refine redi (fun hc => ?_) (fun hc => ?_) | fail)))) <;> refine wa_end ?_)
    | fail)
  · rw [ch_no0 (by omega)]
    exact ⟨(_, _, _), rfl, ent_e⟩
  · rw [ch_no0 (by omega)]
    exact ⟨(_, _, _), rfl, ent_e⟩
  rename Value => tv
  refine wc_loop_p [26] [27, 28, 29, 5, 30, 31, 32, 33, 34, 6, 35, 36, 37, 38, 39, 40, 41, 42, 43, 44, 45, 46, 47, 48, 49, 50, 51, 52, 53, 54, 55] (ι := Nat × Value × Value) (fun k => [.int .i64 k.1]) (fun k => [.bk b [.int .i64 11, k.2.1, k.2.2, .slice none 0 0], .ow [k.2.1] (chNums (x.2.take k.1)), .ow [k.2.2] (x.1 :: chTerms (x.2.take k.1))]) (fun k => k.1 ≤ x.2.length ∧ (x.2.take k.1).all (fun m => sizedB m.2.2.2) = true) (fun k => x.2.length - k.1) (0, .slice none 0 0, tv) [.bk b [.int .i64 11, .slice none 0 0, tv, .slice none 0 0], .ow [.slice none 0 0] ([] : List Int), .ow [tv] [x.1]] (by kernel_rfl) ⟨Nat.zero_le _, rfl⟩ rfl ?_
  intro ⟨k, s1, s2⟩ u l' hl' ⟨hk, hkk⟩
  simp only [patch, List.map_cons, List.map_nil, List.set_cons_zero, List.set_cons_succ] at hl'
  subst hl'
  simp only [List.cons_append, List.nil_append] at hk hkk ⊢
  have hn := chNums_len (x.2.take k)
  have hn2 := List.length_take (i := k) (l := x.2)
  have hn3 : (chTerms (x.2.take k)).length = (x.2.take k).length := by simp [chTerms]
  have hfl := flag_le (x.2.getD k default).2.2.1
  repeat' (first
    | refine red ?_
    | refine redf fun hbi => ?_
    | refine reds ?_
    | refine redc fun r => ?_
    | refine redv fun sv => ?_
    | refine redn fun b => ?_
    | refine redz fun zs => ?_
    | refine redq (fun hc => ?_) (fun hc => ?_)
    | with_reducible refine wq_blk_o rfl ?_
    | (refine redd fun p cs as_ hcs has hf => ?_; simp only [Un.cells, Un.atoms, Un.fact, List.cons_append, List.nil_append] at hcs has hf; subst hcs has)
    | (refine redi (fun hc => ?_) (fun hc => ?_) <;> try first | (exfalso; omega) | exact absurd rfl hc)
    | ((refine wa_begin 13 [false, false, false, false, false, false, false, false, false] [6, 8] ?_ <;> (first | refine wa_p 0 ?_ | refine wa_p0 0 ?_ | fail) <;> (first | refine wa_f 1 fun hbi => ?_ | refine wa_p 1 ?_ | fail) <;> (first | refine wa_p 2 ?_ | refine wa_p0 2 ?_ | fail) <;> (first | refine wa_f 3 fun hbi => ?_ | refine wa_p 3 ?_ | fail) <;> (refine wa_do 4 ?_ <;> (repeat' (first | refine red ?_ | refine redc fun r => ?_ | refine redv fun sv => ?_ | refine redf fun hbi => ?_ | refine redn fun b => ?_ | refine reds ?_ | refine redi (fun hc => ?_) (fun hc => ?_) | fail))) <;> (refine wa_do 5 ?_ <;> (repeat' (first | refine red ?_ | refine redc fun r => ?_ | refine redv fun sv => ?_ | refine redf fun hbi => ?_ | refine redn fun b => ?_ | refine reds ?_ | refine redi (fun hc => ?_) (fun hc => ?_) | fail))) <;> (refine wa_do 6 ?_ <;> (repeat' (first | refine red ?_ | refine redc fun r => ?_ | refine redv fun sv => ?_ | refine redf fun hbi => ?_ | refine redn fun b => ?_ | refine reds ?_ | refine redi (fun hc => ?_) (fun hc => ?_) | fail))) <;> (first | refine wa_p 7 ?_ | refine wa_p0 7 ?_ | fail) <;> (refine wa_do 8 ?_ <;> (repeat' (first | refine red ?_ | refine redc fun r => ?_ | refine redv fun sv => ?_ | refine redf fun hbi => ?_ | refine redn fun b => ?_ | refine reds ?_ | refine redi (fun hc => ?_) (fun hc => ?_) | fail)))) <;> refine wa_end ?_)
    | ((refine wa_begin1 13 [false, false, false, false, false, false, false, false, false] [8] ?_ <;> (first | refine wa_p 0 ?_ | refine wa_p0 0 ?_ | fail) <;> (first | refine wa_f 1 fun hbi => ?_ | refine wa_p 1 ?_ | fail) <;> (first | refine wa_p 2 ?_ | refine wa_p0 2 ?_ | fail) <;> (first | refine wa_f 3 fun hbi => ?_ | refine wa_p 3 ?_ | fail) <;> (refine wa_do 4 ?_ <;> (repeat' (first | refine red ?_ | refine redc fun r => ?_ | refine redv fun sv => ?_ | refine redf fun hbi => ?_ | refine redn fun b => ?_ | refine reds ?_ | refine redi (fun hc => ?_) (fun hc => ?_) | fail))) <;> (refine wa_do 5 ?_ <;> (repeat' (first | refine red ?_ | refine redc fun r => ?_ | refine redv fun sv => ?_ | refine redf fun hbi => ?_ | refine redn fun b => ?_ | refine reds ?_ | refine redi (fun hc => ?_) (fun hc => ?_) | fail))) <;> (refine wa_do 6 ?_ <;> (repeat' (first | refine red ?_ | refine redc fun r => ?_ | refine redv fun sv => ?_ | refine redf fun hbi => ?_ | refine redn fun b => ?_ | refine reds ?_ | refine redi (fun hc => ?_) (fun hc => ?_) | fail))) <;> (first | refine wa_p 7 ?_ | refine wa_p0 7 ?_ | fail) <;> (refine wa_do 8 ?_ <;> (repeat' (first | refine red ?_ | refine redc fun r => ?_ | refine redv fun sv => ?_ | refine redf fun hbi => ?_ | refine redn fun b => ?_ | refine reds ?_ | refine redi (fun hc => ?_) (fun hc => ?_) | fail)))) <;> refine wa_end ?_)
    | fail)
  · rw [ch_no1 (k := k) (by omega) hc]
    exact ⟨(_, _, _), rfl, ent_e⟩
  · rename_i n2 _
    rw [show ([(x.2.getD k default).1, (x.2.getD k default).2.1, (1 : Int)]) = [(x.2.getD k default).1, (x.2.getD k default).2.1, flag (x.2.getD k default).2.2.1] by rw [hc]; rfl, ← chNums_take (get_lt (by omega)), List.cons_append, ← chTerms_take (get_lt (by omega))]
    exact wq_next (k + 1, n2, sv) ⟨by simp only; omega, ch_step (by omega) hkk ‹_›⟩ (by simp only; omega) (by kernel_rfl) ent_e
  · rename_i n2 _
    rw [show ([(x.2.getD k default).1, (x.2.getD k default).2.1, (0 : Int)]) = [(x.2.getD k default).1, (x.2.getD k default).2.1, flag (x.2.getD k default).2.2.1] by rw [hc]; rfl, ← chNums_take (get_lt (by omega)), List.cons_append, ← chTerms_take (get_lt (by omega))]
    exact wq_next (k + 1, n2, sv) ⟨by simp only; omega, ch_step (by omega) hkk ‹_›⟩ (by simp only; omega) (by kernel_rfl) ent_e
  · rw [ch_yes (by omega) (by rw [List.take_of_length_le (by omega)] at hkk; exact hkk), List.take_of_length_le (by omega)]
    exact ⟨(_, _, _), rfl, ent_e⟩

instance impl_ChainNode_ctr {Γ : List Atom} {x : SChain} {v0 v1 : Value} [h : HasRd (List Int) repList Γ [v0] x.1] [h' : HasRd (List SMove) repList Γ [v1] x.2] :
    CtrC Try.prog 27 [.agg #[v0, v1]] Γ (True) (Value × Value × Value) (fun p : Value × Value × Value => .agg #[.int .i64 (chainOf x).1, p.1, p.2.1, p.2.2]) (fun p => .ow [p.1] (chainOf x).2.1 :: .ow [p.2.1] (chainOf x).2.2.1 :: .ow [p.2.2] (chainOf x).2.2.2 :: Γ) := ⟨fun s w0 => impl_ChainNode_spec⟩

theorem chain_len (x : SChain) : (chainOf x).2.1.length ≤ 180 ∧ Siz.size (chainOf x).2.2.1 ≤ 61 + 61 * 60 ∧ (chainOf x).2.2.2.length = 0 := by
  unfold chainOf
  split
  · rename_i h
    simp only [chOk, Bool.and_eq_true, decide_eq_true_eq, List.all_eq_true, sizedB] at h
    have hl : (x.1 :: chTerms x.2).length = 1 + x.2.length := by simp [chTerms]; omega
    have := siz_le' (xs := x.1 :: chTerms x.2) (m := 60) (fun t ht => by
      rcases List.mem_cons.1 ht with rfl | ht
      · exact h.1.2.2
      · simp only [chTerms, List.mem_map] at ht
        obtain ⟨m, hm, rfl⟩ := ht
        exact (h.2 m hm).2)
    refine ⟨by simp only; rw [chNums_len]; omega, ?_, rfl⟩
    simp only
    rw [hl] at this
    have h3 : (1 + x.2.length) * 60 ≤ 61 * 60 := Nat.mul_le_mul_right _ (by omega)
    omega
  · exact ⟨by simp, by simp [siz_list, sumL], rfl⟩
set_option maxHeartbeats 0 in
set_option synthInstance.maxHeartbeats 400000 in
set_option synthInstance.maxSize 1000 in
theorem FnExactChainNode_law {w0 : World} {Γ : List Atom} {x0 : SChain} {v0_0 v0_1 : Value} [h0_0 : HasRd (List Int) repList Γ [v0_0] x0.1] [h0_1 : HasRd (List SMove) repList Γ [v0_1] x0.2] (hf0 : (x0.1.length ≤ 9223372036854775807) ∧ x0.2.length ≤ 9223372036854775807) :
    CJ Try.prog 4 [.agg #[v0_0, v0_1]] w0 Γ (fun _ : Unit => .bool true) (fun _ => Γ) := by
  have hz0 := lft_spec 1048576 (Siz.size x0)
  have hs0 : Siz.size x0 = Siz.size x0.1 + Siz.size x0.2 := by simp only [siz_pair, siz_int, siz_bool, siz_str] <;> omega
  have hb0_0 := cntL_le x0.1
  have hl0_0 := siz_ints x0.1
  have hb0_1 := cntL_le x0.2
  have hn := chain_len x0
  have g0 := cntL_ints (chainOf x0).2.1
  have g1 := cntL_le (chainOf x0).2.2.1
  have g2 := cntL_ints (chainOf x0).2.2.2
  refine cj_enter Try.func4 Try.ntmps4 ?_
  repeat' (first
    | refine red ?_
    | refine redf fun hbi => ?_
    | refine reds ?_
    | refine redc fun r => ?_
    | refine redv fun sv => ?_
    | refine redn fun b => ?_
    | refine redz fun zs => ?_
    | refine redq (fun hc => ?_) (fun hc => ?_)
    | with_reducible refine wq_blk_o rfl ?_
    | (refine redd fun p cs as_ hcs has hf => ?_; simp only [Un.cells, Un.atoms, Un.fact, List.cons_append, List.nil_append] at hcs has hf; subst hcs has)
    | (refine redi (fun hc => ?_) (fun hc => ?_) <;> try first | (exfalso; omega) | exact absurd rfl hc)
    | ((refine wa_begin 10 [false, false, false, false, false] [] ?_ <;> (first | refine wa_f 0 fun hbi => ?_ | refine wa_p 0 ?_ | fail) <;> (first | refine wa_f 1 fun hbi => ?_ | refine wa_p 1 ?_ | fail) <;> (refine wa_do 2 ?_ <;> (repeat' (first | refine red ?_ | refine redc fun r => ?_ | refine redv fun sv => ?_ | refine redf fun hbi => ?_ | refine redn fun b => ?_ | refine reds ?_ | refine redi (fun hc => ?_) (fun hc => ?_) | fail))) <;> (refine wa_do 3 ?_ <;> (repeat' (first | refine red ?_ | refine redc fun r => ?_ | refine redv fun sv => ?_ | refine redf fun hbi => ?_ | refine redn fun b => ?_ | refine reds ?_ | refine redi (fun hc => ?_) (fun hc => ?_) | fail))) <;> (first | refine wa_p 4 ?_ | refine wa_p0 4 ?_ | fail)) <;> refine wa_end ?_)
    | fail)
  all_goals exact ⟨(), rfl, ent_e⟩

end Go.Proofs.Ytjdlpidhmlhfoaa
