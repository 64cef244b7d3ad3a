/- A redex at a place. -/
import Derived.Test.YtckbndcgkkohaaaL06
namespace Go.Proofs.Ytckbndcgkkohaaa
open Go Go.Eng
set_option linter.unusedVariables false
set_option linter.unusedSimpArgs false

theorem l7Right_spec {w0 : World} {Γ : List Atom} {v0 v1 v : Value} {x : SSystem} {t : List Int} [h0 : HasRd (List Int) repList Γ [v0] x.1] [h1 : HasRd (List SRule) repList Γ [v1] x.2] [h2 : HasRd (List Int) repList Γ [v] t] : CJ Try.prog 91 [.agg #[v0, v1], v] w0 Γ (fun _ : Unit => .bool (sysOk x && termOk x.1 t)) (fun _ => Γ) := by
  refine cj_enter Try.func91 Try.ntmps91 ?_
  repeat' (first
    | refine red ?_
    | refine redf fun hbi => ?_
    | refine reds ?_
    | refine redc fun r => ?_
    | refine redv fun sv => ?_
    | refine redn fun b => ?_
    | refine redz fun zs => ?_
    | refine redq (fun hc => ?_) (fun hc => ?_)
    | with_reducible refine wq_blk_o rfl ?_
    | (refine redd fun p cs as_ hcs has hf => ?_; simp only [Un.cells, Un.atoms, Un.fact, List.cons_append, List.nil_append] at hcs has hf; subst hcs has)
    | (refine redi (fun hc => ?_) (fun hc => ?_) <;> try first | (exfalso; omega) | exact absurd rfl hc)
    | fail)
  all_goals exact ⟨(), ret_bool (by simp only [*, Bool.true_and, Bool.false_and, Bool.and_true, Bool.and_false]), ent_e⟩
instance l7Right_ctr {Γ : List Atom} {v0 v1 v : Value} {x : SSystem} {t : List Int} [h0 : HasRd (List Int) repList Γ [v0] x.1] [h1 : HasRd (List SRule) repList Γ [v1] x.2] [h2 : HasRd (List Int) repList Γ [v] t] :
    CtrC Try.prog 91 [.agg #[v0, v1], v] Γ (True) (Unit) (fun _ : Unit => .bool (sysOk x && termOk x.1 t)) (fun _ => Γ) := ⟨fun s w0 => l7Right_spec⟩

theorem posOk_spec {w0 : World} {Γ : List Atom} {v0 v : Value} {a t : List Int} {at_ : Int} [h0 : HasRd (List Int) repList Γ [v0] a] [h2 : HasRd (List Int) repList Γ [v] t] : CJ Try.prog 166 [.agg #[v0], v, .int .i64 at_] w0 Γ (fun _ : Unit => .bool (termOk a t && decide (0 ≤ at_ ∧ at_ < t.length))) (fun _ => Γ) := by
  refine cj_len v fun hlx => ?_
  refine cj_enter Try.func166 Try.ntmps166 ?_
  repeat' (first
    | refine red ?_
    | refine redf fun hbi => ?_
    | refine reds ?_
    | refine redc fun r => ?_
    | refine redv fun sv => ?_
    | refine redn fun b => ?_
    | refine redz fun zs => ?_
    | refine redq (fun hc => ?_) (fun hc => ?_)
    | with_reducible refine wq_blk_o rfl ?_
    | (refine redd fun p cs as_ hcs has hf => ?_; simp only [Un.cells, Un.atoms, Un.fact, List.cons_append, List.nil_append] at hcs has hf; subst hcs has)
    | (refine redi (fun hc => ?_) (fun hc => ?_) <;> try first | (exfalso; omega) | exact absurd rfl hc)
    | fail)
  · exact ⟨(), ret_bool (by rw [‹termOk a t = true›, Bool.true_and]; exact decide_eq_decide.2 ⟨fun h => h.2, fun h => ⟨hc, h⟩⟩), ent_e⟩
  · exact ⟨(), ret_bool (by rw [decide_eq_false (by omega : ¬ (0 ≤ at_ ∧ at_ < t.length)), Bool.and_false]), ent_e⟩
  · exact ⟨(), ret_bool (by rw [hc, Bool.false_and]), ent_e⟩
instance posOk_ctr {Γ : List Atom} {v0 v : Value} {a t : List Int} {at_ : Int} [h0 : HasRd (List Int) repList Γ [v0] a] [h2 : HasRd (List Int) repList Γ [v] t] :
    CtrC Try.prog 166 [.agg #[v0], v, .int .i64 at_] Γ (True) (Unit) (fun _ : Unit => .bool (termOk a t && decide (0 ≤ at_ ∧ at_ < t.length))) (fun _ => Γ) := ⟨fun s w0 => posOk_spec⟩

def RedP (x : SSystem) (t : List Int) (at_ rule : Int) : Prop := sysOk x = true ∧ (termOk x.1 t = true ∧ 0 ≤ at_ ∧ at_ < t.length) ∧ 0 ≤ rule ∧ rule < x.2.length
instance {x : SSystem} {t : List Int} {at_ rule : Int} : Decidable (RedP x t at_ rule) := by unfold RedP; infer_instance
def redArgs (x : SSystem) (t : List Int) (at_ rule : Int) : Bool := decide (RedP x t at_ rule)
instance {x : SSystem} {t : List Int} {at_ rule : Int} : BoolP (redArgs x t at_ rule) (RedP x t at_ rule) := ⟨decide_eq_true_iff⟩
instance {x : SSystem} {t : List Int} {at_ rule : Int} : BoolN (redArgs x t at_ rule) (¬ RedP x t at_ rule) := ⟨decide_eq_false_iff_not⟩
theorem stepArgs_spec {w0 : World} {Γ : List Atom} {v0 v1 v : Value} {x : SSystem} {t : List Int} {at_ rule : Int} [h0 : HasRd (List Int) repList Γ [v0] x.1] [h1 : HasRd (List SRule) repList Γ [v1] x.2] [h2 : HasRd (List Int) repList Γ [v] t] : CJ Try.prog 95 [.agg #[v0, v1], v, .int .i64 at_, .int .i64 rule] w0 Γ (fun _ : Unit => .bool (redArgs x t at_ rule)) (fun _ => Γ) := by
  refine cj_len v1 fun hlx => ?_
  refine cj_enter Try.func95 Try.ntmps95 ?_
  repeat' (first
    | refine red ?_
    | refine redf fun hbi => ?_
    | refine reds ?_
    | refine redc fun r => ?_
    | refine redv fun sv => ?_
    | refine redn fun b => ?_
    | refine redz fun zs => ?_
    | refine redq (fun hc => ?_) (fun hc => ?_)
    | with_reducible refine wq_blk_o rfl ?_
    | (refine redd fun p cs as_ hcs has hf => ?_; simp only [Un.cells, Un.atoms, Un.fact, List.cons_append, List.nil_append] at hcs has hf; subst hcs has)
    | (refine redi (fun hc => ?_) (fun hc => ?_) <;> try first | (exfalso; omega) | exact absurd rfl hc)
    | fail)
  · exact ⟨(), ret_bool (decide_eq_decide.2 ⟨fun h => h.2.2.2, fun h => ⟨by assumption, by assumption, hc, h⟩⟩), ent_e⟩
  · exact ⟨(), ret_bool (decide_eq_false fun h => by have := h.2.2.1; omega), ent_e⟩
  · exact ⟨(), ret_bool (decide_eq_false fun h => hc h.2.1), ent_e⟩
  · exact ⟨(), ret_bool (decide_eq_false fun h => by rw [h.1] at hc; cases hc), ent_e⟩
instance stepArgs_ctr {Γ : List Atom} {v0 v1 v : Value} {x : SSystem} {t : List Int} {at_ rule : Int} [h0 : HasRd (List Int) repList Γ [v0] x.1] [h1 : HasRd (List SRule) repList Γ [v1] x.2] [h2 : HasRd (List Int) repList Γ [v] t] :
    CtrC Try.prog 95 [.agg #[v0, v1], v, .int .i64 at_, .int .i64 rule] Γ (True) (Unit) (fun _ : Unit => .bool (redArgs x t at_ rule)) (fun _ => Γ) := ⟨fun s w0 => stepArgs_spec⟩

theorem sys_left {x : SSystem} {k : Nat} (h : sysOk x = true) (hk : k < x.2.length) : termOk x.1 (x.2.getD k default).1 = true :=
  (of_decide_eq_true ((sysOk_iff.1 h).2 _ (getD_memD hk)) : RuleP _ _).1.1
def redOf (x : SSystem) (t : List Int) (at_ rule : Int) : Bool := instOf x.1 (x.2.getD rule.toNat default).1 (subt x.1 t at_.toNat)
theorem redex_spec {w0 : World} {Γ : List Atom} {v0 v1 v : Value} {x : SSystem} {t : List Int} {at_ rule : Int} [h0 : HasRd (List Int) repList Γ [v0] x.1] [h1 : HasRd (List SRule) repList Γ [v1] x.2] [h2 : HasRd (List Int) repList Γ [v] t] (hs : RedP x t at_ rule) : CJ Try.prog 163 [.agg #[v0, v1], v, .int .i64 at_, .int .i64 rule] w0 Γ (fun _ : Unit => .bool (redOf x t at_ rule)) (fun _ => Γ) := by
  refine cj_lift (R := [.rd [v0] x.1, .rd [v1] x.2, .rd [v] t]) (A := fun _ => []) (fun w1 => ?_) (reads_cons h0 (reads_cons h1 (reads_cons h2 (inferInstance)))) (fun _ => inferInstance)
  simp only [List.cons_append, List.nil_append]
  obtain ⟨hs1, ⟨hs2, hs3, hs4⟩, hs5, hs6⟩ := hs
  have hL := sys_left hs1 (k := rule.toNat) (by omega)
  have hT := subt_ok hs2 (k := at_.toNat) (by omega)
  refine cj_enter Try.func163 Try.ntmps163 ?_
  repeat' (first
    | refine red ?_
    | refine redf fun hbi => ?_
    | refine reds ?_
    | refine redc fun r => ?_
    | refine redv fun sv => ?_
    | refine redn fun b => ?_
    | refine redz fun zs => ?_
    | refine redq (fun hc => ?_) (fun hc => ?_)
    | with_reducible refine wq_blk_o rfl ?_
    | (refine redd fun p cs as_ hcs has hf => ?_; simp only [Un.cells, Un.atoms, Un.fact, List.cons_append, List.nil_append] at hcs has hf; subst hcs has)
    | (refine redi (fun hc => ?_) (fun hc => ?_) <;> try first | (exfalso; omega) | exact absurd rfl hc)
    | ((refine wa_begin 1 [false, false, false, false, false, false, false, false, false, false, false, false, false, false, false] [] ?_ <;> (first | refine wa_p 0 ?_ | refine wa_p0 0 ?_ | fail) <;> (first | refine wa_f 1 fun hbi => ?_ | refine wa_p 1 ?_ | fail) <;> (first | refine wa_p 2 ?_ | refine wa_p0 2 ?_ | fail) <;> (first | refine wa_f 3 fun hbi => ?_ | refine wa_p 3 ?_ | fail) <;> (first | refine wa_p 4 ?_ | refine wa_p0 4 ?_ | fail) <;> (first | refine wa_p 5 ?_ | (refine wa_deep 5 fun p cs as_ asb_ hcs has hasb hf => ?_; simp only [Un.cells, Un.atoms, Un.fact, List.cons_append, List.nil_append] at hcs has hasb hf; subst hcs has hasb) | fail) <;> (first | refine wa_p 6 ?_ | refine wa_p0 6 ?_ | fail) <;> (first | refine wa_f 7 fun hbi => ?_ | refine wa_p 7 ?_ | fail) <;> (first | refine wa_p 8 ?_ | refine wa_p0 8 ?_ | fail) <;> (first | refine wa_f 9 fun hbi => ?_ | refine wa_p 9 ?_ | fail) <;> (first | refine wa_p 10 ?_ | refine wa_p0 10 ?_ | fail) <;> (first | refine wa_p 11 ?_ | refine wa_p0 11 ?_ | (refine wa_do 11 ?_ <;> (repeat' (first | refine red ?_ | refine redc fun r => ?_ | refine redv fun sv => ?_ | refine redf fun hbi => ?_ | refine redn fun b => ?_ | refine reds ?_ | refine redi (fun hc => ?_) (fun hc => ?_) | fail))) | fail) <;> (refine wa_do 12 ?_ <;> (repeat' (first | refine red ?_ | refine redc fun r => ?_ | refine redv fun sv => ?_ | refine redf fun hbi => ?_ | refine redn fun b => ?_ | refine reds ?_ | refine redi (fun hc => ?_) (fun hc => ?_) | fail))) <;> (refine wa_do 13 ?_ <;> (repeat' (first | refine red ?_ | refine redc fun r => ?_ | refine redv fun sv => ?_ | refine redf fun hbi => ?_ | refine redn fun b => ?_ | refine reds ?_ | refine redi (fun hc => ?_) (fun hc => ?_) | fail))) <;> (first | refine wa_p 14 ?_ | refine wa_p0 14 ?_ | (refine wa_do 14 ?_ <;> (repeat' (first | refine red ?_ | refine redc fun r => ?_ | refine redv fun sv => ?_ | refine redf fun hbi => ?_ | refine redn fun b => ?_ | refine reds ?_ | refine redi (fun hc => ?_) (fun hc => ?_) | fail))) | fail)) <;> refine wa_end ?_)
    | fail)
  exact ⟨(), rfl, ent_e⟩
instance redex_ctr {Γ : List Atom} {v0 v1 v : Value} {x : SSystem} {t : List Int} {at_ rule : Int} [h0 : HasRd (List Int) repList Γ [v0] x.1] [h1 : HasRd (List SRule) repList Γ [v1] x.2] [h2 : HasRd (List Int) repList Γ [v] t] :
    CtrC Try.prog 163 [.agg #[v0, v1], v, .int .i64 at_, .int .i64 rule] Γ (RedP x t at_ rule) (Unit) (fun _ : Unit => .bool (redOf x t at_ rule)) (fun _ => Γ) := ⟨fun s w0 => redex_spec s⟩

def redexAt (x : SSystem) (t : List Int) (at_ rule : Int) : Bool := redArgs x t at_ rule && redOf x t at_ rule
end Go.Proofs.Ytckbndcgkkohaaa
