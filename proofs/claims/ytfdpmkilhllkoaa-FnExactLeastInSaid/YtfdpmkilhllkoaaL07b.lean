/- A redex at a place. -/
import Derived.Test.YtfdpmkilhllkoaaL06
namespace Go.Proofs.Ytfdpmkilhllkoaa
open Go Go.Eng
set_option linter.unusedVariables false
set_option linter.unusedSimpArgs false

theorem l7Right_spec {w0 : World} {Γ : List Atom} {v0 v1 v : Value} {x : SSystem} {t : List Int} [h0 : HasRd (List Int) repList Γ [v0] x.1] [h1 : HasRd (List SRule) repList Γ [v1] x.2] [h2 : HasRd (List Int) repList Γ [v] t] : CJ Try.prog 72 [.agg #[v0, v1], v] w0 Γ (fun _ : Unit => .bool (sysOk x && termOk x.1 t)) (fun _ => Γ) := by
  refine cj_enter Try.func72 Try.ntmps72 ?_
  repeat' (first | refine red ?_ | refine redf fun hbi => ?_ | refine reds ?_ | refine redc fun r => ?_ | refine redp (fun r => ?_) (fun r => ?_) | refine redv fun sv => ?_ | refine redn fun b => ?_ | refine redz fun zs => ?_ | refine redq (fun hc => ?_) (fun hc => ?_) | with_reducible refine wq_blk_o rfl ?_ | (refine redi (fun hc => ?_) (fun hc => ?_) <;> try first | (exfalso; omega) | exact absurd rfl hc) | fail)
  all_goals exact ⟨(), ret_bool (by simp only [*, Bool.true_and, Bool.false_and, Bool.and_true, Bool.and_false]), ent_e⟩
instance l7Right_ctr {Γ : List Atom} {v0 v1 v : Value} {x : SSystem} {t : List Int} [h0 : HasRd (List Int) repList Γ [v0] x.1] [h1 : HasRd (List SRule) repList Γ [v1] x.2] [h2 : HasRd (List Int) repList Γ [v] t] :
    CtrC Try.prog 72 [.agg #[v0, v1], v] Γ (True) (Unit) (fun _ : Unit => .bool (sysOk x && termOk x.1 t)) (fun _ => Γ) := ⟨fun s w0 => l7Right_spec⟩

def RedP (x : SSystem) (t : List Int) (at_ rule : Int) : Prop := sysOk x = true ∧ (termOk x.1 t = true ∧ 0 ≤ at_ ∧ at_ < t.length) ∧ 0 ≤ rule ∧ rule < x.2.length
instance {x : SSystem} {t : List Int} {at_ rule : Int} : Decidable (RedP x t at_ rule) := by unfold RedP; infer_instance
def redArgs (x : SSystem) (t : List Int) (at_ rule : Int) : Bool := decide (RedP x t at_ rule)
instance {x : SSystem} {t : List Int} {at_ rule : Int} : BoolP (redArgs x t at_ rule) (RedP x t at_ rule) := ⟨decide_eq_true_iff⟩
instance {x : SSystem} {t : List Int} {at_ rule : Int} : BoolN (redArgs x t at_ rule) (¬ RedP x t at_ rule) := ⟨decide_eq_false_iff_not⟩
theorem sys_left {x : SSystem} {k : Nat} (h : sysOk x = true) (hk : k < x.2.length) : termOk x.1 (x.2.getD k default).1 = true :=
  (of_decide_eq_true ((sysOk_iff.1 h).2 _ (getD_memD hk)) : RuleP _ _).1.1
def redOf (x : SSystem) (t : List Int) (at_ rule : Int) : Bool := instOf x.1 (x.2.getD rule.toNat default).1 (subt x.1 t at_.toNat)
theorem redex_spec {w0 : World} {Γ : List Atom} {v0 v1 v : Value} {x : SSystem} {t : List Int} {at_ rule : Int} [h0 : HasRd (List Int) repList Γ [v0] x.1] [h1 : HasRd (List SRule) repList Γ [v1] x.2] [h2 : HasRd (List Int) repList Γ [v] t] (hs : RedP x t at_ rule) : CJ Try.prog 178 [.agg #[v0, v1], v, .int .i64 at_, .int .i64 rule] w0 Γ (fun _ : Unit => .bool (redOf x t at_ rule)) (fun _ => Γ) := by
  refine cj_lift (R := [.rd [v0] x.1, .rd [v1] x.2, .rd [v] t]) (A := fun _ => []) (fun w1 => ?_) (reads_cons h0 (reads_cons h1 (reads_cons h2 (inferInstance)))) (fun _ => inferInstance)
  simp only [List.cons_append, List.nil_append]
  obtain ⟨hs1, ⟨hs2, hs3, hs4⟩, hs5, hs6⟩ := hs
  have hL := sys_left hs1 (k := rule.toNat) (by omega)
  have hT := subt_ok hs2 (k := at_.toNat) (by omega)
  refine cj_enter Try.func178 Try.ntmps178 ?_
  repeat' (first | refine red ?_ | refine redf fun hbi => ?_ | refine reds ?_ | refine redc fun r => ?_ | refine redp (fun r => ?_) (fun r => ?_) | refine redv fun sv => ?_ | refine redn fun b => ?_ | refine redz fun zs => ?_ | refine redq (fun hc => ?_) (fun hc => ?_) | with_reducible refine wq_blk_o rfl ?_ | (refine redd fun p cs as_ hcs has hf => ?_; simp only [Un.cells, Un.atoms, Un.fact, List.cons_append, List.nil_append] at hcs has hf; subst hcs has) | (refine redi (fun hc => ?_) (fun hc => ?_) <;> try first | (exfalso; omega) | exact absurd rfl hc) | ((refine wa_begin 1 [false, false, false, false, false, false, false, false, false, false, false, false, false, false, false] [] ?_ <;> (first | refine wa_p 0 ?_ | refine wa_p0 0 ?_ | fail) <;> refine wa_p 1 ?_ <;> (first | refine wa_p 2 ?_ | refine wa_p0 2 ?_ | fail) <;> (first | refine wa_f 3 fun hbi => ?_ | refine wa_p 3 ?_ | fail) <;> (first | refine wa_p 4 ?_ | refine wa_p0 4 ?_) <;> (first | refine wa_p 5 ?_ | (refine wa_deep 5 fun p cs as_ asb_ hcs has hasb hf => ?_; simp only [Un.cells, Un.atoms, Un.fact, List.cons_append, List.nil_append] at hcs has hasb hf; subst hcs has hasb) | fail) <;> (first | refine wa_p 6 ?_ | refine wa_p0 6 ?_ | fail) <;> (first | refine wa_f 7 fun hbi => ?_ | refine wa_p 7 ?_ | fail) <;> (first | refine wa_p 8 ?_ | refine wa_p0 8 ?_ | fail) <;> refine wa_p 9 ?_ <;> (first | refine wa_p 10 ?_ | refine wa_p0 10 ?_) <;> (first | refine wa_p 11 ?_ | refine wa_p0 11 ?_) <;> (refine wa_do 12 ?_ <;> (repeat' (first | refine red ?_ | refine redc fun r => ?_ | refine redv fun sv => ?_ | refine redf fun hbi => ?_ | refine redn fun b => ?_ | refine reds ?_ | refine redi (fun hc => ?_) (fun hc => ?_) | refine redq (fun hc => ?_) (fun hc => ?_) | refine redp (fun r => ?_) (fun r => ?_) | fail))) <;> (refine wa_do 13 ?_ <;> (repeat' (first | refine red ?_ | refine redc fun r => ?_ | refine redv fun sv => ?_ | refine redf fun hbi => ?_ | refine redn fun b => ?_ | refine reds ?_ | refine redi (fun hc => ?_) (fun hc => ?_) | refine redq (fun hc => ?_) (fun hc => ?_) | refine redp (fun r => ?_) (fun r => ?_) | fail))) <;> (first | refine wa_p 14 ?_ | refine wa_p0 14 ?_)) <;> (first | refine wa_end ?_ | with_reducible refine wq_keep ?_)) | fail)
  exact ⟨(), rfl, ent_e⟩
instance redex_ctr {Γ : List Atom} {v0 v1 v : Value} {x : SSystem} {t : List Int} {at_ rule : Int} [h0 : HasRd (List Int) repList Γ [v0] x.1] [h1 : HasRd (List SRule) repList Γ [v1] x.2] [h2 : HasRd (List Int) repList Γ [v] t] :
    CtrC Try.prog 178 [.agg #[v0, v1], v, .int .i64 at_, .int .i64 rule] Γ (RedP x t at_ rule) (Unit) (fun _ : Unit => .bool (redOf x t at_ rule)) (fun _ => Γ) := ⟨fun s w0 => redex_spec s⟩

def redexAt (x : SSystem) (t : List Int) (at_ rule : Int) : Bool := redArgs x t at_ rule && redOf x t at_ rule
end Go.Proofs.Ytfdpmkilhllkoaa
namespace Go.Proofs.Ytfdpmkilhllkoaa
open Go Go.Eng
set_option linter.unusedVariables false
set_option linter.unusedSimpArgs false

def redN (x : SSystem) (t : List Int) (k r : Nat) : Bool := (matchOf x.1 (x.2.getD r default).1 (subt x.1 t k)).isSome
def NoRed (x : SSystem) (t : List Int) (k : Nat) : Prop := ∀ i, i < k → ∀ r, r < x.2.length → redN x t i r = false
instance {x : SSystem} {t : List Int} {k : Nat} : Decidable (NoRed x t k) := by unfold NoRed; infer_instance
theorem NoRed.step {x : SSystem} {t : List Int} {k : Nat} : NoRed x t (k + 1) ↔ NoRed x t k ∧ ∀ r, r < x.2.length → redN x t k r = false := by
  constructor
  · intro h
    exact ⟨fun i hi => h i (by omega), h k (by omega)⟩
  · rintro ⟨h1, h2⟩ i hi
    by_cases he : i = k
    · subst he; exact h2
    · exact h1 i (by omega)
theorem var_no {x : SSystem} {t : List Int} {k r : Nat} (hs : sysOk x = true) (ht : termOk x.1 t = true) (hk : k < t.length) (hr : r < x.2.length) (hv : t.getD k 0 < 0) : redN x t k r = false := by
  have hl := (termOk_len (subt_ok ht hk)).1
  have hp := (termOk_len (sys_left hs hr)).1
  have hroot : 0 ≤ (x.2.getD r default).1.getD 0 0 := (of_decide_eq_true ((sysOk_iff.1 hs).2 _ (getD_memD hr)) : RuleP _ _).1.2.2
  have hh : (subt x.1 t k).getD 0 0 = t.getD k 0 := by
    unfold subt at hl ⊢
    rw [drop_get hk] at hl ⊢
    cases hz : sz x.1 t k with
    | zero => rw [hz] at hl; simp at hl
    | succ n => simp
  unfold redN matchOf
  have := match_sym_ne (a := x.1) (p := (x.2.getD r default).1) (t := subt x.1 t k) (b := List.replicate 24 []) (i := 0) (k := 0) (by omega) (by omega) hroot (by rw [hh]; omega)
  simp only [List.drop_zero] at this
  rw [this]; rfl
def normalIn (x : SSystem) (t : List Int) : Bool := sysOk x && (termOk x.1 t && decide (NoRed x t t.length))
end Go.Proofs.Ytfdpmkilhllkoaa
