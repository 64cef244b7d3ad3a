/- Normal terms. -/
import Derived.Test.YtmlnobegikdenaaL07
namespace Go.Proofs.Ytmlnobegikdenaa
open Go Go.Eng
set_option linter.unusedVariables false
set_option linter.unusedSimpArgs false

def redN (x : SSystem) (t : List Int) (k r : Nat) : Bool := (matchOf x.1 (x.2.getD r default).1 (subt x.1 t k)).isSome
def NoRed (x : SSystem) (t : List Int) (k : Nat) : Prop := ∀ i, i < k → ∀ r, r < x.2.length → redN x t i r = false
instance {x : SSystem} {t : List Int} {k : Nat} : Decidable (NoRed x t k) := by unfold NoRed; infer_instance
theorem NoRed.step {x : SSystem} {t : List Int} {k : Nat} : NoRed x t (k + 1) ↔ NoRed x t k ∧ ∀ r, r < x.2.length → redN x t k r = false := by
  constructor
  · intro h
    exact ⟨fun i hi => h i (by omega), h k (by omega)⟩
  · rintro ⟨h1, h2⟩ i hi
    by_cases he : i = k
    · subst he; exact h2
    · exact h1 i (by omega)
theorem var_no {x : SSystem} {t : List Int} {k r : Nat} (hs : sysOk x = true) (ht : termOk x.1 t = true) (hk : k < t.length) (hr : r < x.2.length) (hv : t.getD k 0 < 0) : redN x t k r = false := by
  have hl := (termOk_len (subt_ok ht hk)).1
  have hp := (termOk_len (sys_left hs hr)).1
  have hroot : 0 ≤ (x.2.getD r default).1.getD 0 0 := (of_decide_eq_true ((sysOk_iff.1 hs).2 _ (getD_memD hr)) : RuleP _ _).1.2.2
  have hh : (subt x.1 t k).getD 0 0 = t.getD k 0 := by
    unfold subt at hl ⊢
    rw [drop_get hk] at hl ⊢
    cases hz : sz x.1 t k with
    | zero => rw [hz] at hl; simp at hl
    | succ n => simp
  unfold redN matchOf
  have := match_sym_ne (a := x.1) (p := (x.2.getD r default).1) (t := subt x.1 t k) (b := List.replicate 24 []) (i := 0) (k := 0) (by omega) (by omega) hroot (by rw [hh]; omega)
  simp only [List.drop_zero] at this
  rw [this]; rfl
def normalIn (x : SSystem) (t : List Int) : Bool := sysOk x && (termOk x.1 t && decide (NoRed x t t.length))
end Go.Proofs.Ytmlnobegikdenaa
