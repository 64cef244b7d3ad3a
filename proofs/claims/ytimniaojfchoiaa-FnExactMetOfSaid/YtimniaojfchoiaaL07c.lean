/- Steps. -/
import Derived.Test.YtimniaojfchoiaaL03
namespace Go.Proofs.Ytimniaojfchoiaa
open Go Go.Eng
set_option linter.unusedVariables false
set_option linter.unusedSimpArgs false

def putL (a t : List Int) (k : Nat) (u : List Int) : List Int := t.take k ++ u ++ t.drop (k + sz a t k)
def putOf (a t : List Int) (k : Nat) (u : List Int) : Option (List Int) := if (putL a t k u).length ≤ 60 then some (putL a t k u) else none
theorem put_no {a t : List Int} {k : Nat} {u : List Int} (h : ¬ (putL a t k u).length ≤ 60) : putOf a t k u = none := if_neg h
theorem put_yes {a t : List Int} {k : Nat} {u : List Int} (h : (putL a t k u).length ≤ 60) : putOf a t k u = some (putL a t k u) := if_pos h
theorem put_len {a t : List Int} {k : Nat} {u : List Int} (ht : termOk a t = true) (hk : k < t.length) (hu : u.length ≤ 60) : (putL a t k u).length ≤ 120 := by
  have := termOk_len ht
  have := (term_at ht hk).2
  unfold putL
  simp only [List.length_append, List.length_take, List.length_drop]
  omega
def stepOf (x : SSystem) (t : List Int) (k r : Nat) : Option (List Int) :=
  match matchOf x.1 (x.2.getD r default).1 (subt x.1 t k) with
  | none => none
  | some s => match fillOf s (x.2.getD r default).2 with
    | none => none
    | some u => putOf x.1 t k u
theorem match_le {a p t : List Int} (ht : termOk a t = true) : ∀ x ∈ (matchOf a p t).getD [], x.length ≤ 60 := by
  unfold matchOf
  cases hg : matchGo a p t (List.replicate 24 []) with
  | none => simp
  | some ys =>
    obtain ⟨h1, h2⟩ := match_bound p t _ ys hg (termOk_len ht).2 rep_le
    simp only [Option.map_some, Option.getD_some]
    intro x hx
    rcases plain_mem hx with h | h
    · rw [h]; simp
    · exact h2 x h
theorem fill_le (ts : List (List Int)) (t : List Int) : ((fillOf ts t).getD []).length ≤ 60 := by
  unfold fillOf
  split
  · simpa
  · simp
theorem putOf_le (a t : List Int) (k : Nat) (u : List Int) : ((putOf a t k u).getD []).length ≤ 60 := by
  unfold putOf
  split
  · simpa
  · simp
theorem term_min {a t : List Int} (h : termOk a t = true) : ∀ n ∈ t, -24 ≤ n := by
  rw [termOk_min] at h
  simp only [Bool.and_eq_true, decide_eq_true_eq] at h
  exact h.1.2
theorem step_no {x : SSystem} {t : List Int} {k r : Nat} (h : (matchOf x.1 (x.2.getD r default).1 (subt x.1 t k)).isSome = false) : stepOf x t k r = none := by
  unfold stepOf
  cases hm : matchOf x.1 (x.2.getD r default).1 (subt x.1 t k) with
  | none => rfl
  | some s => rw [hm] at h; cases h
theorem step_no2 {x : SSystem} {t : List Int} {k r : Nat} (h : (fillOf ((matchOf x.1 (x.2.getD r default).1 (subt x.1 t k)).getD []) (x.2.getD r default).2).isSome = false) : stepOf x t k r = none := by
  unfold stepOf
  cases hm : matchOf x.1 (x.2.getD r default).1 (subt x.1 t k) with
  | none => rfl
  | some s =>
    rw [hm] at h
    simp only [Option.getD_some] at h
    cases hf : fillOf s (x.2.getD r default).2 with
    | none => simp only [hf]
    | some u => rw [hf] at h; cases h
theorem step_yes {x : SSystem} {t : List Int} {k r : Nat} (h : (matchOf x.1 (x.2.getD r default).1 (subt x.1 t k)).isSome = true) (h2 : (fillOf ((matchOf x.1 (x.2.getD r default).1 (subt x.1 t k)).getD []) (x.2.getD r default).2).isSome = true) :
    stepOf x t k r = putOf x.1 t k ((fillOf ((matchOf x.1 (x.2.getD r default).1 (subt x.1 t k)).getD []) (x.2.getD r default).2).getD []) := by
  unfold stepOf
  cases hm : matchOf x.1 (x.2.getD r default).1 (subt x.1 t k) with
  | none => rw [hm] at h; cases h
  | some s =>
    rw [hm] at h2
    simp only [Option.getD_some] at h2 ⊢
    cases hf : fillOf s (x.2.getD r default).2 with
    | none => rw [hf] at h2; cases h2
    | some u => simp only [hf, Option.getD_some]
def stepAt (x : SSystem) (t : List Int) (at_ rule : Int) : Option (List Int) := if RedP x t at_ rule then stepOf x t at_.toNat rule.toNat else none
theorem stepAt_no {x : SSystem} {t : List Int} {at_ rule : Int} (h : ¬ RedP x t at_ rule) : stepAt x t at_ rule = none := if_neg h
theorem stepAt_yes {x : SSystem} {t : List Int} {at_ rule : Int} (h : RedP x t at_ rule) : stepAt x t at_ rule = stepOf x t at_.toNat rule.toNat := if_pos h
theorem stepOf_le (x : SSystem) (t : List Int) (k r : Nat) : ((stepOf x t k r).getD []).length ≤ 60 := by
  unfold stepOf
  split
  · simp
  · split
    · simp
    · exact putOf_le _ _ _ _
theorem stepAt_le (x : SSystem) (t : List Int) (at_ rule : Int) : ((stepAt x t at_ rule).getD []).length ≤ 60 := by
  unfold stepAt
  split
  · exact stepOf_le _ _ _ _
  · simp
end Go.Proofs.Ytimniaojfchoiaa
