/- The automaton of normal forms, plain: rounds over sets, by an image that may be shut. No program in sight. -/
import Derived.Test.YtbbdjjlnachnlaaGreatDoorSetP
namespace Go.Proofs.YtbbdjjlnachnlaaGreatDoor
open Go Go.Eng
set_option linter.unusedVariables false
set_option linter.unusedSimpArgs false
/-- What a symbol leads to from a list of sets; nothing where it is shut. -/
abbrev ImO : Type := Nat → List (List Int) → Option (List Int)
def addO (out : List (List Int)) : Option (List Int) → List (List Int)
  | none => out
  | some s => addNew out s
theorem addO_pre (out : List (List Int)) (s : Option (List Int)) : out <+: addO out s := by
  cases s with
  | none => exact List.prefix_rfl
  | some s => exact addNew_pre out s
def rowG (im : ImO) (ar : List Int) (sets : List (List Int)) (f : Nat) (out : List (List Int)) : Nat → List (List Int)
  | 0 => out
  | i + 1 => addO (rowG im ar sets f out i) (im f (listed sets (dig sets.length (arN ar f) i)))
def symG (im : ImO) (ar : List Int) (sets : List (List Int)) : Nat → List (List Int)
  | 0 => sets
  | f + 1 => rowG im ar sets f (symG im ar sets f) (sets.length ^ arN ar f)
def rndG (im : ImO) (ar : List Int) (sets : List (List Int)) : List (List Int) := symG im ar sets ar.length
theorem rowG_pre (im : ImO) (ar : List Int) (sets : List (List Int)) (f : Nat) (out : List (List Int)) (i : Nat) : ∀ j, rowG im ar sets f out i <+: rowG im ar sets f out (i + j)
  | 0 => List.prefix_rfl
  | j + 1 => (rowG_pre im ar sets f out i j).trans (addO_pre _ _)
theorem symG_pre (im : ImO) (ar : List Int) (sets : List (List Int)) (f : Nat) : ∀ j, symG im ar sets f <+: symG im ar sets (f + j)
  | 0 => List.prefix_rfl
  | j + 1 => (symG_pre im ar sets f j).trans (by
    have := rowG_pre im ar sets (f + j) (symG im ar sets (f + j)) 0 (sets.length ^ arN ar (f + j))
    rw [Nat.zero_add] at this
    exact this)
theorem rndG_pre (im : ImO) (ar : List Int) (sets : List (List Int)) : sets <+: rndG im ar sets := by
  have := symG_pre im ar sets 0 ar.length
  rw [Nat.zero_add] at this
  exact this
theorem rowG_rnd {im : ImO} {ar : List Int} {sets : List (List Int)} {f i : Nat} (hf : f < ar.length) (hi : i ≤ sets.length ^ arN ar f) : rowG im ar sets f (symG im ar sets f) i <+: rndG im ar sets := by
  have h1 := rowG_pre im ar sets f (symG im ar sets f) i (sets.length ^ arN ar f - i)
  rw [show i + (sets.length ^ arN ar f - i) = sets.length ^ arN ar f by omega] at h1
  have h2 := symG_pre im ar sets (f + 1) (ar.length - (f + 1))
  rw [show f + 1 + (ar.length - (f + 1)) = ar.length by omega] at h2
  exact h1.trans h2
theorem addO_nodup {out : List (List Int)} (h : out.Nodup) (s : Option (List Int)) : (addO out s).Nodup := by
  cases s with
  | none => exact h
  | some s =>
    show (addNew out s).Nodup
    unfold addNew
    split
    · exact h
    · rename_i hn
      rw [List.nodup_append]
      exact ⟨h, by simp, fun a ha b hb e => by rw [List.mem_singleton] at hb; subst e; subst hb; exact hn ha⟩
theorem rowG_nodup {im : ImO} {ar : List Int} {sets : List (List Int)} {f : Nat} {out : List (List Int)} (h : out.Nodup) : ∀ i, (rowG im ar sets f out i).Nodup
  | 0 => h
  | i + 1 => addO_nodup (rowG_nodup h i) _
theorem symG_nodup {im : ImO} {ar : List Int} {sets : List (List Int)} (h : sets.Nodup) : ∀ f, (symG im ar sets f).Nodup
  | 0 => h
  | f + 1 => rowG_nodup (symG_nodup h f) _
theorem rndG_nodup {im : ImO} {ar : List Int} {sets : List (List Int)} (h : sets.Nodup) : (rndG im ar sets).Nodup := symG_nodup h _
/-- The rounds, as long as something new comes up and it is not too much. -/
def fixG (im : ImO) (ar : List Int) : Nat → List (List Int) → Option (List (List Int))
  | 0, _ => none
  | k + 1, s => if 16 < (rndG im ar s).length then none else if (rndG im ar s).length = s.length then (if s = [] then none else some s) else fixG im ar k (rndG im ar s)
/-- The transitions, by the places of the sets in a list. -/
noncomputable def trO (f : Nat) (l : List Int) (all : List (List Int)) : Option (List Int) → List STrans
  | none => []
  | some s => [((f : Int), l, placeOf all s)]
noncomputable def trRG (im : ImO) (ar : List Int) (sets : List (List Int)) (f : Nat) (out : List STrans) : Nat → List STrans
  | 0 => out
  | i + 1 => trRG im ar sets f out i ++ trO f (dig sets.length (arN ar f) i) sets (im f (listed sets (dig sets.length (arN ar f) i)))
noncomputable def trSG (im : ImO) (ar : List Int) (sets : List (List Int)) : Nat → List STrans
  | 0 => []
  | f + 1 => trRG im ar sets f (trSG im ar sets f) (sets.length ^ arN ar f)
noncomputable def allG (im : ImO) (ar : List Int) (sets : List (List Int)) : List STrans := trSG im ar sets ar.length
theorem trO_len (f : Nat) (l : List Int) (all : List (List Int)) (s : Option (List Int)) : (trO f l all s).length ≤ 1 := by
  cases s <;> simp [trO]
theorem trRG_mono (im : ImO) (ar : List Int) (sets : List (List Int)) (f : Nat) (out : List STrans) (i : Nat) : ∀ j, (trRG im ar sets f out i).length ≤ (trRG im ar sets f out (i + j)).length
  | 0 => Nat.le_refl _
  | j + 1 => Nat.le_trans (trRG_mono im ar sets f out i j) (by
    show _ ≤ (trRG im ar sets f out (i + j) ++ _).length
    rw [List.length_append]; omega)
theorem trSG_mono (im : ImO) (ar : List Int) (sets : List (List Int)) (f : Nat) : ∀ j, (trSG im ar sets f).length ≤ (trSG im ar sets (f + j)).length
  | 0 => Nat.le_refl _
  | j + 1 => Nat.le_trans (trSG_mono im ar sets f j) (by
    have := trRG_mono im ar sets (f + j) (trSG im ar sets (f + j)) 0 (sets.length ^ arN ar (f + j))
    rw [Nat.zero_add] at this
    exact this)
theorem rowG_all {im : ImO} {ar : List Int} {sets : List (List Int)} {f i : Nat} (hf : f < ar.length) (hi : i ≤ sets.length ^ arN ar f) : (trRG im ar sets f (trSG im ar sets f) i).length ≤ (allG im ar sets).length := by
  have h1 := trRG_mono im ar sets f (trSG im ar sets f) i (sets.length ^ arN ar f - i)
  rw [show i + (sets.length ^ arN ar f - i) = sets.length ^ arN ar f by omega] at h1
  have h2 := trSG_mono im ar sets (f + 1) (ar.length - (f + 1))
  rw [show f + 1 + (ar.length - (f + 1)) = ar.length by omega] at h2
  exact Nat.le_trans h1 h2
/-- A round with the transitions that come up in it, by the places in the list so far: the program's. -/
noncomputable def rowUG (im : ImO) (ar : List Int) (sets : List (List Int)) (f : Nat) (out : List (List Int)) (rs : List STrans) : Nat → List STrans
  | 0 => rs
  | i + 1 => rowUG im ar sets f out rs i ++ trO f (dig sets.length (arN ar f) i) (rowG im ar sets f out (i + 1)) (im f (listed sets (dig sets.length (arN ar f) i)))
noncomputable def symUG (im : ImO) (ar : List Int) (sets : List (List Int)) : Nat → List STrans
  | 0 => []
  | f + 1 => rowUG im ar sets f (symG im ar sets f) (symUG im ar sets f) (sets.length ^ arN ar f)
theorem rowUG_len (im : ImO) (ar : List Int) (sets : List (List Int)) (f : Nat) (out : List (List Int)) {rs rs' : List STrans} (h : rs.length = rs'.length) : ∀ i, (rowUG im ar sets f out rs i).length = (trRG im ar sets f rs' i).length
  | 0 => h
  | i + 1 => by
    show (rowUG im ar sets f out rs i ++ _).length = (trRG im ar sets f rs' i ++ _).length
    rw [List.length_append, List.length_append, rowUG_len im ar sets f out h i]
    cases im f (listed sets (dig sets.length (arN ar f) i)) <;> rfl
theorem symUG_len (im : ImO) (ar : List Int) (sets : List (List Int)) : ∀ f, (symUG im ar sets f).length = (trSG im ar sets f).length
  | 0 => rfl
  | f + 1 => rowUG_len im ar sets f _ (symUG_len im ar sets f) _
theorem pre_same {xs ys : List (List Int)} (h : xs <+: ys) (hl : ys.length ≤ xs.length) : xs = ys := by
  obtain ⟨t, rfl⟩ := h
  rw [List.length_append] at hl
  rw [List.length_eq_zero_iff.1 (show t.length = 0 by omega), List.append_nil]
/-- Where nothing new came up, the places are those in the list. -/
theorem rowUG_same {im : ImO} {ar : List Int} {sets : List (List Int)} {f : Nat} {out : List (List Int)} {rs : List STrans} : ∀ i, rowG im ar sets f out i = sets → (∀ j, j ≤ i → rowG im ar sets f out j = sets) → rowUG im ar sets f out rs i = trRG im ar sets f rs i
  | 0, _, _ => rfl
  | i + 1, h, ha => by
    show rowUG im ar sets f out rs i ++ trO f _ (rowG im ar sets f out (i + 1)) _ = trRG im ar sets f rs i ++ trO f _ sets _
    rw [rowUG_same i (ha i (by omega)) (fun j hj => ha j (by omega)), h]
theorem symUG_same {im : ImO} {ar : List Int} {sets : List (List Int)} (h : (rndG im ar sets).length = sets.length) : ∀ f, f ≤ ar.length → symUG im ar sets f = trSG im ar sets f
  | 0, _ => rfl
  | f + 1, hf => by
    have hall : ∀ j, j ≤ sets.length ^ arN ar f → rowG im ar sets f (symG im ar sets f) j = sets := fun j hj => by
      have h1 := rowG_rnd (im := im) (sets := sets) (show f < ar.length by omega) hj
      have h2 : sets <+: rowG im ar sets f (symG im ar sets f) j := by
        have := symG_pre im ar sets 0 f
        rw [Nat.zero_add] at this
        have h3 := rowG_pre im ar sets f (symG im ar sets f) 0 j
        rw [Nat.zero_add] at h3
        exact this.trans h3
      exact (pre_same h2 (by have := h1.length_le; omega)).symm
    show rowUG im ar sets f (symG im ar sets f) (symUG im ar sets f) _ = trRG im ar sets f (trSG im ar sets f) _
    rw [symUG_same h f (by omega), rowUG_same _ (hall _ (Nat.le_refl _)) (fun j hj => hall j hj)]
/-- Numbers below n. -/
def upTo (n : Nat) : List Int := (List.range n).map Int.ofNat
theorem upTo_succ (n : Nat) : upTo (n + 1) = upTo n ++ [(n : Int)] := by unfold upTo; rw [List.range_succ, List.map_append]; rfl
theorem upTo_len (n : Nat) : (upTo n).length = n := by unfold upTo; simp
theorem upTo_get {n k : Nat} (h : k < n) : (upTo n).getD k 0 = (k : Int) := by
  unfold upTo
  rw [List.getD_eq_getElem?_getD, List.getElem?_map, List.getElem?_range h]
  rfl
/-- The automaton, by an image. -/
noncomputable def autG (im : ImO) (ar : List Int) : Option SAuto :=
  match fixG im ar 17 [] with
  | none => none
  | some sets => if (allG im ar sets).length ≤ 300 then some ((sets.length : Int), allG im ar sets, upTo sets.length) else none
theorem autG_none {im : ImO} {ar : List Int} (h : fixG im ar 17 [] = none) : autG im ar = none := by unfold autG; rw [h]
theorem autG_many {im : ImO} {ar : List Int} {sets : List (List Int)} (h : fixG im ar 17 [] = some sets) (hm : 300 < (allG im ar sets).length) : autG im ar = none := by
  unfold autG; rw [h]; simp only; rw [if_neg (Nat.not_le.2 hm)]
theorem autG_some {im : ImO} {ar : List Int} {sets : List (List Int)} (h : fixG im ar 17 [] = some sets) (hm : (allG im ar sets).length ≤ 300) : autG im ar = some ((sets.length : Int), allG im ar sets, upTo sets.length) := by
  unfold autG; rw [h]; simp only; rw [if_pos hm]
theorem fixG_some {im : ImO} {ar : List Int} : ∀ (k : Nat) (s : List (List Int)), s.length ≤ 16 → s.Nodup → ∀ t, fixG im ar k s = some t → (1 ≤ t.length ∧ t.length ≤ 16) ∧ t.Nodup ∧ (rndG im ar t).length = t.length
  | 0, s, hs, hn, t, h => by cases h
  | k + 1, s, hs, hn, t, h => by
    unfold fixG at h
    split at h
    · cases h
    · split at h
      · split at h
        · cases h
        · injection h with h
          subst h
          exact ⟨⟨List.length_pos_iff.2 ‹_›, hs⟩, hn, ‹_›⟩
      · exact fixG_some k _ (by omega) (rndG_nodup hn) t h
end Go.Proofs.YtbbdjjlnachnlaaGreatDoor
