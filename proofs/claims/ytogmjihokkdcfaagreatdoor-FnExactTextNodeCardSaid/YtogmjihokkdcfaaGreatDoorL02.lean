/- Chapter 2: plain substitutions. -/
import Derived.Test.YtogmjihokkdcfaaGreatDoorL01
namespace Go.Proofs.YtogmjihokkdcfaaGreatDoor
open Go Go.Eng
set_option linter.unusedVariables false
set_option linter.unusedSimpArgs false

theorem plain_skip {ts : List (List Int)} {k : Nat} (hk : k < ts.length) (h : ts.getD k default = [] ∨ ts.getD k default = [-1 - (k : Int)]) : strip (trivL 0 (ts.take (k + 1))) = strip (trivL 0 (ts.take k)) := by
  rw [trivL_take (get_lt hk)]
  have : triv k (ts.getD k default) = [] := by unfold triv; rw [if_pos h]
  rw [this, strip_snoc_nil]
theorem plain_put {ts : List (List Int)} {k : Nat} (hk : k < ts.length) (h : ¬ (ts.getD k default = [] ∨ ts.getD k default = [-1 - (k : Int)])) : strip (trivL 0 (ts.take (k + 1))) = trivL 0 (ts.take k) ++ [ts.getD k default] := by
  rw [trivL_take (get_lt hk)]
  have : triv k (ts.getD k default) = ts.getD k default := by unfold triv; rw [if_neg h]
  rw [this, strip_snoc]
  intro e; exact h (.inl e)
theorem plain_pad {ts : List (List Int)} {k j : Nat} (hk : k ≤ ts.length) (h : (strip (trivL 0 (ts.take k))).length + j = k) : strip (trivL 0 (ts.take k)) ++ List.replicate j [] = trivL 0 (ts.take k) := by
  have := strip_pad (trivL 0 (ts.take k))
  rw [trivL_len, List.length_take, Nat.min_eq_left hk, show k - (strip (trivL 0 (ts.take k))).length = j by omega] at this
  exact this
theorem strip_take_len (ts : List (List Int)) (k : Nat) : (strip (trivL 0 (ts.take k))).length ≤ k := by
  have := strip_len_le (trivL 0 (ts.take k))
  rw [trivL_len, List.length_take] at this
  omega

def gives (ts : List (List Int)) (i : Nat) : List Int := if i < ts.length ∧ 0 < (ts.getD i default).length then ts.getD i default else [-1 - (i : Int)]
theorem gives_len {ts : List (List Int)} {i : Nat} (hl : ∀ t ∈ ts, t.length ≤ 60) : 1 ≤ (gives ts i).length ∧ (gives ts i).length ≤ 60 := by
  unfold gives
  split
  · rename_i h
    exact ⟨h.2, hl _ (by rw [List.getD_eq_getElem?_getD, List.getElem?_eq_getElem h.1]; exact List.getElem_mem h.1)⟩
  · simp
theorem mem_getD {ts : List (List Int)} {i : Nat} (h : i < ts.length) : ts.getD i default ∈ ts := by
  rw [List.getD_eq_getElem?_getD, List.getElem?_eq_getElem h]; exact List.getElem_mem h
theorem gives_triv {ts : List (List Int)} {i : Nat} (h : i < ts.length) : triv i (ts.getD i default) = if (gives ts i).length = 1 ∧ (gives ts i).getD 0 0 = -1 - (i : Int) then [] else gives ts i := by
  unfold triv gives
  generalize ts.getD i default = x
  simp only [h, true_and]
  match x with
  | [] => simp
  | [a] => by_cases ha : a = -1 - (i : Int) <;> simp [ha]
  | a :: b :: t => simp

end Go.Proofs.YtogmjihokkdcfaaGreatDoor
