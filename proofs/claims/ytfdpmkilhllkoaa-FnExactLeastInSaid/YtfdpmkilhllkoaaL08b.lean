/- The redexes of a term. -/
import Derived.Test.YtfdpmkilhllkoaaL19b
namespace Go.Proofs.Ytfdpmkilhllkoaa
open Go Go.Eng
set_option linter.unusedVariables false
set_option linter.unusedSimpArgs false

def hasRed (x : SSystem) (t : List Int) (k : Nat) : Bool := (List.range x.2.length).any (redN x t k)
theorem hasRed_iff {x : SSystem} {t : List Int} {k : Nat} : hasRed x t k = true ↔ ∃ r, r < x.2.length ∧ redN x t k r = true := by
  unfold hasRed
  simp only [List.any_eq_true, List.mem_range]
theorem hasRed_var {x : SSystem} {t : List Int} {k : Nat} (hs : sysOk x = true) (ht : termOk x.1 t = true) (hk : k < t.length) (hv : t.getD k 0 < 0) : hasRed x t k = false := by
  cases h : hasRed x t k with
  | false => rfl
  | true =>
    obtain ⟨r, hr, h'⟩ := hasRed_iff.1 h
    rw [var_no hs ht hk hr hv] at h'; cases h'
def redexesOf (x : SSystem) (t : List Int) : List Int := if sysOk x = true ∧ termOk x.1 t = true then selTo (hasRed x t) t.length else []
theorem redexesOf_no {x : SSystem} {t : List Int} (h : ¬ (sysOk x = true ∧ termOk x.1 t = true)) : redexesOf x t = [] := if_neg h
theorem redexesOf_yes {x : SSystem} {t : List Int} (h : sysOk x = true ∧ termOk x.1 t = true) : redexesOf x t = selTo (hasRed x t) t.length := if_pos h
theorem redexesOf_len (x : SSystem) (t : List Int) : (redexesOf x t).length ≤ 60 := by
  unfold redexesOf
  split
  · rename_i h
    have := selTo_len (hasRed x t) t.length
    have := termOk_len h.2
    omega
  · simp
end Go.Proofs.Ytfdpmkilhllkoaa
namespace Go.Proofs.Ytfdpmkilhllkoaa
open Go Go.Eng
set_option linter.unusedVariables false
set_option linter.unusedSimpArgs false

theorem getD_snoc {l : List Int} {x : Int} {i : Nat} : (l ++ [x]).getD i 0 = if i < l.length then l.getD i 0 else if i = l.length then x else 0 := by
  simp only [List.getD_eq_getElem?_getD, List.getElem?_append]
  by_cases h : i < l.length
  · simp [h]
  · by_cases h2 : i = l.length
    · simp [h2]
    · have : i - l.length ≠ 0 := by omega
      obtain ⟨m, hm⟩ : ∃ m, i - l.length = m + 1 := ⟨i - l.length - 1, by omega⟩
      simp [h, h2, hm]
theorem selTo_get (f : Nat → Bool) : ∀ n i, i < (selTo f n).length → 0 ≤ (selTo f n).getD i 0 ∧ (selTo f n).getD i 0 < n
  | 0, i, h => by simp [selTo] at h
  | n + 1, i, h => by
    cases hf : f n with
    | false =>
      rw [selTo_no hf] at h ⊢
      have := selTo_get f n i h
      omega
    | true =>
      rw [selTo_yes hf] at h ⊢
      rw [getD_snoc]
      split
      · have := selTo_get f n i (by assumption)
        omega
      · rw [List.length_append] at h
        simp only [List.length_cons, List.length_nil] at h
        rw [if_pos (by omega)]
        omega
theorem selTo_up (f : Nat → Bool) : ∀ n i, i + 1 < (selTo f n).length → (selTo f n).getD i 0 < (selTo f n).getD (i + 1) 0
  | 0, i, h => by simp [selTo] at h
  | n + 1, i, h => by
    cases hf : f n with
    | false =>
      rw [selTo_no hf] at h ⊢
      exact selTo_up f n i h
    | true =>
      rw [selTo_yes hf] at h ⊢
      rw [List.length_append] at h
      simp only [List.length_cons, List.length_nil] at h
      rw [getD_snoc, getD_snoc, if_pos (by omega)]
      split
      · exact selTo_up f n i (by assumption)
      · rw [if_pos (by omega)]
        exact (selTo_get f n i (by omega)).2
theorem redexesOf_get {x : SSystem} {t : List Int} {i : Nat} (h : i < (redexesOf x t).length) : sysOk x = true ∧ termOk x.1 t = true ∧ 0 ≤ (redexesOf x t).getD i 0 ∧ (redexesOf x t).getD i 0 < t.length ∧ (i + 1 < (redexesOf x t).length → (redexesOf x t).getD i 0 < (redexesOf x t).getD (i + 1) 0) := by
  unfold redexesOf at h ⊢
  split at h
  · rename_i hs
    rw [if_pos hs]
    exact ⟨hs.1, hs.2, (selTo_get _ _ _ h).1, (selTo_get _ _ _ h).2, selTo_up _ _ _⟩
  · simp at h

/-- Where the subterm at the i-th of these places ends. -/
def endI (a t l : List Int) (i : Nat) : Int := ((l.getD i 0).toNat + sz a t (l.getD i 0).toNat : Nat)
def outTo (a t l : List Int) : Nat → List Int × Int
  | 0 => ([], 0)
  | k + 1 => if (outTo a t l k).2 ≤ l.getD k 0 then ((outTo a t l k).1 ++ [l.getD k 0], endI a t l k) else outTo a t l k
theorem outTo_len (a t l : List Int) : ∀ k, (outTo a t l k).1.length ≤ k
  | 0 => Nat.le_refl _
  | k + 1 => by
    have := outTo_len a t l k
    unfold outTo
    split
    · simp only [List.length_append, List.length_cons, List.length_nil]; omega
    · omega
theorem outTo_yes {a t l : List Int} {k : Nat} (h : (outTo a t l k).2 ≤ l.getD k 0) : outTo a t l (k + 1) = ((outTo a t l k).1 ++ [l.getD k 0], endI a t l k) := if_pos h
theorem outTo_no {a t l : List Int} {k : Nat} (h : ¬ (outTo a t l k).2 ≤ l.getD k 0) : outTo a t l (k + 1) = outTo a t l k := if_neg h
theorem outTo_end {a t l : List Int} (hi : ∀ i, i < l.length → 0 ≤ l.getD i 0 ∧ l.getD i 0 < t.length) (ht : termOk a t = true) : ∀ k, k ≤ l.length → 0 ≤ (outTo a t l k).2 ∧ (outTo a t l k).2 ≤ t.length
  | 0, _ => by simp [outTo]
  | k + 1, hk => by
    have ih := outTo_end hi ht k (by omega)
    have := hi k (by omega)
    have := (term_at ht (k := (l.getD k 0).toNat) (by omega)).2.2
    unfold outTo
    split
    · simp only [endI]; omega
    · exact ih
def outmostOf (x : SSystem) (t : List Int) : List Int := (outTo x.1 t (redexesOf x t) (redexesOf x t).length).1
theorem outmost_len (x : SSystem) (t : List Int) : (outmostOf x t).length ≤ 60 := Nat.le_trans (outTo_len _ _ _ _) (redexesOf_len x t)

/-- The i-th of these places holds none of the others. -/
def inI (a t l : List Int) (i : Nat) : Bool := decide (i + 1 = l.length ∨ endI a t l i ≤ l.getD (i + 1) 0)
def keepTo (p : Nat → Bool) (l : List Int) : Nat → List Int
  | 0 => []
  | k + 1 => if p k = true then keepTo p l k ++ [l.getD k 0] else keepTo p l k
theorem keepTo_len (p : Nat → Bool) (l : List Int) : ∀ k, (keepTo p l k).length ≤ k
  | 0 => Nat.le_refl _
  | k + 1 => by
    have := keepTo_len p l k
    unfold keepTo
    split
    · simp only [List.length_append, List.length_cons, List.length_nil]; omega
    · omega
theorem keepTo_yes {p : Nat → Bool} {l : List Int} {k : Nat} (h : p k = true) : keepTo p l (k + 1) = keepTo p l k ++ [l.getD k 0] := if_pos h
theorem keepTo_no {p : Nat → Bool} {l : List Int} {k : Nat} (h : p k = false) : keepTo p l (k + 1) = keepTo p l k := if_neg (by rw [h]; simp)
def inmostOf (x : SSystem) (t : List Int) : List Int := keepTo (inI x.1 t (redexesOf x t)) (redexesOf x t) (redexesOf x t).length
theorem inmost_len (x : SSystem) (t : List Int) : (inmostOf x t).length ≤ 60 := Nat.le_trans (keepTo_len _ _ _) (redexesOf_len x t)
end Go.Proofs.Ytfdpmkilhllkoaa
