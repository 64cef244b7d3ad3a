/- Texts of terms. -/
import Derived.Test.YtcaljjkmaffedaaDoorNum
import Derived.Test.YtcaljjkmaffedaaDoorAug3
namespace Go.Proofs.YtcaljjkmaffedaaDoor
open Go Go.Eng
set_option linter.unusedVariables false
set_option linter.unusedSimpArgs false
set_option synthInstance.maxHeartbeats 400000
set_option synthInstance.maxSize 1000
set_option maxHeartbeats 2000000
set_option maxRecDepth 20000

/-- The text of what stands at a place; of its first arguments. -/
def tx (a t : List Int) : Nat → Nat → List UInt8
  | 0, _ => []
  | f + 1, p => if t.getD p 0 < 0 then 120 :: numL (-1 - t.getD p 0).toNat else
      102 :: numL (t.getD p 0).toNat ++ ((List.range (arK a t p)).map fun i => (if i = 0 then 40 else 44) :: tx a t f (kidN a t (p + 1) i)).flatten ++ (if arK a t p = 0 then [] else [41])
theorem tx_fuel {a t : List Int} (h : termOk a t = true) : ∀ (f g p : Nat), p < t.length → t.length - p ≤ f → t.length - p ≤ g → tx a t f p = tx a t g p
  | 0, g, p, hp, hf, _ => by omega
  | f + 1, 0, p, hp, _, hg => by omega
  | f + 1, g + 1, p, hp, hf, hg => by
    unfold tx
    by_cases h0 : t.getD p 0 < 0
    · rw [if_pos h0, if_pos h0]
    · rw [if_neg h0, if_neg h0]
      congr 2
      congr 1
      refine List.map_congr_left fun i hi => ?_
      have hi := List.mem_range.1 hi
      have hk := kid_lt h hp hi
      rw [tx_fuel h f g _ hk.2 (by omega) (by omega)]
def TX (a t : List Int) (p : Nat) : List UInt8 := tx a t (t.length - p) p
/-- What is written behind the name, up to argument i. -/
def KX (a t : List Int) (p i : Nat) : List UInt8 := ((List.range i).map fun j => (if j = 0 then 40 else 44) :: TX a t (kidN a t (p + 1) j)).flatten
theorem KX_zero (a t : List Int) (p : Nat) : KX a t p 0 = [] := rfl
theorem KX_succ (a t : List Int) (p i : Nat) : KX a t p (i + 1) = KX a t p i ++ ((if i = 0 then 40 else 44) :: TX a t (kidN a t (p + 1) i)) := by
  unfold KX; rw [List.range_succ, List.map_append, List.flatten_append]; simp
theorem TX_var {a t : List Int} {p : Nat} (hp : p < t.length) (h0 : t.getD p 0 < 0) : TX a t p = 120 :: numL (-1 - t.getD p 0).toNat := by
  unfold TX
  rw [show t.length - p = (t.length - p - 1) + 1 by omega]
  unfold tx
  rw [if_pos h0]
theorem TX_fun {a t : List Int} (h : termOk a t = true) {p : Nat} (hp : p < t.length) (h0 : 0 ≤ t.getD p 0) : TX a t p = 102 :: numL (t.getD p 0).toNat ++ KX a t p (arK a t p) ++ (if arK a t p = 0 then [] else [41]) := by
  unfold TX KX
  rw [show t.length - p = (t.length - p - 1) + 1 by omega]
  conv => lhs; unfold tx
  rw [if_neg (by omega)]
  congr 2
  congr 1
  refine List.map_congr_left fun i hi => ?_
  have hi := List.mem_range.1 hi
  have hk := kid_lt h hp hi
  unfold TX
  rw [tx_fuel h (t.length - p - 1) (t.length - kidN a t (p + 1) i) _ hk.2 (by omega) (by omega)]
theorem kidN_le {a t : List Int} (h : termOk a t = true) {p : Nat} (hp : p < t.length) : ∀ i, i ≤ arK a t p → p + 1 ≤ kidN a t (p + 1) i ∧ kidN a t (p + 1) i ≤ t.length
  | 0, _ => ⟨Nat.le_refl _, hp⟩
  | i + 1, hi => by
    have h1 := kid_lt h hp (i := i) (by omega)
    have h2 := (term_at h h1.2).2
    show p + 1 ≤ kidN a t (p + 1) i + sz a t (kidN a t (p + 1) i) ∧ kidN a t (p + 1) i + sz a t (kidN a t (p + 1) i) ≤ t.length
    omega
theorem kid_end {a t : List Int} (h : termOk a t = true) {p : Nat} (hp : p < t.length) : kidN a t (p + 1) (arK a t p) = p + (subt a t p).length := by
  have h1 := kidN_le h hp (arK a t p) (Nat.le_refl _)
  have h2 := congrArg List.length (preK_all h hp)
  rw [List.length_cons] at h2
  have h3 : (preK a t p (arK a t p)).length = kidN a t (p + 1) (arK a t p) - (p + 1) := by
    unfold preK
    rw [List.length_take, List.length_drop]
    omega
  omega
theorem TX_len {a t : List Int} (h : termOk a t = true) : ∀ (N p : Nat), p < t.length → t.length - p ≤ N → 1 ≤ (TX a t p).length ∧ (TX a t p).length ≤ 8 * (subt a t p).length
  | 0, p, hp, hN => by omega
  | N + 1, p, hp, hN => by
    have hs := termOk_len (subt_ok h hp)
    by_cases h0 : t.getD p 0 < 0
    · rw [TX_var hp h0]
      have := (numL_len (-1 - t.getD p 0).toNat).2
      simp only [List.length_cons]
      omega
    · rw [TX_fun h hp (by omega)]
      have h1 := (numL_len (t.getD p 0).toNat).2
      have h3 := (arK_le h hp).1
      have hK : ∀ i, i ≤ arK a t p → (KX a t p i).length ≤ i + 8 * (preK a t p i).length := fun i => by
        induction i with
        | zero => intro _; simp [KX_zero]
        | succ i ih =>
          intro hi
          have hk := kid_lt h hp (i := i) (by omega)
          have h5 := (TX_len h N (kidN a t (p + 1) i) hk.2 (by omega)).2
          have h6 := ih (by omega)
          rw [KX_succ, preK_succ h hp (by omega)]
          simp only [List.length_append, List.length_cons]
          omega
      have h7 := hK (arK a t p) (Nat.le_refl _)
      have h8 := congrArg List.length (preK_all h hp)
      rw [List.length_cons] at h8
      have h9 : (if arK a t p = 0 then ([] : List UInt8) else [41]).length ≤ 1 := by split <;> simp
      simp only [List.length_append, List.length_cons]
      omega
theorem KX_len {a t : List Int} (h : termOk a t = true) {p : Nat} (hp : p < t.length) : ∀ i, i ≤ arK a t p → (KX a t p i).length ≤ i * 481
  | 0, _ => by simp [KX_zero]
  | i + 1, hi => by
    have h1 := KX_len h hp i (by omega)
    have hk := kid_lt h hp (i := i) (by omega)
    have h2 := (TX_len h _ _ hk.2 (Nat.le_refl _)).2
    have h3 := termOk_len (subt_ok h hk.2)
    rw [KX_succ]
    simp only [List.length_append, List.length_cons]
    omega
theorem S_one (c : UInt8) : ({ data := #[c] } : ByteArray) = S [c] := rfl
end Go.Proofs.YtcaljjkmaffedaaDoor
