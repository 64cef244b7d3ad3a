/- What two subterms have in common, argument by argument: no program in sight. -/
import Derived.Test.YtfpjpbkilahopaaDoorAug2
import Derived.Test.YtfpjpbkilahopaaDoorEngW
import Derived.Test.YtfpjpbkilahopaaDoorKidsG
namespace Go.Proofs.YtfpjpbkilahopaaDoor
open Go Go.Eng
set_option linter.unusedVariables false
set_option linter.unusedSimpArgs false

theorem fr_pre {a s t u v : List Int} {n : Nat} (hs : Frst a s n) (ht : Frst a t n) (h : s ++ u = t ++ v) : s = t := by
  unfold Frst at hs ht
  have h1 := skp_app a (badS a) u s n (by rw [hs])
  have h2 := skp_app a (badS a) v t n (by rw [ht])
  rw [h, h2, ht, hs] at h1
  have hl : t.length = s.length := by simpa using h1
  exact (List.append_inj h hl.symm).1
theorem take_drop_len (l : List Int) (c : Nat) : l.take c ++ l.drop (l.take c).length = l := by
  rw [List.length_take]
  by_cases hle : c ≤ l.length
  · rw [Nat.min_eq_left hle, List.take_append_drop]
  · rw [Nat.min_eq_right (by omega), List.take_of_length_le (by omega), List.drop_length, List.append_nil]
/-- The first i arguments. -/
def preK (a t : List Int) (p i : Nat) : List Int := (t.drop (p + 1)).take (kidN a t (p + 1) i - (p + 1))
theorem preK_succ {a t : List Int} (h : termOk a t = true) {p : Nat} (hp : p < t.length) {i : Nat} (hi : i < arK a t p) : preK a t p (i + 1) = preK a t p i ++ subt a t (kidN a t (p + 1) i) := by
  have h1 := kid_lt h hp hi
  unfold preK
  show (t.drop (p + 1)).take (kidN a t (p + 1) i + sz a t (kidN a t (p + 1) i) - (p + 1)) = _
  rw [show kidN a t (p + 1) i + sz a t (kidN a t (p + 1) i) - (p + 1) = (kidN a t (p + 1) i - (p + 1)) + sz a t (kidN a t (p + 1) i) by omega, List.take_add, List.drop_drop, show p + 1 + (kidN a t (p + 1) i - (p + 1)) = kidN a t (p + 1) i by omega]
  rfl
theorem preK_fo {a t : List Int} (h : termOk a t = true) {p : Nat} (hp : p < t.length) : ∀ i, i ≤ arK a t p → Frst a (preK a t p i) i
  | 0, _ => by
    have : preK a t p 0 = [] := by unfold preK kidN; simp
    rw [this]; exact fr_nil
  | i + 1, hi => by
    rw [preK_succ h hp (by omega)]
    exact fr_app (preK_fo h hp i (by omega)) (tm_ok (subt_ok h (kid_lt h hp (by omega)).2))
theorem preK_all {a t : List Int} (h : termOk a t = true) {p : Nat} (hp : p < t.length) : subt a t p = t.getD p 0 :: preK a t p (arK a t p) := by
  obtain ⟨r, hr⟩ := subt_head h hp
  have h1 : Frst a (subt a t p) 1 := tm_ok (subt_ok h hp)
  rw [hr] at h1
  have h2 := (fr_cons h1).2
  rw [Nat.zero_add] at h2
  rw [hr]
  congr 1
  refine fr_pre h2 (preK_fo h hp _ (Nat.le_refl _)) (u := (t.drop (p + 1)).drop r.length) (v := (t.drop (p + 1)).drop (preK a t p (arK a t p)).length) ?_
  have e : subt a t p = (t.drop p).take (sz a t p) := rfl
  rw [hr, drop_get hp] at e
  have hz := subt_len h hp
  rw [hr] at hz
  rw [← hz, List.length_cons, List.take_succ_cons] at e
  injection e with _ e
  have e2 : preK a t p (arK a t p) = (t.drop (p + 1)).take (preK a t p (arK a t p)).length := by
    have : preK a t p (arK a t p) = (t.drop (p + 1)).take (kidN a t (p + 1) (arK a t p) - (p + 1)) := rfl
    conv => rhs; rw [this]
    rw [List.length_take]
    by_cases hle : kidN a t (p + 1) (arK a t p) - (p + 1) ≤ (t.drop (p + 1)).length
    · rw [Nat.min_eq_left hle]; exact this
    · rw [Nat.min_eq_right (by omega), this, List.take_of_length_le (by omega), List.take_length]
  have a1 : r ++ (t.drop (p + 1)).drop r.length = t.drop (p + 1) := by
    conv => lhs; rw [e]
    exact take_drop_len _ _
  have a2 : preK a t p (arK a t p) ++ (t.drop (p + 1)).drop (preK a t p (arK a t p)).length = t.drop (p + 1) := by
    conv => lhs; rw [e2]
    exact take_drop_len _ _
  rw [a1, a2]
theorem preK_len {a t : List Int} (h : termOk a t = true) {p : Nat} (hp : p < t.length) : ∀ d i, i + d = arK a t p → (preK a t p i).length + 1 ≤ (subt a t p).length ∧ (0 < d → (preK a t p i).length + (subt a t (kidN a t (p + 1) i)).length + 1 ≤ (subt a t p).length)
  | 0, i, hi => by
    rw [preK_all h hp, show i = arK a t p by omega]; simp
  | d + 1, i, hi => by
    have h1 := (preK_len h hp d (i + 1) (by omega)).1
    rw [preK_succ h hp (by omega), List.length_append] at h1
    omega
def gK (a s t : List Int) (p q i : Nat) (L : PL) : List Int × PL := gw a i (preK a s p i) (preK a t q i) L
theorem gK_zero (a s t : List Int) (p q : Nat) (L : PL) : gK a s t p q 0 L = ([], L) := gen_zero _ _ _ _ _
section
variable {a s t : List Int} {p q : Nat}
theorem arK_eq (hx : s.getD p 0 = t.getD q 0) : arK a t q = arK a s p := by unfold arK; rw [hx]
theorem gK_succ (hs : termOk a s = true) (ht : termOk a t = true) (hp : p < s.length) (hq : q < t.length) (hx : s.getD p 0 = t.getD q 0) {i : Nat} (hi : i < arK a s p) (L : PL) :
    gK a s t p q (i + 1) L = ((gK a s t p q i L).1 ++ (gw a 1 (subt a s (kidN a s (p + 1) i)) (subt a t (kidN a t (q + 1) i)) (gK a s t p q i L).2).1, (gw a 1 (subt a s (kidN a s (p + 1) i)) (subt a t (kidN a t (q + 1) i)) (gK a s t p q i L).2).2) := by
  have e := arK_eq (a := a) hx
  unfold gK
  rw [preK_succ hs hp hi, preK_succ ht hq (by omega)]
  exact gw_split (preK_fo hs hp i (by omega)) (preK_fo ht hq i (by omega)) (tm_ok (subt_ok hs (kid_lt hs hp hi).2)) (tm_ok (subt_ok ht (kid_lt ht hq (by omega)).2)) L
theorem gK_all (hs : termOk a s = true) (ht : termOk a t = true) (hp : p < s.length) (hq : q < t.length) (hx : s.getD p 0 = t.getD q 0) (h0 : 0 ≤ s.getD p 0) (L : PL) :
    gw a 1 (subt a s p) (subt a t q) L = (s.getD p 0 :: (gK a s t p q (arK a s p) L).1, (gK a s t p q (arK a s p) L).2) := by
  have e := arK_eq (a := a) hx
  rw [preK_all hs hp, preK_all ht hq, ← hx, e]
  have := gw_cons (a := a) (n := 0) (s := preK a s p (arK a s p)) (t := preK a t q (arK a s p)) L h0
  rw [Nat.zero_add, Nat.zero_add] at this
  exact this
theorem gK_len (hs : termOk a s = true) (ht : termOk a t = true) (hp : p < s.length) (hq : q < t.length) (hx : s.getD p 0 = t.getD q 0) {i : Nat} (hi : i ≤ arK a s p) (L : PL) :
    (gK a s t p q i L).1.length + 1 ≤ (subt a s p).length ∧ (gK a s t p q i L).2.length + 1 ≤ L.length + (subt a s p).length ∧ (i < arK a s p → (gK a s t p q i L).1.length + (subt a s (kidN a s (p + 1) i)).length + 1 ≤ (subt a s p).length ∧ (gK a s t p q i L).2.length + (subt a s (kidN a s (p + 1) i)).length + 1 ≤ L.length + (subt a s p).length) := by
  have e := arK_eq (a := a) hx
  have h1 := gw_len (preK_fo hs hp i hi) (preK_fo ht hq i (by omega)) L
  obtain ⟨h2, h3⟩ := preK_len hs hp (arK a s p - i) i (by omega)
  unfold gK
  refine ⟨by omega, by omega, fun h => ?_⟩
  have := h3 (by omega)
  omega
theorem gw_diff (hs : termOk a s = true) (ht : termOk a t = true) (hp : p < s.length) (hq : q < t.length) (hx : ¬ (s.getD p 0 = t.getD q 0 ∧ 0 ≤ s.getD p 0)) (L : PL) :
    gw a 1 (subt a s p) (subt a t q) L = ([-1 - (place L (subt a s p, subt a t q) : Int)], put L (subt a s p, subt a t q)) := by
  have e1 : (subt a s p).getD 0 0 = s.getD p 0 := by rw [preK_all hs hp]; rfl
  have e2 : (subt a t q).getD 0 0 = t.getD q 0 := by rw [preK_all ht hq]; rfl
  have := gw_pair (n := 0) (s := []) (t := []) L (tm_ok (subt_ok hs hp)) (tm_ok (subt_ok ht hq)) (by rw [e1, e2]; exact hx) fr_nil fr_nil
  rw [List.append_nil, List.append_nil, gw_zero] at this
  exact this
end
/-- The pairs, as two lists. -/
def pz (xs ys : List (Sh (List Int))) : PL := (xs.map Sh.v).zip (ys.map Sh.v)
def pl1 (L : PL) : List (Sh (List Int)) := L.map fun p => Sh.mk p.1
def pl2 (L : PL) : List (Sh (List Int)) := L.map fun p => Sh.mk p.2
theorem pz_pl : ∀ L : PL, pz (pl1 L) (pl2 L) = L
  | [] => rfl
  | x :: xs => by
    have := pz_pl xs
    unfold pz pl1 pl2 at this ⊢
    simp only [List.map_cons, List.zip_cons_cons, this]
theorem pl_pz : ∀ {xs ys : List (Sh (List Int))}, xs.length = ys.length → pl1 (pz xs ys) = xs ∧ pl2 (pz xs ys) = ys
  | [], [], _ => ⟨rfl, rfl⟩
  | x :: xs, y :: ys, h => by
    obtain ⟨h1, h2⟩ := pl_pz (xs := xs) (ys := ys) (by simpa using h)
    have e : pz (x :: xs) (y :: ys) = (x.v, y.v) :: pz xs ys := rfl
    rw [e]
    exact ⟨congrArg (x :: ·) h1, congrArg (y :: ·) h2⟩
theorem pl1_len (L : PL) : (pl1 L).length = L.length := by simp [pl1]
theorem pl2_len (L : PL) : (pl2 L).length = L.length := by simp [pl2]
theorem pz_len {xs ys : List (Sh (List Int))} (h : xs.length = ys.length) : (pz xs ys).length = xs.length := by simp [pz, h]
theorem pz_get : ∀ {xs ys : List (Sh (List Int))} {i : Nat}, i < xs.length → xs.length = ys.length → (pz xs ys)[i]? = some ((xs.getD i default).v, (ys.getD i default).v)
  | [], _, i, h, _ => by simp at h
  | x :: xs, [], i, _, h => by simp at h
  | x :: xs, y :: ys, 0, _, _ => rfl
  | x :: xs, y :: ys, i + 1, h, h2 => pz_get (xs := xs) (ys := ys) (i := i) (by simpa using h) (by simpa using h2)
theorem pl_put_new {xs ys : List (Sh (List Int))} {u w : List Int} (h : xs.length = ys.length) (hp : place (pz xs ys) (u, w) = xs.length) : pl1 (put (pz xs ys) (u, w)) = xs ++ [Sh.mk u] ∧ pl2 (put (pz xs ys) (u, w)) = ys ++ [Sh.mk w] := by
  unfold put
  rw [if_neg (by rw [pz_len h]; omega)]
  obtain ⟨h1, h2⟩ := pl_pz h
  constructor
  · unfold pl1 at h1 ⊢
    rw [List.map_append, h1]; rfl
  · unfold pl2 at h2 ⊢
    rw [List.map_append, h2]; rfl
theorem pl_put_old {xs ys : List (Sh (List Int))} {u w : List Int} (h : xs.length = ys.length) (hp : place (pz xs ys) (u, w) < xs.length) : pl1 (put (pz xs ys) (u, w)) = xs ∧ pl2 (put (pz xs ys) (u, w)) = ys := by
  unfold put
  rw [if_pos (by rw [pz_len h]; exact hp)]
  exact pl_pz h
end Go.Proofs.YtfpjpbkilahopaaDoor
