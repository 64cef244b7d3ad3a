/- Chapter 4: matching. -/
import Derived.Test.YtogmjihokkdcfaaGreatDoorL02
namespace Go.Proofs.YtogmjihokkdcfaaGreatDoor
open Go Go.Eng
set_option linter.unusedVariables false
set_option linter.unusedSimpArgs false

theorem ne_getD' {xs : List (NE Int)} {m : Nat} : (xs.map NE.xs).getD m [] = (xs.getD m default).xs := by
  rw [List.getD_eq_getElem?_getD, List.getElem?_map, List.getD_eq_getElem?_getD]
  cases xs[m]? <;> rfl

theorem match_bound {a : List Int} : ∀ (p t : List Int) (b : List (List Int)) (ys : List (List Int)), matchGo a p t b = some ys → t.length ≤ 60 → (∀ x ∈ b, x.length ≤ 60) → ys.length = b.length ∧ ∀ x ∈ ys, x.length ≤ 60
  | [], t, b, ys, h, ht, hb => by simp only [matchGo, Option.some.injEq] at h; subst h; exact ⟨rfl, hb⟩
  | n :: p, [], b, ys, h, ht, hb => by simp [matchGo] at h
  | n :: p, x :: ts, b, ys, h, ht, hb => by
    have htl : ts.length ≤ 60 := by simp only [List.length_cons] at ht; omega
    simp only [matchGo] at h
    split at h
    · split at h
      · exact match_bound p ts b ys h htl hb
      · cases h
    · split at h
      · have := match_bound p _ _ ys h (by rw [List.length_drop]; omega) (fun y hy => by
          rcases List.mem_or_eq_of_mem_set hy with h | h
          · exact hb y h
          · rw [h, List.length_take]; omega)
        simpa using this
      · split at h
        · exact match_bound p _ b ys h (by rw [List.length_drop]; omega) hb
        · cases h
theorem rep_nil : (List.replicate 24 (⟨[]⟩ : NE Int)).map NE.xs = List.replicate 24 [] := by rw [List.map_replicate]
theorem rep_le : ∀ x ∈ List.replicate 24 ([] : List Int), x.length ≤ 60 := fun x hx => by rw [(List.mem_replicate.1 hx).2]; simp

theorem set_same' {xs : List (List Int)} {m : Nat} {x : List Int} (h : xs.getD m [] = x) (hm : m < xs.length) : xs.set m x = xs := by
  apply List.ext_getElem?
  intro i
  rw [List.getElem?_set]
  split
  · rename_i e; subst e
    try rw [if_pos hm]
    rw [List.getD_eq_getElem?_getD, List.getElem?_eq_getElem hm] at h
    rw [List.getElem?_eq_getElem hm]
    simp only [Option.getD_some] at h
    rw [h]
  · rfl
def instOf (a p t : List Int) : Bool := (matchOf a p t).isSome
def matchedOf (a p t : List Int) : Option (List (List Int)) := if termOk a p = true ∧ termOk a t = true then matchOf a p t else none
def instanceIn (a p t : List Int) : Bool := (matchedOf a p t).isSome
theorem matched_yes {a p t : List Int} (hp : termOk a p = true) (ht : termOk a t = true) : matchedOf a p t = matchOf a p t := if_pos ⟨hp, ht⟩
theorem matched_no1 {a p t : List Int} (hp : termOk a p = false) : matchedOf a p t = none := if_neg (fun h => by rw [hp] at h; exact absurd h.1 (by simp))
theorem matched_no2 {a p t : List Int} (ht : termOk a t = false) : matchedOf a p t = none := if_neg (fun h => by rw [ht] at h; exact absurd h.2 (by simp))

theorem inst_yes {a p t : List Int} (hp : termOk a p = true) (ht : termOk a t = true) : instanceIn a p t = instOf a p t := by unfold instanceIn instOf; rw [matched_yes hp ht]
theorem inst_no1 {a p t : List Int} (hp : termOk a p = false) : instanceIn a p t = false := by unfold instanceIn; rw [matched_no1 hp]; rfl
theorem inst_no2 {a p t : List Int} (ht : termOk a t = false) : instanceIn a p t = false := by unfold instanceIn; rw [matched_no2 ht]; rfl
def moreGeneral (a p t : List Int) : Bool := instanceIn a p t && !instanceIn a t p
theorem matched_bound (a p t : List Int) : ((matchedOf a p t).getD []).length ≤ 24 ∧ ∀ x ∈ (matchedOf a p t).getD [], x.length ≤ 60 := by
  unfold matchedOf
  split
  · rename_i h
    unfold matchOf
    cases hg : matchGo a p t (List.replicate 24 []) with
    | none => simp
    | some ys =>
      obtain ⟨h1, h2⟩ := match_bound p t _ ys hg (termOk_len h.2).2 rep_le
      rw [List.length_replicate] at h1
      simp only [Option.map_some, Option.getD_some]
      refine ⟨by have := plain_len ys; omega, fun x hx => ?_⟩
      rcases plain_mem hx with h | h
      · rw [h]; simp
      · exact h2 x h
  · simp
theorem siz_le {xs : List (List Int)} {m : Nat} (h : ∀ x ∈ xs, x.length ≤ m) : Siz.size xs ≤ xs.length + xs.length * m := by
  rw [siz_list]
  induction xs with
  | nil => simp [sumL]
  | cons x xs ih =>
    have h1 := h x (by simp)
    have h2 := ih (fun y hy => h y (by simp [hy]))
    simp only [sumL, List.length_cons, siz_ints, Nat.add_mul, Nat.one_mul] at h2 ⊢
    omega
/-- The numbers below k that are chosen. -/
def selTo (f : Nat → Bool) : Nat → List Int
  | 0 => []
  | k + 1 => if f k then selTo f k ++ [(k : Int)] else selTo f k
theorem selTo_len (f : Nat → Bool) : ∀ k, (selTo f k).length ≤ k
  | 0 => by simp [selTo]
  | k + 1 => by
    have := selTo_len f k
    simp only [selTo]
    split <;> simp <;> omega
theorem selTo_yes {f : Nat → Bool} {k : Nat} (h : f k = true) : selTo f (k + 1) = selTo f k ++ [(k : Int)] := if_pos h
theorem selTo_no {f : Nat → Bool} {k : Nat} (h : f k = false) : selTo f (k + 1) = selTo f k := if_neg (by rw [h]; simp)

def embedsIn (a p t : List Int) : List Int := if termOk a p = true ∧ termOk a t = true then selTo (fun k => instOf a p (subt a t k)) t.length else []
theorem embeds_yes {a p t : List Int} (hp : termOk a p = true) (ht : termOk a t = true) : embedsIn a p t = selTo (fun k => instOf a p (subt a t k)) t.length := if_pos ⟨hp, ht⟩
theorem embeds_no1 {a p t : List Int} (hp : termOk a p = false) : embedsIn a p t = [] := if_neg (fun h => by rw [hp] at h; exact absurd h.1 (by simp))
theorem embeds_no2 {a p t : List Int} (ht : termOk a t = false) : embedsIn a p t = [] := if_neg (fun h => by rw [ht] at h; exact absurd h.2 (by simp))
theorem embeds_len (a p t : List Int) : (embedsIn a p t).length ≤ 60 := by
  unfold embedsIn
  split
  · rename_i h
    have := selTo_len (fun k => instOf a p (subt a t k)) t.length
    have := termOk_len h.2
    omega
  · simp
/-! lists of terms -/
def allOk (a : List Int) (ps : List (List Int)) : Bool := ps.all (termOk a)
theorem allOk_step {a : List Int} {ps : List (List Int)} {k : Nat} (hk : k < ps.length) (h : (ps.take k).all (termOk a) = true) (hn : termOk a (ps.getD k default) = true) : (ps.take (k + 1)).all (termOk a) = true := by
  rw [List.take_succ_eq_append_getElem hk, List.all_append, h]
  rw [List.getD_eq_getElem?_getD, List.getElem?_eq_getElem hk] at hn
  simpa using hn
theorem allOk_get {a : List Int} {ps : List (List Int)} (h : allOk a ps = true) {k : Nat} (hk : k < ps.length) : termOk a (ps.getD k default) = true := by
  unfold allOk at h
  rw [List.all_eq_true] at h
  exact h _ (mem_getD hk)
theorem allOk_no {a : List Int} {ps : List (List Int)} {k : Nat} (hk : k < ps.length) (hn : termOk a (ps.getD k default) = false) : allOk a ps = false := by
  cases h : allOk a ps with
  | false => rfl
  | true => rw [allOk_get h hk] at hn; cases hn
def matchedAll (a : List Int) (ps : List (List Int)) (t : List Int) : List Int := if termOk a t = true ∧ allOk a ps = true ∧ ps.length ≤ 12 then selTo (fun k => instOf a (ps.getD k default) t) ps.length else []
theorem mall_yes {a : List Int} {ps : List (List Int)} {t : List Int} (h : termOk a t = true) (h' : allOk a ps = true) (h'' : ps.length ≤ 12) : matchedAll a ps t = selTo (fun k => instOf a (ps.getD k default) t) ps.length := if_pos ⟨h, h', h''⟩
theorem mall_no {a : List Int} {ps : List (List Int)} {t : List Int} (h : ¬ (termOk a t = true ∧ allOk a ps = true ∧ ps.length ≤ 12)) : matchedAll a ps t = [] := if_neg h
theorem mall_len (a : List Int) (ps : List (List Int)) (t : List Int) : (matchedAll a ps t).length ≤ 12 := by
  unfold matchedAll
  split
  · rename_i h
    have := selTo_len (fun k => instOf a (ps.getD k default) t) ps.length
    omega
  · simp
end Go.Proofs.YtogmjihokkdcfaaGreatDoor
