/- What two terms have in common is the best that has both as instances: no program in sight. -/
import Derived.Test.YtfpjpbkilahopaaDoorAug
namespace Go.Proofs.YtfpjpbkilahopaaDoor
open Go Go.Eng
set_option linter.unusedVariables false
set_option linter.unusedSimpArgs false

/-- In one go. -/
def gw (a : List Int) (n : Nat) (s t : List Int) (L : PL) : List Int × PL := gen a s.length n s t L
theorem gw_zero (a : List Int) (L : PL) : gw a 0 [] [] L = ([], L) := gen_zero _ _ _ _ _
theorem gw_cons {a : List Int} {n : Nat} {x : Int} {s t : List Int} (L : PL) (hx : 0 ≤ x) : gw a (n + 1) (x :: s) (x :: t) L = (x :: (gw a (n + (ar a x).toNat) s t L).1, (gw a (n + (ar a x).toNat) s t L).2) := gen_cons a _ n x s t L hx
theorem gw_pair {a : List Int} {n : Nat} {u w s t : List Int} (L : PL) (hu : Tm a u) (hw : Tm a w) (hc : ¬ (u.getD 0 0 = w.getD 0 0 ∧ 0 ≤ u.getD 0 0)) (hs : Frst a s n) (ht : Frst a t n) : gw a (n + 1) (u ++ s) (w ++ t) L = ((-1 - (place L (u, w) : Int)) :: (gw a n s t (put L (u, w))).1, (gw a n s t (put L (u, w))).2) := by
  have := tm_pos hu
  unfold gw
  rw [show (u ++ s).length = (u.length - 1 + s.length) + 1 by rw [List.length_append]; omega, gen_pair a _ n s t L hu hw hc, gen_fuel hs ht _ (u.length - 1 + s.length) s.length (by omega) (Nat.le_refl _)]
theorem gw_split {a : List Int} {n : Nat} {s t : List Int} (hs : Frst a s n) (ht : Frst a t n) {m : Nat} {s' t' : List Int} (hs' : Frst a s' m) (ht' : Frst a t' m) (L : PL) : gw a (n + m) (s ++ s') (t ++ t') L = ((gw a n s t L).1 ++ (gw a m s' t' (gw a n s t L).2).1, (gw a m s' t' (gw a n s t L).2).2) :=
  gen_split hs ht hs' ht' L _ _ _ (by rw [List.length_append]; exact Nat.le_refl _) (Nat.le_refl _) (Nat.le_refl _)
theorem fr_rec {a : List Int} {C : Nat → List Int → List Int → Prop} (h0 : C 0 [] []) (h1 : ∀ n x s t, 0 ≤ x → badS a x = false → Frst a s (n + (ar a x).toNat) → Frst a t (n + (ar a x).toNat) → C (n + (ar a x).toNat) s t → C (n + 1) (x :: s) (x :: t))
    (h2 : ∀ n u s w t, Tm a u → Tm a w → ¬ (u.getD 0 0 = w.getD 0 0 ∧ 0 ≤ u.getD 0 0) → Frst a s n → Frst a t n → C n s t → C (n + 1) (u ++ s) (w ++ t)) {n : Nat} {s t : List Int} (hs : Frst a s n) (ht : Frst a t n) : C n s t := fr_ind h0 h1 h2 s.length n s t (Nat.le_refl _) hs ht
theorem gw_pre {a : List Int} {n : Nat} {s t : List Int} (hs : Frst a s n) (ht : Frst a t n) : ∀ L : PL, ∃ M, (gw a n s t L).2 = L ++ M := by
  refine fr_rec (C := fun n s t => ∀ L : PL, ∃ M, (gw a n s t L).2 = L ++ M) ?_ ?_ ?_ hs ht
  · intro L; exact ⟨[], by rw [gw_zero]; simp⟩
  · intro n x s t hx _ _ _ ih L; rw [gw_cons L hx]; exact ih L
  · intro n u s w t hu hw hc hs ht ih L
    rw [gw_pair L hu hw hc hs ht]
    obtain ⟨M, hM⟩ := ih (put L (u, w))
    obtain ⟨M', hM'⟩ := put_pre L (u, w)
    exact ⟨M' ++ M, by rw [← List.append_assoc, ← hM']; exact hM⟩
def PTm (a : List Int) (L : PL) : Prop := ∀ p ∈ L, Tm a p.1 ∧ Tm a p.2
theorem put_mem {L : PL} {p q : List Int × List Int} (h : q ∈ put L p) : q ∈ L ∨ q = p := by
  unfold put at h
  split at h
  · exact .inl h
  · rcases List.mem_append.1 h with h | h
    · exact .inl h
    · exact .inr (by simpa using h)
theorem gw_ptm {a : List Int} {n : Nat} {s t : List Int} (hs : Frst a s n) (ht : Frst a t n) : ∀ L : PL, PTm a L → PTm a (gw a n s t L).2 := by
  refine fr_rec (C := fun n s t => ∀ L : PL, PTm a L → PTm a (gw a n s t L).2) ?_ ?_ ?_ hs ht
  · intro L h; rw [gw_zero]; exact h
  · intro n x s t hx _ _ _ ih L h; rw [gw_cons L hx]; exact ih L h
  · intro n u s w t hu hw hc hs ht ih L h
    rw [gw_pair L hu hw hc hs ht]
    refine ih _ fun p hp => ?_
    rcases put_mem hp with h1 | h1
    · exact h p h1
    · rw [h1]; exact ⟨hu, hw⟩
theorem gw_len {a : List Int} {n : Nat} {s t : List Int} (hs : Frst a s n) (ht : Frst a t n) : ∀ L : PL, (gw a n s t L).1.length ≤ s.length ∧ (gw a n s t L).2.length ≤ L.length + s.length ∧ (gw a n s t L).1.length ≤ t.length := by
  refine fr_rec (C := fun n s t => ∀ L : PL, (gw a n s t L).1.length ≤ s.length ∧ (gw a n s t L).2.length ≤ L.length + s.length ∧ (gw a n s t L).1.length ≤ t.length) ?_ ?_ ?_ hs ht
  · intro L; rw [gw_zero]; simp
  · intro n x s t hx _ _ _ ih L; rw [gw_cons L hx]; have := ih L; simp only [List.length_cons]; omega
  · intro n u s w t hu hw hc hs ht ih L
    rw [gw_pair L hu hw hc hs ht]
    have h1 := tm_pos hu
    have h2 := tm_pos hw
    have h3 := ih (put L (u, w))
    have h4 : (put L (u, w)).length ≤ L.length + 1 := by
      unfold put
      split
      · omega
      · simp
    simp only [List.length_cons, List.length_append]
    omega
theorem gw_fo {a : List Int} {n : Nat} {s t : List Int} (hs : Frst a s n) (ht : Frst a t n) : ∀ L : PL, (gw a n s t L).2.length ≤ 24 → Frst a (gw a n s t L).1 n := by
  refine fr_rec (C := fun n s t => ∀ L : PL, (gw a n s t L).2.length ≤ 24 → Frst a (gw a n s t L).1 n) ?_ ?_ ?_ hs ht
  · intro L _; rw [gw_zero]; exact fr_nil
  · intro n x s t hx hb _ _ ih L h
    rw [gw_cons L hx] at h ⊢
    exact fr_cons' hb (ih L h)
  · intro n u s w t hu hw hc hs ht ih L h
    rw [gw_pair L hu hw hc hs ht] at h ⊢
    simp only at h ⊢
    obtain ⟨M, hM⟩ := gw_pre hs ht (put L (u, w))
    have h1 := put_get L (u, w)
    have h2 := List.getElem?_eq_some_iff.1 h1
    obtain ⟨h3, _⟩ := h2
    rw [hM, List.length_append] at h
    have hv : Tm a [-1 - (place L (u, w) : Int)] := tm_var ⟨by omega, by omega⟩
    have := fr_app hv (ih _ (by rw [hM, List.length_append]; exact h))
    rw [Nat.add_comm] at this
    exact this
/-- The one end, from the pairs. -/
def lookP (pr : List Int × List Int → List Int) (L : PL) (n : Int) : List Int := if n < 0 then match L[(-1 - n).toNat]? with | some p => pr p | none => [n] else [n]
theorem lookP_pos {pr : List Int × List Int → List Int} {L : PL} {n : Int} (h : 0 ≤ n) : lookP pr L n = [n] := if_neg (by omega)
theorem lookP_at {pr : List Int × List Int → List Int} {L : PL} {i : Nat} {p : List Int × List Int} (h : L[i]? = some p) : lookP pr L (-1 - (i : Int)) = pr p := by
  unfold lookP
  rw [if_pos (by omega), show (-1 - (-1 - (i : Int))).toNat = i by omega, h]
theorem gw_fst {a : List Int} {n : Nat} {s t : List Int} (hs : Frst a s n) (ht : Frst a t n) : ∀ (L M : PL), (∃ M', M = (gw a n s t L).2 ++ M') → fm (lookP Prod.fst M) (gw a n s t L).1 = s ∧ fm (lookP Prod.snd M) (gw a n s t L).1 = t := by
  refine fr_rec (C := fun n s t => ∀ (L M : PL), (∃ M', M = (gw a n s t L).2 ++ M') → fm (lookP Prod.fst M) (gw a n s t L).1 = s ∧ fm (lookP Prod.snd M) (gw a n s t L).1 = t) ?_ ?_ ?_ hs ht
  · intro L M _; rw [gw_zero]; exact ⟨rfl, rfl⟩
  · intro n x s t hx hb _ _ ih L M h
    rw [gw_cons L hx] at h ⊢
    obtain ⟨h1, h2⟩ := ih L M h
    simp only [fm_cons, lookP_pos hx, h1, h2, List.singleton_append, and_self]
  · intro n u s w t hu hw hc hs ht ih L M h
    rw [gw_pair L hu hw hc hs ht] at h ⊢
    obtain ⟨h1, h2⟩ := ih _ M h
    obtain ⟨M', rfl⟩ := h
    obtain ⟨M2, hM⟩ := gw_pre hs ht (put L (u, w))
    have h3 := put_get L (u, w)
    have h4 : ((gw a n s t (put L (u, w))).2 ++ M')[place L (u, w)]? = some (u, w) := by
      rw [hM, List.append_assoc]
      obtain ⟨h5, h6⟩ := List.getElem?_eq_some_iff.1 h3
      rw [List.getElem?_append_left h5]
      exact h3
    simp only at h1 h2 ⊢
    rw [fm_cons, fm_cons, lookP_at h4, lookP_at h4, h1, h2]
    exact ⟨rfl, rfl⟩
theorem sb_look {a : List Int} {L : PL} (h : PTm a L) : Sb a (lookP Prod.fst L) ∧ Sb a (lookP Prod.snd L) := by
  have key : ∀ pr : List Int × List Int → List Int, (∀ p ∈ L, Tm a (pr p)) → Sb a (lookP pr L) := fun pr hp => ⟨fun n hn => lookP_pos hn, fun n h1 h2 => by
    unfold lookP
    rw [if_pos h2]
    cases e : L[(-1 - n).toNat]? with
    | none => exact tm_var ⟨h1, h2⟩
    | some p => exact hp p (List.mem_of_getElem? e)⟩
  exact ⟨key _ fun p hp => (h p hp).1, key _ fun p hp => (h p hp).2⟩
theorem gw_sw {a : List Int} {n : Nat} {s t : List Int} (hs : Frst a s n) (ht : Frst a t n) : ∀ L : PL, gw a n t s (L.map sw) = ((gw a n s t L).1, (gw a n s t L).2.map sw) := by
  refine fr_rec (C := fun n s t => ∀ L : PL, gw a n t s (L.map sw) = ((gw a n s t L).1, (gw a n s t L).2.map sw)) ?_ ?_ ?_ hs ht
  · intro L; rw [gw_zero, gw_zero]
  · intro n x s t hx hb _ _ ih L; rw [gw_cons _ hx, gw_cons _ hx, ih L]
  · intro n u s w t hu hw hc hs ht ih L
    rw [gw_pair L hu hw hc hs ht, gw_pair _ hw hu (fun h => hc ⟨h.1.symm, by rw [← h.1]; exact h.2⟩) ht hs]
    have e : ((w, u) : List Int × List Int) = sw (u, w) := rfl
    rw [e, place_sw, put_sw, ih]
/-- Met already: nothing is put. -/
theorem gw_stay {a : List Int} {n : Nat} {s t : List Int} (hs : Frst a s n) (ht : Frst a t n) : ∀ L M : PL, (∃ M', M = (gw a n s t L).2 ++ M') → gw a n s t M = ((gw a n s t L).1, M) := by
  refine fr_rec (C := fun n s t => ∀ L M : PL, (∃ M', M = (gw a n s t L).2 ++ M') → gw a n s t M = ((gw a n s t L).1, M)) ?_ ?_ ?_ hs ht
  · intro L M _; rw [gw_zero, gw_zero]
  · intro n x s t hx hb _ _ ih L M h
    rw [gw_cons L hx] at h
    rw [gw_cons _ hx, gw_cons _ hx, ih L M h]
  · intro n u s w t hu hw hc hs ht ih L M h
    rw [gw_pair L hu hw hc hs ht] at h
    simp only at h
    have hp : place M (u, w) = place L (u, w) := put_place (by
      obtain ⟨M', rfl⟩ := h
      obtain ⟨M2, hM⟩ := gw_pre hs ht (put L (u, w))
      exact ⟨M2 ++ M', by rw [hM, List.append_assoc]⟩)
    have hq : put M (u, w) = M := by
      unfold put
      rw [if_pos]
      rw [hp]
      obtain ⟨M', rfl⟩ := h
      obtain ⟨M2, hM⟩ := gw_pre hs ht (put L (u, w))
      obtain ⟨h5, _⟩ := List.getElem?_eq_some_iff.1 (put_get L (u, w))
      rw [hM, List.length_append, List.length_append]
      omega
    rw [gw_pair M hu hw hc hs ht, gw_pair L hu hw hc hs ht, hq, hp, ih _ M h]
/-- Of one above both. -/
theorem gw_best {a : List Int} {α β : Int → List Int} (hα : Sb a α) (hβ : Sb a β) (M : PL) : ∀ (p : List Int) (n : Nat), Frst a p n → (gw a n (fm α p) (fm β p) M).2 = M → (gw a n (fm α p) (fm β p) M).1 = fm (fun m => if m < 0 then (gw a 1 (α m) (β m) M).1 else [m]) p ∧ ∀ m ∈ p, m < 0 → (gw a 1 (α m) (β m) M).2 = M
  | [], 0, _, _ => ⟨by simp [fm_nil, gw_zero], fun m hm => absurd hm List.not_mem_nil⟩
  | [], n + 1, h, _ => absurd h fr_ne
  | x :: p, 0, h, _ => absurd (fr_zero h) (by simp)
  | x :: p, n + 1, h, hM => by
    obtain ⟨hb, hp⟩ := fr_cons h
    by_cases hx : 0 ≤ x
    · rw [fm_cons, fm_cons, hα.pos x hx, hβ.pos x hx, List.singleton_append, List.singleton_append, gw_cons M hx] at hM ⊢
      obtain ⟨h1, h2⟩ := gw_best hα hβ M p _ hp hM
      refine ⟨?_, fun m hm h0 => ?_⟩
      · simp only
        rw [h1, fm_cons, if_neg (by omega)]; rfl
      · rcases List.mem_cons.1 hm with e | e
        · omega
        · exact h2 m e h0
    · have hx1 : -24 ≤ x := by simp [badS] at hb; omega
      rw [ar_var (by omega)] at hp
      have h1 : Frst a (α x) 1 := hα.tm x hx1 (by omega)
      have h2 : Frst a (β x) 1 := hβ.tm x hx1 (by omega)
      have h3 : Frst a (fm α p) n := skp_fm hα p n hp
      have h4 : Frst a (fm β p) n := skp_fm hβ p n hp
      rw [fm_cons, fm_cons, Nat.add_comm n 1, gw_split h1 h2 h3 h4] at hM ⊢
      simp only at hM ⊢
      obtain ⟨M1, e1⟩ := gw_pre h1 h2 M
      obtain ⟨M2, e2⟩ := gw_pre h3 h4 (gw a 1 (α x) (β x) M).2
      have e3 : (gw a 1 (α x) (β x) M).2 = M := by
        rw [e2, e1] at hM
        have := congrArg List.length hM
        simp only [List.length_append] at this
        have : M1 = [] := List.eq_nil_of_length_eq_zero (by omega)
        rw [e1, this]; simp
      rw [e3] at hM ⊢
      obtain ⟨h5, h6⟩ := gw_best hα hβ M p n hp hM
      refine ⟨by rw [h5, fm_cons, if_pos (by omega)], fun m hm h0 => ?_⟩
      rcases List.mem_cons.1 hm with e | e
      · rw [e]; exact e3
      · exact h6 m e h0
end Go.Proofs.YtfpjpbkilahopaaDoor
