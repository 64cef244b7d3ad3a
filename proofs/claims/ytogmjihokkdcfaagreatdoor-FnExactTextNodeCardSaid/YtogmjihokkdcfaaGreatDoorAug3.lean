/- What two terms have in common: no program in sight. -/
import Derived.Test.YtogmjihokkdcfaaGreatDoorUni
import Derived.Test.YtogmjihokkdcfaaGreatDoorEngW
import Derived.Test.YtogmjihokkdcfaaGreatDoorKidsG
namespace Go.Proofs.YtogmjihokkdcfaaGreatDoor
open Go Go.Eng
set_option linter.unusedVariables false
set_option linter.unusedSimpArgs false

/-- So many terms, one behind the other, and no more. -/
def Frst (a l : List Int) (n : Nat) : Prop := skp a (badS a) l n = (true, l.length)
theorem fr_zero {a l : List Int} (h : Frst a l 0) : l = [] := by
  unfold Frst at h
  have := congrArg Prod.snd h
  cases l with
  | nil => rfl
  | cons x xs => simp [skp] at this
theorem fr_nil {a : List Int} : Frst a [] 0 := by simp [Frst, skp]
theorem fr_cons {a xs : List Int} {x : Int} {n : Nat} (h : Frst a (x :: xs) (n + 1)) : badS a x = false ∧ Frst a xs (n + (ar a x).toNat) := by
  unfold Frst at h ⊢
  unfold skp at h
  by_cases hb : badS a x = true
  · simp [hb] at h
  · rw [if_neg hb] at h
    refine ⟨by simpa using hb, ?_⟩
    injection h with h1 h2
    simp only [List.length_cons] at h2
    exact Prod.ext h1 (by simpa using h2)
theorem fr_cons' {a xs : List Int} {x : Int} {n : Nat} (hb : badS a x = false) (h : Frst a xs (n + (ar a x).toNat)) : Frst a (x :: xs) (n + 1) := by
  unfold Frst at h ⊢
  unfold skp
  rw [if_neg (by rw [hb]; simp), h]
  simp
theorem fr_ne {a : List Int} {n : Nat} : ¬ Frst a [] (n + 1) := by simp [Frst, skp]
theorem fr_app {a s s' : List Int} {n m : Nat} (h : Frst a s n) (h' : Frst a s' m) : Frst a (s ++ s') (n + m) := by
  unfold Frst at h h' ⊢
  have e := skp_app a (badS a) s' s n (by rw [h])
  rw [skp_split, e, h]
  simp [h']
theorem fr_first {a s : List Int} {n : Nat} (h : Frst a s (n + 1)) : ∃ u s', s = u ++ s' ∧ Tm a u ∧ Frst a s' n := by
  unfold Frst at h
  have h1 := skp_split a (badS a) s 1 n
  rw [Nat.add_comm 1 n, h] at h1
  by_cases h2 : (skp a (badS a) s 1).1 = true
  · rw [if_pos h2] at h1
    injection h1 with h3 h4
    have hle := skp_le a (badS a) s 1
    have ht := skp_take s 1 (skp a (badS a) s 1).2 (Nat.le_refl _) h2
    refine ⟨s.take (skp a (badS a) s 1).2, s.drop (skp a (badS a) s 1).2, (List.take_append_drop _ _).symm, ?_, ?_⟩
    · unfold Tm
      rw [ht, List.length_take, Nat.min_eq_left hle]
      exact Prod.ext h2 rfl
    · unfold Frst
      refine Prod.ext h3.symm ?_
      rw [List.length_drop]
      omega
  · rw [if_neg h2] at h1
    rw [← h1] at h2
    exact absurd rfl h2
theorem tm_fo {a u : List Int} : Tm a u ↔ Frst a u 1 := Iff.rfl
theorem first_sz {a u s : List Int} (h : Tm a u) : sz a (u ++ s) 0 = u.length ∧ subt a (u ++ s) 0 = u ∧ (u ++ s).drop (sz a (u ++ s) 0) = s := by
  have e : sz a (u ++ s) 0 = u.length := by
    unfold sz
    rw [List.drop_zero, skp_app a (badS a) s u 1 (by rw [h]), h]
  refine ⟨e, ?_, ?_⟩
  · unfold subt; rw [e]; simp
  · rw [e]; simp

abbrev PL : Type := List (List Int × List Int)
def place : PL → List Int × List Int → Nat
  | [], _ => 0
  | x :: xs, p => if x = p then 0 else place xs p + 1
theorem place_le : ∀ (L : PL) (p : List Int × List Int), place L p ≤ L.length
  | [], p => Nat.le_refl _
  | x :: xs, p => by
    unfold place
    split
    · simp
    · have := place_le xs p
      simp; exact this
theorem place_get : ∀ {L : PL} {p : List Int × List Int}, place L p < L.length → L[place L p]? = some p
  | [], p, h => by simp [place] at h
  | x :: xs, p, h => by
    unfold place at h ⊢
    by_cases e : x = p
    · rw [if_pos e]; simp [e]
    · rw [if_neg e] at h ⊢
      simp only [List.length_cons] at h
      rw [List.getElem?_cons_succ]
      exact place_get (by omega)
theorem place_app : ∀ {L M : PL} {p : List Int × List Int}, place L p < L.length → place (L ++ M) p = place L p
  | [], M, p, h => by simp [place] at h
  | x :: xs, M, p, h => by
    rw [List.cons_append]
    unfold place at h ⊢
    by_cases e : x = p
    · rw [if_pos e, if_pos e]
    · rw [if_neg e] at h
      rw [if_neg e, if_neg e, place_app (by simpa using h)]
theorem place_new : ∀ {L M : PL} {p : List Int × List Int}, place L p = L.length → place (L ++ p :: M) p = L.length
  | [], M, p, h => by simp [place]
  | x :: xs, M, p, h => by
    rw [List.cons_append]
    unfold place at h ⊢
    by_cases e : x = p
    · rw [if_pos e] at h; simp at h
    · rw [if_neg e] at h ⊢
      simp only [List.length_cons] at h ⊢
      rw [place_new (by omega)]
theorem place_at : ∀ {L : PL} {p : List Int × List Int} {k : Nat}, k ≤ L.length → (∀ j, j < k → L[j]? ≠ some p) → k ≤ place L p
  | [], p, k, h, _ => by simp at h; omega
  | x :: xs, p, 0, _, _ => Nat.zero_le _
  | x :: xs, p, k + 1, h, hn => by
    unfold place
    have h0 := hn 0 (by omega)
    rw [if_neg (fun e => h0 (by simp [e]))]
    have := place_at (L := xs) (p := p) (k := k) (by simpa using h) (fun j hj => by
      have := hn (j + 1) (by omega)
      simpa using this)
    omega
theorem place_lt : ∀ {L : PL} {p : List Int × List Int} {k : Nat}, L[k]? = some p → place L p ≤ k
  | [], p, k, h => by simp at h
  | x :: xs, p, 0, h => by
    unfold place
    rw [if_pos (by simpa using h)]
    exact Nat.le_refl _
  | x :: xs, p, k + 1, h => by
    unfold place
    split
    · omega
    · have := place_lt (L := xs) (p := p) (k := k) (by simpa using h)
      omega
def put (L : PL) (p : List Int × List Int) : PL := if place L p < L.length then L else L ++ [p]
theorem put_get (L : PL) (p : List Int × List Int) : (put L p)[place L p]? = some p := by
  unfold put
  split
  · rename_i h; exact place_get h
  · rename_i h
    have := place_le L p
    rw [show place L p = L.length by omega]; simp
theorem put_pre (L : PL) (p : List Int × List Int) : ∃ M, put L p = L ++ M := by
  unfold put
  split
  · exact ⟨[], by simp⟩
  · exact ⟨[p], rfl⟩
theorem put_place {L M : PL} {p : List Int × List Int} (h : ∃ M', M = put L p ++ M') : place M p = place L p := by
  obtain ⟨M', rfl⟩ := h
  unfold put
  split
  · rename_i h; exact place_app h
  · rename_i h
    have := place_le L p
    rw [List.append_assoc, List.singleton_append, place_new (by omega)]; omega
def sw (p : List Int × List Int) : List Int × List Int := (p.2, p.1)
theorem place_sw : ∀ (L : PL) (p : List Int × List Int), place (L.map sw) (sw p) = place L p
  | [], p => rfl
  | x :: xs, p => by
    rw [List.map_cons]
    unfold place
    by_cases e : x = p
    · rw [if_pos e, if_pos (by rw [e])]
    · rw [if_neg e, if_neg (fun h => e (by
        have h1 := congrArg Prod.fst h
        have h2 := congrArg Prod.snd h
        exact Prod.ext h2 h1)), place_sw]
theorem put_sw (L : PL) (p : List Int × List Int) : put (L.map sw) (sw p) = (put L p).map sw := by
  unfold put
  rw [place_sw, List.length_map]
  split
  · rfl
  · simp
/-- What so many terms have in common, and the pairs that were met. -/
def gen (a : List Int) : Nat → Nat → List Int → List Int → PL → List Int × PL
  | 0, _, _, _, L => ([], L)
  | _ + 1, 0, _, _, L => ([], L)
  | f + 1, n + 1, s, t, L => if s.getD 0 0 = t.getD 0 0 ∧ 0 ≤ s.getD 0 0 then
      (s.getD 0 0 :: (gen a f (n + (ar a (s.getD 0 0)).toNat) (s.drop 1) (t.drop 1) L).1, (gen a f (n + (ar a (s.getD 0 0)).toNat) (s.drop 1) (t.drop 1) L).2)
    else ((-1 - (place L (subt a s 0, subt a t 0) : Int)) :: (gen a f n (s.drop (sz a s 0)) (t.drop (sz a t 0)) (put L (subt a s 0, subt a t 0))).1, (gen a f n (s.drop (sz a s 0)) (t.drop (sz a t 0)) (put L (subt a s 0, subt a t 0))).2)
theorem gen_zero (a : List Int) (f : Nat) (s t : List Int) (L : PL) : gen a f 0 s t L = ([], L) := by cases f <;> rfl
/-- The two ways on. -/
theorem fr_ind {a : List Int} {C : Nat → List Int → List Int → Prop} (h0 : C 0 [] []) (h1 : ∀ n x s t, 0 ≤ x → badS a x = false → Frst a s (n + (ar a x).toNat) → Frst a t (n + (ar a x).toNat) → C (n + (ar a x).toNat) s t → C (n + 1) (x :: s) (x :: t))
    (h2 : ∀ n u s w t, Tm a u → Tm a w → ¬ (u.getD 0 0 = w.getD 0 0 ∧ 0 ≤ u.getD 0 0) → Frst a s n → Frst a t n → C n s t → C (n + 1) (u ++ s) (w ++ t)) : ∀ (f n : Nat) (s t : List Int), s.length ≤ f → Frst a s n → Frst a t n → C n s t
  | f, 0, s, t, _, hs, ht => by rw [fr_zero hs, fr_zero ht]; exact h0
  | 0, n + 1, s, t, hf, hs, _ => by
    have : s = [] := List.eq_nil_of_length_eq_zero (by omega)
    rw [this] at hs
    exact absurd hs fr_ne
  | f + 1, n + 1, s, t, hf, hs, ht => by
    obtain ⟨u, s', rfl, hu, hs'⟩ := fr_first hs
    obtain ⟨w, t', rfl, hw, ht'⟩ := fr_first ht
    have hul := tm_pos hu
    have hwl := tm_pos hw
    by_cases hc : u.getD 0 0 = w.getD 0 0 ∧ 0 ≤ u.getD 0 0
    · obtain ⟨x, u', rfl⟩ : ∃ x u', u = x :: u' := by
        cases u with
        | nil => simp at hul
        | cons x u' => exact ⟨x, u', rfl⟩
      obtain ⟨y, w', rfl⟩ : ∃ y w', w = y :: w' := by
        cases w with
        | nil => simp at hwl
        | cons y w' => exact ⟨y, w', rfl⟩
      simp only [List.getD_cons_zero] at hc
      obtain ⟨rfl, hx⟩ := hc
      rw [List.cons_append] at hs ht hf ⊢
      rw [List.cons_append]
      obtain ⟨hb, hs2⟩ := fr_cons hs
      obtain ⟨_, ht2⟩ := fr_cons ht
      exact h1 n x _ _ hx hb hs2 ht2 (fr_ind h0 h1 h2 f _ _ _ (by simpa using hf) hs2 ht2)
    · rw [List.length_append] at hf
      exact h2 n u s' w t' hu hw hc hs' ht' (fr_ind h0 h1 h2 f n s' t' (by omega) hs' ht')
theorem gen_cons (a : List Int) (f n : Nat) (x : Int) (s t : List Int) (L : PL) (hx : 0 ≤ x) : gen a (f + 1) (n + 1) (x :: s) (x :: t) L = (x :: (gen a f (n + (ar a x).toNat) s t L).1, (gen a f (n + (ar a x).toNat) s t L).2) := by
  conv => lhs; unfold gen
  simp only [List.getD_cons_zero]
  rw [if_pos ⟨trivial, hx⟩]
  rfl
theorem gen_pair (a : List Int) (f n : Nat) {u w : List Int} (s t : List Int) (L : PL) (hu : Tm a u) (hw : Tm a w) (hc : ¬ (u.getD 0 0 = w.getD 0 0 ∧ 0 ≤ u.getD 0 0)) : gen a (f + 1) (n + 1) (u ++ s) (w ++ t) L = ((-1 - (place L (u, w) : Int)) :: (gen a f n s t (put L (u, w))).1, (gen a f n s t (put L (u, w))).2) := by
  have hul := tm_pos hu
  have hwl := tm_pos hw
  have eu : (u ++ s).getD 0 0 = u.getD 0 0 := by
    cases u with
    | nil => simp at hul
    | cons x u' => rfl
  have ew : (w ++ t).getD 0 0 = w.getD 0 0 := by
    cases w with
    | nil => simp at hwl
    | cons x u' => rfl
  conv => lhs; unfold gen
  rw [eu, ew, if_neg hc, (first_sz hu).2.1, (first_sz hw).2.1, (first_sz hu).2.2, (first_sz hw).2.2]
theorem gen_fuel {a : List Int} {n : Nat} {s t : List Int} (hs : Frst a s n) (ht : Frst a t n) : ∀ (L : PL) (f g : Nat), s.length ≤ f → s.length ≤ g → gen a f n s t L = gen a g n s t L := by
  refine fr_ind (a := a) (C := fun n s t => ∀ (L : PL) (f g : Nat), s.length ≤ f → s.length ≤ g → gen a f n s t L = gen a g n s t L) ?_ ?_ ?_ s.length n s t (Nat.le_refl _) hs ht
  · intro L f g _ _; rw [gen_zero, gen_zero]
  · intro n x s t hx _ _ _ ih L f g hf hg
    obtain ⟨f', rfl⟩ : ∃ f', f = f' + 1 := ⟨f - 1, by simp at hf; omega⟩
    obtain ⟨g', rfl⟩ : ∃ f', g = f' + 1 := ⟨g - 1, by simp at hg; omega⟩
    rw [gen_cons a f' n x s t L hx, gen_cons a g' n x s t L hx, ih L f' g' (by simpa using hf) (by simpa using hg)]
  · intro n u s w t hu hw hc _ _ ih L f g hf hg
    have := tm_pos hu
    rw [List.length_append] at hf hg
    obtain ⟨f', rfl⟩ : ∃ f', f = f' + 1 := ⟨f - 1, by omega⟩
    obtain ⟨g', rfl⟩ : ∃ f', g = f' + 1 := ⟨g - 1, by omega⟩
    rw [gen_pair a f' n s t L hu hw hc, gen_pair a g' n s t L hu hw hc, ih _ f' g' (by omega) (by omega)]
theorem gen_split {a : List Int} {n : Nat} {s t : List Int} (hs : Frst a s n) (ht : Frst a t n) {m : Nat} {s' t' : List Int} (hs' : Frst a s' m) (ht' : Frst a t' m) : ∀ (L : PL) (f g h : Nat), s.length + s'.length ≤ f → s.length ≤ g → s'.length ≤ h → gen a f (n + m) (s ++ s') (t ++ t') L = ((gen a g n s t L).1 ++ (gen a h m s' t' (gen a g n s t L).2).1, (gen a h m s' t' (gen a g n s t L).2).2) := by
  refine fr_ind (a := a) (C := fun n s t => ∀ (L : PL) (f g h : Nat), s.length + s'.length ≤ f → s.length ≤ g → s'.length ≤ h → gen a f (n + m) (s ++ s') (t ++ t') L = ((gen a g n s t L).1 ++ (gen a h m s' t' (gen a g n s t L).2).1, (gen a h m s' t' (gen a g n s t L).2).2)) ?_ ?_ ?_ s.length n s t (Nat.le_refl _) hs ht
  · intro L f g h hf _ hh
    rw [gen_zero, Nat.zero_add, List.nil_append, List.nil_append, List.nil_append, gen_fuel hs' ht' L f h (by simpa using hf) hh]
  · intro n x s t hx _ _ _ ih L f g h hf hg hh
    obtain ⟨f', rfl⟩ : ∃ f', f = f' + 1 := ⟨f - 1, by simp at hf; omega⟩
    obtain ⟨g', rfl⟩ : ∃ f', g = f' + 1 := ⟨g - 1, by simp at hg; omega⟩
    have := ih L f' g' h (by simp at hf; omega) (by simpa using hg) hh
    rw [List.cons_append, List.cons_append, Nat.add_right_comm, gen_cons a f' (n + m) x _ _ L hx, gen_cons a g' n x s t L hx, show n + m + (ar a x).toNat = n + (ar a x).toNat + m by omega, this]
    rfl
  · intro n u s w t hu hw hc _ _ ih L f g h hf hg hh
    have := tm_pos hu
    rw [List.length_append] at hf hg
    obtain ⟨f', rfl⟩ : ∃ f', f = f' + 1 := ⟨f - 1, by omega⟩
    obtain ⟨g', rfl⟩ : ∃ f', g = f' + 1 := ⟨g - 1, by omega⟩
    rw [List.append_assoc, List.append_assoc, Nat.add_right_comm, gen_pair a f' (n + m) _ _ L hu hw hc, gen_pair a g' n s t L hu hw hc, ih _ f' g' h (by omega) (by omega) hh]
    rfl
end Go.Proofs.YtogmjihokkdcfaaGreatDoor
namespace Go.Proofs.YtogmjihokkdcfaaGreatDoor
open Go Go.Eng
set_option linter.unusedVariables false
set_option linter.unusedSimpArgs false

/-- In one go. -/
def gw (a : List Int) (n : Nat) (s t : List Int) (L : PL) : List Int × PL := gen a s.length n s t L
theorem gw_zero (a : List Int) (L : PL) : gw a 0 [] [] L = ([], L) := gen_zero _ _ _ _ _
theorem gw_cons {a : List Int} {n : Nat} {x : Int} {s t : List Int} (L : PL) (hx : 0 ≤ x) : gw a (n + 1) (x :: s) (x :: t) L = (x :: (gw a (n + (ar a x).toNat) s t L).1, (gw a (n + (ar a x).toNat) s t L).2) := gen_cons a _ n x s t L hx
theorem gw_pair {a : List Int} {n : Nat} {u w s t : List Int} (L : PL) (hu : Tm a u) (hw : Tm a w) (hc : ¬ (u.getD 0 0 = w.getD 0 0 ∧ 0 ≤ u.getD 0 0)) (hs : Frst a s n) (ht : Frst a t n) : gw a (n + 1) (u ++ s) (w ++ t) L = ((-1 - (place L (u, w) : Int)) :: (gw a n s t (put L (u, w))).1, (gw a n s t (put L (u, w))).2) := by
  have := tm_pos hu
  unfold gw
  rw [show (u ++ s).length = (u.length - 1 + s.length) + 1 by rw [List.length_append]; omega, gen_pair a _ n s t L hu hw hc, gen_fuel hs ht _ (u.length - 1 + s.length) s.length (by omega) (Nat.le_refl _)]
theorem gw_split {a : List Int} {n : Nat} {s t : List Int} (hs : Frst a s n) (ht : Frst a t n) {m : Nat} {s' t' : List Int} (hs' : Frst a s' m) (ht' : Frst a t' m) (L : PL) : gw a (n + m) (s ++ s') (t ++ t') L = ((gw a n s t L).1 ++ (gw a m s' t' (gw a n s t L).2).1, (gw a m s' t' (gw a n s t L).2).2) :=
  gen_split hs ht hs' ht' L _ _ _ (by rw [List.length_append]; exact Nat.le_refl _) (Nat.le_refl _) (Nat.le_refl _)
theorem fr_rec {a : List Int} {C : Nat → List Int → List Int → Prop} (h0 : C 0 [] []) (h1 : ∀ n x s t, 0 ≤ x → badS a x = false → Frst a s (n + (ar a x).toNat) → Frst a t (n + (ar a x).toNat) → C (n + (ar a x).toNat) s t → C (n + 1) (x :: s) (x :: t))
    (h2 : ∀ n u s w t, Tm a u → Tm a w → ¬ (u.getD 0 0 = w.getD 0 0 ∧ 0 ≤ u.getD 0 0) → Frst a s n → Frst a t n → C n s t → C (n + 1) (u ++ s) (w ++ t)) {n : Nat} {s t : List Int} (hs : Frst a s n) (ht : Frst a t n) : C n s t := fr_ind h0 h1 h2 s.length n s t (Nat.le_refl _) hs ht
theorem gw_pre {a : List Int} {n : Nat} {s t : List Int} (hs : Frst a s n) (ht : Frst a t n) : ∀ L : PL, ∃ M, (gw a n s t L).2 = L ++ M := by
  refine fr_rec (C := fun n s t => ∀ L : PL, ∃ M, (gw a n s t L).2 = L ++ M) ?_ ?_ ?_ hs ht
  · intro L; exact ⟨[], by rw [gw_zero]; simp⟩
  · intro n x s t hx _ _ _ ih L; rw [gw_cons L hx]; exact ih L
  · intro n u s w t hu hw hc hs ht ih L
    rw [gw_pair L hu hw hc hs ht]
    obtain ⟨M, hM⟩ := ih (put L (u, w))
    obtain ⟨M', hM'⟩ := put_pre L (u, w)
    exact ⟨M' ++ M, by rw [← List.append_assoc, ← hM']; exact hM⟩
def PTm (a : List Int) (L : PL) : Prop := ∀ p ∈ L, Tm a p.1 ∧ Tm a p.2
theorem put_mem {L : PL} {p q : List Int × List Int} (h : q ∈ put L p) : q ∈ L ∨ q = p := by
  unfold put at h
  split at h
  · exact .inl h
  · rcases List.mem_append.1 h with h | h
    · exact .inl h
    · exact .inr (by simpa using h)
theorem gw_ptm {a : List Int} {n : Nat} {s t : List Int} (hs : Frst a s n) (ht : Frst a t n) : ∀ L : PL, PTm a L → PTm a (gw a n s t L).2 := by
  refine fr_rec (C := fun n s t => ∀ L : PL, PTm a L → PTm a (gw a n s t L).2) ?_ ?_ ?_ hs ht
  · intro L h; rw [gw_zero]; exact h
  · intro n x s t hx _ _ _ ih L h; rw [gw_cons L hx]; exact ih L h
  · intro n u s w t hu hw hc hs ht ih L h
    rw [gw_pair L hu hw hc hs ht]
    refine ih _ fun p hp => ?_
    rcases put_mem hp with h1 | h1
    · exact h p h1
    · rw [h1]; exact ⟨hu, hw⟩
theorem gw_len {a : List Int} {n : Nat} {s t : List Int} (hs : Frst a s n) (ht : Frst a t n) : ∀ L : PL, (gw a n s t L).1.length ≤ s.length ∧ (gw a n s t L).2.length ≤ L.length + s.length ∧ (gw a n s t L).1.length ≤ t.length := by
  refine fr_rec (C := fun n s t => ∀ L : PL, (gw a n s t L).1.length ≤ s.length ∧ (gw a n s t L).2.length ≤ L.length + s.length ∧ (gw a n s t L).1.length ≤ t.length) ?_ ?_ ?_ hs ht
  · intro L; rw [gw_zero]; simp
  · intro n x s t hx _ _ _ ih L; rw [gw_cons L hx]; have := ih L; simp only [List.length_cons]; omega
  · intro n u s w t hu hw hc hs ht ih L
    rw [gw_pair L hu hw hc hs ht]
    have h1 := tm_pos hu
    have h2 := tm_pos hw
    have h3 := ih (put L (u, w))
    have h4 : (put L (u, w)).length ≤ L.length + 1 := by
      unfold put
      split
      · omega
      · simp
    simp only [List.length_cons, List.length_append]
    omega
theorem gw_fo {a : List Int} {n : Nat} {s t : List Int} (hs : Frst a s n) (ht : Frst a t n) : ∀ L : PL, (gw a n s t L).2.length ≤ 24 → Frst a (gw a n s t L).1 n := by
  refine fr_rec (C := fun n s t => ∀ L : PL, (gw a n s t L).2.length ≤ 24 → Frst a (gw a n s t L).1 n) ?_ ?_ ?_ hs ht
  · intro L _; rw [gw_zero]; exact fr_nil
  · intro n x s t hx hb _ _ ih L h
    rw [gw_cons L hx] at h ⊢
    exact fr_cons' hb (ih L h)
  · intro n u s w t hu hw hc hs ht ih L h
    rw [gw_pair L hu hw hc hs ht] at h ⊢
    simp only at h ⊢
    obtain ⟨M, hM⟩ := gw_pre hs ht (put L (u, w))
    have h1 := put_get L (u, w)
    have h2 := List.getElem?_eq_some_iff.1 h1
    obtain ⟨h3, _⟩ := h2
    rw [hM, List.length_append] at h
    have hv : Tm a [-1 - (place L (u, w) : Int)] := tm_var ⟨by omega, by omega⟩
    have := fr_app hv (ih _ (by rw [hM, List.length_append]; exact h))
    rw [Nat.add_comm] at this
    exact this
/-- The one end, from the pairs. -/
def lookP (pr : List Int × List Int → List Int) (L : PL) (n : Int) : List Int := if n < 0 then match L[(-1 - n).toNat]? with | some p => pr p | none => [n] else [n]
theorem lookP_pos {pr : List Int × List Int → List Int} {L : PL} {n : Int} (h : 0 ≤ n) : lookP pr L n = [n] := if_neg (by omega)
theorem lookP_at {pr : List Int × List Int → List Int} {L : PL} {i : Nat} {p : List Int × List Int} (h : L[i]? = some p) : lookP pr L (-1 - (i : Int)) = pr p := by
  unfold lookP
  rw [if_pos (by omega), show (-1 - (-1 - (i : Int))).toNat = i by omega, h]
theorem gw_fst {a : List Int} {n : Nat} {s t : List Int} (hs : Frst a s n) (ht : Frst a t n) : ∀ (L M : PL), (∃ M', M = (gw a n s t L).2 ++ M') → fm (lookP Prod.fst M) (gw a n s t L).1 = s ∧ fm (lookP Prod.snd M) (gw a n s t L).1 = t := by
  refine fr_rec (C := fun n s t => ∀ (L M : PL), (∃ M', M = (gw a n s t L).2 ++ M') → fm (lookP Prod.fst M) (gw a n s t L).1 = s ∧ fm (lookP Prod.snd M) (gw a n s t L).1 = t) ?_ ?_ ?_ hs ht
  · intro L M _; rw [gw_zero]; exact ⟨rfl, rfl⟩
  · intro n x s t hx hb _ _ ih L M h
    rw [gw_cons L hx] at h ⊢
    obtain ⟨h1, h2⟩ := ih L M h
    simp only [fm_cons, lookP_pos hx, h1, h2, List.singleton_append, and_self]
  · intro n u s w t hu hw hc hs ht ih L M h
    rw [gw_pair L hu hw hc hs ht] at h ⊢
    obtain ⟨h1, h2⟩ := ih _ M h
    obtain ⟨M', rfl⟩ := h
    obtain ⟨M2, hM⟩ := gw_pre hs ht (put L (u, w))
    have h3 := put_get L (u, w)
    have h4 : ((gw a n s t (put L (u, w))).2 ++ M')[place L (u, w)]? = some (u, w) := by
      rw [hM, List.append_assoc]
      obtain ⟨h5, h6⟩ := List.getElem?_eq_some_iff.1 h3
      rw [List.getElem?_append_left h5]
      exact h3
    simp only at h1 h2 ⊢
    rw [fm_cons, fm_cons, lookP_at h4, lookP_at h4, h1, h2]
    exact ⟨rfl, rfl⟩
theorem sb_look {a : List Int} {L : PL} (h : PTm a L) : Sb a (lookP Prod.fst L) ∧ Sb a (lookP Prod.snd L) := by
  have key : ∀ pr : List Int × List Int → List Int, (∀ p ∈ L, Tm a (pr p)) → Sb a (lookP pr L) := fun pr hp => ⟨fun n hn => lookP_pos hn, fun n h1 h2 => by
    unfold lookP
    rw [if_pos h2]
    cases e : L[(-1 - n).toNat]? with
    | none => exact tm_var ⟨h1, h2⟩
    | some p => exact hp p (List.mem_of_getElem? e)⟩
  exact ⟨key _ fun p hp => (h p hp).1, key _ fun p hp => (h p hp).2⟩
theorem gw_sw {a : List Int} {n : Nat} {s t : List Int} (hs : Frst a s n) (ht : Frst a t n) : ∀ L : PL, gw a n t s (L.map sw) = ((gw a n s t L).1, (gw a n s t L).2.map sw) := by
  refine fr_rec (C := fun n s t => ∀ L : PL, gw a n t s (L.map sw) = ((gw a n s t L).1, (gw a n s t L).2.map sw)) ?_ ?_ ?_ hs ht
  · intro L; rw [gw_zero, gw_zero]
  · intro n x s t hx hb _ _ ih L; rw [gw_cons _ hx, gw_cons _ hx, ih L]
  · intro n u s w t hu hw hc hs ht ih L
    rw [gw_pair L hu hw hc hs ht, gw_pair _ hw hu (fun h => hc ⟨h.1.symm, by rw [← h.1]; exact h.2⟩) ht hs]
    have e : ((w, u) : List Int × List Int) = sw (u, w) := rfl
    rw [e, place_sw, put_sw, ih]
/-- Met already: nothing is put. -/
theorem gw_stay {a : List Int} {n : Nat} {s t : List Int} (hs : Frst a s n) (ht : Frst a t n) : ∀ L M : PL, (∃ M', M = (gw a n s t L).2 ++ M') → gw a n s t M = ((gw a n s t L).1, M) := by
  refine fr_rec (C := fun n s t => ∀ L M : PL, (∃ M', M = (gw a n s t L).2 ++ M') → gw a n s t M = ((gw a n s t L).1, M)) ?_ ?_ ?_ hs ht
  · intro L M _; rw [gw_zero, gw_zero]
  · intro n x s t hx hb _ _ ih L M h
    rw [gw_cons L hx] at h
    rw [gw_cons _ hx, gw_cons _ hx, ih L M h]
  · intro n u s w t hu hw hc hs ht ih L M h
    rw [gw_pair L hu hw hc hs ht] at h
    simp only at h
    have hp : place M (u, w) = place L (u, w) := put_place (by
      obtain ⟨M', rfl⟩ := h
      obtain ⟨M2, hM⟩ := gw_pre hs ht (put L (u, w))
      exact ⟨M2 ++ M', by rw [hM, List.append_assoc]⟩)
    have hq : put M (u, w) = M := by
      unfold put
      rw [if_pos]
      rw [hp]
      obtain ⟨M', rfl⟩ := h
      obtain ⟨M2, hM⟩ := gw_pre hs ht (put L (u, w))
      obtain ⟨h5, _⟩ := List.getElem?_eq_some_iff.1 (put_get L (u, w))
      rw [hM, List.length_append, List.length_append]
      omega
    rw [gw_pair M hu hw hc hs ht, gw_pair L hu hw hc hs ht, hq, hp, ih _ M h]
/-- Of one above both. -/
theorem gw_best {a : List Int} {α β : Int → List Int} (hα : Sb a α) (hβ : Sb a β) (M : PL) : ∀ (p : List Int) (n : Nat), Frst a p n → (gw a n (fm α p) (fm β p) M).2 = M → (gw a n (fm α p) (fm β p) M).1 = fm (fun m => if m < 0 then (gw a 1 (α m) (β m) M).1 else [m]) p ∧ ∀ m ∈ p, m < 0 → (gw a 1 (α m) (β m) M).2 = M
  | [], 0, _, _ => ⟨by simp [fm_nil, gw_zero], fun m hm => absurd hm List.not_mem_nil⟩
  | [], n + 1, h, _ => absurd h fr_ne
  | x :: p, 0, h, _ => absurd (fr_zero h) (by simp)
  | x :: p, n + 1, h, hM => by
    obtain ⟨hb, hp⟩ := fr_cons h
    by_cases hx : 0 ≤ x
    · rw [fm_cons, fm_cons, hα.pos x hx, hβ.pos x hx, List.singleton_append, List.singleton_append, gw_cons M hx] at hM ⊢
      obtain ⟨h1, h2⟩ := gw_best hα hβ M p _ hp hM
      refine ⟨?_, fun m hm h0 => ?_⟩
      · simp only
        rw [h1, fm_cons, if_neg (by omega)]; rfl
      · rcases List.mem_cons.1 hm with e | e
        · omega
        · exact h2 m e h0
    · have hx1 : -24 ≤ x := by simp [badS] at hb; omega
      rw [ar_var (by omega)] at hp
      have h1 : Frst a (α x) 1 := hα.tm x hx1 (by omega)
      have h2 : Frst a (β x) 1 := hβ.tm x hx1 (by omega)
      have h3 : Frst a (fm α p) n := skp_fm hα p n hp
      have h4 : Frst a (fm β p) n := skp_fm hβ p n hp
      rw [fm_cons, fm_cons, Nat.add_comm n 1, gw_split h1 h2 h3 h4] at hM ⊢
      simp only at hM ⊢
      obtain ⟨M1, e1⟩ := gw_pre h1 h2 M
      obtain ⟨M2, e2⟩ := gw_pre h3 h4 (gw a 1 (α x) (β x) M).2
      have e3 : (gw a 1 (α x) (β x) M).2 = M := by
        rw [e2, e1] at hM
        have := congrArg List.length hM
        simp only [List.length_append] at this
        have : M1 = [] := List.eq_nil_of_length_eq_zero (by omega)
        rw [e1, this]; simp
      rw [e3] at hM ⊢
      obtain ⟨h5, h6⟩ := gw_best hα hβ M p n hp hM
      refine ⟨by rw [h5, fm_cons, if_pos (by omega)], fun m hm h0 => ?_⟩
      rcases List.mem_cons.1 hm with e | e
      · rw [e]; exact e3
      · exact h6 m e h0
end Go.Proofs.YtogmjihokkdcfaaGreatDoor
namespace Go.Proofs.YtogmjihokkdcfaaGreatDoor
open Go Go.Eng
set_option linter.unusedVariables false
set_option linter.unusedSimpArgs false

theorem fr_pre {a s t u v : List Int} {n : Nat} (hs : Frst a s n) (ht : Frst a t n) (h : s ++ u = t ++ v) : s = t := by
  unfold Frst at hs ht
  have h1 := skp_app a (badS a) u s n (by rw [hs])
  have h2 := skp_app a (badS a) v t n (by rw [ht])
  rw [h, h2, ht, hs] at h1
  have hl : t.length = s.length := by simpa using h1
  exact (List.append_inj h hl.symm).1
theorem take_drop_len (l : List Int) (c : Nat) : l.take c ++ l.drop (l.take c).length = l := by
  rw [List.length_take]
  by_cases hle : c ≤ l.length
  · rw [Nat.min_eq_left hle, List.take_append_drop]
  · rw [Nat.min_eq_right (by omega), List.take_of_length_le (by omega), List.drop_length, List.append_nil]
/-- The first i arguments. -/
def preK (a t : List Int) (p i : Nat) : List Int := (t.drop (p + 1)).take (kidN a t (p + 1) i - (p + 1))
theorem preK_succ {a t : List Int} (h : termOk a t = true) {p : Nat} (hp : p < t.length) {i : Nat} (hi : i < arK a t p) : preK a t p (i + 1) = preK a t p i ++ subt a t (kidN a t (p + 1) i) := by
  have h1 := kid_lt h hp hi
  unfold preK
  show (t.drop (p + 1)).take (kidN a t (p + 1) i + sz a t (kidN a t (p + 1) i) - (p + 1)) = _
  rw [show kidN a t (p + 1) i + sz a t (kidN a t (p + 1) i) - (p + 1) = (kidN a t (p + 1) i - (p + 1)) + sz a t (kidN a t (p + 1) i) by omega, List.take_add, List.drop_drop, show p + 1 + (kidN a t (p + 1) i - (p + 1)) = kidN a t (p + 1) i by omega]
  rfl
theorem preK_fo {a t : List Int} (h : termOk a t = true) {p : Nat} (hp : p < t.length) : ∀ i, i ≤ arK a t p → Frst a (preK a t p i) i
  | 0, _ => by
    have : preK a t p 0 = [] := by unfold preK kidN; simp
    rw [this]; exact fr_nil
  | i + 1, hi => by
    rw [preK_succ h hp (by omega)]
    exact fr_app (preK_fo h hp i (by omega)) (tm_ok (subt_ok h (kid_lt h hp (by omega)).2))
theorem preK_all {a t : List Int} (h : termOk a t = true) {p : Nat} (hp : p < t.length) : subt a t p = t.getD p 0 :: preK a t p (arK a t p) := by
  obtain ⟨r, hr⟩ := subt_head h hp
  have h1 : Frst a (subt a t p) 1 := tm_ok (subt_ok h hp)
  rw [hr] at h1
  have h2 := (fr_cons h1).2
  rw [Nat.zero_add] at h2
  rw [hr]
  congr 1
  refine fr_pre h2 (preK_fo h hp _ (Nat.le_refl _)) (u := (t.drop (p + 1)).drop r.length) (v := (t.drop (p + 1)).drop (preK a t p (arK a t p)).length) ?_
  have e : subt a t p = (t.drop p).take (sz a t p) := rfl
  rw [hr, drop_get hp] at e
  have hz := subt_len h hp
  rw [hr] at hz
  rw [← hz, List.length_cons, List.take_succ_cons] at e
  injection e with _ e
  have e2 : preK a t p (arK a t p) = (t.drop (p + 1)).take (preK a t p (arK a t p)).length := by
    have : preK a t p (arK a t p) = (t.drop (p + 1)).take (kidN a t (p + 1) (arK a t p) - (p + 1)) := rfl
    conv => rhs; rw [this]
    rw [List.length_take]
    by_cases hle : kidN a t (p + 1) (arK a t p) - (p + 1) ≤ (t.drop (p + 1)).length
    · rw [Nat.min_eq_left hle]; exact this
    · rw [Nat.min_eq_right (by omega), this, List.take_of_length_le (by omega), List.take_length]
  have a1 : r ++ (t.drop (p + 1)).drop r.length = t.drop (p + 1) := by
    conv => lhs; rw [e]
    exact take_drop_len _ _
  have a2 : preK a t p (arK a t p) ++ (t.drop (p + 1)).drop (preK a t p (arK a t p)).length = t.drop (p + 1) := by
    conv => lhs; rw [e2]
    exact take_drop_len _ _
  rw [a1, a2]
theorem preK_len {a t : List Int} (h : termOk a t = true) {p : Nat} (hp : p < t.length) : ∀ d i, i + d = arK a t p → (preK a t p i).length + 1 ≤ (subt a t p).length ∧ (0 < d → (preK a t p i).length + (subt a t (kidN a t (p + 1) i)).length + 1 ≤ (subt a t p).length)
  | 0, i, hi => by
    rw [preK_all h hp, show i = arK a t p by omega]; simp
  | d + 1, i, hi => by
    have h1 := (preK_len h hp d (i + 1) (by omega)).1
    rw [preK_succ h hp (by omega), List.length_append] at h1
    omega
def gK (a s t : List Int) (p q i : Nat) (L : PL) : List Int × PL := gw a i (preK a s p i) (preK a t q i) L
theorem gK_zero (a s t : List Int) (p q : Nat) (L : PL) : gK a s t p q 0 L = ([], L) := gen_zero _ _ _ _ _
section
variable {a s t : List Int} {p q : Nat}
theorem arK_eq (hx : s.getD p 0 = t.getD q 0) : arK a t q = arK a s p := by unfold arK; rw [hx]
theorem gK_succ (hs : termOk a s = true) (ht : termOk a t = true) (hp : p < s.length) (hq : q < t.length) (hx : s.getD p 0 = t.getD q 0) {i : Nat} (hi : i < arK a s p) (L : PL) :
    gK a s t p q (i + 1) L = ((gK a s t p q i L).1 ++ (gw a 1 (subt a s (kidN a s (p + 1) i)) (subt a t (kidN a t (q + 1) i)) (gK a s t p q i L).2).1, (gw a 1 (subt a s (kidN a s (p + 1) i)) (subt a t (kidN a t (q + 1) i)) (gK a s t p q i L).2).2) := by
  have e := arK_eq (a := a) hx
  unfold gK
  rw [preK_succ hs hp hi, preK_succ ht hq (by omega)]
  exact gw_split (preK_fo hs hp i (by omega)) (preK_fo ht hq i (by omega)) (tm_ok (subt_ok hs (kid_lt hs hp hi).2)) (tm_ok (subt_ok ht (kid_lt ht hq (by omega)).2)) L
theorem gK_all (hs : termOk a s = true) (ht : termOk a t = true) (hp : p < s.length) (hq : q < t.length) (hx : s.getD p 0 = t.getD q 0) (h0 : 0 ≤ s.getD p 0) (L : PL) :
    gw a 1 (subt a s p) (subt a t q) L = (s.getD p 0 :: (gK a s t p q (arK a s p) L).1, (gK a s t p q (arK a s p) L).2) := by
  have e := arK_eq (a := a) hx
  rw [preK_all hs hp, preK_all ht hq, ← hx, e]
  have := gw_cons (a := a) (n := 0) (s := preK a s p (arK a s p)) (t := preK a t q (arK a s p)) L h0
  rw [Nat.zero_add, Nat.zero_add] at this
  exact this
theorem gK_len (hs : termOk a s = true) (ht : termOk a t = true) (hp : p < s.length) (hq : q < t.length) (hx : s.getD p 0 = t.getD q 0) {i : Nat} (hi : i ≤ arK a s p) (L : PL) :
    (gK a s t p q i L).1.length + 1 ≤ (subt a s p).length ∧ (gK a s t p q i L).2.length + 1 ≤ L.length + (subt a s p).length ∧ (i < arK a s p → (gK a s t p q i L).1.length + (subt a s (kidN a s (p + 1) i)).length + 1 ≤ (subt a s p).length ∧ (gK a s t p q i L).2.length + (subt a s (kidN a s (p + 1) i)).length + 1 ≤ L.length + (subt a s p).length) := by
  have e := arK_eq (a := a) hx
  have h1 := gw_len (preK_fo hs hp i hi) (preK_fo ht hq i (by omega)) L
  obtain ⟨h2, h3⟩ := preK_len hs hp (arK a s p - i) i (by omega)
  unfold gK
  refine ⟨by omega, by omega, fun h => ?_⟩
  have := h3 (by omega)
  omega
theorem gw_diff (hs : termOk a s = true) (ht : termOk a t = true) (hp : p < s.length) (hq : q < t.length) (hx : ¬ (s.getD p 0 = t.getD q 0 ∧ 0 ≤ s.getD p 0)) (L : PL) :
    gw a 1 (subt a s p) (subt a t q) L = ([-1 - (place L (subt a s p, subt a t q) : Int)], put L (subt a s p, subt a t q)) := by
  have e1 : (subt a s p).getD 0 0 = s.getD p 0 := by rw [preK_all hs hp]; rfl
  have e2 : (subt a t q).getD 0 0 = t.getD q 0 := by rw [preK_all ht hq]; rfl
  have := gw_pair (n := 0) (s := []) (t := []) L (tm_ok (subt_ok hs hp)) (tm_ok (subt_ok ht hq)) (by rw [e1, e2]; exact hx) fr_nil fr_nil
  rw [List.append_nil, List.append_nil, gw_zero] at this
  exact this
end
/-- The pairs, as two lists. -/
def pz (xs ys : List (Sh (List Int))) : PL := (xs.map Sh.v).zip (ys.map Sh.v)
def pl1 (L : PL) : List (Sh (List Int)) := L.map fun p => Sh.mk p.1
def pl2 (L : PL) : List (Sh (List Int)) := L.map fun p => Sh.mk p.2
theorem pz_pl : ∀ L : PL, pz (pl1 L) (pl2 L) = L
  | [] => rfl
  | x :: xs => by
    have := pz_pl xs
    unfold pz pl1 pl2 at this ⊢
    simp only [List.map_cons, List.zip_cons_cons, this]
theorem pl_pz : ∀ {xs ys : List (Sh (List Int))}, xs.length = ys.length → pl1 (pz xs ys) = xs ∧ pl2 (pz xs ys) = ys
  | [], [], _ => ⟨rfl, rfl⟩
  | x :: xs, y :: ys, h => by
    obtain ⟨h1, h2⟩ := pl_pz (xs := xs) (ys := ys) (by simpa using h)
    have e : pz (x :: xs) (y :: ys) = (x.v, y.v) :: pz xs ys := rfl
    rw [e]
    exact ⟨congrArg (x :: ·) h1, congrArg (y :: ·) h2⟩
theorem pl1_len (L : PL) : (pl1 L).length = L.length := by simp [pl1]
theorem pl2_len (L : PL) : (pl2 L).length = L.length := by simp [pl2]
theorem pz_len {xs ys : List (Sh (List Int))} (h : xs.length = ys.length) : (pz xs ys).length = xs.length := by simp [pz, h]
theorem pz_get : ∀ {xs ys : List (Sh (List Int))} {i : Nat}, i < xs.length → xs.length = ys.length → (pz xs ys)[i]? = some ((xs.getD i default).v, (ys.getD i default).v)
  | [], _, i, h, _ => by simp at h
  | x :: xs, [], i, _, h => by simp at h
  | x :: xs, y :: ys, 0, _, _ => rfl
  | x :: xs, y :: ys, i + 1, h, h2 => pz_get (xs := xs) (ys := ys) (i := i) (by simpa using h) (by simpa using h2)
theorem pl_put_new {xs ys : List (Sh (List Int))} {u w : List Int} (h : xs.length = ys.length) (hp : place (pz xs ys) (u, w) = xs.length) : pl1 (put (pz xs ys) (u, w)) = xs ++ [Sh.mk u] ∧ pl2 (put (pz xs ys) (u, w)) = ys ++ [Sh.mk w] := by
  unfold put
  rw [if_neg (by rw [pz_len h]; omega)]
  obtain ⟨h1, h2⟩ := pl_pz h
  constructor
  · unfold pl1 at h1 ⊢
    rw [List.map_append, h1]; rfl
  · unfold pl2 at h2 ⊢
    rw [List.map_append, h2]; rfl
theorem pl_put_old {xs ys : List (Sh (List Int))} {u w : List Int} (h : xs.length = ys.length) (hp : place (pz xs ys) (u, w) < xs.length) : pl1 (put (pz xs ys) (u, w)) = xs ∧ pl2 (put (pz xs ys) (u, w)) = ys := by
  unfold put
  rw [if_pos (by rw [pz_len h]; exact hp)]
  exact pl_pz h
end Go.Proofs.YtogmjihokkdcfaaGreatDoor
