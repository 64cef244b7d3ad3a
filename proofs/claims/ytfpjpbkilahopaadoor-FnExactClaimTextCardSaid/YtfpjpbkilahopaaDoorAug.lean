/- What two terms have in common: no program in sight. -/
import Derived.Test.YtfpjpbkilahopaaDoorUni
namespace Go.Proofs.YtfpjpbkilahopaaDoor
open Go Go.Eng
set_option linter.unusedVariables false
set_option linter.unusedSimpArgs false

/-- So many terms, one behind the other, and no more. -/
def Frst (a l : List Int) (n : Nat) : Prop := skp a (badS a) l n = (true, l.length)
theorem fr_zero {a l : List Int} (h : Frst a l 0) : l = [] := by
  unfold Frst at h
  have := congrArg Prod.snd h
  cases l with
  | nil => rfl
  | cons x xs => simp [skp] at this
theorem fr_nil {a : List Int} : Frst a [] 0 := by simp [Frst, skp]
theorem fr_cons {a xs : List Int} {x : Int} {n : Nat} (h : Frst a (x :: xs) (n + 1)) : badS a x = false ∧ Frst a xs (n + (ar a x).toNat) := by
  unfold Frst at h ⊢
  unfold skp at h
  by_cases hb : badS a x = true
  · simp [hb] at h
  · rw [if_neg hb] at h
    refine ⟨by simpa using hb, ?_⟩
    injection h with h1 h2
    simp only [List.length_cons] at h2
    exact Prod.ext h1 (by simpa using h2)
theorem fr_cons' {a xs : List Int} {x : Int} {n : Nat} (hb : badS a x = false) (h : Frst a xs (n + (ar a x).toNat)) : Frst a (x :: xs) (n + 1) := by
  unfold Frst at h ⊢
  unfold skp
  rw [if_neg (by rw [hb]; simp), h]
  simp
theorem fr_ne {a : List Int} {n : Nat} : ¬ Frst a [] (n + 1) := by simp [Frst, skp]
theorem fr_app {a s s' : List Int} {n m : Nat} (h : Frst a s n) (h' : Frst a s' m) : Frst a (s ++ s') (n + m) := by
  unfold Frst at h h' ⊢
  have e := skp_app a (badS a) s' s n (by rw [h])
  rw [skp_split, e, h]
  simp [h']
theorem fr_first {a s : List Int} {n : Nat} (h : Frst a s (n + 1)) : ∃ u s', s = u ++ s' ∧ Tm a u ∧ Frst a s' n := by
  unfold Frst at h
  have h1 := skp_split a (badS a) s 1 n
  rw [Nat.add_comm 1 n, h] at h1
  by_cases h2 : (skp a (badS a) s 1).1 = true
  · rw [if_pos h2] at h1
    injection h1 with h3 h4
    have hle := skp_le a (badS a) s 1
    have ht := skp_take s 1 (skp a (badS a) s 1).2 (Nat.le_refl _) h2
    refine ⟨s.take (skp a (badS a) s 1).2, s.drop (skp a (badS a) s 1).2, (List.take_append_drop _ _).symm, ?_, ?_⟩
    · unfold Tm
      rw [ht, List.length_take, Nat.min_eq_left hle]
      exact Prod.ext h2 rfl
    · unfold Frst
      refine Prod.ext h3.symm ?_
      rw [List.length_drop]
      omega
  · rw [if_neg h2] at h1
    rw [← h1] at h2
    exact absurd rfl h2
theorem tm_fo {a u : List Int} : Tm a u ↔ Frst a u 1 := Iff.rfl
theorem first_sz {a u s : List Int} (h : Tm a u) : sz a (u ++ s) 0 = u.length ∧ subt a (u ++ s) 0 = u ∧ (u ++ s).drop (sz a (u ++ s) 0) = s := by
  have e : sz a (u ++ s) 0 = u.length := by
    unfold sz
    rw [List.drop_zero, skp_app a (badS a) s u 1 (by rw [h]), h]
  refine ⟨e, ?_, ?_⟩
  · unfold subt; rw [e]; simp
  · rw [e]; simp

abbrev PL : Type := List (List Int × List Int)
def place : PL → List Int × List Int → Nat
  | [], _ => 0
  | x :: xs, p => if x = p then 0 else place xs p + 1
theorem place_le : ∀ (L : PL) (p : List Int × List Int), place L p ≤ L.length
  | [], p => Nat.le_refl _
  | x :: xs, p => by
    unfold place
    split
    · simp
    · have := place_le xs p
      simp; exact this
theorem place_get : ∀ {L : PL} {p : List Int × List Int}, place L p < L.length → L[place L p]? = some p
  | [], p, h => by simp [place] at h
  | x :: xs, p, h => by
    unfold place at h ⊢
    by_cases e : x = p
    · rw [if_pos e]; simp [e]
    · rw [if_neg e] at h ⊢
      simp only [List.length_cons] at h
      rw [List.getElem?_cons_succ]
      exact place_get (by omega)
theorem place_app : ∀ {L M : PL} {p : List Int × List Int}, place L p < L.length → place (L ++ M) p = place L p
  | [], M, p, h => by simp [place] at h
  | x :: xs, M, p, h => by
    rw [List.cons_append]
    unfold place at h ⊢
    by_cases e : x = p
    · rw [if_pos e, if_pos e]
    · rw [if_neg e] at h
      rw [if_neg e, if_neg e, place_app (by simpa using h)]
theorem place_new : ∀ {L M : PL} {p : List Int × List Int}, place L p = L.length → place (L ++ p :: M) p = L.length
  | [], M, p, h => by simp [place]
  | x :: xs, M, p, h => by
    rw [List.cons_append]
    unfold place at h ⊢
    by_cases e : x = p
    · rw [if_pos e] at h; simp at h
    · rw [if_neg e] at h ⊢
      simp only [List.length_cons] at h ⊢
      rw [place_new (by omega)]
theorem place_at : ∀ {L : PL} {p : List Int × List Int} {k : Nat}, k ≤ L.length → (∀ j, j < k → L[j]? ≠ some p) → k ≤ place L p
  | [], p, k, h, _ => by simp at h; omega
  | x :: xs, p, 0, _, _ => Nat.zero_le _
  | x :: xs, p, k + 1, h, hn => by
    unfold place
    have h0 := hn 0 (by omega)
    rw [if_neg (fun e => h0 (by simp [e]))]
    have := place_at (L := xs) (p := p) (k := k) (by simpa using h) (fun j hj => by
      have := hn (j + 1) (by omega)
      simpa using this)
    omega
theorem place_lt : ∀ {L : PL} {p : List Int × List Int} {k : Nat}, L[k]? = some p → place L p ≤ k
  | [], p, k, h => by simp at h
  | x :: xs, p, 0, h => by
    unfold place
    rw [if_pos (by simpa using h)]
    exact Nat.le_refl _
  | x :: xs, p, k + 1, h => by
    unfold place
    split
    · omega
    · have := place_lt (L := xs) (p := p) (k := k) (by simpa using h)
      omega
def put (L : PL) (p : List Int × List Int) : PL := if place L p < L.length then L else L ++ [p]
theorem put_get (L : PL) (p : List Int × List Int) : (put L p)[place L p]? = some p := by
  unfold put
  split
  · rename_i h; exact place_get h
  · rename_i h
    have := place_le L p
    rw [show place L p = L.length by omega]; simp
theorem put_pre (L : PL) (p : List Int × List Int) : ∃ M, put L p = L ++ M := by
  unfold put
  split
  · exact ⟨[], by simp⟩
  · exact ⟨[p], rfl⟩
theorem put_place {L M : PL} {p : List Int × List Int} (h : ∃ M', M = put L p ++ M') : place M p = place L p := by
  obtain ⟨M', rfl⟩ := h
  unfold put
  split
  · rename_i h; exact place_app h
  · rename_i h
    have := place_le L p
    rw [List.append_assoc, List.singleton_append, place_new (by omega)]; omega
def sw (p : List Int × List Int) : List Int × List Int := (p.2, p.1)
theorem place_sw : ∀ (L : PL) (p : List Int × List Int), place (L.map sw) (sw p) = place L p
  | [], p => rfl
  | x :: xs, p => by
    rw [List.map_cons]
    unfold place
    by_cases e : x = p
    · rw [if_pos e, if_pos (by rw [e])]
    · rw [if_neg e, if_neg (fun h => e (by
        have h1 := congrArg Prod.fst h
        have h2 := congrArg Prod.snd h
        exact Prod.ext h2 h1)), place_sw]
theorem put_sw (L : PL) (p : List Int × List Int) : put (L.map sw) (sw p) = (put L p).map sw := by
  unfold put
  rw [place_sw, List.length_map]
  split
  · rfl
  · simp
/-- What so many terms have in common, and the pairs that were met. -/
def gen (a : List Int) : Nat → Nat → List Int → List Int → PL → List Int × PL
  | 0, _, _, _, L => ([], L)
  | _ + 1, 0, _, _, L => ([], L)
  | f + 1, n + 1, s, t, L => if s.getD 0 0 = t.getD 0 0 ∧ 0 ≤ s.getD 0 0 then
      (s.getD 0 0 :: (gen a f (n + (ar a (s.getD 0 0)).toNat) (s.drop 1) (t.drop 1) L).1, (gen a f (n + (ar a (s.getD 0 0)).toNat) (s.drop 1) (t.drop 1) L).2)
    else ((-1 - (place L (subt a s 0, subt a t 0) : Int)) :: (gen a f n (s.drop (sz a s 0)) (t.drop (sz a t 0)) (put L (subt a s 0, subt a t 0))).1, (gen a f n (s.drop (sz a s 0)) (t.drop (sz a t 0)) (put L (subt a s 0, subt a t 0))).2)
theorem gen_zero (a : List Int) (f : Nat) (s t : List Int) (L : PL) : gen a f 0 s t L = ([], L) := by cases f <;> rfl
/-- The two ways on. -/
theorem fr_ind {a : List Int} {C : Nat → List Int → List Int → Prop} (h0 : C 0 [] []) (h1 : ∀ n x s t, 0 ≤ x → badS a x = false → Frst a s (n + (ar a x).toNat) → Frst a t (n + (ar a x).toNat) → C (n + (ar a x).toNat) s t → C (n + 1) (x :: s) (x :: t))
    (h2 : ∀ n u s w t, Tm a u → Tm a w → ¬ (u.getD 0 0 = w.getD 0 0 ∧ 0 ≤ u.getD 0 0) → Frst a s n → Frst a t n → C n s t → C (n + 1) (u ++ s) (w ++ t)) : ∀ (f n : Nat) (s t : List Int), s.length ≤ f → Frst a s n → Frst a t n → C n s t
  | f, 0, s, t, _, hs, ht => by rw [fr_zero hs, fr_zero ht]; exact h0
  | 0, n + 1, s, t, hf, hs, _ => by
    have : s = [] := List.eq_nil_of_length_eq_zero (by omega)
    rw [this] at hs
    exact absurd hs fr_ne
  | f + 1, n + 1, s, t, hf, hs, ht => by
    obtain ⟨u, s', rfl, hu, hs'⟩ := fr_first hs
    obtain ⟨w, t', rfl, hw, ht'⟩ := fr_first ht
    have hul := tm_pos hu
    have hwl := tm_pos hw
    by_cases hc : u.getD 0 0 = w.getD 0 0 ∧ 0 ≤ u.getD 0 0
    · obtain ⟨x, u', rfl⟩ : ∃ x u', u = x :: u' := by
        cases u with
        | nil => simp at hul
        | cons x u' => exact ⟨x, u', rfl⟩
      obtain ⟨y, w', rfl⟩ : ∃ y w', w = y :: w' := by
        cases w with
        | nil => simp at hwl
        | cons y w' => exact ⟨y, w', rfl⟩
      simp only [List.getD_cons_zero] at hc
      obtain ⟨rfl, hx⟩ := hc
      rw [List.cons_append] at hs ht hf ⊢
      rw [List.cons_append]
      obtain ⟨hb, hs2⟩ := fr_cons hs
      obtain ⟨_, ht2⟩ := fr_cons ht
      exact h1 n x _ _ hx hb hs2 ht2 (fr_ind h0 h1 h2 f _ _ _ (by simpa using hf) hs2 ht2)
    · rw [List.length_append] at hf
      exact h2 n u s' w t' hu hw hc hs' ht' (fr_ind h0 h1 h2 f n s' t' (by omega) hs' ht')
theorem gen_cons (a : List Int) (f n : Nat) (x : Int) (s t : List Int) (L : PL) (hx : 0 ≤ x) : gen a (f + 1) (n + 1) (x :: s) (x :: t) L = (x :: (gen a f (n + (ar a x).toNat) s t L).1, (gen a f (n + (ar a x).toNat) s t L).2) := by
  conv => lhs; unfold gen
  simp only [List.getD_cons_zero]
  rw [if_pos ⟨trivial, hx⟩]
  rfl
theorem gen_pair (a : List Int) (f n : Nat) {u w : List Int} (s t : List Int) (L : PL) (hu : Tm a u) (hw : Tm a w) (hc : ¬ (u.getD 0 0 = w.getD 0 0 ∧ 0 ≤ u.getD 0 0)) : gen a (f + 1) (n + 1) (u ++ s) (w ++ t) L = ((-1 - (place L (u, w) : Int)) :: (gen a f n s t (put L (u, w))).1, (gen a f n s t (put L (u, w))).2) := by
  have hul := tm_pos hu
  have hwl := tm_pos hw
  have eu : (u ++ s).getD 0 0 = u.getD 0 0 := by
    cases u with
    | nil => simp at hul
    | cons x u' => rfl
  have ew : (w ++ t).getD 0 0 = w.getD 0 0 := by
    cases w with
    | nil => simp at hwl
    | cons x u' => rfl
  conv => lhs; unfold gen
  rw [eu, ew, if_neg hc, (first_sz hu).2.1, (first_sz hw).2.1, (first_sz hu).2.2, (first_sz hw).2.2]
theorem gen_fuel {a : List Int} {n : Nat} {s t : List Int} (hs : Frst a s n) (ht : Frst a t n) : ∀ (L : PL) (f g : Nat), s.length ≤ f → s.length ≤ g → gen a f n s t L = gen a g n s t L := by
  refine fr_ind (a := a) (C := fun n s t => ∀ (L : PL) (f g : Nat), s.length ≤ f → s.length ≤ g → gen a f n s t L = gen a g n s t L) ?_ ?_ ?_ s.length n s t (Nat.le_refl _) hs ht
  · intro L f g _ _; rw [gen_zero, gen_zero]
  · intro n x s t hx _ _ _ ih L f g hf hg
    obtain ⟨f', rfl⟩ : ∃ f', f = f' + 1 := ⟨f - 1, by simp at hf; omega⟩
    obtain ⟨g', rfl⟩ : ∃ f', g = f' + 1 := ⟨g - 1, by simp at hg; omega⟩
    rw [gen_cons a f' n x s t L hx, gen_cons a g' n x s t L hx, ih L f' g' (by simpa using hf) (by simpa using hg)]
  · intro n u s w t hu hw hc _ _ ih L f g hf hg
    have := tm_pos hu
    rw [List.length_append] at hf hg
    obtain ⟨f', rfl⟩ : ∃ f', f = f' + 1 := ⟨f - 1, by omega⟩
    obtain ⟨g', rfl⟩ : ∃ f', g = f' + 1 := ⟨g - 1, by omega⟩
    rw [gen_pair a f' n s t L hu hw hc, gen_pair a g' n s t L hu hw hc, ih _ f' g' (by omega) (by omega)]
theorem gen_split {a : List Int} {n : Nat} {s t : List Int} (hs : Frst a s n) (ht : Frst a t n) {m : Nat} {s' t' : List Int} (hs' : Frst a s' m) (ht' : Frst a t' m) : ∀ (L : PL) (f g h : Nat), s.length + s'.length ≤ f → s.length ≤ g → s'.length ≤ h → gen a f (n + m) (s ++ s') (t ++ t') L = ((gen a g n s t L).1 ++ (gen a h m s' t' (gen a g n s t L).2).1, (gen a h m s' t' (gen a g n s t L).2).2) := by
  refine fr_ind (a := a) (C := fun n s t => ∀ (L : PL) (f g h : Nat), s.length + s'.length ≤ f → s.length ≤ g → s'.length ≤ h → gen a f (n + m) (s ++ s') (t ++ t') L = ((gen a g n s t L).1 ++ (gen a h m s' t' (gen a g n s t L).2).1, (gen a h m s' t' (gen a g n s t L).2).2)) ?_ ?_ ?_ s.length n s t (Nat.le_refl _) hs ht
  · intro L f g h hf _ hh
    rw [gen_zero, Nat.zero_add, List.nil_append, List.nil_append, List.nil_append, gen_fuel hs' ht' L f h (by simpa using hf) hh]
  · intro n x s t hx _ _ _ ih L f g h hf hg hh
    obtain ⟨f', rfl⟩ : ∃ f', f = f' + 1 := ⟨f - 1, by simp at hf; omega⟩
    obtain ⟨g', rfl⟩ : ∃ f', g = f' + 1 := ⟨g - 1, by simp at hg; omega⟩
    have := ih L f' g' h (by simp at hf; omega) (by simpa using hg) hh
    rw [List.cons_append, List.cons_append, Nat.add_right_comm, gen_cons a f' (n + m) x _ _ L hx, gen_cons a g' n x s t L hx, show n + m + (ar a x).toNat = n + (ar a x).toNat + m by omega, this]
    rfl
  · intro n u s w t hu hw hc _ _ ih L f g h hf hg hh
    have := tm_pos hu
    rw [List.length_append] at hf hg
    obtain ⟨f', rfl⟩ : ∃ f', f = f' + 1 := ⟨f - 1, by omega⟩
    obtain ⟨g', rfl⟩ : ∃ f', g = f' + 1 := ⟨g - 1, by omega⟩
    rw [List.append_assoc, List.append_assoc, Nat.add_right_comm, gen_pair a f' (n + m) _ _ L hu hw hc, gen_pair a g' n s t L hu hw hc, ih _ f' g' h (by omega) (by omega) hh]
    rfl
end Go.Proofs.YtfpjpbkilahopaaDoor
