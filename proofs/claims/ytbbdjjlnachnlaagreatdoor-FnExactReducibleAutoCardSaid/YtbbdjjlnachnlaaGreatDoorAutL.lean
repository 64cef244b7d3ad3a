/- The languages of automata, plain: product, union, the sure automaton and its complement. -/
import Derived.Test.YtbbdjjlnachnlaaGreatDoorSureS
import Derived.Test.YtbbdjjlnachnlaaGreatDoorSureIn
namespace Go.Proofs.YtbbdjjlnachnlaaGreatDoor
open Go Go.Eng
set_option linter.unusedVariables false
set_option linter.unusedSimpArgs false
/-! ### Reaching, by membership -/
theorem rs_mk {a t : List Int} {rs : List STrans} {k : Nat} {r : STrans} (hr : r ∈ rs) (hs : r.1 = t.getD k 0) (h : ∀ i, i < arK a t k → Rs a t rs (kidN a t (k + 1) i) (r.2.1.getD i 0)) : Rs a t rs k r.2.2 := by
  obtain ⟨j, hj, rfl⟩ := List.getElem_of_mem hr
  have e : rs.getD j default = rs[j] := by rw [List.getD_eq_getElem?_getD, List.getElem?_eq_getElem hj]; rfl
  rw [← e]
  exact Rs.mk k j hj (by rw [e]; exact hs) (by rw [e]; exact h)
theorem rs_inv {a t : List Int} {rs : List STrans} {k : Nat} {q : Int} (h : Rs a t rs k q) : ∃ r ∈ rs, r.1 = t.getD k 0 ∧ (∀ i, i < arK a t k → Rs a t rs (kidN a t (k + 1) i) (r.2.1.getD i 0)) ∧ q = r.2.2 := by
  cases h with
  | mk k j hj hs h => exact ⟨_, getT hj, hs, h, rfl⟩
theorem rs_ind {a t : List Int} {rs : List STrans} {C : Nat → Int → Prop} (h : ∀ k r, r ∈ rs → r.1 = t.getD k 0 → (∀ i, i < arK a t k → Rs a t rs (kidN a t (k + 1) i) (r.2.1.getD i 0)) → (∀ i, i < arK a t k → C (kidN a t (k + 1) i) (r.2.1.getD i 0)) → C k r.2.2) : ∀ {k q}, Rs a t rs k q → C k q := by
  intro k q hq
  induction hq with
  | mk k j hj hs h1 ih => exact h k _ (getT hj) hs h1 ih
theorem auto_mem {a t : List Int} {x : SAuto} (h : AutoP a x) {k : Nat} {r : STrans} (hr : r ∈ x.2.1) (hs : r.1 = t.getD k 0) : r.2.1.length = arK a t k := by
  obtain ⟨j, hj, rfl⟩ := List.getElem_of_mem hr
  have e : x.2.1.getD j default = x.2.1[j] := by rw [List.getD_eq_getElem?_getD, List.getElem?_eq_getElem hj]; rfl
  have h1 := (h.2.2.2.2 j hj).1
  rw [e] at h1
  have := auto_args h (k := k) (t := t) (by rw [← hs]; exact h1.1.1) j hj (by rw [e]; exact hs)
  rw [e] at this
  exact this
theorem auto_tr {a : List Int} {x : SAuto} (h : AutoP a x) {r : STrans} (hr : r ∈ x.2.1) : TransP a x.1 r := by
  obtain ⟨j, hj, rfl⟩ := List.getElem_of_mem hr
  have h1 := (h.2.2.2.2 j hj).1
  rw [List.getD_eq_getElem?_getD, List.getElem?_eq_getElem hj] at h1
  exact h1
theorem auto_len {a : List Int} {x y : SAuto} (h : AutoP a x) (h' : AutoP a y) {r s : STrans} (hr : r ∈ x.2.1) (hs : s ∈ y.2.1) (e : r.1 = s.1) : r.2.1.length = s.2.1.length := by
  have h1 := (auto_tr h hr).2.1
  have h2 := (auto_tr h' hs).2.1
  rw [e] at h1
  omega
/-! ### Acceptance -/
noncomputable def accN (a : List Int) (x : SAuto) (t : List Int) : Bool := meets (statesOf a x t) x.2.2
theorem meets_iff {a b : List Int} : meets a b = true ↔ ∃ q, q ∈ a ∧ q ∈ b := by
  unfold meets
  rw [List.any_eq_true]
  exact ⟨fun ⟨q, h1, h2⟩ => ⟨q, h1, of_decide_eq_true h2⟩, fun ⟨q, h1, h2⟩ => ⟨q, h1, decide_eq_true h2⟩⟩
theorem acc_iff {a : List Int} {x : SAuto} {t : List Int} (h : AutoP a x) (ht : GrP a t) : accN a x t = true ↔ ∃ q, Rs a t x.2.1 0 q ∧ q ∈ x.2.2 := by
  unfold accN
  rw [meets_iff, st_yes h ht]
  exact exists_congr fun q => and_congr_left fun _ => pL_mem fun q hq => rs_in (inS_of h) hq
theorem acc_no {a : List Int} {x : SAuto} {t : List Int} (h : ¬ (AutoP a x ∧ GrP a t)) : accN a x t = false := by
  unfold accN
  rw [st_no h]; rfl
/-! ### The product -/
inductive Pr2 (rs ss : List STrans) : Int → Int → Prop
  | mk (r s : STrans) (hr : r ∈ rs) (hs : s ∈ ss) (he : r.1 = s.1) (h : ∀ i, i < r.2.1.length → Pr2 rs ss (r.2.1.getD i 0) (s.2.1.getD i 0)) : Pr2 rs ss r.2.2 s.2.2
theorem pr2_in {a : List Int} {x y : SAuto} (h : AutoP a x) (h' : AutoP a y) {p q : Int} (hp : Pr2 x.2.1 y.2.1 p q) : (0 ≤ p ∧ p < x.1) ∧ 0 ≤ q ∧ q < y.1 := by
  cases hp with
  | mk r s hr hs he hh => exact ⟨(auto_tr h hr).2.2.2, (auto_tr h' hs).2.2.2⟩
theorem rs_pr2 {a t : List Int} {x y : SAuto} (h : AutoP a x) (h' : AutoP a y) {k : Nat} {p : Int} (hp : Rs a t x.2.1 k p) : ∀ q, Rs a t y.2.1 k q → Pr2 x.2.1 y.2.1 p q := by
  refine rs_ind (C := fun k p => ∀ q, Rs a t y.2.1 k q → Pr2 x.2.1 y.2.1 p q) (fun k r hr hs _ ih q hq => ?_) hp
  obtain ⟨s, hs', he, hk, rfl⟩ := rs_inv hq
  refine Pr2.mk r s hr hs' (hs.trans he.symm) fun i hi => ?_
  rw [auto_mem h hr hs] at hi
  exact ih i hi _ (hk i hi)
def mapI (f : Int → Int → Int) (a b : List Int) : List Int := (List.range a.length).map fun i => f (a.getD i 0) (b.getD i 0)
theorem mapI_len (f : Int → Int → Int) (a b : List Int) : (mapI f a b).length = a.length := by unfold mapI; simp
theorem mapI_get {f : Int → Int → Int} {a b : List Int} {i : Nat} (h : i < a.length) : (mapI f a b).getD i 0 = f (a.getD i 0) (b.getD i 0) := by
  unfold mapI
  rw [List.getD_eq_getElem?_getD, List.getElem?_map, List.getElem?_range h]; rfl
structure BothR (x y z : SAuto) (num : Int → Int → Int) : Prop where
  inj : ∀ p q p' q', Pr2 x.2.1 y.2.1 p q → Pr2 x.2.1 y.2.1 p' q' → num p q = num p' q' → p = p' ∧ q = q'
  rules : ∀ t, t ∈ z.2.1 ↔ ∃ r ∈ x.2.1, ∃ s ∈ y.2.1, r.1 = s.1 ∧ (∀ i, i < r.2.1.length → Pr2 x.2.1 y.2.1 (r.2.1.getD i 0) (s.2.1.getD i 0)) ∧ t = (r.1, mapI num r.2.1 s.2.1, num r.2.2 s.2.2)
  fin : ∀ n, n ∈ z.2.2 ↔ ∃ p q, Pr2 x.2.1 y.2.1 p q ∧ p ∈ x.2.2 ∧ q ∈ y.2.2 ∧ n = num p q
theorem both_rs {a t : List Int} {x y z : SAuto} {num : Int → Int → Int} (h : AutoP a x) (h' : AutoP a y) (hz : BothR x y z num) {k : Nat} {n : Int} : Rs a t z.2.1 k n ↔ ∃ p q, Rs a t x.2.1 k p ∧ Rs a t y.2.1 k q ∧ n = num p q := by
  constructor
  · refine fun hn => rs_ind (C := fun k n => ∃ p q, Rs a t x.2.1 k p ∧ Rs a t y.2.1 k q ∧ n = num p q) (fun k u hu hs _ ih => ?_) hn
    obtain ⟨r, hr, s, hs', he, hP, rfl⟩ := (hz.rules u).1 hu
    have hr0 : r.1 = t.getD k 0 := hs
    have hal := auto_mem h hr hr0
    have hbl := auto_len h h' hr hs' he
    have key : ∀ i, i < arK a t k → Rs a t x.2.1 (kidN a t (k + 1) i) (r.2.1.getD i 0) ∧ Rs a t y.2.1 (kidN a t (k + 1) i) (s.2.1.getD i 0) := fun i hi => by
      obtain ⟨p, q, h1, h2, h3⟩ := ih i hi
      simp only at h3
      rw [mapI_get (by omega)] at h3
      obtain ⟨e1, e2⟩ := hz.inj _ _ _ _ (hP i (by omega)) (rs_pr2 h h' h1 q h2) h3
      rw [e1, e2]
      exact ⟨h1, h2⟩
    exact ⟨r.2.2, s.2.2, rs_mk hr hr0 fun i hi => (key i hi).1, rs_mk hs' (he ▸ hr0) fun i hi => (key i hi).2, rfl⟩
  · rintro ⟨p, q, hp, hq, rfl⟩
    revert q
    refine rs_ind (C := fun k p => ∀ q, Rs a t y.2.1 k q → Rs a t z.2.1 k (num p q)) (fun k r hr hs hk ih q hq => ?_) hp
    obtain ⟨s, hs', he, hk', rfl⟩ := rs_inv hq
    have hal := auto_mem h hr hs
    have hmem := (hz.rules (r.1, mapI num r.2.1 s.2.1, num r.2.2 s.2.2)).2 ⟨r, hr, s, hs', hs.trans he.symm, fun i hi => rs_pr2 h h' (hk i (by omega)) _ (hk' i (by omega)), rfl⟩
    refine rs_mk (r := (r.1, mapI num r.2.1 s.2.1, num r.2.2 s.2.2)) hmem hs fun i hi => ?_
    simp only
    rw [mapI_get (by omega)]
    exact ih i hi _ (hk' i hi)
theorem both_acc {a t : List Int} {x y z : SAuto} {num : Int → Int → Int} (h : AutoP a x) (h' : AutoP a y) (h3 : AutoP a z) (ht : GrP a t) (hz : BothR x y z num) : accN a z t = (accN a x t && accN a y t) := by
  rw [Bool.eq_iff_iff, Bool.and_eq_true, acc_iff h3 ht, acc_iff h ht, acc_iff h' ht]
  constructor
  · rintro ⟨n, hn, hf⟩
    obtain ⟨p, q, h1, h2, rfl⟩ := (both_rs h h' hz).1 hn
    obtain ⟨p', q', h4, h5, h6, e⟩ := (hz.fin _).1 hf
    obtain ⟨rfl, rfl⟩ := hz.inj _ _ _ _ (rs_pr2 h h' h1 _ h2) h4 e
    exact ⟨⟨p, h1, h5⟩, ⟨q, h2, h6⟩⟩
  · rintro ⟨⟨p, h1, h5⟩, ⟨q, h2, h6⟩⟩
    exact ⟨num p q, (both_rs h h' hz).2 ⟨p, q, h1, h2, rfl⟩, (hz.fin _).2 ⟨p, q, rs_pr2 h h' h1 _ h2, h5, h6, rfl⟩⟩
/-! ### The union -/
def shT (n : Int) (t : STrans) : STrans := (t.1, t.2.1.map fun q => q + n, t.2.2 + n)
def eitD (x y : SAuto) : SAuto := (x.1 + y.1, x.2.1 ++ y.2.1.map (shT x.1), x.2.2 ++ y.2.2.map fun q => q + x.1)
theorem eit_rs {a t : List Int} {x y : SAuto} (h : AutoP a x) (h' : AutoP a y) {k : Nat} {n : Int} : Rs a t (eitD x y).2.1 k n ↔ (n < x.1 ∧ Rs a t x.2.1 k n) ∨ (x.1 ≤ n ∧ Rs a t y.2.1 k (n - x.1)) := by
  constructor
  · refine fun hn => rs_ind (C := fun k n => (n < x.1 ∧ Rs a t x.2.1 k n) ∨ (x.1 ≤ n ∧ Rs a t y.2.1 k (n - x.1))) (fun k u hu hs _ ih => ?_) hn
    rcases List.mem_append.1 hu with hu | hu
    · have htr := auto_tr h hu
      refine .inl ⟨htr.2.2.2.2, rs_mk hu hs fun i hi => ?_⟩
      have hl := auto_mem h hu hs
      have h1 := htr.2.2.1 i (by omega)
      rcases ih i hi with h2 | h2
      · exact h2.2
      · omega
    · obtain ⟨s, hs', rfl⟩ := List.mem_map.1 hu
      have htr := auto_tr h' hs'
      refine .inr ⟨by show x.1 ≤ s.2.2 + x.1; have := htr.2.2.2.1; omega, ?_⟩
      show Rs a t y.2.1 k (s.2.2 + x.1 - x.1)
      rw [Int.add_sub_cancel]
      refine rs_mk hs' hs fun i hi => ?_
      have hl := auto_mem h' hs' hs
      have h1 := htr.2.2.1 i (by omega)
      have e : (shT x.1 s).2.1.getD i 0 = s.2.1.getD i 0 + x.1 := by
        show (s.2.1.map fun q => q + x.1).getD i 0 = _
        rw [List.getD_eq_getElem?_getD, List.getElem?_map, List.getD_eq_getElem?_getD, List.getElem?_eq_getElem (by omega)]; rfl
      rcases ih i hi with h2 | h2
      · rw [e] at h2; omega
      · rw [e, Int.add_sub_cancel] at h2; exact h2.2
  · rintro (⟨_, h1⟩ | ⟨h0, h1⟩)
    · exact rs_ind (C := fun k n => Rs a t (eitD x y).2.1 k n) (fun k u hu hs _ ih => rs_mk (List.mem_append_left _ hu) hs ih) h1
    · have h2 := rs_ind (C := fun k n => Rs a t (eitD x y).2.1 k (n + x.1)) (fun k u hu hs _ ih => ?_) h1
      · rw [Int.sub_add_cancel] at h2; exact h2
      · have hm : shT x.1 u ∈ (eitD x y).2.1 := List.mem_append_right _ (List.mem_map_of_mem hu)
        refine rs_mk (r := shT x.1 u) hm hs fun i hi => ?_
        have hl := auto_mem h' hu hs
        have e : (shT x.1 u).2.1.getD i 0 = u.2.1.getD i 0 + x.1 := by
          show (u.2.1.map fun q => q + x.1).getD i 0 = _
          rw [List.getD_eq_getElem?_getD, List.getElem?_map, List.getD_eq_getElem?_getD, List.getElem?_eq_getElem (by omega)]; rfl
        rw [e]
        exact ih i hi
theorem set_mem {n : Int} {xs : List Int} (h : SetP n xs xs.length) : ∀ q ∈ xs, 0 ≤ q ∧ q < n := fun q hq => by
  obtain ⟨i, hi, rfl⟩ := List.getElem_of_mem hq
  have h1 := (h i hi).1
  rw [List.getD_eq_getElem?_getD, List.getElem?_eq_getElem hi] at h1
  exact h1
/-- Rules are well formed and no two alike. -/
theorem rulesP_of {ar : List Int} {n : Int} {rs : List STrans} (h : ∀ r ∈ rs, TransP ar n r) (hn : rs.Nodup) : RulesP ar n rs rs.length := fun i hi => by
  refine ⟨h _ (getT hi), fun k hk e => ?_⟩
  rw [List.getD_eq_getElem?_getD, List.getElem?_eq_getElem (by omega), List.getD_eq_getElem?_getD, List.getElem?_eq_getElem hi] at e
  exact absurd ((List.getElem_inj hn).1 e) (by omega)
theorem rulesP_nd {ar : List Int} {n : Int} {rs : List STrans} (h : RulesP ar n rs rs.length) : rs.Nodup := by
  rw [List.nodup_iff_pairwise_ne, List.pairwise_iff_getElem]
  intro i j hi hj hij e
  have := (h j hj).2 i hij
  rw [List.getD_eq_getElem?_getD, List.getElem?_eq_getElem hi, List.getD_eq_getElem?_getD, List.getElem?_eq_getElem hj] at this
  exact this e
theorem setP_app {m n : Int} {xs ys : List Int} (hm : 0 ≤ n) (h : SetP m xs xs.length) (h0 : 0 ≤ m) (h' : SetP n ys ys.length) : SetP (m + n) (xs ++ ys.map fun q => q + m) (xs ++ ys.map fun q => q + m).length := by
  have hg : ∀ i, i < ys.length → (ys.map fun q => q + m).getD i 0 = ys.getD i 0 + m := fun i hi => by
    rw [List.getD_eq_getElem?_getD, List.getElem?_map, List.getD_eq_getElem?_getD, List.getElem?_eq_getElem hi]; rfl
  have hl : ∀ i, i < xs.length → (xs ++ ys.map fun q => q + m).getD i 0 = xs.getD i 0 := fun i hi => by
    rw [List.getD_eq_getElem?_getD, List.getElem?_append_left hi, ← List.getD_eq_getElem?_getD]
  have hr : ∀ i, xs.length ≤ i → (xs ++ ys.map fun q => q + m).getD i 0 = (ys.map fun q => q + m).getD (i - xs.length) 0 := fun i hi => by
    rw [List.getD_eq_getElem?_getD, List.getElem?_append_right hi, ← List.getD_eq_getElem?_getD]
  intro i hi
  simp only [List.length_append, List.length_map] at hi
  by_cases h1 : i < xs.length
  · rw [hl i h1]
    have h2 := h i h1
    refine ⟨⟨h2.1.1, by have := h2.1.2; omega⟩, fun h3 => ?_⟩
    rw [hl (i - 1) (by omega)]
    exact h2.2 h3
  · rw [hr i (by omega), hg _ (by omega)]
    have h2 := h' (i - xs.length) (by omega)
    refine ⟨by omega, fun h3 => ?_⟩
    by_cases h4 : i = xs.length
    · subst h4
      rw [hl _ (by omega)]
      have := (h (xs.length - 1) (by omega)).1
      omega
    · rw [hr _ (by omega), hg _ (by omega)]
      have := h2.2 (by omega)
      rw [show i - xs.length - 1 = i - 1 - xs.length by omega] at this
      omega
theorem map_addI {n : Int} {xs ys : List Int} (h : (xs.map fun q => q + n) = ys.map fun q => q + n) : xs = ys := by
  have h1 := congrArg (List.map fun q => q - n) h
  simpa [List.map_map, Function.comp_def, Int.add_sub_cancel] using h1
theorem shT_inj {n : Int} {s t : STrans} (h : shT n s = shT n t) : s = t := by
  unfold shT at h
  simp only [Prod.mk.injEq] at h
  obtain ⟨h1, h2, h3⟩ := h
  exact trans_eq.2 ⟨⟨h1, map_addI h2⟩, by omega⟩
theorem eit_auto {a : List Int} {x y : SAuto} (h : AutoP a x) (h' : AutoP a y) (h1 : x.1 + y.1 ≤ 16) (h2 : x.2.1.length + y.2.1.length ≤ 300) : AutoP a (eitD x y) := by
  have hx1 := h.2.1
  have hy1 := h'.2.1
  refine ⟨h.1, ⟨by show 1 ≤ x.1 + y.1; omega, h1⟩, by simpa [eitD] using h2, setP_app (by omega) h.2.2.2.1 (by omega) h'.2.2.2.1, rulesP_of (fun r hr => ?_) ?_⟩
  · rcases List.mem_append.1 hr with hr | hr
    · obtain ⟨h3, h4, h5, h6, h7⟩ := auto_tr h hr
      exact ⟨h3, h4, fun i hi => by have := h5 i hi; show _ ∧ _ < x.1 + y.1; omega, h6, by show _ < x.1 + y.1; omega⟩
    · obtain ⟨s, hs, rfl⟩ := List.mem_map.1 hr
      obtain ⟨h3, h4, h5, h6, h7⟩ := auto_tr h' hs
      have hl : (shT x.1 s).2.1.length = s.2.1.length := by show (s.2.1.map _).length = _; rw [List.length_map]
      refine ⟨h3, by rw [hl]; exact h4, fun i hi => ?_, by show 0 ≤ s.2.2 + x.1; omega, by show s.2.2 + x.1 < x.1 + y.1; omega⟩
      rw [hl] at hi
      have e : (shT x.1 s).2.1.getD i 0 = s.2.1.getD i 0 + x.1 := by
        show (s.2.1.map fun q => q + x.1).getD i 0 = _
        rw [List.getD_eq_getElem?_getD, List.getElem?_map, List.getD_eq_getElem?_getD, List.getElem?_eq_getElem hi]; rfl
      rw [e]
      have := h5 i hi
      show _ ∧ _ < x.1 + y.1
      omega
  · rw [show (eitD x y).2.1 = x.2.1 ++ y.2.1.map (shT x.1) from rfl, List.nodup_append]
    refine ⟨rulesP_nd h.2.2.2.2, ?_, fun r hr s hs e => ?_⟩
    · rw [List.nodup_iff_pairwise_ne]
      have := rulesP_nd h'.2.2.2.2
      rw [List.nodup_iff_pairwise_ne] at this
      exact this.map _ fun a b hab e => hab (shT_inj e)
    · obtain ⟨s, hs', rfl⟩ := List.mem_map.1 hs
      have h3 := (auto_tr h hr).2.2.2
      have h4 := (auto_tr h' hs').2.2.2
      rw [e] at h3
      have h5 : s.2.2 + x.1 < x.1 := h3.2
      omega
theorem eit_acc {a t : List Int} {x y : SAuto} (h : AutoP a x) (h' : AutoP a y) (h3 : AutoP a (eitD x y)) (ht : GrP a t) : accN a (eitD x y) t = (accN a x t || accN a y t) := by
  rw [Bool.eq_iff_iff, Bool.or_eq_true, acc_iff h3 ht, acc_iff h ht, acc_iff h' ht]
  constructor
  · rintro ⟨n, hn, hf⟩
    rcases (eit_rs h h').1 hn with ⟨h1, h2⟩ | ⟨h1, h2⟩
    · rcases List.mem_append.1 hf with h4 | h4
      · exact .inl ⟨n, h2, h4⟩
      · obtain ⟨q, hq, rfl⟩ := List.mem_map.1 h4
        have := set_mem h'.2.2.2.1 q hq
        omega
    · rcases List.mem_append.1 hf with h4 | h4
      · have := set_mem h.2.2.2.1 n h4
        omega
      · obtain ⟨q, hq, rfl⟩ := List.mem_map.1 h4
        rw [Int.add_sub_cancel] at h2
        exact .inr ⟨q, h2, hq⟩
  · rintro (⟨q, h1, h2⟩ | ⟨q, h1, h2⟩)
    · exact ⟨q, (eit_rs h h').2 (.inl ⟨(set_mem h.2.2.2.1 q h2).2, h1⟩), List.mem_append_left _ h2⟩
    · refine ⟨q + x.1, (eit_rs h h').2 (.inr ⟨?_, by rw [Int.add_sub_cancel]; exact h1⟩), List.mem_append_right _ (List.mem_map_of_mem (f := fun q => q + x.1) h2)⟩
      have := set_mem h'.2.2.2.1 q h2
      omega
/-! ### The sure automaton -/
theorem dig_sur {n : Nat} (hn : 0 < n) : ∀ (l : List Int), (∀ q ∈ l, 0 ≤ q ∧ q < n) → ∃ i, i < n ^ l.length ∧ dig n l.length i = l := by
  intro l
  induction h : l.length generalizing l with
  | zero => intro _; exact ⟨0, by simp, by rw [List.length_eq_zero_iff.1 h]; rfl⟩
  | succ k ih =>
    intro hl
    have hne : l ≠ [] := fun e => by rw [e] at h; cases h
    have hd := List.dropLast_concat_getLast hne
    have hdl : l.dropLast.length = k := by rw [List.length_dropLast]; omega
    obtain ⟨i, hi, he⟩ := ih l.dropLast hdl fun q hq => hl q (List.dropLast_subset _ hq)
    have hg := hl _ (List.getLast_mem hne)
    refine ⟨i * n + (l.getLast hne).toNat, ?_, ?_⟩
    · have : (i + 1) * n ≤ n ^ k * n := Nat.mul_le_mul_right _ hi
      rw [Nat.add_mul, Nat.one_mul] at this
      rw [Nat.pow_succ]
      omega
    · unfold dig
      have e1 : (i * n + (l.getLast hne).toNat) / n = i := by
        rw [Nat.add_comm, Nat.add_mul_div_right _ _ hn, Nat.div_eq_of_lt (by omega)]; omega
      have e2 : (i * n + (l.getLast hne).toNat) % n = (l.getLast hne).toNat := by
        rw [Nat.add_comm, Nat.add_mul_mod_self_right, Nat.mod_eq_of_lt (by omega)]
      rw [e1, e2, he, show (((l.getLast hne).toNat : Nat) : Int) = l.getLast hne by omega]
      exact hd
theorem dig_inj {n : Nat} (hn : 0 < n) : ∀ k i j, i < n ^ k → j < n ^ k → dig n k i = dig n k j → i = j
  | 0, i, j, hi, hj, _ => by rw [Nat.pow_zero] at hi hj; omega
  | k + 1, i, j, hi, hj, h => by
    unfold dig at h
    have h1 := List.append_inj' h rfl
    have h2 : ((i % n : Nat) : Int) = ((j % n : Nat) : Int) := by simpa using h1.2
    rw [Nat.pow_succ] at hi hj
    have h3 := dig_inj hn k (i / n) (j / n) ((Nat.div_lt_iff_lt_mul hn).2 hi) ((Nat.div_lt_iff_lt_mul hn).2 hj) h1.1
    have e1 := Nat.div_add_mod i n
    have e2 := Nat.div_add_mod j n
    rw [h3] at e1
    omega
theorem trR_mem {rs : List STrans} {ar : List Int} {sets : List (List Int)} {f : Nat} {out : List STrans} {t : STrans} : ∀ {m}, t ∈ trR rs ar sets f out m ↔ t ∈ out ∨ ∃ i, i < m ∧ t = ((f : Int), dig sets.length (arN ar f) i, toOf rs ar sets f i)
  | 0 => by simp [trR]
  | m + 1 => by
    unfold trR
    rw [List.mem_append, trR_mem, List.mem_singleton]
    constructor
    · rintro ((h | ⟨i, hi, rfl⟩) | rfl)
      · exact .inl h
      · exact .inr ⟨i, by omega, rfl⟩
      · exact .inr ⟨m, by omega, rfl⟩
    · rintro (h | ⟨i, hi, rfl⟩)
      · exact .inl (.inl h)
      · by_cases e : i = m
        · subst e; exact .inr rfl
        · exact .inl (.inr ⟨i, by omega, rfl⟩)
theorem trS_mem {rs : List STrans} {ar : List Int} {sets : List (List Int)} {t : STrans} : ∀ {m}, t ∈ trS rs ar sets m ↔ ∃ f i, f < m ∧ i < sets.length ^ arN ar f ∧ t = ((f : Int), dig sets.length (arN ar f) i, toOf rs ar sets f i)
  | 0 => by simp [trS]
  | m + 1 => by
    unfold trS
    rw [trR_mem, trS_mem]
    constructor
    · rintro (⟨f, i, h1, h2, rfl⟩ | ⟨i, hi, rfl⟩)
      · exact ⟨f, i, by omega, h2, rfl⟩
      · exact ⟨m, i, by omega, hi, rfl⟩
    · rintro ⟨f, i, h1, h2, rfl⟩
      by_cases e : f = m
      · subst e; exact .inr ⟨i, h2, rfl⟩
      · exact .inl ⟨f, i, by omega, h2, rfl⟩
/-- Each list stands once. -/
theorem trS_sure {rs : List STrans} {ar : List Int} {sets : List (List Int)} (hn : 0 < sets.length) : ∀ m, (trS rs ar sets m).Pairwise fun s t => ¬ FrT s t
  | 0 => List.Pairwise.nil
  | m + 1 => by
    unfold trS
    have h0 := trS_sure (rs := rs) (ar := ar) hn m
    have key : ∀ j, j ≤ sets.length ^ arN ar m → (trR rs ar sets m (trS rs ar sets m) j).Pairwise fun s t => ¬ FrT s t := by
      intro j
      induction j with
      | zero => exact fun _ => h0
      | succ j ih =>
        intro hj
        unfold trR
        rw [List.pairwise_append]
        refine ⟨ih (by omega), List.pairwise_singleton _ _, fun s hs t ht => ?_⟩
        rw [List.mem_singleton] at ht
        subst ht
        rintro ⟨e1, e2⟩
        rcases trR_mem.1 hs with h | ⟨i, hi, rfl⟩
        · obtain ⟨f, i, h1, h2, rfl⟩ := trS_mem.1 h
          simp only at e1
          omega
        · have := dig_inj hn _ _ _ (show i < sets.length ^ arN ar m by omega) (show j < sets.length ^ arN ar m by omega) e2
          omega
    exact key _ (Nat.le_refl _)
theorem sure_pw {rs : List STrans} (h : rs.Pairwise fun s t => ¬ FrT s t) : SureTo rs rs.length := fun i hi j hj => by
  have := (List.pairwise_iff_getElem.1 h) j i (by omega) hi hj
  rw [List.getD_eq_getElem?_getD, List.getElem?_eq_getElem (by omega), List.getD_eq_getElem?_getD, List.getElem?_eq_getElem hi]
  exact this
theorem sure_nd {rs : List STrans} (h : rs.Pairwise fun s t => ¬ FrT s t) : rs.Nodup := by
  rw [List.nodup_iff_pairwise_ne]
  exact h.imp fun hf e => hf (by rw [e]; exact ⟨rfl, rfl⟩)
/-- All images stand among the sets. -/
def ClosedS (rs : List STrans) (ar : List Int) (sets : List (List Int)) : Prop := ∀ f i, f < ar.length → i < sets.length ^ arN ar f → imgL rs f (listed sets (dig sets.length (arN ar f) i)) ∈ sets
theorem addNew_mem (out : List (List Int)) (s : List Int) : s ∈ addNew out s := by
  unfold addNew; split
  · assumption
  · simp
theorem closed_of {rs : List STrans} {ar : List Int} {sets : List (List Int)} (h : (rndS rs ar sets).length = sets.length) : ClosedS rs ar sets := fun f i hf hi => by
  have h1 := row_rnd (rs := rs) (sets := sets) hf (i := i + 1) (by omega)
  have h2 := h1.subset (addNew_mem _ _)
  rw [← (rndS_pre rs ar sets).eq_of_length h.symm] at h2
  exact h2
theorem fixS_cl {rs : List STrans} {ar : List Int} : ∀ (k : Nat) (s t : List (List Int)), fixS rs ar k s = some t → ClosedS rs ar t ∧ (s.Nodup → t.Nodup)
  | 0, s, t, h => by cases h
  | k + 1, s, t, h => by
    unfold fixS at h
    split at h
    · cases h
    · split at h
      · split at h
        · cases h
        · injection h with h
          subst h
          exact ⟨closed_of ‹_›, id⟩
      · have h1 := fixS_cl k _ t h
        refine ⟨h1.1, fun hn => h1.2 ?_⟩
        have hrow : ∀ f out, out.Nodup → ∀ i, (rowS rs ar s f out i).Nodup := fun f out ho i => by
          induction i with
          | zero => exact ho
          | succ i ih =>
            unfold rowS addNew
            split
            · exact ih
            · rw [List.nodup_append]
              exact ⟨ih, by simp, fun a ha b hb e => by rw [List.mem_singleton] at hb; subst hb; subst e; exact absurd ha ‹_›⟩
        have hsym : ∀ f, (symS rs ar s f).Nodup := fun f => by
          induction f with
          | zero => exact hn
          | succ f ih => exact hrow _ _ ih _
        exact hsym _
theorem place_mem {sets : List (List Int)} {s : List Int} (h : s ∈ sets) : placeOf sets s = ((sets.idxOf s : Nat) : Int) ∧ sets.idxOf s < sets.length ∧ sets.getD (sets.idxOf s) default = s := by
  have hl := List.idxOf_lt_length_of_mem h
  refine ⟨by unfold placeOf; rw [if_pos h], hl, ?_⟩
  rw [List.getD_eq_getElem?_getD, List.getElem?_eq_getElem hl]
  exact List.getElem_idxOf hl
theorem gr_sym {a t : List Int} (h : GrP a t) {k : Nat} (hk : k < t.length) : 0 ≤ t.getD k 0 ∧ (t.getD k 0).toNat < a.length ∧ arK a t k = arN a (t.getD k 0).toNat := by
  have h1 := h.2 k hk
  have h2 := (termOk_get h.1 hk).2
  refine ⟨h1, by omega, ?_⟩
  unfold arK arN ar
  rw [if_neg (by omega)]
/-- Where a ground term comes. -/
noncomputable def setK (a t : List Int) (rs : List STrans) (k : Nat) : List Int := pL (Rs a t rs k)
theorem setK_mem {a t : List Int} {rs : List STrans} (hi : InS rs) {k : Nat} {q : Int} : q ∈ setK a t rs k ↔ Rs a t rs k q := pL_mem fun q hq => rs_in hi hq
theorem listed_get {sets : List (List Int)} {l : List Int} {i : Nat} (h : i < l.length) : (listed sets l).getD i default = sets.getD (l.getD i 0).toNat default := by
  unfold listed
  rw [List.getD_eq_getElem?_getD, List.getElem?_map, List.getElem?_eq_getElem h, List.getD_eq_getElem?_getD (l := l), List.getElem?_eq_getElem h]; rfl
/-- The image of the arguments' sets is the set. -/
theorem img_setK {a t : List Int} {rs : List STrans} (hi : InS rs) {k : Nat} {sets : List (List Int)} {l : List Int} (hl : l.length = arK a t k) (h : ∀ i, i < arK a t k → sets.getD (l.getD i 0).toNat default = setK a t rs (kidN a t (k + 1) i)) : imgL rs (t.getD k 0) (listed sets l) = setK a t rs k := by
  unfold imgL
  show pL _ = pL _
  congr 1
  funext q
  rw [listed_len, hl]
  refine propext (rs_img (fun i hi' q => ?_) q)
  unfold InL
  rw [listed_get (by omega), h i hi']
  exact setK_mem hi
theorem sure_rs {a t : List Int} {rs : List STrans} (hi : InS rs) {sets : List (List Int)} (hn : 0 < sets.length) (hcl : ClosedS rs a sets) (ht : GrP a t) : ∀ d k, k < t.length → t.length - k ≤ d → setK a t rs k ∈ sets ∧ ∀ n, Rs a t (allT rs a sets) k n ↔ n = placeOf sets (setK a t rs k)
  | 0, k, hk, hd => by omega
  | d + 1, k, hk, hd => by
    have hkid : ∀ i, i < arK a t k → kidN a t (k + 1) i < t.length ∧ t.length - kidN a t (k + 1) i ≤ d := fun i hi' => by
      have := kid_lt ht.1 hk hi'
      omega
    have ih : ∀ i, i < arK a t k → _ := fun i hi' => sure_rs hi hn hcl ht d _ (hkid i hi').1 (hkid i hi').2
    obtain ⟨g1, g2, g3⟩ := gr_sym ht hk
    obtain ⟨f, hf⟩ : ∃ f : Nat, t.getD k 0 = (f : Int) := ⟨(t.getD k 0).toNat, by omega⟩
    rw [hf, Int.toNat_natCast] at g2 g3
    -- the places of the arguments' sets
    let l : List Int := (List.range (arK a t k)).map fun i => placeOf sets (setK a t rs (kidN a t (k + 1) i))
    have hll : l.length = arK a t k := by simp [l]
    have hlg : ∀ i, i < arK a t k → l.getD i 0 = placeOf sets (setK a t rs (kidN a t (k + 1) i)) := fun i hi' => by
      simp only [l]
      rw [List.getD_eq_getElem?_getD, List.getElem?_map, List.getElem?_range hi']; rfl
    have hset : ∀ i, i < arK a t k → sets.getD (l.getD i 0).toNat default = setK a t rs (kidN a t (k + 1) i) := fun i hi' => by
      have h1 := place_mem (ih i hi').1
      rw [hlg i hi', h1.1, Int.toNat_natCast]
      exact h1.2.2
    have hlin : ∀ q ∈ l, 0 ≤ q ∧ q < sets.length := fun q hq => by
      obtain ⟨i, h1, rfl⟩ := List.getElem_of_mem hq
      rw [hll] at h1
      have h2 := hlg i h1
      rw [List.getD_eq_getElem?_getD, List.getElem?_eq_getElem (by omega)] at h2
      have h3 := place_mem (ih i h1).1
      simp only [Option.getD_some] at h2
      omega
    have himg : imgL rs f (listed sets l) = setK a t rs k := by rw [← hf]; exact img_setK hi hll hset
    obtain ⟨m, hm, hdm⟩ := dig_sur hn l hlin
    rw [hll, g3] at hm hdm
    have hmem : setK a t rs k ∈ sets := by
      have := hcl f m g2 hm
      rw [hdm, himg] at this
      exact this
    refine ⟨hmem, fun n => ⟨fun h => ?_, ?_⟩⟩
    · obtain ⟨r, hr, hrs, hra, rfl⟩ := rs_inv h
      obtain ⟨f', i, h1, h2, rfl⟩ := trS_mem.1 hr
      have hff : f' = f := by
        have : (f' : Int) = t.getD k 0 := hrs
        omega
      subst hff
      have hdl := dig_len sets.length (arN a f') i
      have hda : dig sets.length (arN a f') i = l := by
        apply List.ext_getElem (by omega)
        intro j h3 h4
        have h5 := ((ih j (by omega)).2 _).1 (hra j (by omega))
        simp only at h5
        rw [← hlg j (by omega)] at h5
        rw [List.getD_eq_getElem?_getD, List.getElem?_eq_getElem h3, List.getD_eq_getElem?_getD, List.getElem?_eq_getElem h4] at h5
        exact h5
      show placeOf sets (imgL rs f' (listed sets (dig sets.length (arN a f') i))) = _
      rw [hda, himg]
    · rintro rfl
      have hr : ((f : Int), dig sets.length (arN a f) m, toOf rs a sets f m) ∈ allT rs a sets := trS_mem.2 ⟨f, m, g2, hm, rfl⟩
      have := rs_mk (k := k) (t := t) (a := a) hr hf.symm fun i hi' => by
        simp only
        rw [hdm, hlg i hi']
        exact ((ih i hi').2 _).2 rfl
      simp only [toOf] at this
      rw [hdm, himg] at this
      exact this
theorem finN_mem {sets : List (List Int)} {fs : List Int} {q : Int} : ∀ {m}, q ∈ finN sets fs m ↔ ∃ i, i < m ∧ q = (i : Int) ∧ meets (sets.getD i default) fs = true
  | 0 => by simp [finN]
  | m + 1 => by
    unfold finN
    rw [List.mem_append, finN_mem]
    constructor
    · rintro (⟨i, h1, h2, h3⟩ | h)
      · exact ⟨i, by omega, h2, h3⟩
      · split at h
        · rw [List.mem_singleton] at h; exact ⟨m, by omega, h, ‹_›⟩
        · cases h
    · rintro ⟨i, h1, h2, h3⟩
      by_cases e : i = m
      · subst e; exact .inr (by rw [if_pos h3, h2]; simp)
      · exact .inl ⟨i, by omega, h2, h3⟩
theorem finN_set {sets : List (List Int)} {fs : List Int} {n : Int} : ∀ m : Nat, (m : Int) ≤ n → (finN sets fs m).Pairwise (· < ·) ∧ ∀ q ∈ finN sets fs m, 0 ≤ q ∧ q < (m : Int)
  | 0, _ => ⟨List.Pairwise.nil, fun q h => by cases h⟩
  | m + 1, hm => by
    obtain ⟨h1, h2⟩ := finN_set (sets := sets) (fs := fs) (n := n) m (by omega)
    refine ⟨?_, fun q hq => ?_⟩
    · unfold finN
      rw [List.pairwise_append]
      refine ⟨h1, by split <;> simp, fun a ha b hb => ?_⟩
      split at hb
      · rw [List.mem_singleton] at hb; have := h2 a ha; omega
      · cases hb
    · obtain ⟨i, h3, h4, _⟩ := finN_mem.1 hq
      omega
theorem setP_of {n : Int} {xs : List Int} (h : xs.Pairwise (· < ·)) (hi : ∀ q ∈ xs, 0 ≤ q ∧ q < n) : SetP n xs xs.length := fun i hl => by
  refine ⟨hi _ (getK hl), fun h0 => ?_⟩
  have := (List.pairwise_iff_getElem.1 h) (i - 1) i (by omega) hl (by omega)
  rw [List.getD_eq_getElem?_getD, List.getElem?_eq_getElem (by omega), List.getD_eq_getElem?_getD, List.getElem?_eq_getElem hl]
  exact this
/-- The sure automaton, when there is one. -/
structure SureW (a : List Int) (x z : SAuto) (sets : List (List Int)) : Prop where
  au : AutoP a x
  ok : z = ((sets.length : Int), allT x.2.1 a sets, finN sets x.2.2 sets.length)
  n1 : 1 ≤ sets.length ∧ sets.length ≤ 16
  r3 : (allT x.2.1 a sets).length ≤ 300
  cl : ClosedS x.2.1 a sets
  nd : sets.Nodup
theorem sureOf_w {a : List Int} {x z : SAuto} (h : sureOf a x = some z) : ∃ sets, SureW a x z sets := by
  unfold sureOf at h
  split at h
  · rename_i hau
    split at h
    · cases h
    · rename_i sets hfx
      split at h
      · injection h with h
        exact ⟨sets, decC_iff.1 hau, h.symm, fixS_len 17 [] (by simp) _ hfx, ‹_›, (fixS_cl 17 [] _ hfx).1, (fixS_cl 17 [] _ hfx).2 List.nodup_nil⟩
      · cases h
  · cases h
theorem toOf_in {rs : List STrans} {a : List Int} {sets : List (List Int)} (h : ClosedS rs a sets) {f i : Nat} (hf : f < a.length) (hi : i < sets.length ^ arN a f) : 0 ≤ toOf rs a sets f i ∧ toOf rs a sets f i < sets.length := by
  have := place_mem (h f i hf hi)
  unfold toOf
  omega
theorem arN_eq {a : List Int} (h : sigOk a = true) {f : Nat} (hf : f < a.length) : a.getD f 0 = ((arN a f : Nat) : Int) ∧ arN a f ≤ 3 := by
  have := sig_el h hf
  unfold arN
  omega
theorem SureW.rules {a : List Int} {x z : SAuto} {sets : List (List Int)} (h : SureW a x z sets) : RulesP a sets.length (allT x.2.1 a sets) (allT x.2.1 a sets).length := by
  refine rulesP_of (fun r hr => ?_) (sure_nd (trS_sure (by have := h.n1; omega) _))
  obtain ⟨f, i, h1, h2, rfl⟩ := trS_mem.1 hr
  have h3 := arN_eq h.au.1 h1
  have h4 := toOf_in h.cl h1 h2
  refine ⟨⟨by simp only; omega, by simp only; omega⟩, ?_, fun j hj => ?_, h4⟩
  · simp only
    rw [dig_len, Int.toNat_natCast, h3.1]
  · exact dig_in (by have := h.n1; omega) _ _ _ (getK hj)
theorem SureW.auto {a : List Int} {x z : SAuto} {sets : List (List Int)} (h : SureW a x z sets) : AutoP a z := by
  have h1 := h.n1
  rw [h.ok]
  have h2 := finN_set (sets := sets) (fs := x.2.2) (n := sets.length) sets.length (Int.le_refl _)
  exact ⟨h.au.1, ⟨by simp only; omega, by simp only; omega⟩, h.r3, setP_of h2.1 h2.2, h.rules⟩
theorem SureW.sure {a : List Int} {x z : SAuto} {sets : List (List Int)} (h : SureW a x z sets) : SureTo z.2.1 z.2.1.length := by
  rw [h.ok]
  exact sure_pw (trS_sure (by have := h.n1; omega) _)
theorem gr_pos {a t : List Int} (h : GrP a t) : 0 < t.length := (termOk_len h.1).1
theorem SureW.acc {a t : List Int} {x z : SAuto} {sets : List (List Int)} (h : SureW a x z sets) (ht : GrP a t) : accN a z t = accN a x t := by
  have hz := h.auto
  rw [Bool.eq_iff_iff, acc_iff hz ht, acc_iff h.au ht]
  have hi := inS_of h.au
  obtain ⟨h1, h2⟩ := sure_rs hi (by have := h.n1; omega) h.cl ht t.length 0 (gr_pos ht) (by omega)
  have h3 := place_mem h1
  rw [h.ok]
  simp only
  constructor
  · rintro ⟨n, hn, hf⟩
    rw [h2] at hn
    subst hn
    obtain ⟨i, h4, h5, h6⟩ := finN_mem.1 hf
    have : i = sets.idxOf (setK a t x.2.1 0) := by omega
    subst this
    rw [h3.2.2, meets_iff] at h6
    obtain ⟨q, h7, h8⟩ := h6
    exact ⟨q, (setK_mem hi).1 h7, h8⟩
  · rintro ⟨q, h7, h8⟩
    refine ⟨_, (h2 _).2 rfl, finN_mem.2 ⟨_, h3.2.1, h3.1, ?_⟩⟩
    rw [h3.2.2, meets_iff]
    exact ⟨q, (setK_mem hi).2 h7, h8⟩
end Go.Proofs.YtbbdjjlnachnlaaGreatDoor
