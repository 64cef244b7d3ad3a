/- The most general patterns of a list stand above all of it: no program in sight. -/
import Derived.Test.YtmlnobegikdenaaMat
import Derived.Test.YtmlnobegikdenaaUniT
import Derived.Test.YtmlnobegikdenaaL02m
namespace Go.Proofs.Ytmlnobegikdenaa
open Go Go.Eng
set_option linter.unusedVariables false
set_option linter.unusedSimpArgs false

theorem fm_map (g : Int → Int) : ∀ t : List Int, fm (fun n => [g n]) t = t.map g
  | [] => rfl
  | x :: t => by rw [fm_cons, fm_map g t]; rfl
theorem ordTo_has {t : List Int} {k : Nat} (hk : k < t.length) (h : t.getD k 0 < 0) : t.getD k 0 ∈ ordTo t t.length := by
  obtain ⟨s, hs⟩ := ordTo_pre t (k + 1) (t.length - (k + 1))
  rw [show k + 1 + (t.length - (k + 1)) = t.length by omega] at hs
  rw [hs]
  exact List.mem_append_left _ (ordTo_mem h)
theorem ordTo_is {t : List Int} {n : Int} : ∀ m, n ∈ ordTo t m → n < 0 ∧ ∃ k, k < m ∧ t.getD k 0 = n
  | 0, h => by cases h
  | m + 1, h => by
    unfold ordTo at h
    split at h
    · rename_i hc
      rcases List.mem_append.1 h with h1 | h1
      · obtain ⟨a1, k, a2, a3⟩ := ordTo_is m h1
        exact ⟨a1, k, by omega, a3⟩
      · rw [List.mem_singleton] at h1
        exact ⟨h1 ▸ hc.1, m, by omega, h1.symm⟩
    · obtain ⟨a1, k, a2, a3⟩ := ordTo_is m h
      exact ⟨a1, k, by omega, a3⟩
theorem gd_idx {o : List Int} {n : Int} (h : n ∈ o) : o.getD (o.idxOf n) 0 = n := by
  rw [List.getD_eq_getElem?_getD, List.getElem?_eq_getElem (List.idxOf_lt_length_of_mem h), Option.getD_some, List.getElem_idxOf]
theorem rn_at {x y : List Int} (h : renOf x = renOf y) {k : Nat} (hk : k < x.length) : rn (ordTo x x.length) (x.getD k 0) = rn (ordTo y y.length) (y.getD k 0) := by
  have hl : x.length = y.length := by
    have := congrArg List.length h
    simpa [renOf] using this
  have h2 : (renOf x)[k]? = (renOf y)[k]? := by rw [h]
  unfold renOf at h2
  rw [List.getElem?_map, List.getElem?_map, List.getElem?_eq_getElem hk, List.getElem?_eq_getElem (by omega)] at h2
  rw [List.getD_eq_getElem?_getD, List.getElem?_eq_getElem hk, List.getD_eq_getElem?_getD, List.getElem?_eq_getElem (by omega)]
  simpa using h2
/-- A variable of the one term to the variable at its place in the other. -/
def toV (x y : List Int) (n : Int) : Int := if n < 0 ∧ n ∈ ordTo x x.length then (ordTo y y.length).getD ((ordTo x x.length).idxOf n) 0 else n
theorem toV_at {x y : List Int} (h : renOf x = renOf y) {k : Nat} (hk : k < x.length) : toV x y (x.getD k 0) = y.getD k 0 := by
  have hl : x.length = y.length := by
    have := congrArg List.length h
    simpa [renOf] using this
  have hr := rn_at h hk
  unfold toV
  by_cases h0 : x.getD k 0 < 0
  · have hm := ordTo_has hk h0
    rw [if_pos ⟨h0, hm⟩]
    unfold rn at hr
    rw [if_pos ⟨h0, hm⟩] at hr
    by_cases h1 : y.getD k 0 < 0
    · have hm1 := ordTo_has (t := y) (k := k) (by omega) h1
      rw [if_pos ⟨h1, hm1⟩] at hr
      have : (ordTo x x.length).idxOf (x.getD k 0) = (ordTo y y.length).idxOf (y.getD k 0) := by omega
      rw [this, gd_idx hm1]
    · rw [if_neg (fun hh => h1 hh.1)] at hr
      omega
  · rw [if_neg (fun hh => h0 hh.1)]
    unfold rn at hr
    rw [if_neg (fun hh => h0 hh.1)] at hr
    by_cases h1 : y.getD k 0 < 0
    · have hm1 := ordTo_has (t := y) (k := k) (by omega) h1
      rw [if_pos ⟨h1, hm1⟩] at hr
      omega
    · rw [if_neg (fun hh => h1 hh.1)] at hr
      exact hr
theorem ren_inst {a x y : List Int} (hx : termOk a x = true) (hy : termOk a y = true) (h : renOf x = renOf y) : instanceIn a x y = true := by
  have hl : x.length = y.length := by
    have := congrArg List.length h
    simpa [renOf] using this
  refine instanceIn_iff.2 ⟨hx, hy, fun n => [toV x y n], ⟨fun n hn => ?_, fun n h1 h2 => ?_⟩, ?_⟩
  · unfold toV
    rw [if_neg (fun hh => by omega)]
  · by_cases hm : n < 0 ∧ n ∈ ordTo x x.length
    · obtain ⟨_, k, hk, e⟩ := ordTo_is _ hm.2
      have h3 := toV_at h hk
      rw [e] at h3
      simp only [h3]
      have hyk := termOk_get hy (k := k) (by omega)
      have hr := rn_at h hk
      refine tm_var ⟨hyk.1, ?_⟩
      rw [e] at hr
      unfold rn at hr
      rw [if_pos hm] at hr
      by_cases h4 : y.getD k 0 < 0
      · exact h4
      · rw [if_neg (fun hh => h4 hh.1)] at hr
        omega
    · unfold toV
      simp only [if_neg hm]
      exact tm_var ⟨h1, h2⟩
  · rw [fm_map]
    refine List.ext_getElem (by rw [List.length_map, hl]) fun k h1 h2 => ?_
    rw [List.length_map] at h1
    have := toV_at h h1
    rw [List.getD_eq_getElem?_getD, List.getElem?_eq_getElem h1, List.getD_eq_getElem?_getD, List.getElem?_eq_getElem h2] at this
    simpa using this
theorem anyTo_iff {f : Nat → Bool} : ∀ m, anyTo f m = true ↔ ∃ k, k < m ∧ f k = true
  | 0 => by simp [anyTo]
  | m + 1 => by
    simp only [anyTo, Bool.or_eq_true]
    rw [anyTo_iff m]
    constructor
    · rintro (⟨k, h1, h2⟩ | h)
      · exact ⟨k, by omega, h2⟩
      · exact ⟨m, by omega, h⟩
    · rintro ⟨k, h1, h2⟩
      by_cases e : k = m
      · exact .inr (e ▸ h2)
      · exact .inl ⟨k, by omega, h2⟩
/-- How many of a list are instances of one of it. -/
def insts (a : List Int) (ps : List (List Int)) (i : Nat) : Nat := ((List.range ps.length).filter fun k => instanceIn a (ps.getD i default) (ps.getD k default)).length
theorem insts_le (a : List Int) (ps : List (List Int)) (i : Nat) : insts a ps i ≤ ps.length := by
  unfold insts
  have := List.length_filter_le (fun k => instanceIn a (ps.getD i default) (ps.getD k default)) (List.range ps.length)
  simpa using this
theorem filter_le' {p q : Nat → Bool} : ∀ l : List Nat, (∀ x, q x = true → p x = true) → (l.filter q).length ≤ (l.filter p).length
  | [], h => Nat.le_refl _
  | y :: l, h => by
    have ih := filter_le' l h
    by_cases hy : q y = true
    · rw [List.filter_cons_of_pos hy, List.filter_cons_of_pos (h y hy)]; simpa using ih
    · rw [List.filter_cons_of_neg hy]
      by_cases hy2 : p y = true
      · rw [List.filter_cons_of_pos hy2]; simp; omega
      · rw [List.filter_cons_of_neg hy2]; exact ih
theorem mg_covers {a : List Int} {ps : List (List Int)} (h : allOk a ps = true) : ∀ (N i : Nat), i < ps.length → (ps.length - insts a ps i) * (ps.length + 1) + i < N →
    ∃ k, k < ps.length ∧ bestP a ps k = true ∧ instanceIn a (ps.getD k default) (ps.getD i default) = true
  | 0, i, hi, hN => by omega
  | N + 1, i, hi, hN => by
    by_cases hb : bestP a ps i = true
    · exact ⟨i, hi, hb, instanceIn_refl (allOk_get h hi)⟩
    · have hb' : anyTo (beats a ps i) ps.length = true := by
        unfold bestP at hb
        cases hh : anyTo (beats a ps i) ps.length with
        | true => rfl
        | false => rw [hh] at hb; simp at hb
      obtain ⟨k, hk, hbt⟩ := (anyTo_iff _).1 hb'
      have hti := allOk_get h hi
      have htk := allOk_get h hk
      unfold beats at hbt
      rw [Bool.or_eq_true] at hbt
      have hil := insts_le a ps i
      have hkl := insts_le a ps k
      have key : instanceIn a (ps.getD k default) (ps.getD i default) = true ∧ (ps.length - insts a ps k) * (ps.length + 1) + k < (ps.length - insts a ps i) * (ps.length + 1) + i := by
        rcases hbt with hm | hm
        · unfold moreGeneral at hm
          rw [Bool.and_eq_true, Bool.not_eq_true'] at hm
          refine ⟨hm.1, ?_⟩
          have hlt : insts a ps i < insts a ps k := filter_lt (k := k) (fun x hx => instanceIn_trans hm.1 hx) (List.mem_range.2 hk) (instanceIn_refl htk) hm.2
          have : (ps.length - insts a ps k) + 1 ≤ ps.length - insts a ps i := by omega
          have := Nat.mul_le_mul_right (ps.length + 1) this
          rw [Nat.add_mul] at this
          omega
        · rw [Bool.and_eq_true, decide_eq_true_eq, decide_eq_true_eq] at hm
          have h1 := ren_inst htk hti hm.2
          have h2 := ren_inst hti htk hm.2.symm
          refine ⟨h1, ?_⟩
          have e : insts a ps i = insts a ps k := Nat.le_antisymm (filter_le' _ fun x hx => instanceIn_trans h1 hx) (filter_le' _ fun x hx => instanceIn_trans h2 hx)
          rw [e]
          omega
      obtain ⟨j, hj, hbj, hij⟩ := mg_covers h N k hk (by omega)
      exact ⟨j, hj, hbj, instanceIn_trans hij key.1⟩
theorem selTo_mem {f : Nat → Bool} {k : Nat} : ∀ m, k < m → f k = true → (k : Int) ∈ selTo f m
  | 0, h, _ => by omega
  | m + 1, h, hf => by
    unfold selTo
    by_cases e : k = m
    · subst e
      rw [if_pos hf]
      simp
    · have ih := selTo_mem m (by omega) hf
      split
      · exact List.mem_append_left _ ih
      · exact ih
theorem selTo_is {f : Nat → Bool} {x : Int} : ∀ m, x ∈ selTo f m → 0 ≤ x ∧ x < m ∧ f x.toNat = true
  | 0, h => by cases h
  | m + 1, h => by
    unfold selTo at h
    split at h
    · rcases List.mem_append.1 h with h1 | h1
      · have := selTo_is m h1
        exact ⟨this.1, by omega, this.2.2⟩
      · rw [List.mem_singleton] at h1
        subst h1
        exact ⟨by omega, by omega, by simpa using ‹f m = true›⟩
    · have := selTo_is m h
      exact ⟨this.1, by omega, this.2.2⟩
end Go.Proofs.Ytmlnobegikdenaa
