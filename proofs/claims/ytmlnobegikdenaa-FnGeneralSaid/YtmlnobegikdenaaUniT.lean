/- Triangular substitutions and what they stand for: no program in sight. -/
import Derived.Test.YtmlnobegikdenaaUni
namespace Go.Proofs.Ytmlnobegikdenaa
open Go Go.Eng
set_option linter.unusedVariables false
set_option linter.unusedSimpArgs false

def bdF (bs : List (List Int)) (n : Int) : List Int := bs.getD (-1 - n).toNat []
def Resp (bs : List (List Int)) (τ : Int → List Int) : Prop := ∀ n, -24 ≤ n → n < 0 → bdF bs n ≠ [] → τ n = fm τ (bdF bs n)
structure Tri (a : List Int) (bs : List (List Int)) (σ : Int → List Int) : Prop where
  len : bs.length = 48
  io : IO a σ
  un : ∀ n, -24 ≤ n → n < 0 → bdF bs n = [] → σ n = [n]
  bo : ∀ n, -24 ≤ n → n < 0 → bdF bs n ≠ [] → termOk a (bdF bs n) = true ∧ σ n = fm σ (bdF bs n) ∧ ∀ m, bdF bs n = [m] → m < 0 → n < m
  gen : Gen a (Resp bs) σ
theorem bd_set {bs : List (List Int)} {i n : Int} {b : List Int} (hl : bs.length = 48) (hi : -24 ≤ i ∧ i < 0) (hn : -24 ≤ n ∧ n < 0) : bdF (bs.set (-1 - i).toNat b) n = if n = i then b else bdF bs n := by
  unfold bdF
  simp only [List.getD_eq_getElem?_getD, List.getElem?_set]
  by_cases h : n = i
  · subst h
    rw [if_pos rfl, if_pos rfl, if_pos (by omega)]; rfl
  · rw [if_neg h, if_neg (by omega)]
theorem tri_zero (a : List Int) : Tri a (List.replicate 48 []) (fun n => [n]) := by
  have hz : ∀ n : Int, bdF (List.replicate 48 []) n = [] := fun n => by
    unfold bdF
    rw [List.getD_eq_getElem?_getD, List.getElem?_replicate]
    split <;> rfl
  refine ⟨by simp, ⟨⟨fun n _ => rfl, fun n h1 h2 => tm_var ⟨h1, h2⟩⟩, fun n _ _ m _ _ => rfl, fun n _ _ m hm _ => ?_⟩, fun n _ _ _ => rfl, fun n _ _ h => absurd (hz n) h, fun τ _ _ n _ _ => fm_one τ n⟩
  injection hm with hm _
  omega
theorem resp_zero (τ : Int → List Int) : Resp (List.replicate 48 []) τ := fun n _ _ h => absurd (by
  unfold bdF
  rw [List.getD_eq_getElem?_getD, List.getElem?_replicate]
  split <;> rfl) h
theorem resp_bind {bs : List (List Int)} {i : Int} {b : List Int} {τ : Int → List Int} (hl : bs.length = 48) (hi : -24 ≤ i ∧ i < 0) (h0 : bdF bs i = []) (hb : b ≠ []) : Resp (bs.set (-1 - i).toNat b) τ ↔ Resp bs τ ∧ τ i = fm τ b := by
  constructor
  · intro h
    refine ⟨fun n h1 h2 h3 => ?_, ?_⟩
    · have := h n h1 h2
      rw [bd_set hl hi ⟨h1, h2⟩, if_neg (fun e : n = i => h3 (by rw [e]; exact h0))] at this
      exact this h3
    · have := h i hi.1 hi.2
      rw [bd_set hl hi hi, if_pos rfl] at this
      exact this hb
  · rintro ⟨h, h'⟩ n h1 h2
    rw [bd_set hl hi ⟨h1, h2⟩]
    by_cases e : n = i
    · rw [if_pos e, e]; exact fun _ => h'
    · rw [if_neg e]; exact h n h1 h2
theorem tri_bind {a : List Int} {bs : List (List Int)} {σ : Int → List Int} {i : Int} {b : List Int} (h : Tri a bs σ) (hi : -24 ≤ i ∧ i < 0) (h0 : bdF bs i = []) (hb : termOk a b = true) (hn : i ∉ fm σ b) (ho : ∀ j, b = [j] → j < 0 → i < j ∧ σ j = [j]) :
    Tri a (bs.set (-1 - i).toNat b) (bindF σ i (fm σ b)) := by
  have hbt := tm_ok hb
  have hbl := tm_pos hbt
  have hbn : b ≠ [] := fun e => by rw [e] at hbl; simp at hbl
  have hσ := h.io.sb
  have hs := h.un i hi.1 hi.2 h0
  have hone := sb_one hi.2 (hσ.fm hbt)
  refine ⟨by rw [List.length_set]; exact h.len, io_bind h.io hi hs (hσ.fm hbt) (fun m hm h0 => h.io.fix hbt hm h0) hn (fun j hj hj0 => ?_), fun n h1 h2 h3 => ?_, fun n h1 h2 h3 => ?_, ?_⟩
  · have hl := fm_len_ge (hσ.lens hbt)
    rw [hj, List.length_singleton] at hl
    obtain ⟨k, hk⟩ := List.length_eq_one_iff.1 (show b.length = 1 by omega)
    rw [hk, fm_one] at hj
    by_cases hk0 : 0 ≤ k
    · rw [hσ.pos k hk0] at hj
      injection hj with hj _
      omega
    · obtain ⟨h5, h6⟩ := ho k hk (by omega)
      rw [h6] at hj
      injection hj with hj _
      omega
  · rw [bd_set h.len hi ⟨h1, h2⟩] at h3
    by_cases e : n = i
    · rw [if_pos e] at h3; exact absurd h3 hbn
    · rw [if_neg e] at h3
      unfold bindF
      rw [h.un n h1 h2 h3, fm_one, one_ne _ e]
  · rw [bd_set h.len hi ⟨h1, h2⟩] at h3 ⊢
    by_cases e : n = i
    · subst e
      rw [if_pos rfl]
      refine ⟨hb, ?_, fun m hm hm0 => (ho m hm hm0).1⟩
      rw [bindF_fm, fm_one_not hn]
      unfold bindF
      rw [hs, fm_one, one_self]
    · rw [if_neg e] at h3 ⊢
      obtain ⟨h4, h5, h6⟩ := h.bo n h1 h2 h3
      refine ⟨h4, ?_, h6⟩
      rw [bindF_fm, ← h5]
      rfl
  · refine gen_bind h.gen (fun τ hτ hr => ?_)
    obtain ⟨h1, h2⟩ := (resp_bind h.len hi h0 hbn).1 hr
    exact ⟨h1, by rw [h.gen.all hσ hτ h1 hbt]; exact h2⟩
/-- How many variables are free. -/
def ubN (bs : List (List Int)) : Nat := ((List.range 24).filter fun k => bs.getD k [] = []).length
theorem filter_lt {p q : Nat → Bool} : ∀ {l : List Nat} {k : Nat}, (∀ x, q x = true → p x = true) → k ∈ l → p k = true → q k = false → (l.filter q).length < (l.filter p).length
  | x :: l, k, h, hk, hp, hq => by
    have hle : ∀ l : List Nat, (l.filter q).length ≤ (l.filter p).length := by
      intro l
      induction l with
      | nil => simp
      | cons y l ih =>
        by_cases hy : q y = true
        · rw [List.filter_cons_of_pos hy, List.filter_cons_of_pos (h y hy)]; simp; exact ih
        · rw [List.filter_cons_of_neg hy]
          by_cases hy2 : p y = true
          · rw [List.filter_cons_of_pos hy2]; simp; omega
          · rw [List.filter_cons_of_neg hy2]; exact ih
    rcases List.mem_cons.1 hk with e | e
    · subst e
      rw [List.filter_cons_of_pos hp, List.filter_cons_of_neg (by rw [hq]; decide)]
      have := hle l
      simp; omega
    · have ih := filter_lt h e hp hq
      by_cases hy : q x = true
      · rw [List.filter_cons_of_pos hy, List.filter_cons_of_pos (h x hy)]; simp; exact ih
      · rw [List.filter_cons_of_neg hy]
        by_cases hy2 : p x = true
        · rw [List.filter_cons_of_pos hy2]; simp; omega
        · rw [List.filter_cons_of_neg hy2]; exact ih
theorem ub_bind {bs : List (List Int)} {i : Int} {b : List Int} (hl : bs.length = 48) (hi : -24 ≤ i ∧ i < 0) (h0 : bdF bs i = []) (hb : b ≠ []) : ubN (bs.set (-1 - i).toNat b) < ubN bs := by
  unfold ubN
  refine filter_lt (k := (-1 - i).toNat) (fun x hx => ?_) (by rw [List.mem_range]; omega) (by rw [decide_eq_true_iff]; exact h0) ?_
  · rw [decide_eq_true_iff] at hx ⊢
    by_cases e : (-1 - i).toNat = x
    · rw [← e]; exact h0
    · rw [List.getD_eq_getElem?_getD, List.getElem?_set, if_neg e] at hx
      rw [List.getD_eq_getElem?_getD]; exact hx
  · rw [decide_eq_false_iff_not, List.getD_eq_getElem?_getD, List.getElem?_set, if_pos rfl, if_pos (by omega)]
    exact hb
/-- Along bindings this goes down. -/
def rk (σ : Int → List Int) (m : Int) : Nat := (σ m).length * 64 + (-m).toNat
theorem rk_lt {a : List Int} {bs : List (List Int)} {σ : Int → List Int} (h : Tri a bs σ) {n m : Int} (h1 : -24 ≤ n) (h2 : n < 0) (h3 : bdF bs n ≠ []) (hm : m ∈ bdF bs n) (hm0 : m < 0) : rk σ m < rk σ n := by
  obtain ⟨h4, h5, h6⟩ := h.bo n h1 h2 h3
  have ht := tm_ok h4
  have hl := fm_len_mem (h.io.sb.lens ht) hm
  have hr := tm_mem ht hm
  rw [← h5] at hl
  have hp := tm_pos ht
  unfold rk
  by_cases hl1 : (bdF bs n).length = 1
  · obtain ⟨k, hk⟩ := List.length_eq_one_iff.1 hl1
    rw [hk, List.mem_singleton] at hm
    subst hm
    have := h6 m hk hm0
    rw [hl1] at hl
    have hle : (σ m).length ≤ (σ n).length := by omega
    have : (σ m).length * 64 ≤ (σ n).length * 64 := Nat.mul_le_mul_right _ hle
    omega
  · omega
def rkT (σ : Int → List Int) : List Int → Nat
  | [] => 0
  | m :: t => max (if m < 0 then rk σ m + 1 else 0) (rkT σ t)
theorem rkT_mem {σ : Int → List Int} : ∀ {t : List Int} {m : Int}, m ∈ t → m < 0 → rk σ m < rkT σ t
  | x :: t, m, h, h0 => by
    unfold rkT
    rcases List.mem_cons.1 h with e | e
    · subst e; rw [if_pos h0]; omega
    · have := rkT_mem (σ := σ) e h0; omega
theorem rkT_le {σ : Int → List Int} {r : Nat} : ∀ {t : List Int}, (∀ m ∈ t, m < 0 → rk σ m < r) → rkT σ t ≤ r
  | [], _ => Nat.zero_le _
  | x :: t, h => by
    have h1 := rkT_le (fun m hm => h m (List.mem_cons_of_mem _ hm))
    unfold rkT
    by_cases hx : x < 0
    · have := h x (by simp) hx
      rw [if_pos hx]; omega
    · rw [if_neg hx]; omega
/-- What the bindings stand for. -/
def TriE (a : List Int) (bs : List (List Int)) : Prop := ∃ σ, Tri a bs σ
open Classical in
noncomputable def sg (a : List Int) (bs : List (List Int)) : Int → List Int := if h : TriE a bs then Classical.choose h else fun n => [n]
theorem tri_sg {a : List Int} {bs : List (List Int)} (h : TriE a bs) : Tri a bs (sg a bs) := by
  unfold sg; rw [dif_pos h]; exact Classical.choose_spec h
theorem rkT_bd {a : List Int} {bs : List (List Int)} {σ : Int → List Int} (h : Tri a bs σ) {n : Int} (h1 : -24 ≤ n) (h2 : n < 0) (h3 : bdF bs n ≠ []) : rkT σ (bdF bs n) ≤ rk σ n := rkT_le fun m hm hm0 => rk_lt h h1 h2 h3 hm hm0
theorem tri_resp {a : List Int} {bs : List (List Int)} {σ : Int → List Int} (h : Tri a bs σ) : Resp bs σ := fun n h1 h2 h3 => (h.bo n h1 h2 h3).2.1
/-- Solved: the bindings are the one unifier. -/
theorem tri_iom {a s t : List Int} {bs : List (List Int)} {σ : Int → List Int} (h : Tri a bs σ) (hr : ∀ τ, Sb a τ → (Resp bs τ ↔ fm τ s = fm τ t)) : IOM a s t σ :=
  ⟨h.io, (hr σ h.io.sb).1 (tri_resp h), fun τ hτ he n h1 h2 => h.gen τ hτ ((hr τ hτ).2 he) n h1 h2⟩
theorem tri_plain {a : List Int} {bs ts : List (List Int)} {σ : Int → List Int} (h : Tri a bs σ) (hl : ts.length = 24) (hr : ∀ k : Nat, k < 24 → ts.getD k [] = if bs.getD k [] = [] then [] else σ (-1 - (k : Int))) : plainOf ts = plainOf (tabOf σ) := by
  refine plain_of_tab hl (fun k hk => ?_)
  have e : (-1 - (-1 - (k : Int))).toNat = k := by omega
  rw [hr k hk]
  by_cases h0 : bs.getD k [] = []
  · rw [if_pos h0]
    exact .inr ⟨rfl, h.un _ (by omega) (by omega) (by unfold bdF; rw [e]; exact h0)⟩
  · rw [if_neg h0]; exact .inl rfl
end Go.Proofs.Ytmlnobegikdenaa
