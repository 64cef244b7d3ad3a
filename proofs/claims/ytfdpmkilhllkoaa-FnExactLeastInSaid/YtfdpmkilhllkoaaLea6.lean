/- The least terms are the fixpoint: plain. -/
import Derived.Test.YtfdpmkilhllkoaaLea5
namespace Go.Proofs.Ytfdpmkilhllkoaa
open Go Go.Eng
set_option linter.unusedVariables false
set_option linter.unusedSimpArgs false
theorem leT_of {a b : List Int} (h : ¬ ltT a b) : leT b a := by
  unfold ltT at h
  unfold leT leL
  have := cmpL_neg a b
  by_cases e : b.length < a.length
  · exact .inl e
  · refine .inr ⟨by omega, ?_⟩
    have h2 : ¬ cmpL a b < 0 := fun h3 => h (.inr ⟨by omega, h3⟩)
    omega
theorem leT_trans {a b c : List Int} (h : leT a b) (h2 : leT b c) : leT a c := by
  unfold leT at *
  rcases h with h | ⟨h, h'⟩
  · rcases h2 with h2 | ⟨h2, _⟩ <;> exact .inl (by omega)
  · rcases h2 with h2 | ⟨h2, h2'⟩
    · exact .inl (by omega)
    · exact .inr ⟨by omega, leL_trans h' h2'⟩
theorem leT_cons {x : Int} {a b : List Int} (h : leT a b) : leT (x :: a) (x :: b) := by
  unfold leT at *
  simp only [List.length_cons]
  rcases h with h | ⟨h, h'⟩
  · exact .inl (by omega)
  · exact .inr ⟨by omega, leL_cons h'⟩
theorem leT_app {a b u v : List Int} (h : leT a b) (h2 : leT u v) : leT (a ++ u) (b ++ v) := by
  unfold leT at *
  simp only [List.length_append]
  rcases h with h | ⟨h, h'⟩
  · rcases h2 with h2 | ⟨h2, _⟩ <;> exact .inl (by omega)
  · rcases h2 with h2 | ⟨h2, h2'⟩
    · exact .inl (by omega)
    · exact .inr ⟨by omega, leL_app h h' h2'⟩
theorem leT_refl (a : List Int) : leT a a := .inr ⟨rfl, by unfold leL; rw [cmpL_refl]; omega⟩
abbrev bAt (best : List (List Int)) (c : Int) : List Int := best.getD c.toNat default
def catB (best : List (List Int)) (cs : List Int) : List Int := (cs.map (bAt best)).flatten
theorem catB_cons {best : List (List Int)} {c : Int} {cs : List Int} : catB best (c :: cs) = bAt best c ++ catB best cs := by
  unfold catB
  rw [List.map_cons, List.flatten_cons]
theorem catB_take {best : List (List Int)} {cs : List Int} {k : Nat} (h : k < cs.length) : catB best (cs.take (k + 1)) = catB best (cs.take k) ++ bAt best (cs.getD k 0) := by
  unfold catB
  rw [List.take_succ_eq_append_getElem h, List.map_append, List.flatten_append, List.getD_eq_getElem?_getD, List.getElem?_eq_getElem h]
  simp
theorem catB_take_le {best : List (List Int)} {cs : List Int} {k : Nat} : (catB best (cs.take k)).length ≤ (catB best cs).length := by
  unfold catB
  conv => rhs; rw [← List.take_append_drop k cs, List.map_append, List.flatten_append, List.length_append]
  omega
/-- The first k arguments have terms, and these are not too long. -/
def firesTo (best : List (List Int)) (cs : List Int) (k : Nat) : Prop := ∀ i, i < k → bAt best (cs.getD i 0) ≠ [] ∧ 1 + (catB best (cs.take (i + 1))).length ≤ 60
theorem fires_of {best : List (List Int)} {cs : List Int} (h : ∀ c ∈ cs, bAt best c ≠ []) (hl : 1 + (catB best cs).length ≤ 60) : firesTo best cs cs.length := fun i hi => by
  refine ⟨h _ (by rw [List.getD_eq_getElem?_getD, List.getElem?_eq_getElem hi]; exact List.getElem_mem hi), ?_⟩
  have := catB_take_le (best := best) (cs := cs) (k := i + 1)
  omega
theorem fires_next {best : List (List Int)} {cs : List Int} {k : Nat} (h : firesTo best cs k) (h1 : bAt best (cs.getD k 0) ≠ []) (h2 : 1 + (catB best (cs.take (k + 1))).length ≤ 60) : firesTo best cs (k + 1) := fun i hi => by
  by_cases e : i = k
  · rw [e]; exact ⟨h1, h2⟩
  · exact h i (by omega)
/-- A rule brings nothing less. -/
def ClosedAt (best : List (List Int)) (r : STrans) : Prop := firesTo best r.2.1 r.2.1.length → bAt best r.2.2 ≠ [] ∧ ¬ ltT (r.1 :: catB best r.2.1) (bAt best r.2.2)
/-- What is kept for a state leads to it. -/
def BOk (rs : List STrans) (best : List (List Int)) : Prop := ∀ q : Nat, q < best.length → best.getD q default = [] ∨ (Tms rs [(q : Int)] (best.getD q default) ∧ (best.getD q default).length ≤ 60)
structure FixB (rs : List STrans) (n : Int) (best : List (List Int)) : Prop where
  len : best.length = n.toNat
  ok : BOk rs best
  closed : ∀ r ∈ rs, ClosedAt best r
theorem fix_le {rs : List STrans} {best : List (List Int)} (hcl : ∀ r ∈ rs, ClosedAt best r) {cs w : List Int} (h : Tms rs cs w) : w.length ≤ 59 → (∀ c ∈ cs, bAt best c ≠ []) ∧ leT (catB best cs) w := by
  induction h with
  | nil => exact fun _ => ⟨fun c hc => absurd hc (by simp), leT_refl _⟩
  | @cons a cs f bs u v h1 h2 h3 ih1 ih2 =>
    intro hw
    simp only [List.length_cons, List.length_append] at hw
    obtain ⟨h4, h5⟩ := ih1 (by omega)
    obtain ⟨h6, h7⟩ := ih2 (by omega)
    have hlen : (catB best bs).length ≤ u.length := by
      rcases h5 with h5 | ⟨h5, _⟩ <;> omega
    obtain ⟨h8, h9⟩ := hcl _ h1 (fires_of h4 (by show 1 + (catB best bs).length ≤ 60; omega))
    refine ⟨fun c hc => ?_, ?_⟩
    · rcases List.mem_cons.1 hc with rfl | hc
      · exact h8
      · exact h6 c hc
    · rw [catB_cons]
      exact leT_app (leT_trans (leT_of h9) (leT_cons h5)) h7
/-- The least that leads to one state. -/
theorem fix_least {rs : List STrans} {n : Int} {best : List (List Int)} (h : FixB rs n best) {q : Int} (hq : 0 ≤ q ∧ q < n) : LeastT (Acc rs [q]) (bAt best q) := by
  have hacc : ∀ s, Acc rs [q] s → bAt best q ≠ [] ∧ leT (bAt best q) s := by
    rintro s ⟨q', hq', h1, h2⟩
    rw [List.mem_singleton] at hq'
    subst hq'
    obtain ⟨f, bs, u, h3, h4, rfl⟩ := tms_one.1 h1
    simp only [List.length_cons] at h2
    obtain ⟨h5, h6⟩ := fix_le h.closed h4 (by omega)
    have hlen : (catB best bs).length ≤ u.length := by
      rcases h6 with h6 | ⟨h6, _⟩ <;> omega
    obtain ⟨h8, h9⟩ := h.closed _ h3 (fires_of h5 (by show 1 + (catB best bs).length ≤ 60; omega))
    exact ⟨h8, leT_trans (leT_of h9) (leT_cons h6)⟩
  by_cases hb : bAt best q = []
  · exact .inl ⟨hb, fun s hs => (hacc s hs).1 hb⟩
  · refine .inr ⟨?_, hb, fun s hs => (hacc s hs).2⟩
    rcases h.ok q.toNat (by rw [h.len]; omega) with h1 | ⟨h1, h2⟩
    · exact absurd h1 hb
    · rw [Int.toNat_of_nonneg hq.1] at h1
      exact ⟨q, by simp, h1, h2⟩
/-! ### What grows less -/
def valD : List Int → Nat
  | [] => 0
  | d :: l => d.toNat * 8 ^ l.length + valD l
theorem valD_lt : ∀ l : List Int, (∀ d ∈ l, 0 ≤ d ∧ d < 8) → valD l < 8 ^ l.length
  | [], _ => by decide
  | d :: l, h => by
    have h1 := valD_lt l fun x hx => h x (List.mem_cons_of_mem _ hx)
    have h2 := h d List.mem_cons_self
    have h3 : d.toNat * 8 ^ l.length ≤ 7 * 8 ^ l.length := Nat.mul_le_mul_right _ (by omega)
    rw [valD, List.length_cons, Nat.pow_succ]
    omega
theorem valD_cmp : ∀ {a b : List Int}, (∀ d ∈ a, 0 ≤ d ∧ d < 8) → (∀ d ∈ b, 0 ≤ d ∧ d < 8) → a.length = b.length → cmpL a b < 0 → valD a < valD b
  | [], [], _, _, _, h => by simp [cmpL] at h
  | [], _ :: _, _, _, h, _ => by simp at h
  | _ :: _, [], _, _, h, _ => by simp at h
  | x :: a, y :: b, ha, hb, hl, h => by
    have ha' : ∀ d ∈ a, 0 ≤ d ∧ d < 8 := fun d hd => ha d (List.mem_cons_of_mem _ hd)
    have hb' : ∀ d ∈ b, 0 ≤ d ∧ d < 8 := fun d hd => hb d (List.mem_cons_of_mem _ hd)
    have hl' : a.length = b.length := by simpa using hl
    have hx := ha x List.mem_cons_self
    have hy := hb y List.mem_cons_self
    have h1 := valD_lt a ha'
    rw [cmpL] at h
    rw [valD, valD, hl']
    rw [hl'] at h1
    split at h
    · have : (x.toNat + 1) * 8 ^ b.length ≤ y.toNat * 8 ^ b.length := Nat.mul_le_mul_right _ (by omega)
      rw [Nat.add_mul, Nat.one_mul] at this
      omega
    · split at h
      · omega
      · have := valD_cmp ha' hb' hl' h
        rw [show x = y by omega]
        omega
def rk (t : List Int) : Nat := if t = [] then 8 ^ 60 * 61 else 8 ^ 60 * t.length + valD t
theorem rk_lt {a b : List Int} (ha : ∀ d ∈ a, 0 ≤ d ∧ d < 8) (hb : ∀ d ∈ b, 0 ≤ d ∧ d < 8) (hne : a ≠ []) (hl : a.length ≤ 60) (h : b = [] ∨ (b.length ≤ 60 ∧ ltT a b)) : rk a < rk b := by
  have h1 := valD_lt a ha
  have h2 : 8 ^ a.length ≤ 8 ^ 60 := Nat.pow_le_pow_right (by decide) hl
  unfold rk
  rw [if_neg hne]
  by_cases hb0 : b = []
  · rw [if_pos hb0]
    have : 8 ^ 60 * a.length ≤ 8 ^ 60 * 60 := Nat.mul_le_mul_left _ hl
    omega
  · rw [if_neg hb0]
    rcases h with h | ⟨_, h | ⟨h, h'⟩⟩
    · exact absurd h hb0
    · have : 8 ^ 60 * (a.length + 1) ≤ 8 ^ 60 * b.length := Nat.mul_le_mul_left _ h
      rw [Nat.mul_add, Nat.mul_one] at this
      omega
    · rw [h]
      have := valD_cmp ha hb h h'
      omega
def rkS : List (List Int) → Nat
  | [] => 0
  | t :: l => rk t + rkS l
theorem rkS_set : ∀ {l : List (List Int)} {q : Nat} {t : List Int}, q < l.length → rk t < rk (l.getD q default) → rkS (l.set q t) < rkS l
  | [], _, _, h, _ => by simp at h
  | x :: l, 0, t, _, h => by
    rw [List.getD_cons_zero] at h
    simp only [List.set_cons_zero, rkS]; omega
  | x :: l, q + 1, t, hq, h => by
    rw [List.getD_cons_succ] at h
    have := rkS_set (l := l) (q := q) (t := t) (by simpa using hq) h
    simp only [List.set_cons_succ, rkS]; omega
theorem tms_dig {rs : List STrans} (hr : ∀ r ∈ rs, 0 ≤ r.1 ∧ r.1 < 8) {cs w : List Int} (h : Tms rs cs w) : ∀ d ∈ w, 0 ≤ d ∧ d < 8 := by
  induction h with
  | nil => intro d hd; cases hd
  | @cons a cs f bs u v h1 _ _ ih1 ih2 =>
    intro d hd
    rcases List.mem_cons.1 hd with rfl | hd
    · exact hr _ h1
    · rcases List.mem_append.1 hd with hd | hd
      · exact ih1 d hd
      · exact ih2 d hd
end Go.Proofs.Ytfdpmkilhllkoaa
