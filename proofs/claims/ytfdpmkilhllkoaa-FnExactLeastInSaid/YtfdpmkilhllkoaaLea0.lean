/- Least terms that an automaton takes: plain. -/
import Derived.Test.YtfdpmkilhllkoaaAuto2
namespace Go.Proofs.Ytfdpmkilhllkoaa
open Go Go.Eng
set_option linter.unusedVariables false
set_option linter.unusedSimpArgs false
/-! ### Lists, compared -/
def cmpL : List Int → List Int → Int
  | [], [] => 0
  | [], _ :: _ => -1
  | _ :: _, [] => 1
  | x :: xs, y :: ys => if x < y then -1 else if y < x then 1 else cmpL xs ys
def cmpI (x y : Int) : Int := if x < y then -1 else if y < x then 1 else 0
theorem cmpI_bd (x y : Int) : -1 ≤ cmpI x y ∧ cmpI x y ≤ 1 := by
  unfold cmpI
  split
  · decide
  · split <;> decide
theorem cmpL_hd {x y : Int} {xs ys : List Int} (h : ¬ cmpI x y = 0) : cmpL (x :: xs) (y :: ys) = cmpI x y := by
  unfold cmpI at *
  rw [cmpL]
  split
  · rfl
  · rename_i h1
    rw [if_neg h1] at h
    split
    · rfl
    · rename_i h2
      rw [if_neg h2] at h
      exact absurd rfl h
theorem cmpL_tl {x y : Int} {xs ys : List Int} (h : cmpI x y = 0) : cmpL (x :: xs) (y :: ys) = cmpL xs ys := by
  unfold cmpI at h
  rw [cmpL]
  split
  · rename_i h1
    rw [if_pos h1] at h
    exact absurd h (by decide)
  · rename_i h1
    rw [if_neg h1] at h
    split
    · rename_i h2
      rw [if_pos h2] at h
      exact absurd h (by decide)
    · rfl
theorem cmpL_refl : ∀ x, cmpL x x = 0
  | [] => rfl
  | x :: xs => by rw [cmpL, if_neg (by omega), if_neg (by omega), cmpL_refl xs]
theorem cmpL_eq : ∀ {x y : List Int}, cmpL x y = 0 → x = y
  | [], [], _ => rfl
  | [], _ :: _, h => by simp [cmpL] at h
  | _ :: _, [], h => by simp [cmpL] at h
  | x :: xs, y :: ys, h => by
    rw [cmpL] at h
    split at h
    · omega
    · split at h
      · omega
      · rw [cmpL_eq h, show x = y by omega]
theorem cmpL_neg : ∀ x y : List Int, cmpL y x = - cmpL x y
  | [], [] => rfl
  | [], _ :: _ => rfl
  | _ :: _, [] => rfl
  | x :: xs, y :: ys => by
    rw [cmpL, cmpL]
    by_cases h1 : x < y
    · rw [if_neg (by omega), if_pos h1, if_pos h1]; rfl
    · by_cases h2 : y < x
      · rw [if_pos h2, if_neg h1, if_pos h2]
      · rw [if_neg h2, if_neg h1, if_neg h1, if_neg h2, cmpL_neg xs ys]
theorem cmpL_bd : ∀ x y : List Int, -1 ≤ cmpL x y ∧ cmpL x y ≤ 1
  | [], [] => by simp [cmpL]
  | [], _ :: _ => by simp [cmpL]
  | _ :: _, [] => by simp [cmpL]
  | x :: xs, y :: ys => by
    have := cmpL_bd xs ys
    rw [cmpL]
    split
    · omega
    · split <;> omega
abbrev leL (x y : List Int) : Prop := cmpL x y ≤ 0
theorem leL_trans : ∀ {x y z : List Int}, leL x y → leL y z → leL x z
  | [], [], _, _, h => h
  | [], _ :: _, [], _, h => by simp [leL, cmpL] at h
  | [], _ :: _, _ :: _, _, _ => by simp [leL, cmpL]
  | _ :: _, [], _, h, _ => by simp [leL, cmpL] at h
  | _ :: _, _ :: _, [], _, h => by simp [leL, cmpL] at h
  | x :: xs, y :: ys, z :: zs, h1, h2 => by
    unfold leL at *
    rw [cmpL] at h1 h2 ⊢
    by_cases a : x < y
    · by_cases b : y < z
      · rw [if_pos (by omega)]; omega
      · rw [if_neg b] at h2
        split at h2
        · omega
        · rw [if_pos (by omega)]; omega
    · rw [if_neg a] at h1
      split at h1
      · omega
      · by_cases b : y < z
        · rw [if_pos (by omega)]; omega
        · rw [if_neg b] at h2
          split at h2
          · omega
          · rw [if_neg (by omega), if_neg (by omega)]
            exact leL_trans h1 h2
theorem cmpL_app : ∀ {x y u v : List Int}, x.length = y.length → cmpL (x ++ u) (y ++ v) = if cmpL x y = 0 then cmpL u v else cmpL x y
  | [], [], u, v, _ => by simp [cmpL]
  | [], _ :: _, _, _, h => by simp at h
  | _ :: _, [], _, _, h => by simp at h
  | x :: xs, y :: ys, u, v, h => by
    rw [List.cons_append, List.cons_append, cmpL, cmpL]
    by_cases a : x < y
    · rw [if_pos a, if_pos a, if_neg (by decide)]
    · rw [if_neg a, if_neg a]
      by_cases b : y < x
      · rw [if_pos b, if_pos b, if_neg (by decide)]
      · rw [if_neg b, if_neg b]
        exact cmpL_app (by simpa using h)
theorem leL_app {x y u v : List Int} (h : x.length = y.length) (h1 : leL x y) (h2 : leL u v) : leL (x ++ u) (y ++ v) := by
  unfold leL at *
  rw [cmpL_app h]
  split <;> omega
/-- t is the least of S; it is empty if there is none. -/
def LeastOf (S : List Int → Prop) (t : List Int) : Prop := (t = [] ∧ ∀ s, ¬ S s) ∨ (S t ∧ t ≠ [] ∧ ∀ s, S s → leL t s)
theorem leastOf_iff {S S' : List Int → Prop} {t : List Int} (h : ∀ s, S s ↔ S' s) (h2 : LeastOf S t) : LeastOf S' t := by
  rcases h2 with ⟨h1, h3⟩ | ⟨h1, h3, h4⟩
  · exact .inl ⟨h1, fun s hs => h3 s ((h s).2 hs)⟩
  · exact .inr ⟨(h t).1 h1, h3, fun s hs => h4 s ((h s).2 hs)⟩
/-- One more comes to S. -/
theorem leastOf_or {S S' : List Int → Prop} {t u : List Int} (h : LeastOf S t) (hu : S' u ∧ u ≠ [] ∧ ∀ s, S' s → leL u s) (hlt : t = [] ∨ cmpL u t < 0) : LeastOf (fun s => S s ∨ S' s) u := by
  refine .inr ⟨.inr hu.1, hu.2.1, fun s hs => ?_⟩
  rcases hs with hs | hs
  · rcases h with ⟨_, h3⟩ | ⟨h1, h3, h4⟩
    · exact absurd hs (h3 s)
    · rcases hlt with h5 | h5
      · exact absurd h5 h3
      · exact leL_trans (Int.le_of_lt h5) (h4 s hs)
  · exact hu.2.2 s hs
theorem leastOf_keep {S S' : List Int → Prop} {t u : List Int} (h : LeastOf S t) (hu : S' u ∧ u ≠ [] ∧ ∀ s, S' s → leL u s) (hlt : ¬ (t = [] ∨ cmpL u t < 0)) : LeastOf (fun s => S s ∨ S' s) t := by
  rcases h with ⟨h1, _⟩ | ⟨h1, h3, h4⟩
  · exact absurd (.inl h1) hlt
  · refine .inr ⟨.inl h1, h3, fun s hs => ?_⟩
    rcases hs with hs | hs
    · exact h4 s hs
    · refine leL_trans ?_ (hu.2.2 s hs)
      have := cmpL_neg u t
      have h5 : ¬ cmpL u t < 0 := fun e => hlt (.inr e)
      unfold leL; omega
/-! ### What leads to states -/
inductive Tms (rs : List STrans) : List Int → List Int → Prop
  | nil : Tms rs [] []
  | cons {a : Int} {cs : List Int} {f : Int} {bs u v : List Int} : (f, bs, a) ∈ rs → Tms rs bs u → Tms rs cs v → Tms rs (a :: cs) (f :: (u ++ v))
theorem tms_one {rs : List STrans} {a : Int} {t : List Int} : Tms rs [a] t ↔ ∃ f bs u, (f, bs, a) ∈ rs ∧ Tms rs bs u ∧ t = f :: u := by
  constructor
  · intro h
    cases h with
    | cons h1 h2 h3 =>
      cases h3
      exact ⟨_, _, _, h1, h2, by rw [List.append_nil]⟩
  · rintro ⟨f, bs, u, h1, h2, rfl⟩
    have := Tms.cons h1 h2 .nil
    rwa [List.append_nil] at this
theorem tms_cons {rs : List STrans} {a : Int} {cs w : List Int} : Tms rs (a :: cs) w ↔ ∃ t v, w = t ++ v ∧ Tms rs [a] t ∧ Tms rs cs v := by
  constructor
  · intro h
    cases h with
    | @cons _ _ f bs u v h1 h2 h3 => exact ⟨f :: u, v, rfl, tms_one.2 ⟨f, bs, u, h1, h2, rfl⟩, h3⟩
  · rintro ⟨t, v, rfl, h1, h2⟩
    obtain ⟨f, bs, u, h3, h4, rfl⟩ := tms_one.1 h1
    exact .cons h3 h4 h2
theorem tms_len {rs : List STrans} {cs w : List Int} (h : Tms rs cs w) : cs.length ≤ w.length := by
  induction h with
  | nil => exact Nat.le_refl _
  | cons _ _ _ _ ih => simp only [List.length_cons, List.length_append]; omega
theorem tms_ne {rs : List STrans} {a : Int} {cs w : List Int} (h : Tms rs (a :: cs) w) : w ≠ [] := fun e => by
  have := tms_len h
  rw [e] at this
  simp at this
/-- What leads to some states one by one, of some length together. -/
abbrev Lst (rs : List STrans) (cs : List Int) (L : Nat) : List Int → Prop := fun w => Tms rs cs w ∧ w.length = L
theorem lst_zero {rs : List STrans} {a : Int} {cs : List Int} : LeastOf (Lst rs (a :: cs) 0) [] := .inl ⟨rfl, fun s ⟨h1, h2⟩ => tms_ne h1 (List.eq_nil_of_length_eq_zero h2)⟩
/-- .. whose first one is shorter than k. -/
def LstTo (rs : List STrans) (a : Int) (cs : List Int) (L k : Nat) : List Int → Prop := fun w => ∃ t v, w = t ++ v ∧ Tms rs [a] t ∧ Tms rs cs v ∧ w.length = L ∧ t.length < k
theorem lstTo_one {rs : List STrans} {a : Int} {cs : List Int} {L : Nat} : LeastOf (LstTo rs a cs L 1) [] := .inl ⟨rfl, fun s ⟨t, v, _, h1, _, _, h2⟩ => tms_ne h1 (List.eq_nil_of_length_eq_zero (by omega))⟩
theorem lstTo_all {rs : List STrans} {a b : Int} {cs : List Int} {L : Nat} {t : List Int} (h : LeastOf (LstTo rs a (b :: cs) L L) t) : LeastOf (Lst rs (a :: b :: cs) L) t := by
  refine leastOf_iff (fun s => ?_) h
  constructor
  · rintro ⟨t, v, rfl, h1, h2, h3, _⟩
    exact ⟨tms_cons.2 ⟨t, v, rfl, h1, h2⟩, h3⟩
  · rintro ⟨h1, h2⟩
    obtain ⟨t, v, rfl, h3, h4⟩ := tms_cons.1 h1
    refine ⟨t, v, rfl, h3, h4, h2, ?_⟩
    have := tms_len h4
    rw [List.length_append] at h2
    simp only [List.length_cons] at this
    omega
theorem lstTo_succ {rs : List STrans} {a : Int} {cs : List Int} {L k : Nat} (hk : k ≤ L) (s : List Int) : LstTo rs a cs L (k + 1) s ↔ (LstTo rs a cs L k s ∨ ∃ t v, s = t ++ v ∧ Lst rs [a] k t ∧ Lst rs cs (L - k) v) := by
  constructor
  · rintro ⟨t, v, rfl, h1, h2, h3, h4⟩
    by_cases h5 : t.length < k
    · exact .inl ⟨t, v, rfl, h1, h2, h3, h5⟩
    · rw [List.length_append] at h3
      exact .inr ⟨t, v, rfl, ⟨h1, by omega⟩, ⟨h2, by omega⟩⟩
  · rintro (⟨t, v, h0, h1, h2, h3, h4⟩ | ⟨t, v, rfl, ⟨h1, h2⟩, h3, h4⟩)
    · exact ⟨t, v, h0, h1, h2, h3, by omega⟩
    · exact ⟨t, v, rfl, h1, h3, by rw [List.length_append]; omega, by omega⟩
theorem lstTo_no {rs : List STrans} {a : Int} {cs : List Int} {L k : Nat} {t : List Int} (hk : k ≤ L) (h : LeastOf (LstTo rs a cs L k) t) (hn : LeastOf (Lst rs [a] k) [] ∨ LeastOf (Lst rs cs (L - k)) []) : LeastOf (LstTo rs a cs L (k + 1)) t := by
  refine leastOf_iff (fun s => ?_) h
  rw [lstTo_succ hk]
  constructor
  · exact .inl
  · rintro (h1 | ⟨t, v, _, h1, h2⟩)
    · exact h1
    · exfalso
      rcases hn with (⟨_, hn⟩ | ⟨_, hn, _⟩) | (⟨_, hn⟩ | ⟨_, hn, _⟩)
      · exact hn t h1
      · exact hn rfl
      · exact hn v h2
      · exact hn rfl
theorem pair_least {rs : List STrans} {a : Int} {cs : List Int} {L k : Nat} {t v : List Int} (h1 : LeastOf (Lst rs [a] k) t) (h2 : LeastOf (Lst rs cs (L - k)) v) (ht : t ≠ []) (hv : v ≠ []) :
    (∃ t' v', t ++ v = t' ++ v' ∧ Lst rs [a] k t' ∧ Lst rs cs (L - k) v') ∧ t ++ v ≠ [] ∧ ∀ s, (∃ t' v', s = t' ++ v' ∧ Lst rs [a] k t' ∧ Lst rs cs (L - k) v') → leL (t ++ v) s := by
  rcases h1 with ⟨h1, _⟩ | ⟨h1, _, h1'⟩
  · exact absurd h1 ht
  rcases h2 with ⟨h2, _⟩ | ⟨h2, _, h2'⟩
  · exact absurd h2 hv
  refine ⟨⟨t, v, rfl, h1, h2⟩, by simp [ht], ?_⟩
  rintro s ⟨t', v', rfl, h3, h4⟩
  exact leL_app (by rw [h1.2, h3.2]) (h1' _ h3) (h2' _ h4)
theorem lstTo_new {rs : List STrans} {a : Int} {cs : List Int} {L k : Nat} {t f v : List Int} (hk : k ≤ L) (h : LeastOf (LstTo rs a cs L k) t) (h1 : LeastOf (Lst rs [a] k) f) (h2 : LeastOf (Lst rs cs (L - k)) v) (hf : f ≠ []) (hv : v ≠ []) (hlt : t = [] ∨ cmpL (f ++ v) t < 0) : LeastOf (LstTo rs a cs L (k + 1)) (f ++ v) :=
  leastOf_iff (fun s => (lstTo_succ hk s).symm) (leastOf_or h (pair_least h1 h2 hf hv) hlt)
theorem lstTo_old {rs : List STrans} {a : Int} {cs : List Int} {L k : Nat} {t f v : List Int} (hk : k ≤ L) (h : LeastOf (LstTo rs a cs L k) t) (h1 : LeastOf (Lst rs [a] k) f) (h2 : LeastOf (Lst rs cs (L - k)) v) (hf : f ≠ []) (hv : v ≠ []) (hlt : ¬ (t = [] ∨ cmpL (f ++ v) t < 0)) : LeastOf (LstTo rs a cs L (k + 1)) t :=
  leastOf_iff (fun s => (lstTo_succ hk s).symm) (leastOf_keep h (pair_least h1 h2 hf hv) hlt)
/-- What leads to a state by one of the first k rules, of length n. -/
def RulTo (rs : List STrans) (n : Nat) (q : Int) (k : Nat) : List Int → Prop := fun w => ∃ r ∈ rs.take k, r.2.2 = q ∧ ∃ u, Tms rs r.2.1 u ∧ w = r.1 :: u ∧ w.length = n
theorem rulTo_zero {rs : List STrans} {n : Nat} {q : Int} : LeastOf (RulTo rs n q 0) [] := .inl ⟨rfl, fun s ⟨r, hr, _⟩ => by simp at hr⟩
theorem rulTo_all {rs : List STrans} {n : Nat} {q : Int} {t : List Int} (h : LeastOf (RulTo rs n q rs.length) t) : LeastOf (Lst rs [q] n) t := by
  refine leastOf_iff (fun s => ?_) h
  unfold RulTo Lst
  rw [List.take_length, tms_one]
  constructor
  · rintro ⟨⟨f, bs, q'⟩, hr, rfl, u, h1, h2, h3⟩
    exact ⟨⟨f, bs, u, hr, h1, h2⟩, h3⟩
  · rintro ⟨⟨f, bs, u, hr, h1, h2⟩, h3⟩
    exact ⟨(f, bs, q), hr, rfl, u, h1, h2, h3⟩
theorem rulTo_succ {rs : List STrans} {n : Nat} {q : Int} {k : Nat} (hk : k < rs.length) (s : List Int) : RulTo rs n q (k + 1) s ↔ (RulTo rs n q k s ∨ ((rs.getD k default).2.2 = q ∧ ∃ u, Tms rs (rs.getD k default).2.1 u ∧ s = (rs.getD k default).1 :: u ∧ s.length = n)) := by
  unfold RulTo
  rw [List.take_succ_eq_append_getElem hk, List.getD_eq_getElem?_getD, List.getElem?_eq_getElem hk, Option.getD_some]
  constructor
  · rintro ⟨r, hr, h⟩
    rcases List.mem_append.1 hr with hr | hr
    · exact .inl ⟨r, hr, h⟩
    · rw [List.mem_singleton] at hr
      exact .inr (hr ▸ h)
  · rintro (⟨r, hr, h⟩ | h)
    · exact ⟨r, List.mem_append.2 (.inl hr), h⟩
    · exact ⟨_, List.mem_append.2 (.inr (List.mem_singleton.2 rfl)), h⟩
end Go.Proofs.Ytfdpmkilhllkoaa
