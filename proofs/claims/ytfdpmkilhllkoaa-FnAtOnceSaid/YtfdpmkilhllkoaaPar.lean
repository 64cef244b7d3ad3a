/- A step is a parallel step; two parallel steps make one. -/
import Derived.Test.YtfdpmkilhllkoaaL12b
import Derived.Test.YtfdpmkilhllkoaaMat
import Derived.Test.YtfdpmkilhllkoaaGives
namespace Go.Proofs.Ytfdpmkilhllkoaa
open Go Go.Eng
set_option linter.unusedVariables false
set_option linter.unusedSimpArgs false

theorem fe_plain (b : List (List Int)) (n : Int) : fe (plainOf b) n = bF b n := by
  unfold fe bF
  by_cases hn : n < 0
  · rw [if_pos hn, gives_plain, gives_getD]
    by_cases hb : b.getD (-1 - n).toNat [] = []
    · rw [if_pos hb, if_neg (fun h => h.2 hb)]
      congr 1
      omega
    · rw [if_neg hb, if_pos ⟨hn, hb⟩]
  · rw [if_neg hn, if_neg (fun h => hn h.1)]
theorem stepOf_some {x : SSystem} {t b : List Int} {k r : Nat} (hs : sysOk x = true) (ht : termOk x.1 t = true) (hk : k < t.length) (hr : r < x.2.length) (h : stepOf x t k r = some b) :
    ∃ σ, Sb x.1 σ ∧ fm σ (x.2.getD r default).1 = subt x.1 t k ∧ b = putL x.1 t k (fm σ (x.2.getD r default).2) ∧ b.length ≤ 60 ∧ Tm x.1 (fm σ (x.2.getD r default).2) := by
  have hrule := of_decide_eq_true ((sysOk_iff.1 hs).2 _ (getD_memD hr))
  unfold stepOf at h
  cases hm : matchOf x.1 (x.2.getD r default).1 (subt x.1 t k) with
  | none => rw [hm] at h; cases h
  | some ts =>
    rw [hm] at h
    obtain ⟨b', hb1, hb2, hb3, _⟩ := match_some hrule.1.1 (subt_ok ht hk) hm
    have hsb := bok_sb hb1
    simp only at h
    have hfl : ∀ u, fillOf ts (x.2.getD r default).2 = some u → u = fm (bF b') (x.2.getD r default).2 := by
      intro u hu
      unfold fillOf at hu
      split at hu
      · injection hu with hu
        rw [← hu]
        unfold fillTo fm
        rw [List.take_length, hb2, funext (fe_plain b')]
      · cases hu
    cases hf : fillOf ts (x.2.getD r default).2 with
    | none => rw [hf] at h; cases h
    | some u =>
      rw [hf] at h
      simp only at h
      rw [hfl u hf] at h
      unfold putOf at h
      split at h
      · injection h with h
        exact ⟨bF b', hsb, hb3, h.symm, by rw [← h]; assumption, hsb.fm (tm_ok hrule.1.2.1)⟩
      · cases h
/-! ### Terms by their arguments -/
def Tms (a : List Int) (ks : List (List Int)) : Prop := ∀ k ∈ ks, Tm a k
theorem skp_tm {a l r : List Int} {m : Nat} (h : Tm a l) : skp a (badS a) (l ++ r) (m + 1) = ((skp a (badS a) r m).1, l.length + (skp a (badS a) r m).2) := by
  have h1 : skp a (badS a) (l ++ r) 1 = (true, l.length) := by rw [skp_app a (badS a) r l 1 (by rw [h]), h]
  rw [Nat.add_comm m 1, skp_split, h1]
  simp
theorem fo_tms {a : List Int} : ∀ {ks : List (List Int)}, Tms a ks → Fo a ks.flatten ks.length
  | [], _ => rfl
  | k :: ks, h => by
    have ih := fo_tms (ks := ks) fun x hx => h x (List.mem_cons_of_mem _ hx)
    unfold Fo at ih ⊢
    rw [List.flatten_cons, List.length_cons, skp_tm (h k (List.mem_cons_self)), ih, List.length_append]
theorem tms_of_fo {a : List Int} : ∀ (m : Nat) (l : List Int), Fo a l m → ∃ ks, ks.length = m ∧ Tms a ks ∧ l = ks.flatten
  | 0, l, h => by
    unfold Fo at h
    simp only [skp] at h
    have : l = [] := by
      have := congrArg Prod.snd h
      simp only at this
      exact List.eq_nil_of_length_eq_zero this.symm
    exact ⟨[], rfl, (fun k hk => by cases hk), by rw [this]; rfl⟩
  | m + 1, l, h => by
    obtain ⟨h1, h2⟩ := fo_first h
    obtain ⟨ks, e1, e2, e3⟩ := tms_of_fo m _ h2
    refine ⟨l.take (skp a (badS a) l 1).2 :: ks, (by rw [List.length_cons, e1]), fun k hk => ?_, ?_⟩
    · rcases List.mem_cons.1 hk with rfl | hk
      · exact h1
      · exact e2 k hk
    · rw [List.flatten_cons, ← e3, List.take_append_drop]
theorem tm_kids {a : List Int} {f : Int} {l : List Int} (h : Tm a (f :: l)) : badS a f = false ∧ ∃ ks, ks.length = (ar a f).toNat ∧ Tms a ks ∧ l = ks.flatten := by
  obtain ⟨m', e, hb, hf⟩ := fo_cons (h : Fo a (f :: l) 1)
  obtain rfl : m' = 0 := by omega
  rw [Nat.zero_add] at hf
  exact ⟨hb, tms_of_fo _ _ hf⟩
theorem tm_of_kids {a : List Int} {f : Int} {ks : List (List Int)} (hb : badS a f = false) (hl : ks.length = (ar a f).toNat) (h : Tms a ks) : Tm a (f :: ks.flatten) := by
  have hf := fo_tms h
  unfold Fo at hf
  unfold Tm
  simp only [skp, Nat.zero_add]
  rw [if_neg (by rw [hb]; decide), ← hl, hf]
  rfl
theorem sz_mid {a : List Int} {f : Int} {pre post s : List Int} {k : Nat} (hs : Tm a s) (hk : k < s.length) : sz a (f :: (pre ++ (s ++ post))) (1 + pre.length + k) = sz a s k ∧ subt a (f :: (pre ++ (s ++ post))) (1 + pre.length + k) = subt a s k := by
  have hd : (f :: (pre ++ (s ++ post))).drop (1 + pre.length + k) = s.drop k ++ post := by
    rw [show 1 + pre.length + k = (pre.length + k) + 1 by omega, List.drop_succ_cons, List.drop_append, List.drop_of_length_le (by omega), List.nil_append, show pre.length + k - pre.length = k by omega, List.drop_append_of_le_length (by omega)]
  obtain ⟨m, h1, h2⟩ := skp_mid a (badS a) s 1 k (by rw [hs]) (by rw [hs]; exact hk)
  obtain ⟨h5, h6⟩ := skp_one _ _ _ m h1
  have hz : sz a (f :: (pre ++ (s ++ post))) (1 + pre.length + k) = sz a s k := by
    unfold sz
    rw [hd, skp_app a (badS a) post _ 1 h5]
  refine ⟨hz, ?_⟩
  unfold subt
  rw [hz, hd]
  have := skp_le a (badS a) (s.drop k) 1
  exact List.take_append_of_le_length this
theorem argP_kids {a : List Int} {f : Int} {ks : List (List Int)} (h : Tms a ks) : ∀ i, i ≤ ks.length → argP a (f :: ks.flatten) i = 1 + (ks.take i).flatten.length
  | 0, _ => rfl
  | i + 1, hi => by
    show argP a _ i + sz a _ (argP a _ i) = _
    rw [argP_kids h i (by omega)]
    have hi' : i < ks.length := hi
    have hk : Tm a ks[i] := h _ (List.getElem_mem hi')
    have e : ks.flatten = (ks.take i).flatten ++ (ks[i] ++ (ks.drop (i + 1)).flatten) := by
      rw [← List.flatten_cons, ← List.drop_eq_getElem_cons hi', ← List.flatten_append, List.take_append_drop]
    have h1 := (sz_mid (f := f) (pre := (ks.take i).flatten) (post := (ks.drop (i + 1)).flatten) hk (tm_pos hk)).1
    rw [← e] at h1
    rw [Nat.add_zero] at h1
    have h2 : sz a ks[i] 0 = ks[i].length := by unfold sz; rw [List.drop_zero, hk]
    rw [h1, h2, List.take_succ_eq_append_getElem hi', List.flatten_append, List.length_append, List.flatten_singleton]
    omega
theorem argT_kids {a : List Int} {f : Int} {ks : List (List Int)} (h : Tms a ks) {i : Nat} (hi : i < ks.length) : argT a (f :: ks.flatten) i = ks[i] := by
  unfold argT
  rw [argP_kids h i (by omega)]
  have hk : Tm a ks[i] := h _ (List.getElem_mem hi)
  have e : ks.flatten = (ks.take i).flatten ++ (ks[i] ++ (ks.drop (i + 1)).flatten) := by
    rw [← List.flatten_cons, ← List.drop_eq_getElem_cons hi, ← List.flatten_append, List.take_append_drop]
  have h1 := (sz_mid (f := f) (pre := (ks.take i).flatten) (post := (ks.drop (i + 1)).flatten) hk (tm_pos hk)).2
  rw [← e, Nat.add_zero] at h1
  rw [h1]
  unfold subt sz
  rw [List.drop_zero, hk, List.take_length]
theorem at_kid : ∀ {ks : List (List Int)} {k : Nat}, k < ks.flatten.length → ∃ (i : Nat) (hi : i < ks.length) (j : Nat), j < ks[i].length ∧ k = (ks.take i).flatten.length + j
  | [], k, h => by cases h
  | s :: ks, k, h => by
    rw [List.flatten_cons, List.length_append] at h
    by_cases hk : k < s.length
    · exact ⟨0, by simp, k, by simpa using hk, by simp⟩
    · obtain ⟨i, hi, j, h1, h2⟩ := at_kid (ks := ks) (k := k - s.length) (by omega)
      exact ⟨i + 1, by simpa using hi, j, by simpa using h1, by rw [List.take_succ_cons, List.flatten_cons, List.length_append]; omega⟩
theorem putL_mid {a : List Int} {f : Int} {pre post s u : List Int} {k : Nat} (hs : Tm a s) (hk : k < s.length) : putL a (f :: (pre ++ (s ++ post))) (1 + pre.length + k) u = f :: (pre ++ (putL a s k u ++ post)) := by
  have hz := (sz_mid (f := f) (pre := pre) (post := post) hs hk).1
  obtain ⟨m, h1, h2⟩ := skp_mid a (badS a) s 1 k (by rw [hs]) (by rw [hs]; exact hk)
  obtain ⟨h5, h6⟩ := skp_one _ _ _ m h1
  have hle := skp_le a (badS a) (s.drop k) 1
  rw [List.length_drop] at hle
  have hle2 : k + sz a s k ≤ s.length := by unfold sz; omega
  unfold putL
  rw [hz, show 1 + pre.length + k = (pre.length + k) + 1 by omega, show pre.length + k + 1 + sz a s k = (pre.length + (k + sz a s k)) + 1 by omega, List.take_succ_cons, List.drop_succ_cons, List.take_append, List.take_of_length_le (by omega), List.drop_append, List.drop_of_length_le (l := pre) (by omega), List.nil_append, show pre.length + k - pre.length = k by omega, show pre.length + (k + sz a s k) - pre.length = k + sz a s k by omega, List.take_append_of_le_length (by omega), List.drop_append_of_le_length (by omega)]
  simp only [List.append_assoc, List.cons_append]
theorem putL_zero {a s u : List Int} (hs : Tm a s) : putL a s 0 u = u := by
  unfold putL sz
  rw [List.drop_zero, hs, List.take_zero, Nat.zero_add, List.drop_length, List.append_nil, List.nil_append]
/-- A valid term put into a valid term. -/
theorem put_tm {a u : List Int} (hu : Tm a u) : ∀ (n : Nat) (t : List Int) (k : Nat), t.length ≤ n → Tm a t → k < t.length → Tm a (putL a t k u)
  | 0, t, k, hn, ht, hk => by omega
  | n + 1, [], k, hn, ht, hk => by cases hk
  | n + 1, f :: l, 0, hn, ht, hk => by rw [putL_zero ht]; exact hu
  | n + 1, f :: l, k + 1, hn, ht, hk => by
    obtain ⟨hb, ks, e1, e2, e3⟩ := tm_kids ht
    rw [List.length_cons] at hk hn
    obtain ⟨i, hi, j, h1, h2⟩ := at_kid (ks := ks) (k := k) (by rw [← e3]; omega)
    have hki : Tm a ks[i] := e2 _ (List.getElem_mem hi)
    have e : l = (ks.take i).flatten ++ (ks[i] ++ (ks.drop (i + 1)).flatten) := by
      rw [← List.flatten_cons, ← List.drop_eq_getElem_cons hi, ← List.flatten_append, List.take_append_drop, e3]
    have hlen : ks[i].length ≤ n := by
      have := congrArg List.length e
      simp only [List.length_append] at this
      omega
    have ih := put_tm hu n ks[i] j hlen hki h1
    rw [e, show k + 1 = 1 + (ks.take i).flatten.length + j by omega, putL_mid hki h1]
    have e' : (ks.take i).flatten ++ (putL a ks[i] j u ++ (ks.drop (i + 1)).flatten) = (ks.set i (putL a ks[i] j u)).flatten := by
      rw [List.set_eq_take_append_cons_drop, if_pos hi, List.flatten_append, List.flatten_cons]
    rw [e']
    refine tm_of_kids hb (by rw [List.length_set, e1]) fun x hx => ?_
    rcases List.mem_or_eq_of_mem_set hx with hx | rfl
    · exact e2 x hx
    · exact ih
theorem stepOf_mid {x : SSystem} {f : Int} {pre post s b : List Int} {k r : Nat} (hs : Tm x.1 s) (hk : k < s.length) (h : stepOf x (f :: (pre ++ (s ++ post))) (1 + pre.length + k) r = some b) : ∃ s', stepOf x s k r = some s' ∧ b = f :: (pre ++ (s' ++ post)) := by
  unfold stepOf at h ⊢
  rw [(sz_mid (f := f) (pre := pre) (post := post) hs hk).2] at h
  split at h
  · cases h
  · split at h
    · cases h
    · rename_i u hu
      unfold putOf at h ⊢
      rw [putL_mid hs hk] at h
      split at h
      · rename_i hl
        injection h with h
        refine ⟨putL x.1 s k u, ?_, h.symm⟩
        rw [if_pos (by simp only [List.length_cons, List.length_append] at hl; omega)]
      · cases h
theorem parR_refl {x : SSystem} {n : Nat} (a : List Int) : parR x (n + 1) a a = true := par_1 rfl
/-- Arguments that come of the others make one step at once. -/
theorem parR_kids {x : SSystem} {n : Nat} {f : Int} {ks ks' : List (List Int)} (hf : 0 ≤ f) (h1 : ks.length = (ar x.1 f).toNat) (h2 : ks'.length = ks.length) (hk : Tms x.1 ks) (hk' : Tms x.1 ks') (h : ∀ i (hi : i < ks.length), parR x n ks[i] (ks'[i]'(by omega)) = true) : parR x (n + 1) (f :: ks.flatten) (f :: ks'.flatten) = true := by
  refine par_5 ⟨hf, rfl⟩ fun i hi => ?_
  have hi' : i < ks.length := by
    unfold arN at hi
    rw [h1]
    exact hi
  rw [argT_kids hk hi', argT_kids hk' (by omega)]
  exact h i hi'
/-- A step is one at once. -/
theorem par_step {x : SSystem} {r : Nat} (hs : sysOk x = true) (hr : r < x.2.length) : ∀ (n : Nat) (t : List Int) (k : Nat) (b : List Int), t.length ≤ n → termOk x.1 t = true → k < t.length → stepOf x t k r = some b → parR x (n + 1) t b = true
  | 0, t, k, b, hn, ht, hk, h => by omega
  | n + 1, [], k, b, hn, ht, hk, h => by cases hk
  | n + 1, f :: l, 0, b, hn, ht, hk, h => par_2 ⟨r, hr, h⟩
  | n + 1, f :: l, k + 1, b, hn, ht, hk, h => by
    obtain ⟨hb, ks, e1, e2, e3⟩ := tm_kids (tm_ok ht)
    have hl60 := (termOk_len ht).2
    rw [List.length_cons] at hk hn hl60
    obtain ⟨i, hi, j, h1, h2⟩ := at_kid (ks := ks) (k := k) (by rw [← e3]; omega)
    have hki : Tm x.1 ks[i] := e2 _ (List.getElem_mem hi)
    have e : l = (ks.take i).flatten ++ (ks[i] ++ (ks.drop (i + 1)).flatten) := by
      rw [← List.flatten_cons, ← List.drop_eq_getElem_cons hi, ← List.flatten_append, List.take_append_drop, e3]
    have hlen : ks[i].length ≤ n ∧ ks[i].length ≤ 60 := by
      have := congrArg List.length e
      simp only [List.length_append] at this
      omega
    have hti := ok_tm (termOk_sig ht) hki hlen.2
    have h' := h
    rw [e, show k + 1 = 1 + (ks.take i).flatten.length + j by omega] at h'
    obtain ⟨s', hs', hb'⟩ := stepOf_mid hki h1 h'
    have ih := par_step hs hr n ks[i] j s' hlen.1 hti h1 hs'
    obtain ⟨σ, hσ, hσ1, hσ2, hσ3, hσ4⟩ := stepOf_some hs hti h1 hr hs'
    have hts' : Tm x.1 s' := by rw [hσ2]; exact put_tm hσ4 _ _ _ (Nat.le_refl _) hki h1
    have e' : (ks.take i).flatten ++ (s' ++ (ks.drop (i + 1)).flatten) = (ks.set i s').flatten := by
      rw [List.set_eq_take_append_cons_drop, if_pos hi, List.flatten_append, List.flatten_cons]
    have hf0 : 0 ≤ f := by
      rcases Int.lt_or_le f 0 with hlt | hge
      · rw [ar_var hlt] at e1
        simp only [Int.toNat_zero] at e1
        omega
      · exact hge
    rw [hb', e', e3]
    refine parR_kids hf0 e1 (by rw [List.length_set]) e2 (fun y hy => ?_) fun q hq => ?_
    · rcases List.mem_or_eq_of_mem_set hy with hy | rfl
      · exact e2 y hy
      · exact hts'
    · rw [List.getElem_set]
      split
      · rename_i hqi
        subst hqi
        exact ih
      · exact parR_refl _
/-- How long the outcome of a step can be. -/
theorem fm_le {σ : Int → List Int} {m : Nat} : ∀ {t : List Int}, (∀ n ∈ t, (σ n).length ≤ m) → (fm σ t).length ≤ t.length * m
  | [], _ => by simp [fm]
  | x :: t, h => by
    rw [fm_cons, List.length_append, List.length_cons, Nat.add_mul, Nat.one_mul]
    have := h x List.mem_cons_self
    have := fm_le (t := t) fun n hn => h n (List.mem_cons_of_mem _ hn)
    omega
theorem step_le {x : SSystem} {t b : List Int} {k r : Nat} (hs : sysOk x = true) (ht : termOk x.1 t = true) (hk : k < t.length) (hr : r < x.2.length) (hR : (x.2.getD r default).2.length ≤ 7) (hl : t.length ≤ 7) (h : stepOf x t k r = some b) : termOk x.1 b = true ∧ b.length ≤ 49 := by
  obtain ⟨σ, hσ, h1, h2, h3, h4⟩ := stepOf_some hs ht hk hr h
  have hrule := of_decide_eq_true ((sysOk_iff.1 hs).2 _ (getD_memD hr))
  have htb : Tm x.1 b := by rw [h2]; exact put_tm h4 _ _ _ (Nat.le_refl _) (tm_ok ht) hk
  refine ⟨ok_tm (termOk_sig ht) htb h3, ?_⟩
  have hz := term_at ht hk
  have hsl := subt_len ht hk
  have hlen : b.length = k + (fm σ (x.2.getD r default).2).length + (t.length - (k + sz x.1 t k)) := by
    rw [h2]
    unfold putL
    simp only [List.length_append, List.length_take, List.length_drop]
    omega
  have hL := tm_ok hrule.1.1
  have hv : ∀ n ∈ (x.2.getD r default).2, (σ n).length ≤ max 1 (sz x.1 t k - 1) := by
    intro n hn
    by_cases hn0 : 0 ≤ n
    · rw [hσ.pos n hn0]
      exact Nat.le_max_left _ _
    · have hnl : n ∈ (x.2.getD r default).1 := by
        rcases hrule.2 n hn with h | h
        · omega
        · exact h
      have hge := fm_len_mem (f := σ) (m := n) (t := (x.2.getD r default).1) (hσ.lens hL) hnl
      rw [h1, hsl] at hge
      have h2l : 2 ≤ (x.2.getD r default).1.length := by
        rcases Nat.lt_or_ge (x.2.getD r default).1.length 2 with hlt | hge2
        · have hp := tm_pos hL
          have he : (x.2.getD r default).1.length = 1 := by omega
          obtain ⟨y, hy⟩ := List.length_eq_one_iff.1 he
          have h0 := hrule.1.2.2
          rw [hy] at hnl h0
          rw [List.mem_singleton] at hnl
          subst hnl
          simp at h0
          omega
        · exact hge2
      omega
  have := fm_le hv
  have h7 : (x.2.getD r default).2.length * max 1 (sz x.1 t k - 1) ≤ 7 * max 1 (sz x.1 t k - 1) := Nat.mul_le_mul_right _ hR
  omega
end Go.Proofs.Ytfdpmkilhllkoaa
