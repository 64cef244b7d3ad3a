/- Unification: the reference's side. -/
import Derived.Test.YtcpfcnjchlbapaaL03
import Derived.Test.YtcpfcnjchlbapaaUniT
namespace Go.Proofs.Ytcpfcnjchlbapaa
open Go Go.Eng
set_option linter.unusedVariables false
set_option linter.unusedSimpArgs false
set_option synthInstance.maxHeartbeats 400000
set_option synthInstance.maxSize 1000

theorem fillTo_fm (ts : List (List Int)) (t : List Int) : fillTo ts t t.length = fm (fe ts) t := by
  unfold fillTo fm; rw [List.take_length]
theorem fillOf_fm {ts : List (List Int)} {t : List Int} : fillOf ts t = if (fm (fe ts) t).length ≤ 60 then some (fm (fe ts) t) else none := by
  unfold fillOf; rw [fillTo_fm]
theorem fillOf_yes {ts : List (List Int)} {t : List Int} (h : (fillOf ts t).isSome = true) : (fillOf ts t).getD [] = fm (fe ts) t ∧ (fm (fe ts) t).length ≤ 60 := by
  rw [fillOf_fm] at h ⊢
  by_cases h1 : (fm (fe ts) t).length ≤ 60
  · rw [if_pos h1]; exact ⟨rfl, h1⟩
  · rw [if_neg h1] at h; cases h
theorem fillOf_not {ts : List (List Int)} {t : List Int} (h : (fillOf ts t).isSome = false) : 60 < (fm (fe ts) t).length := by
  rw [fillOf_fm] at h
  by_cases h1 : (fm (fe ts) t).length ≤ 60
  · rw [if_pos h1] at h; cases h
  · omega
theorem io_congr {a : List Int} {f g : Int → List Int} (h : ∀ n, -24 ≤ n → f n = g n) (hf : IO a f) : IO a g := by
  refine ⟨⟨fun n hn => ?_, fun n h1 h2 => ?_⟩, fun n h1 h2 m hm h0 => ?_, fun n h1 h2 m hm h0 => ?_⟩
  · rw [← h n (by omega)]; exact hf.sb.pos n hn
  · rw [← h n h1]; exact hf.sb.tm n h1 h2
  · rw [← h n h1] at hm
    rw [← h m (tm_mem (hf.sb.tm n h1 h2) hm).1]
    exact hf.idem n h1 h2 m hm h0
  · rw [← h n h1] at hm
    exact hf.ori n h1 h2 m hm h0
theorem gen_congr {a : List Int} {U : (Int → List Int) → Prop} {f g : Int → List Int} (h : ∀ n, -24 ≤ n → f n = g n) (hf : Gen a U f) : Gen a U g := fun τ hτ hu n h1 h2 => by
  rw [← h n h1]; exact hf τ hτ hu n h1 h2
structure SInv (a s t : List Int) (ts : List (List Int)) : Prop where
  ln : ts = [] ∨ ts.length = 24
  sm : ∀ x ∈ ts, x.length ≤ 60
  io : IO a (fe ts)
  gen : Gen a (fun τ => fm τ s = fm τ t) (fe ts)
theorem fe_empty (n : Int) : fe [] n = [n] := by
  unfold fe gives
  by_cases h : n < 0
  · rw [if_pos h, if_neg (by simp)]; congr 1; omega
  · rw [if_neg h]
theorem sinv_nil {a s t : List Int} : SInv a s t [] := by
  have e : fe [] = fun n => [n] := funext fe_empty
  refine ⟨.inl rfl, fun x hx => (by cases hx), ?_, ?_⟩
  · rw [e]; exact (tri_zero a).io
  · rw [e]; exact fun τ _ _ n _ _ => fm_one τ n
theorem fe_lens {a t : List Int} {ts : List (List Int)} (h : IO a (fe ts)) (ht : Tm a t) : t.length ≤ (fm (fe ts) t).length := fm_len_ge (h.sb.lens ht)
/-- What stands behind binding variable m. -/
def bindTo (ts : List (List Int)) (m : Nat) (t : List Int) (k : Nat) : List (List Int) := (List.range k).map fun j => fm (one (-1 - (m : Int)) t) (gives ts j)
theorem bindTo_len (ts : List (List Int)) (m : Nat) (t : List Int) (k : Nat) : (bindTo ts m t k).length = k := by simp [bindTo]
theorem bindTo_succ (ts : List (List Int)) (m : Nat) (t : List Int) (k : Nat) : bindTo ts m t (k + 1) = bindTo ts m t k ++ [fm (one (-1 - (m : Int)) t) (gives ts k)] := by
  unfold bindTo; rw [List.range_succ, List.map_append]; rfl
theorem bindTo_get {ts : List (List Int)} {m : Nat} {t : List Int} {k j : Nat} (h : j < k) : (bindTo ts m t k).getD j default = fm (one (-1 - (m : Int)) t) (gives ts j) := by
  unfold bindTo; simp [List.getD_eq_getElem?_getD, h]
theorem bindTo_mem {ts : List (List Int)} {m : Nat} {t : List Int} {k : Nat} {x : List Int} (h : x ∈ bindTo ts m t k) : ∃ j, j < k ∧ x = fm (one (-1 - (m : Int)) t) (gives ts j) := by
  obtain ⟨j, hj, rfl⟩ := List.mem_map.1 h
  exact ⟨j, List.mem_range.1 hj, rfl⟩
theorem fe_gives {ts : List (List Int)} {n : Int} (h : n < 0) : fe ts n = gives ts (-1 - n).toNat := if_pos h
theorem fe_bind {a t : List Int} {ts : List (List Int)} {m : Nat} (hm : m < 24) (h : IO a (fe ts)) (ht : Tm a t) (n : Int) (hn : -24 ≤ n) : bindF (fe ts) (-1 - (m : Int)) t n = fe (bindTo ts m t 24) n := by
  unfold bindF
  have h1 : Sb a (one (-1 - (m : Int)) t) := sb_one (by omega) ht
  by_cases h0 : n < 0
  · rw [fe_gives h0, fe_gives h0]
    have hg : fe ts n = gives ts (-1 - n).toNat := fe_gives h0
    have ht2 := h.sb.tm n hn h0
    rw [hg] at ht2
    have hp := tm_pos (h1.fm ht2)
    have e := bindTo_get (ts := ts) (m := m) (t := t) (k := 24) (j := (-1 - n).toNat) (by omega)
    conv => rhs; unfold gives
    rw [if_pos ⟨by rw [bindTo_len]; omega, by rw [e]; omega⟩, e]
  · have e1 : fe ts n = [n] := if_neg h0
    have e2 : fe (bindTo ts m t 24) n = [n] := if_neg h0
    rw [e1, e2, fm_one, one_ne _ (by omega)]
def fxN (σ : Int → List Int) : Nat := ((List.range 24).filter fun k : Nat => σ (-1 - (k : Int)) = [-1 - (k : Int)]).length
theorem sinv_bind {a s t u : List Int} {ts : List (List Int)} {m : Nat} (h : SInv a s t ts) (hm : m < 24) (hf : fe ts (-1 - (m : Int)) = [-1 - (m : Int)]) (hu : Tm a u) (hfu : ∀ x ∈ u, x < 0 → fe ts x = [x]) (hn : -1 - (m : Int) ∉ u) (ho : ∀ j, u = [j] → j < 0 → -1 - (m : Int) < j)
    (hτ : ∀ τ, Sb a τ → fm τ s = fm τ t → τ (-1 - (m : Int)) = fm τ u) (hl : ∀ j, j < 24 → (fm (one (-1 - (m : Int)) u) (gives ts j)).length ≤ 60) : SInv a s t (bindTo ts m u 24) ∧ fxN (fe (bindTo ts m u 24)) < fxN (fe ts) := by
  have hi : -24 ≤ -1 - (m : Int) ∧ -1 - (m : Int) < 0 := by omega
  have e := fe_bind hm h.io hu
  have hio := io_bind h.io hi hf hu hfu hn ho
  refine ⟨⟨.inr (bindTo_len _ _ _ _), fun x hx => ?_, io_congr e hio, gen_congr e (gen_bind h.gen fun τ h1 h2 => ⟨h2, hτ τ h1 h2⟩)⟩, ?_⟩
  · obtain ⟨j, hj, rfl⟩ := bindTo_mem hx
    exact hl j hj
  · unfold fxN
    refine filter_lt (k := m) (fun x hx => ?_) (List.mem_range.2 hm) (by rw [decide_eq_true_iff]; exact hf) ?_
    · rw [decide_eq_true_iff] at hx ⊢
      by_cases hx24 : x < 24
      · rw [← e _ (by omega)] at hx
        unfold bindF at hx
        have ht2 := h.io.sb.tm (-1 - (x : Int)) (by omega) (by omega)
        have hl2 := fm_len_ge ((sb_one hi.2 hu).lens ht2)
        rw [hx, List.length_singleton] at hl2
        obtain ⟨k, hk⟩ := List.length_eq_one_iff.1 (show (fe ts (-1 - (x : Int))).length = 1 by have := tm_pos ht2; omega)
        rw [hk, fm_one] at hx
        by_cases hki : k = -1 - (m : Int)
        · rw [hki, one_self] at hx
          rw [hx] at hfu hn ho
          have h5 := ho _ rfl (by omega)
          have h6 := h.io.ori _ (by omega) (by omega) k hk (by omega)
          omega
        · rw [one_ne _ hki] at hx
          rw [hk, hx]
      · rw [fe_gives (by omega)] at hx ⊢
        have e2 : (-1 - (-1 - (x : Int))).toNat = x := by omega
        rw [e2]
        unfold gives
        rw [if_neg]
        rintro ⟨h1, _⟩
        rcases h.ln with h2 | h2
        · rw [h2] at h1; simp at h1
        · omega
    · rw [decide_eq_false_iff_not, ← e _ hi.1]
      unfold bindF
      rw [hf, fm_one, one_self]
      intro h5
      exact hn (by rw [h5]; simp)
theorem sinv_iom {a s t : List Int} {ts : List (List Int)} (h : SInv a s t ts) (he : fm (fe ts) s = fm (fe ts) t) : IOM a s t (fe ts) := ⟨h.io, he, h.gen⟩
theorem sinv_len {a s t : List Int} {ts : List (List Int)} (h : SInv a s t ts) {n : Int} (hn : n < 0) : (fe ts n).length ≤ 60 := by
  rw [fe_gives hn]; exact (gives_len h.sm).2
theorem sinv_ge {a s t : List Int} {ts : List (List Int)} (h : SInv a s t ts) : ∀ x ∈ ts, ∀ n ∈ x, -24 ≤ n := by
  intro x hx n hn
  obtain ⟨i, hi, rfl⟩ := List.getElem_of_mem hx
  have hi24 : i < 24 := by
    rcases h.ln with h2 | h2
    · rw [h2] at hi; simp at hi
    · omega
  have e : fe ts (-1 - (i : Int)) = ts[i] := by
    rw [fe_gives (by omega), show (-1 - (-1 - (i : Int))).toNat = i by omega]
    unfold gives
    have e2 : ts.getD i default = ts[i] := by rw [List.getD_eq_getElem?_getD, List.getElem?_eq_getElem hi]; rfl
    rw [e2, if_pos ⟨hi, List.length_pos_of_mem hn⟩]
  have ht := h.io.sb.tm (-1 - (i : Int)) (by omega) (by omega)
  rw [e] at ht
  exact (tm_mem ht hn).1
theorem sinv_end {a s t : List Int} {ts : List (List Int)} (h : SInv a s t ts) (he : fm (fe ts) s = fm (fe ts) t) (hl : (fm (fe ts) s).length ≤ 60) : some (plainOf ts) = uniOf a s t := by
  rw [uni_some (sinv_iom h he) ⟨hl, fun n h1 h2 => sinv_len h h2⟩]
  congr 1
  rcases h.ln with h2 | h2
  · rw [h2, ← plain_nil, show fe [] = fun n => [n] from funext fe_empty]
  · refine plain_of_tab h2 (fun i hi => ?_)
    rw [fe_gives (by omega), show (-1 - (-1 - (i : Int))).toNat = i by omega]
    unfold gives
    by_cases h0 : 0 < (ts.getD i default).length
    · rw [if_pos ⟨by omega, h0⟩]; exact .inl rfl
    · rw [if_neg (fun h => h0 h.2)]
      exact .inr ⟨List.eq_nil_of_length_eq_zero (by show (ts.getD i default).length = 0; omega), rfl⟩
/-- The two ways to go on where the terms part. -/
theorem part_tau {a s t x y : List Int} {ts : List (List Int)} {k : Nat} (h : SInv a s t ts) (hs : Tm a s) (ht : Tm a t) (hx : x = fm (fe ts) s) (hy : y = fm (fe ts) t) (hxo : termOk a x = true) (hyo : termOk a y = true) (hk : k < x.length) (hk2 : k < y.length) (he : x.take k = y.take k) :
    ∀ τ, Sb a τ → fm τ s = fm τ t → fm τ (subt a x k) = fm τ (subt a y k) := by
  intro τ hτ hu
  refine part_eq hxo hyo hk hk2 he hτ ?_
  rw [hx, hy, h.gen.all h.io.sb hτ hu hs, h.gen.all h.io.sb hτ hu ht]
  exact hu
theorem one_sub {a x : List Int} {k : Nat} (hx : termOk a x = true) (hk : k < x.length) (h0 : x.getD k 0 < 0) : subt a x k = [x.getD k 0] := by
  obtain ⟨r, hr⟩ := subt_head hx hk
  have ht := tm_ok (subt_ok hx hk)
  rw [hr] at ht
  rw [hr, tm_head ht h0]
theorem part_clash {a x y : List Int} {k : Nat} {τ : Int → List Int} (hx : termOk a x = true) (hy : termOk a y = true) (hk : k < x.length) (hk2 : k < y.length) (h0 : 0 ≤ x.getD k 0) (h1 : 0 ≤ y.getD k 0) (hne : x.getD k 0 ≠ y.getD k 0) (hτ : Sb a τ) : fm τ (subt a x k) ≠ fm τ (subt a y k) := by
  obtain ⟨r, hr⟩ := subt_head hx hk
  obtain ⟨r', hr'⟩ := subt_head hy hk2
  rw [hr, hr', fm_cons, fm_cons, hτ.pos _ h0, hτ.pos _ h1]
  intro e
  injection e with e _
  exact hne e
theorem sub_mem {a x : List Int} {k : Nat} {n : Int} (h : n ∈ subt a x k) : n ∈ x := List.mem_of_mem_drop (List.mem_of_mem_take h)
/-- A variable, and the other side's term: bound, or none. -/
theorem bind_step {a s t x y : List Int} {ts : List (List Int)} {k : Nat} (h : SInv a s t ts) (hs : Tm a s) (ht : Tm a t) (hx : x = fm (fe ts) s ∨ x = fm (fe ts) t) (hy : y = fm (fe ts) s ∨ y = fm (fe ts) t) (hxo : termOk a x = true) (hyo : termOk a y = true) (hk : k < x.length) (hk2 : k < y.length) (hτ : ∀ τ, Sb a τ → fm τ s = fm τ t → fm τ (subt a x k) = fm τ (subt a y k))
    (h0 : x.getD k 0 < 0) (hne : x.getD k 0 ≠ y.getD k 0) (ho : y.getD k 0 < 0 → x.getD k 0 < y.getD k 0) :
    (x.getD k 0 ∈ subt a y k → uniOf a s t = none) ∧ ∀ m : Nat, x.getD k 0 = -1 - (m : Int) → x.getD k 0 ∉ subt a y k → ((∃ j, j < 24 ∧ 60 < (fm (one (-1 - (m : Int)) (subt a y k)) (gives ts j)).length) → uniOf a s t = none) ∧ ((∀ j, j < 24 → (fm (one (-1 - (m : Int)) (subt a y k)) (gives ts j)).length ≤ 60) → SInv a s t (bindTo ts m (subt a y k) 24) ∧ fxN (fe (bindTo ts m (subt a y k) 24)) < fxN (fe ts)) := by
  have hix := getD_mem hk
  have hir := termOk_mem hxo hix
  have hfx : ∀ m ∈ x, m < 0 → fe ts m = [m] := fun m hm h0 => by
    rcases hx with e | e
    · rw [e] at hm; exact h.io.fix hs hm h0
    · rw [e] at hm; exact h.io.fix ht hm h0
  have hfy : ∀ m ∈ y, m < 0 → fe ts m = [m] := fun m hm h0 => by
    rcases hy with e | e
    · rw [e] at hm; exact h.io.fix hs hm h0
    · rw [e] at hm; exact h.io.fix ht hm h0
  have hut := tm_ok (subt_ok hyo hk2)
  have hτ' : ∀ τ, Sb a τ → fm τ s = fm τ t → τ (x.getD k 0) = fm τ (subt a y k) := fun τ h1 h2 => by
    have := hτ τ h1 h2
    rw [one_sub hxo hk h0, fm_one] at this
    exact this
  obtain ⟨r', hr'⟩ := subt_head hyo hk2
  refine ⟨fun hin => ?_, fun m hm hni => ?_⟩
  · refine uni_clash (fun τ h1 h2 => ?_)
    refine occ_no h1 hut hin (fun e => hne ?_) (hτ' τ h1 h2)
    rw [hr'] at e
    injection e with e _
    exact e.symm
  · have hb : SInv a s t ts → (∀ j, j < 24 → (fm (one (-1 - (m : Int)) (subt a y k)) (gives ts j)).length ≤ 60) → SInv a s t (bindTo ts m (subt a y k) 24) ∧ fxN (fe (bindTo ts m (subt a y k) 24)) < fxN (fe ts) := fun h hl => by
      refine sinv_bind h (by omega) (by rw [← hm]; exact hfx _ hix h0) hut (fun x hx hx0 => hfy x (sub_mem hx) hx0) (by rw [← hm]; exact hni) (fun j hj hj0 => ?_) (fun τ h1 h2 => by rw [← hm]; exact hτ' τ h1 h2) hl
      rw [hr'] at hj
      injection hj with hj _
      rw [← hm, ← hj]
      exact ho (by omega)
    refine ⟨fun ⟨j, hj, hlong⟩ => ?_, hb h⟩
    have hio := io_bind h.io (i := x.getD k 0) ⟨hir.1, h0⟩ (hfx _ hix h0) hut (fun x hx hx0 => hfy x (sub_mem hx) hx0) hni (fun j hj hj0 => by
      rw [hr'] at hj
      injection hj with hj _
      rw [← hj]
      exact ho (by omega))
    refine uni_long2 (n := -1 - (j : Int)) (gen_bind h.gen fun τ h1 h2 => ⟨h2, hτ' τ h1 h2⟩) hio.sb (by omega) ?_
    unfold bindF
    rw [hm, fe_gives (by omega), show (-1 - (-1 - (j : Int))).toNat = j by omega]
    exact hlong

/-! ### The walk -/
def bindOf (ts : List (List Int)) (m : Nat) (t : List Int) : Option (List (List Int)) := if ∀ x ∈ bindTo ts m t 24, x.length ≤ 60 then some (bindTo ts m t 24) else none
theorem bindOf_yes {ts : List (List Int)} {m : Nat} {t : List Int} (h : ∀ j, j < 24 → (fm (one (-1 - (m : Int)) t) (gives ts j)).length ≤ 60) : bindOf ts m t = some (bindTo ts m t 24) := if_pos fun x hx => by
  obtain ⟨j, hj, rfl⟩ := bindTo_mem hx
  exact h j hj
theorem bindOf_no {ts : List (List Int)} {m : Nat} {t : List Int} {j : Nat} (hj : j < 24) (h : 60 < (fm (one (-1 - (m : Int)) t) (gives ts j)).length) : bindOf ts m t = none := if_neg fun h' => by
  have := h' _ (List.mem_map.2 ⟨j, List.mem_range.2 hj, rfl⟩)
  omega
theorem bindOf_some {ts : List (List Int)} {m : Nat} {t : List Int} (h : (bindOf ts m t).isSome = true) : (∀ j, j < 24 → (fm (one (-1 - (m : Int)) t) (gives ts j)).length ≤ 60) ∧ (bindOf ts m t).getD [] = bindTo ts m t 24 := by
  unfold bindOf at h ⊢
  split at h
  · rename_i h1
    rw [if_pos h1]
    exact ⟨fun j hj => h1 _ (List.mem_map.2 ⟨j, List.mem_range.2 hj, rfl⟩), rfl⟩
  · cases h
theorem bindOf_none {ts : List (List Int)} {m : Nat} {t : List Int} (h : (bindOf ts m t).isSome = false) : ∃ j, j < 24 ∧ 60 < (fm (one (-1 - (m : Int)) t) (gives ts j)).length := by
  apply Classical.byContradiction
  intro hn
  rw [bindOf_yes (fun j hj => by
    apply Classical.byContradiction
    intro h2
    exact hn ⟨j, hj, by omega⟩)] at h
  cases h
/-- The table with one term in it. -/
def oneT (m : Nat) (t : List Int) : List (List Int) := (List.replicate 24 []).set m t
theorem oneT_fe {m : Nat} {t : List Int} (hm : m < 24) (ht : 1 ≤ t.length) (n : Int) : fe (oneT m t) n = one (-1 - (m : Int)) t n := by
  by_cases h0 : n < 0
  · rw [fe_gives h0]
    unfold gives oneT
    by_cases e : n = -1 - (m : Int)
    · rw [e, one_self, show (-1 - (-1 - (m : Int))).toNat = m by omega]
      have e2 : ((List.replicate 24 ([] : List Int)).set m t).getD m default = t := by
        rw [List.getD_eq_getElem?_getD, List.getElem?_set, if_pos rfl, if_pos (by simpa using hm)]; rfl
      rw [e2, if_pos ⟨by simpa using hm, by omega⟩]
    · rw [one_ne _ e]
      have e2 : ((List.replicate 24 ([] : List Int)).set m t).getD (-1 - n).toNat default = [] := by
        rw [List.getD_eq_getElem?_getD, List.getElem?_set, if_neg (by omega), List.getElem?_replicate]
        split <;> rfl
      rw [e2, if_neg (by simp)]
      congr 1; omega
  · rw [one_ne _ (by omega)]
    exact if_neg h0
theorem oneT_sm {m : Nat} {t : List Int} (ht : t.length ≤ 60) : ∀ x ∈ oneT m t, x.length ≤ 60 := fun x hx => by
  rcases List.mem_or_eq_of_mem_set hx with h | h
  · rw [(List.mem_replicate.1 h).2]; simp
  · rw [h]; exact ht
theorem oneT_fill {m : Nat} {t u : List Int} (hm : m < 24) (ht : 1 ≤ t.length) : fm (fe (oneT m t)) u = fm (one (-1 - (m : Int)) t) u := fm_congr fun n _ => oneT_fe hm ht n
theorem gives_ge {ts : List (List Int)} {i : Nat} (hi : i < 24) (hv : ∀ x ∈ ts, ∀ n ∈ x, -24 ≤ n) : ∀ n ∈ gives ts i, -24 ≤ n := by
  unfold gives
  split
  · rename_i h
    exact hv _ (mem_getD h.1)
  · intro n hn
    rw [List.mem_singleton] at hn
    omega
theorem l5Bind_spec {w0 : World} {Γ Δ : List Atom} {vs vt : Value} {ts : List (List Int)} {t : List Int} {i : Int} {m : Nat} [hm : ToN i m] [ht : PullOw (List Int) repList Γ [vt] t Δ] [h : HasRd (List (List Int)) repList Δ [vs] ts] (hi : 0 ≤ i ∧ i < 24) (hl : (∀ x ∈ ts, x.length ≤ 60) ∧ (∀ x ∈ ts, ∀ n ∈ x, -24 ≤ n) ∧ 1 ≤ t.length ∧ t.length ≤ 60) :
    CJ Try.prog 139 [.agg #[vs], .int .i64 i, vt] w0 Γ (fun q : Value => .tuple #[.agg #[q], .bool (bindOf ts m t).isSome]) (fun q => .ow [q] ((bindOf ts m t).getD []) :: Δ) := by
  refine cj_perm ht.perm ?_
  obtain rfl : i = (m : Int) := by have := hm.eq; omega
  obtain ⟨hsm, hge, ht1, ht60⟩ := hl
  refine cj_enter Try.func139 Try.ntmps139 ?_
  have hs1 : ∀ x ∈ (List.replicate 24 ([] : List Int)).set m t, x.length ≤ 60 := oneT_sm ht60
  repeat' (first | refine red ?_ | refine redf fun hbi => ?_ | refine reds ?_ | refine redc fun r => ?_ | refine redp (fun r => ?_) (fun r => ?_) | refine redv fun sv => ?_ | refine redn fun b => ?_ | refine redz fun zs => ?_ | refine redq (fun hc => ?_) (fun hc => ?_) | with_reducible refine wq_blk_o rfl ?_ | (refine redd fun p cs as_ hcs has hf => ?_; simp only [Un.cells, Un.atoms, Un.fact, List.cons_append, List.nil_append] at hcs has hf; subst hcs has) | (refine redi (fun hc => ?_) (fun hc => ?_) <;> try first | (exfalso; omega) | exact absurd rfl hc) | ((refine wa_begin 7 [false, false, false, false, false, false, false, false, false, false] [] ?_ <;> (first | refine wa_f 0 fun hbi => ?_ | refine wa_p 0 ?_ | fail) <;> (first | refine wa_f 1 fun hbi => ?_ | refine wa_p 1 ?_ | fail) <;> (first | refine wa_p 2 ?_ | refine wa_p0 2 ?_) <;> (refine wa_do 3 ?_ <;> (repeat' (first | refine red ?_ | refine redc fun r => ?_ | refine redv fun sv => ?_ | refine redf fun hbi => ?_ | refine redn fun b => ?_ | refine reds ?_ | refine redi (fun hc => ?_) (fun hc => ?_) | refine redq (fun hc => ?_) (fun hc => ?_) | refine redp (fun r => ?_) (fun r => ?_) | fail))) <;> (refine wa_do 4 ?_ <;> (repeat' (first | refine red ?_ | refine redc fun r => ?_ | refine redv fun sv => ?_ | refine redf fun hbi => ?_ | refine redn fun b => ?_ | refine reds ?_ | refine redi (fun hc => ?_) (fun hc => ?_) | refine redq (fun hc => ?_) (fun hc => ?_) | refine redp (fun r => ?_) (fun r => ?_) | fail))) <;> (first | refine wa_p 5 ?_ | refine wa_p0 5 ?_) <;> (first | refine wa_p 6 ?_ | refine wa_p0 6 ?_) <;> (first | refine wa_p 7 ?_ | refine wa_p0 7 ?_) <;> (first | refine wa_p 8 ?_ | refine wa_p0 8 ?_) <;> (first | refine wa_p 9 ?_ | refine wa_p0 9 ?_)) <;> (first | refine wa_end ?_ | with_reducible refine wq_keep ?_)) | fail)
  refine wc_loop_p [10] [21, 22, 26, 27, 28, 29, 30, 25, 31, 32, 11, 12, 33, 34, 35, 7, 36, 37, 38, 39, 40, 41, 23, 24] (ι := Nat × Value) (fun k => [.int .i64 k.1]) (fun k => [.bk b [k.2], .ow [k.2] (bindTo ts m t k.1)]) (fun k => k.1 ≤ 24 ∧ ∀ j, j < k.1 → (fm (one (-1 - (m : Int)) t) (gives ts j)).length ≤ 60) (fun k => 24 - k.1) (0, .slice none 0 0) [.bk b [.slice none 0 0], .ow [.slice none 0 0] ([] : List (List Int))] (by kernel_rfl) ⟨by decide, fun j hj => absurd hj (Nat.not_lt_zero _)⟩ rfl ?_
  intro ⟨k, sw⟩ u l' hl' ⟨hk, hkk⟩
  simp only [patch, List.map_cons, List.map_nil, List.set_cons_zero, List.set_cons_succ] at hl'
  subst hl'
  simp only [List.cons_append, List.nil_append] at hk hkk ⊢
  have hgl := gives_len (ts := ts) (i := k) hsm
  have hgg : k < 24 → ∀ n ∈ gives ts k, -24 ≤ n := fun h => gives_ge h hge
  have hbl := bindTo_len ts m t k
  have hbs := bindTo_succ ts m t k
  have hfe : fm (fe ((List.replicate 24 ([] : List Int)).set m t)) (gives ts k) = fm (one (-1 - (m : Int)) t) (gives ts k) := oneT_fill (by omega) ht1
  by_cases hk24 : k < 24
  · have hgg' := hgg hk24
    repeat' (first | refine red ?_ | refine redf fun hbi => ?_ | refine reds ?_ | refine redc fun r => ?_ | refine redp (fun r => ?_) (fun r => ?_) | refine redv fun sv => ?_ | refine redn fun b => ?_ | refine redz fun zs => ?_ | refine redq (fun hc => ?_) (fun hc => ?_) | with_reducible refine wq_blk_o rfl ?_ | (refine redd fun p cs as_ hcs has hf => ?_; simp only [Un.cells, Un.atoms, Un.fact, List.cons_append, List.nil_append] at hcs has hf; subst hcs has) | (refine redi (fun hc => ?_) (fun hc => ?_) <;> try first | (exfalso; omega) | exact absurd rfl hc) | ((refine wa_begin 7 [false, false, false, false, false, false, false, false, false, false] [] ?_ <;> (first | refine wa_f 0 fun hbi => ?_ | refine wa_p 0 ?_ | fail) <;> (first | refine wa_f 1 fun hbi => ?_ | refine wa_p 1 ?_ | fail) <;> (first | refine wa_p 2 ?_ | refine wa_p0 2 ?_) <;> (refine wa_do 3 ?_ <;> (repeat' (first | refine red ?_ | refine redc fun r => ?_ | refine redv fun sv => ?_ | refine redf fun hbi => ?_ | refine redn fun b => ?_ | refine reds ?_ | refine redi (fun hc => ?_) (fun hc => ?_) | refine redq (fun hc => ?_) (fun hc => ?_) | refine redp (fun r => ?_) (fun r => ?_) | fail))) <;> (refine wa_do 4 ?_ <;> (repeat' (first | refine red ?_ | refine redc fun r => ?_ | refine redv fun sv => ?_ | refine redf fun hbi => ?_ | refine redn fun b => ?_ | refine reds ?_ | refine redi (fun hc => ?_) (fun hc => ?_) | refine redq (fun hc => ?_) (fun hc => ?_) | refine redp (fun r => ?_) (fun r => ?_) | fail))) <;> (first | refine wa_p 5 ?_ | refine wa_p0 5 ?_) <;> (first | refine wa_p 6 ?_ | refine wa_p0 6 ?_) <;> (first | refine wa_p 7 ?_ | refine wa_p0 7 ?_) <;> (first | refine wa_p 8 ?_ | refine wa_p0 8 ?_) <;> (first | refine wa_p 9 ?_ | refine wa_p0 9 ?_)) <;> (first | refine wa_end ?_ | with_reducible refine wq_keep ?_)) | fail)
    · have h60 := fillOf_not hc
      rw [hfe] at h60
      rw [bindOf_no hk24 h60]
      simp only [Option.getD_none, Option.isSome_none]
      exact ⟨_, rfl, ent_e⟩
    · obtain ⟨h5, h6⟩ := fillOf_yes ‹_ = true›
      rw [hfe] at h5 h6
      rw [h5, ← hbs]
      refine wq_next (k + 1, sv) ⟨by simp only; omega, fun j hj => ?_⟩ (by simp only; omega) (by kernel_rfl) ent_e
      by_cases e : j = k
      · rw [e]; exact h6
      · exact hkk j (by simp only at hj; omega)
  · repeat' (first | refine red ?_ | refine redf fun hbi => ?_ | refine reds ?_ | refine redc fun r => ?_ | refine redp (fun r => ?_) (fun r => ?_) | refine redv fun sv => ?_ | refine redn fun b => ?_ | refine redz fun zs => ?_ | refine redq (fun hc => ?_) (fun hc => ?_) | with_reducible refine wq_blk_o rfl ?_ | (refine redd fun p cs as_ hcs has hf => ?_; simp only [Un.cells, Un.atoms, Un.fact, List.cons_append, List.nil_append] at hcs has hf; subst hcs has) | (refine redi (fun hc => ?_) (fun hc => ?_) <;> try first | (exfalso; omega) | exact absurd rfl hc) | ((refine wa_begin 7 [false, false, false, false, false, false, false, false, false, false] [] ?_ <;> (first | refine wa_f 0 fun hbi => ?_ | refine wa_p 0 ?_ | fail) <;> (first | refine wa_f 1 fun hbi => ?_ | refine wa_p 1 ?_ | fail) <;> (first | refine wa_p 2 ?_ | refine wa_p0 2 ?_) <;> (refine wa_do 3 ?_ <;> (repeat' (first | refine red ?_ | refine redc fun r => ?_ | refine redv fun sv => ?_ | refine redf fun hbi => ?_ | refine redn fun b => ?_ | refine reds ?_ | refine redi (fun hc => ?_) (fun hc => ?_) | refine redq (fun hc => ?_) (fun hc => ?_) | refine redp (fun r => ?_) (fun r => ?_) | fail))) <;> (refine wa_do 4 ?_ <;> (repeat' (first | refine red ?_ | refine redc fun r => ?_ | refine redv fun sv => ?_ | refine redf fun hbi => ?_ | refine redn fun b => ?_ | refine reds ?_ | refine redi (fun hc => ?_) (fun hc => ?_) | refine redq (fun hc => ?_) (fun hc => ?_) | refine redp (fun r => ?_) (fun r => ?_) | fail))) <;> (first | refine wa_p 5 ?_ | refine wa_p0 5 ?_) <;> (first | refine wa_p 6 ?_ | refine wa_p0 6 ?_) <;> (first | refine wa_p 7 ?_ | refine wa_p0 7 ?_) <;> (first | refine wa_p 8 ?_ | refine wa_p0 8 ?_) <;> (first | refine wa_p 9 ?_ | refine wa_p0 9 ?_)) <;> (first | refine wa_end ?_ | with_reducible refine wq_keep ?_)) | fail)
    obtain rfl : k = 24 := by omega
    rw [bindOf_yes hkk]
    simp only [Option.getD_some, Option.isSome_some]
    exact ⟨_, rfl, ent_e⟩
instance l5Bind_ctr {Γ Δ : List Atom} {vs vt : Value} {ts : List (List Int)} {t : List Int} {i : Int} {m : Nat} [hm : ToN i m] [ht : PullOw (List Int) repList Γ [vt] t Δ] [h : HasRd (List (List Int)) repList Δ [vs] ts] :
    CtrC Try.prog 139 [.agg #[vs], .int .i64 i, vt] Γ ((0 ≤ i ∧ i < 24) ∧ ((∀ x ∈ ts, x.length ≤ 60) ∧ (∀ x ∈ ts, ∀ n ∈ x, -24 ≤ n) ∧ 1 ≤ t.length ∧ t.length ≤ 60)) (Value) (fun q : Value => .tuple #[.agg #[q], .bool (bindOf ts m t).isSome]) (fun q => .ow [q] ((bindOf ts m t).getD []) :: Δ) := ⟨fun s w0 => l5Bind_spec s.1 s.2⟩

abbrev UniT (a s t : List Int) : Type := { r : Option (List (List Int)) // r.map plainOf = uniOf a s t ∧ (r.getD []).length ≤ 48 ∧ ∀ x ∈ r.getD [], x.length ≤ 60 }
theorem l5Unify_spec {w0 : World} {Γ : List Atom} {v vs vt : Value} {a s t : List Int} [h : HasRd (List Int) repList Γ [v] a] [h1 : HasRd (List Int) repList Γ [vs] s] [h2 : HasRd (List Int) repList Γ [vt] t] (hs : termOk a s = true ∧ termOk a t = true) :
    CJ Try.prog 92 [.agg #[v], .agg #[.slice none 0 0], vs, vt] w0 Γ (fun q : Value × UniT a s t => .tuple #[.agg #[q.1], .bool q.2.1.isSome]) (fun q => .ow [q.1] (q.2.1.getD []) :: Γ) := by
  refine cj_lift (R := [.rd [v] a, .rd [vs] s, .rd [vt] t]) (A := fun q : Value × UniT a s t => [.ow [q.1] (q.2.1.getD [])]) (fun w1 => ?_) (reads_cons h (reads_cons h1 (reads_cons h2 (inferInstance)))) (fun _ => inferInstance)
  simp only [List.cons_append, List.nil_append]
  obtain ⟨hso, hto⟩ := hs
  have hsl := termOk_len hso
  have htl := termOk_len hto
  have hsm : ∀ n ∈ s, -24 ≤ n := fun n hn => (termOk_mem hso hn).1
  have htm : ∀ n ∈ t, -24 ≤ n := fun n hn => (termOk_mem hto hn).1
  have hst := tm_ok hso
  have htt := tm_ok hto
  refine cj_enter Try.func92 Try.ntmps92 ?_
  repeat' (first | refine red ?_ | refine redf fun hbi => ?_ | refine reds ?_ | refine redc fun r => ?_ | refine redp (fun r => ?_) (fun r => ?_) | refine redv fun sv => ?_ | refine redn fun b => ?_ | refine redz fun zs => ?_ | refine redq (fun hc => ?_) (fun hc => ?_) | with_reducible refine wq_blk_o rfl ?_ | (refine redi (fun hc => ?_) (fun hc => ?_) <;> try first | (exfalso; omega) | exact absurd rfl hc) | ((refine wa_begin 6 [false, false, false, false, false, false, false, false, false, false, false, false, false, false, false, false, false, false, false, false, false] [] ?_ <;> (first | refine wa_p 0 ?_ | refine wa_p0 0 ?_) <;> (first | refine wa_p 1 ?_ | refine wa_p0 1 ?_) <;> (first | refine wa_p 2 ?_ | refine wa_p0 2 ?_ | (refine wa_do 2 ?_ <;> (repeat' (first | refine red ?_ | refine redc fun r => ?_ | refine redv fun sv => ?_ | refine redf fun hbi => ?_ | refine redn fun b => ?_ | refine reds ?_ | refine redi (fun hc => ?_) (fun hc => ?_) | refine redq (fun hc => ?_) (fun hc => ?_) | refine redp (fun r => ?_) (fun r => ?_) | fail))) | fail) <;> refine wa_p 3 ?_ <;> (first | refine wa_p 4 ?_ | refine wa_p0 4 ?_) <;> (first | refine wa_pg 5 ?_ | refine wa_no 5 ?_ | (refine wa_if 44 (fun hc => ?_) (fun hc => ?_) <;> (try first | (exfalso; omega) | exact absurd rfl hc) <;> first | refine wa_pg 5 ?_ | refine wa_no 5 ?_) | fail) <;> (first | refine wa_pg 6 ?_ | refine wa_no 6 ?_ | (refine wa_do 6 ?_ <;> (repeat' (first | refine red ?_ | refine redc fun r => ?_ | refine redv fun sv => ?_ | refine redf fun hbi => ?_ | refine redn fun b => ?_ | refine reds ?_ | refine redi (fun hc => ?_) (fun hc => ?_) | refine redq (fun hc => ?_) (fun hc => ?_) | refine redp (fun r => ?_) (fun r => ?_) | fail))) | fail) <;> (first | refine wa_pg 7 ?_ | refine wa_no 7 ?_ | (refine wa_do 7 ?_ <;> (repeat' (first | refine red ?_ | refine redc fun r => ?_ | refine redv fun sv => ?_ | refine redf fun hbi => ?_ | refine redn fun b => ?_ | refine reds ?_ | refine redi (fun hc => ?_) (fun hc => ?_) | refine redq (fun hc => ?_) (fun hc => ?_) | refine redp (fun r => ?_) (fun r => ?_) | fail))) | fail) <;> (first | refine wa_pg 8 ?_ | refine wa_no 8 ?_ | (refine wa_do 8 ?_ <;> (repeat' (first | refine red ?_ | refine redc fun r => ?_ | refine redv fun sv => ?_ | refine redf fun hbi => ?_ | refine redn fun b => ?_ | refine reds ?_ | refine redi (fun hc => ?_) (fun hc => ?_) | refine redq (fun hc => ?_) (fun hc => ?_) | refine redp (fun r => ?_) (fun r => ?_) | fail))) | fail) <;> (first | refine wa_p 9 ?_ | refine wa_p0 9 ?_ | (refine wa_do 9 ?_ <;> (repeat' (first | refine red ?_ | refine redc fun r => ?_ | refine redv fun sv => ?_ | refine redf fun hbi => ?_ | refine redn fun b => ?_ | refine reds ?_ | refine redi (fun hc => ?_) (fun hc => ?_) | refine redq (fun hc => ?_) (fun hc => ?_) | refine redp (fun r => ?_) (fun r => ?_) | fail))) | fail) <;> (first | refine wa_p 10 ?_ | refine wa_p0 10 ?_) <;> (first | refine wa_pg 11 ?_ | refine wa_no 11 ?_ | (refine wa_if 50 (fun hc => ?_) (fun hc => ?_) <;> (try first | (exfalso; omega) | exact absurd rfl hc) <;> first | refine wa_pg 11 ?_ | refine wa_no 11 ?_) | fail) <;> (first | refine wa_pg 12 ?_ | refine wa_no 12 ?_ | fail) <;> (first | refine wa_pg 13 ?_ | refine wa_no 13 ?_ | fail) <;> (first | refine wa_pg 14 ?_ | refine wa_no 14 ?_ | fail) <;> (first | refine wa_pg 15 ?_ | refine wa_no 15 ?_ | fail) <;> (first | refine wa_pg 16 ?_ | refine wa_no 16 ?_ | (refine wa_do 16 ?_ <;> (repeat' (first | refine red ?_ | refine redc fun r => ?_ | refine redv fun sv => ?_ | refine redf fun hbi => ?_ | refine redn fun b => ?_ | refine reds ?_ | refine redi (fun hc => ?_) (fun hc => ?_) | refine redq (fun hc => ?_) (fun hc => ?_) | refine redp (fun r => ?_) (fun r => ?_) | fail))) | fail) <;> (first | refine wa_pg 17 ?_ | refine wa_no 17 ?_ | (refine wa_do 17 ?_ <;> (repeat' (first | refine red ?_ | refine redc fun r => ?_ | refine redv fun sv => ?_ | refine redf fun hbi => ?_ | refine redn fun b => ?_ | refine reds ?_ | refine redi (fun hc => ?_) (fun hc => ?_) | refine redq (fun hc => ?_) (fun hc => ?_) | refine redp (fun r => ?_) (fun r => ?_) | fail))) | fail) <;> (first | refine wa_pg 18 ?_ | refine wa_no 18 ?_ | (refine wa_do 18 ?_ <;> (repeat' (first | refine red ?_ | refine redc fun r => ?_ | refine redv fun sv => ?_ | refine redf fun hbi => ?_ | refine redn fun b => ?_ | refine reds ?_ | refine redi (fun hc => ?_) (fun hc => ?_) | refine redq (fun hc => ?_) (fun hc => ?_) | refine redp (fun r => ?_) (fun r => ?_) | fail))) | fail) <;> (first | refine wa_pg 19 ?_ | refine wa_no 19 ?_ | (refine wa_do 19 ?_ <;> (repeat' (first | refine red ?_ | refine redc fun r => ?_ | refine redv fun sv => ?_ | refine redf fun hbi => ?_ | refine redn fun b => ?_ | refine reds ?_ | refine redi (fun hc => ?_) (fun hc => ?_) | refine redq (fun hc => ?_) (fun hc => ?_) | refine redp (fun r => ?_) (fun r => ?_) | fail))) | fail) <;> (first | refine wa_p 20 ?_ | refine wa_p0 20 ?_ | (refine wa_do 20 ?_ <;> (repeat' (first | refine red ?_ | refine redc fun r => ?_ | refine redv fun sv => ?_ | refine redf fun hbi => ?_ | refine redn fun b => ?_ | refine reds ?_ | refine redi (fun hc => ?_) (fun hc => ?_) | refine redq (fun hc => ?_) (fun hc => ?_) | refine redp (fun r => ?_) (fun r => ?_) | fail))) | fail)) <;> (first | refine wa_end ?_ | with_reducible refine wq_keep ?_)) | fail)
  rename_i b4 b5
  refine wc_loop_p [] [22, 23, 24, 21, 25, 26, 10, 11, 28, 29, 30, 27, 31, 32, 12, 13, 33, 34, 35, 36, 37, 38, 39, 9, 14, 40, 41, 42, 43, 44, 45, 46, 47, 48, 49, 50, 51, 52, 53, 54, 55, 56, 57, 58, 59, 60, 61, 62, 63, 64, 65, 66, 67, 68, 69, 70, 71, 15, 72, 73, 74, 75, 16, 76, 17, 77, 78, 79, 80, 18, 82, 83, 84, 85, 86, 87, 81, 88, 90, 91, 92, 93, 94, 95, 96, 97, 98, 99, 100, 89, 101, 102, 103, 104, 105, 106, 107, 108, 109, 111, 112, 113, 114, 115, 110, 116, 117, 19, 20, 118, 119, 120, 121] (ι := Value × List (List Int)) (fun _ => []) (fun k => [.bk b5 [k.1], .ow [k.1] k.2]) (fun k => SInv a s t k.2) (fun k => fxN (fe k.2)) (.slice none 0 0, []) [.bk b5 [.slice none 0 0], .ow [.slice none 0 0] ([] : List (List Int))] (by kernel_rfl) sinv_nil rfl ?_
  intro ⟨sw, ts⟩ u l' hl' hI
  simp only [patch, List.map_cons, List.map_nil, List.set_cons_zero, List.set_cons_succ] at hl'
  subst hl'
  simp only [List.cons_append, List.nil_append] at hI ⊢
  have hI1 := hI.sm
  have hge := sinv_ge hI
  have hfst := fe_lens hI.io hst
  have hftt := fe_lens hI.io htt
  repeat' (first | refine red ?_ | refine redf fun hbi => ?_ | refine reds ?_ | refine redc fun r => ?_ | refine redp (fun r => ?_) (fun r => ?_) | refine redv fun sv => ?_ | refine redn fun b => ?_ | refine redz fun zs => ?_ | refine redq (fun hc => ?_) (fun hc => ?_) | with_reducible refine wq_blk_o rfl ?_ | (refine redi (fun hc => ?_) (fun hc => ?_) <;> try first | (exfalso; omega) | exact absurd rfl hc) | ((refine wa_begin 6 [false, false, false, false, false, false, false, false, false, false, false, false, false, false, false, false, false, false, false, false, false] [] ?_ <;> (first | refine wa_p 0 ?_ | refine wa_p0 0 ?_) <;> (first | refine wa_p 1 ?_ | refine wa_p0 1 ?_) <;> (first | refine wa_p 2 ?_ | refine wa_p0 2 ?_ | (refine wa_do 2 ?_ <;> (repeat' (first | refine red ?_ | refine redc fun r => ?_ | refine redv fun sv => ?_ | refine redf fun hbi => ?_ | refine redn fun b => ?_ | refine reds ?_ | refine redi (fun hc => ?_) (fun hc => ?_) | refine redq (fun hc => ?_) (fun hc => ?_) | refine redp (fun r => ?_) (fun r => ?_) | fail))) | fail) <;> refine wa_p 3 ?_ <;> (first | refine wa_p 4 ?_ | refine wa_p0 4 ?_) <;> (first | refine wa_pg 5 ?_ | refine wa_no 5 ?_ | (refine wa_if 44 (fun hc => ?_) (fun hc => ?_) <;> (try first | (exfalso; omega) | exact absurd rfl hc) <;> first | refine wa_pg 5 ?_ | refine wa_no 5 ?_) | fail) <;> (first | refine wa_pg 6 ?_ | refine wa_no 6 ?_ | (refine wa_do 6 ?_ <;> (repeat' (first | refine red ?_ | refine redc fun r => ?_ | refine redv fun sv => ?_ | refine redf fun hbi => ?_ | refine redn fun b => ?_ | refine reds ?_ | refine redi (fun hc => ?_) (fun hc => ?_) | refine redq (fun hc => ?_) (fun hc => ?_) | refine redp (fun r => ?_) (fun r => ?_) | fail))) | fail) <;> (first | refine wa_pg 7 ?_ | refine wa_no 7 ?_ | (refine wa_do 7 ?_ <;> (repeat' (first | refine red ?_ | refine redc fun r => ?_ | refine redv fun sv => ?_ | refine redf fun hbi => ?_ | refine redn fun b => ?_ | refine reds ?_ | refine redi (fun hc => ?_) (fun hc => ?_) | refine redq (fun hc => ?_) (fun hc => ?_) | refine redp (fun r => ?_) (fun r => ?_) | fail))) | fail) <;> (first | refine wa_pg 8 ?_ | refine wa_no 8 ?_ | (refine wa_do 8 ?_ <;> (repeat' (first | refine red ?_ | refine redc fun r => ?_ | refine redv fun sv => ?_ | refine redf fun hbi => ?_ | refine redn fun b => ?_ | refine reds ?_ | refine redi (fun hc => ?_) (fun hc => ?_) | refine redq (fun hc => ?_) (fun hc => ?_) | refine redp (fun r => ?_) (fun r => ?_) | fail))) | fail) <;> (first | refine wa_p 9 ?_ | refine wa_p0 9 ?_ | (refine wa_do 9 ?_ <;> (repeat' (first | refine red ?_ | refine redc fun r => ?_ | refine redv fun sv => ?_ | refine redf fun hbi => ?_ | refine redn fun b => ?_ | refine reds ?_ | refine redi (fun hc => ?_) (fun hc => ?_) | refine redq (fun hc => ?_) (fun hc => ?_) | refine redp (fun r => ?_) (fun r => ?_) | fail))) | fail) <;> (first | refine wa_p 10 ?_ | refine wa_p0 10 ?_) <;> (first | refine wa_pg 11 ?_ | refine wa_no 11 ?_ | (refine wa_if 50 (fun hc => ?_) (fun hc => ?_) <;> (try first | (exfalso; omega) | exact absurd rfl hc) <;> first | refine wa_pg 11 ?_ | refine wa_no 11 ?_) | fail) <;> (first | refine wa_pg 12 ?_ | refine wa_no 12 ?_ | fail) <;> (first | refine wa_pg 13 ?_ | refine wa_no 13 ?_ | fail) <;> (first | refine wa_pg 14 ?_ | refine wa_no 14 ?_ | fail) <;> (first | refine wa_pg 15 ?_ | refine wa_no 15 ?_ | fail) <;> (first | refine wa_pg 16 ?_ | refine wa_no 16 ?_ | (refine wa_do 16 ?_ <;> (repeat' (first | refine red ?_ | refine redc fun r => ?_ | refine redv fun sv => ?_ | refine redf fun hbi => ?_ | refine redn fun b => ?_ | refine reds ?_ | refine redi (fun hc => ?_) (fun hc => ?_) | refine redq (fun hc => ?_) (fun hc => ?_) | refine redp (fun r => ?_) (fun r => ?_) | fail))) | fail) <;> (first | refine wa_pg 17 ?_ | refine wa_no 17 ?_ | (refine wa_do 17 ?_ <;> (repeat' (first | refine red ?_ | refine redc fun r => ?_ | refine redv fun sv => ?_ | refine redf fun hbi => ?_ | refine redn fun b => ?_ | refine reds ?_ | refine redi (fun hc => ?_) (fun hc => ?_) | refine redq (fun hc => ?_) (fun hc => ?_) | refine redp (fun r => ?_) (fun r => ?_) | fail))) | fail) <;> (first | refine wa_pg 18 ?_ | refine wa_no 18 ?_ | (refine wa_do 18 ?_ <;> (repeat' (first | refine red ?_ | refine redc fun r => ?_ | refine redv fun sv => ?_ | refine redf fun hbi => ?_ | refine redn fun b => ?_ | refine reds ?_ | refine redi (fun hc => ?_) (fun hc => ?_) | refine redq (fun hc => ?_) (fun hc => ?_) | refine redp (fun r => ?_) (fun r => ?_) | fail))) | fail) <;> (first | refine wa_pg 19 ?_ | refine wa_no 19 ?_ | (refine wa_do 19 ?_ <;> (repeat' (first | refine red ?_ | refine redc fun r => ?_ | refine redv fun sv => ?_ | refine redf fun hbi => ?_ | refine redn fun b => ?_ | refine reds ?_ | refine redi (fun hc => ?_) (fun hc => ?_) | refine redq (fun hc => ?_) (fun hc => ?_) | refine redp (fun r => ?_) (fun r => ?_) | fail))) | fail) <;> (first | refine wa_p 20 ?_ | refine wa_p0 20 ?_ | (refine wa_do 20 ?_ <;> (repeat' (first | refine red ?_ | refine redc fun r => ?_ | refine redv fun sv => ?_ | refine redf fun hbi => ?_ | refine redn fun b => ?_ | refine reds ?_ | refine redi (fun hc => ?_) (fun hc => ?_) | refine redq (fun hc => ?_) (fun hc => ?_) | refine redp (fun r => ?_) (fun r => ?_) | fail))) | fail)) <;> (first | refine wa_end ?_ | with_reducible refine wq_keep ?_)) | fail)
  · have h60 := fillOf_not hc
    have e := uni_long hI.gen hI.io.sb hst htt (.inl rfl) h60
    exact ⟨(.slice none 0 0, ⟨none, (e).symm, by simp, by simp⟩), rfl, show Ent _ _ [.ow [.slice none 0 0] ([] : List (List Int)), .rd [v] a, .rd [vs] s, .rd [vt] t] from ent_e⟩
  · have h60 := fillOf_not hc
    have e := uni_long hI.gen hI.io.sb hst htt (.inr rfl) h60
    exact ⟨(.slice none 0 0, ⟨none, (e).symm, by simp, by simp⟩), rfl, show Ent _ _ [.ow [.slice none 0 0] ([] : List (List Int)), .rd [v] a, .rd [vs] s, .rd [vt] t] from ent_e⟩
  rename_i rx hcx
  obtain ⟨e1, l1⟩ := fillOf_yes hcx
  obtain ⟨e2, l2⟩ := fillOf_yes hc
  rw [e1, e2]
  have hxo := ok_tm (termOk_sig hso) (hI.io.sb.fm hst) l1
  have hyo := ok_tm (termOk_sig hso) (hI.io.sb.fm htt) l2
  obtain ⟨x, hx⟩ : ∃ x, x = fm (fe ts) s := ⟨_, rfl⟩
  obtain ⟨y, hy⟩ : ∃ y, y = fm (fe ts) t := ⟨_, rfl⟩
  rw [← hx, ← hy]
  rw [← hx] at hxo l1
  rw [← hy] at hyo l2
  refine wc_share rx ?_
  refine wc_share r ?_
  clear e1 e2 hcx hc hfst hftt
  refine wc_loop_c [14] [40, 41, 42, 43, 44, 45, 46, 47, 48, 49, 50, 51, 52, 53, 54, 55, 56, 57, 58, 59, 60, 61, 62] (ι := Nat) (fun k => [.int .i64 k]) (fun k => k ≤ x.length ∧ k ≤ y.length ∧ x.take k = y.take k) (fun k => x.length - k) 0 (by kernel_rfl) ⟨Nat.zero_le _, Nat.zero_le _, rfl⟩ ?_
  intro k u l' hl' ⟨hk, hk2, hkk⟩
  simp only [patch, List.map_cons, List.map_nil, List.set_cons_zero, List.set_cons_succ] at hl'
  subst hl'
  by_cases hend : x.length ≤ k ∨ y.length ≤ k
  · have hxy := pre_eq hxo hyo hkk hend
    subst hxy
    have hkx : k = x.length := by omega
    repeat' (first | refine red ?_ | refine redf fun hbi => ?_ | refine reds ?_ | refine redc fun r => ?_ | refine redp (fun r => ?_) (fun r => ?_) | refine redv fun sv => ?_ | refine redn fun b => ?_ | refine redz fun zs => ?_ | refine redq (fun hc => ?_) (fun hc => ?_) | with_reducible refine wq_blk_o rfl ?_ | (refine redi (fun hc => ?_) (fun hc => ?_) <;> try first | (exfalso; omega) | exact absurd rfl hc) | ((refine wa_begin 6 [false, false, false, false, false, false, false, false, false, false, false, false, false, false, false, false, false, false, false, false, false] [] ?_ <;> (first | refine wa_p 0 ?_ | refine wa_p0 0 ?_) <;> (first | refine wa_p 1 ?_ | refine wa_p0 1 ?_) <;> (first | refine wa_p 2 ?_ | refine wa_p0 2 ?_ | (refine wa_do 2 ?_ <;> (repeat' (first | refine red ?_ | refine redc fun r => ?_ | refine redv fun sv => ?_ | refine redf fun hbi => ?_ | refine redn fun b => ?_ | refine reds ?_ | refine redi (fun hc => ?_) (fun hc => ?_) | refine redq (fun hc => ?_) (fun hc => ?_) | refine redp (fun r => ?_) (fun r => ?_) | fail))) | fail) <;> refine wa_p 3 ?_ <;> (first | refine wa_p 4 ?_ | refine wa_p0 4 ?_) <;> (first | refine wa_pg 5 ?_ | refine wa_no 5 ?_ | (refine wa_if 44 (fun hc => ?_) (fun hc => ?_) <;> (try first | (exfalso; omega) | exact absurd rfl hc) <;> first | refine wa_pg 5 ?_ | refine wa_no 5 ?_) | fail) <;> (first | refine wa_pg 6 ?_ | refine wa_no 6 ?_ | (refine wa_do 6 ?_ <;> (repeat' (first | refine red ?_ | refine redc fun r => ?_ | refine redv fun sv => ?_ | refine redf fun hbi => ?_ | refine redn fun b => ?_ | refine reds ?_ | refine redi (fun hc => ?_) (fun hc => ?_) | refine redq (fun hc => ?_) (fun hc => ?_) | refine redp (fun r => ?_) (fun r => ?_) | fail))) | fail) <;> (first | refine wa_pg 7 ?_ | refine wa_no 7 ?_ | (refine wa_do 7 ?_ <;> (repeat' (first | refine red ?_ | refine redc fun r => ?_ | refine redv fun sv => ?_ | refine redf fun hbi => ?_ | refine redn fun b => ?_ | refine reds ?_ | refine redi (fun hc => ?_) (fun hc => ?_) | refine redq (fun hc => ?_) (fun hc => ?_) | refine redp (fun r => ?_) (fun r => ?_) | fail))) | fail) <;> (first | refine wa_pg 8 ?_ | refine wa_no 8 ?_ | (refine wa_do 8 ?_ <;> (repeat' (first | refine red ?_ | refine redc fun r => ?_ | refine redv fun sv => ?_ | refine redf fun hbi => ?_ | refine redn fun b => ?_ | refine reds ?_ | refine redi (fun hc => ?_) (fun hc => ?_) | refine redq (fun hc => ?_) (fun hc => ?_) | refine redp (fun r => ?_) (fun r => ?_) | fail))) | fail) <;> (first | refine wa_p 9 ?_ | refine wa_p0 9 ?_ | (refine wa_do 9 ?_ <;> (repeat' (first | refine red ?_ | refine redc fun r => ?_ | refine redv fun sv => ?_ | refine redf fun hbi => ?_ | refine redn fun b => ?_ | refine reds ?_ | refine redi (fun hc => ?_) (fun hc => ?_) | refine redq (fun hc => ?_) (fun hc => ?_) | refine redp (fun r => ?_) (fun r => ?_) | fail))) | fail) <;> (first | refine wa_p 10 ?_ | refine wa_p0 10 ?_) <;> (first | refine wa_pg 11 ?_ | refine wa_no 11 ?_ | (refine wa_if 50 (fun hc => ?_) (fun hc => ?_) <;> (try first | (exfalso; omega) | exact absurd rfl hc) <;> first | refine wa_pg 11 ?_ | refine wa_no 11 ?_) | fail) <;> (first | refine wa_pg 12 ?_ | refine wa_no 12 ?_ | fail) <;> (first | refine wa_pg 13 ?_ | refine wa_no 13 ?_ | fail) <;> (first | refine wa_pg 14 ?_ | refine wa_no 14 ?_ | fail) <;> (first | refine wa_pg 15 ?_ | refine wa_no 15 ?_ | fail) <;> (first | refine wa_pg 16 ?_ | refine wa_no 16 ?_ | (refine wa_do 16 ?_ <;> (repeat' (first | refine red ?_ | refine redc fun r => ?_ | refine redv fun sv => ?_ | refine redf fun hbi => ?_ | refine redn fun b => ?_ | refine reds ?_ | refine redi (fun hc => ?_) (fun hc => ?_) | refine redq (fun hc => ?_) (fun hc => ?_) | refine redp (fun r => ?_) (fun r => ?_) | fail))) | fail) <;> (first | refine wa_pg 17 ?_ | refine wa_no 17 ?_ | (refine wa_do 17 ?_ <;> (repeat' (first | refine red ?_ | refine redc fun r => ?_ | refine redv fun sv => ?_ | refine redf fun hbi => ?_ | refine redn fun b => ?_ | refine reds ?_ | refine redi (fun hc => ?_) (fun hc => ?_) | refine redq (fun hc => ?_) (fun hc => ?_) | refine redp (fun r => ?_) (fun r => ?_) | fail))) | fail) <;> (first | refine wa_pg 18 ?_ | refine wa_no 18 ?_ | (refine wa_do 18 ?_ <;> (repeat' (first | refine red ?_ | refine redc fun r => ?_ | refine redv fun sv => ?_ | refine redf fun hbi => ?_ | refine redn fun b => ?_ | refine reds ?_ | refine redi (fun hc => ?_) (fun hc => ?_) | refine redq (fun hc => ?_) (fun hc => ?_) | refine redp (fun r => ?_) (fun r => ?_) | fail))) | fail) <;> (first | refine wa_pg 19 ?_ | refine wa_no 19 ?_ | (refine wa_do 19 ?_ <;> (repeat' (first | refine red ?_ | refine redc fun r => ?_ | refine redv fun sv => ?_ | refine redf fun hbi => ?_ | refine redn fun b => ?_ | refine reds ?_ | refine redi (fun hc => ?_) (fun hc => ?_) | refine redq (fun hc => ?_) (fun hc => ?_) | refine redp (fun r => ?_) (fun r => ?_) | fail))) | fail) <;> (first | refine wa_p 20 ?_ | refine wa_p0 20 ?_ | (refine wa_do 20 ?_ <;> (repeat' (first | refine red ?_ | refine redc fun r => ?_ | refine redv fun sv => ?_ | refine redf fun hbi => ?_ | refine redn fun b => ?_ | refine reds ?_ | refine redi (fun hc => ?_) (fun hc => ?_) | refine redq (fun hc => ?_) (fun hc => ?_) | refine redp (fun r => ?_) (fun r => ?_) | fail))) | fail)) <;> (first | refine wa_end ?_ | with_reducible refine wq_keep ?_)) | fail)
    have hend2 := sinv_end hI (by rw [← hx, ← hy]) (by rw [← hx]; exact l1)
    refine ⟨(sw, ⟨some ts, hend2, ?_, hI.sm⟩), rfl, ?_⟩
    · show ts.length ≤ 48
      rcases hI.ln with h2 | h2 <;> rw [h2] <;> simp
    · show Ent _ _ [.ow [sw] ts, .rd [v] a, .rd [vs] s, .rd [vt] t]
      exact ent_e
  · have hkx : k < x.length := by omega
    have hky : k < y.length := by omega
    have hpx := termOk_get hxo hkx
    have hpy := termOk_get hyo hky
    have hux := termOk_len (subt_ok hxo hkx)
    have huy := termOk_len (subt_ok hyo hky)
    by_cases heq : x.getD k 0 = y.getD k 0
    · repeat' (first | refine red ?_ | refine redf fun hbi => ?_ | refine reds ?_ | refine redc fun r => ?_ | refine redp (fun r => ?_) (fun r => ?_) | refine redv fun sv => ?_ | refine redn fun b => ?_ | refine redz fun zs => ?_ | refine redq (fun hc => ?_) (fun hc => ?_) | with_reducible refine wq_blk_o rfl ?_ | (refine redi (fun hc => ?_) (fun hc => ?_) <;> try first | (exfalso; omega) | exact absurd rfl hc) | ((refine wa_begin 6 [false, false, false, false, false, false, false, false, false, false, false, false, false, false, false, false, false, false, false, false, false] [] ?_ <;> (first | refine wa_p 0 ?_ | refine wa_p0 0 ?_) <;> (first | refine wa_p 1 ?_ | refine wa_p0 1 ?_) <;> (first | refine wa_p 2 ?_ | refine wa_p0 2 ?_ | (refine wa_do 2 ?_ <;> (repeat' (first | refine red ?_ | refine redc fun r => ?_ | refine redv fun sv => ?_ | refine redf fun hbi => ?_ | refine redn fun b => ?_ | refine reds ?_ | refine redi (fun hc => ?_) (fun hc => ?_) | refine redq (fun hc => ?_) (fun hc => ?_) | refine redp (fun r => ?_) (fun r => ?_) | fail))) | fail) <;> refine wa_p 3 ?_ <;> (first | refine wa_p 4 ?_ | refine wa_p0 4 ?_) <;> (first | refine wa_pg 5 ?_ | refine wa_no 5 ?_ | (refine wa_if 44 (fun hc => ?_) (fun hc => ?_) <;> (try first | (exfalso; omega) | exact absurd rfl hc) <;> first | refine wa_pg 5 ?_ | refine wa_no 5 ?_) | fail) <;> (first | refine wa_pg 6 ?_ | refine wa_no 6 ?_ | (refine wa_do 6 ?_ <;> (repeat' (first | refine red ?_ | refine redc fun r => ?_ | refine redv fun sv => ?_ | refine redf fun hbi => ?_ | refine redn fun b => ?_ | refine reds ?_ | refine redi (fun hc => ?_) (fun hc => ?_) | refine redq (fun hc => ?_) (fun hc => ?_) | refine redp (fun r => ?_) (fun r => ?_) | fail))) | fail) <;> (first | refine wa_pg 7 ?_ | refine wa_no 7 ?_ | (refine wa_do 7 ?_ <;> (repeat' (first | refine red ?_ | refine redc fun r => ?_ | refine redv fun sv => ?_ | refine redf fun hbi => ?_ | refine redn fun b => ?_ | refine reds ?_ | refine redi (fun hc => ?_) (fun hc => ?_) | refine redq (fun hc => ?_) (fun hc => ?_) | refine redp (fun r => ?_) (fun r => ?_) | fail))) | fail) <;> (first | refine wa_pg 8 ?_ | refine wa_no 8 ?_ | (refine wa_do 8 ?_ <;> (repeat' (first | refine red ?_ | refine redc fun r => ?_ | refine redv fun sv => ?_ | refine redf fun hbi => ?_ | refine redn fun b => ?_ | refine reds ?_ | refine redi (fun hc => ?_) (fun hc => ?_) | refine redq (fun hc => ?_) (fun hc => ?_) | refine redp (fun r => ?_) (fun r => ?_) | fail))) | fail) <;> (first | refine wa_p 9 ?_ | refine wa_p0 9 ?_ | (refine wa_do 9 ?_ <;> (repeat' (first | refine red ?_ | refine redc fun r => ?_ | refine redv fun sv => ?_ | refine redf fun hbi => ?_ | refine redn fun b => ?_ | refine reds ?_ | refine redi (fun hc => ?_) (fun hc => ?_) | refine redq (fun hc => ?_) (fun hc => ?_) | refine redp (fun r => ?_) (fun r => ?_) | fail))) | fail) <;> (first | refine wa_p 10 ?_ | refine wa_p0 10 ?_) <;> (first | refine wa_pg 11 ?_ | refine wa_no 11 ?_ | (refine wa_if 50 (fun hc => ?_) (fun hc => ?_) <;> (try first | (exfalso; omega) | exact absurd rfl hc) <;> first | refine wa_pg 11 ?_ | refine wa_no 11 ?_) | fail) <;> (first | refine wa_pg 12 ?_ | refine wa_no 12 ?_ | fail) <;> (first | refine wa_pg 13 ?_ | refine wa_no 13 ?_ | fail) <;> (first | refine wa_pg 14 ?_ | refine wa_no 14 ?_ | fail) <;> (first | refine wa_pg 15 ?_ | refine wa_no 15 ?_ | fail) <;> (first | refine wa_pg 16 ?_ | refine wa_no 16 ?_ | (refine wa_do 16 ?_ <;> (repeat' (first | refine red ?_ | refine redc fun r => ?_ | refine redv fun sv => ?_ | refine redf fun hbi => ?_ | refine redn fun b => ?_ | refine reds ?_ | refine redi (fun hc => ?_) (fun hc => ?_) | refine redq (fun hc => ?_) (fun hc => ?_) | refine redp (fun r => ?_) (fun r => ?_) | fail))) | fail) <;> (first | refine wa_pg 17 ?_ | refine wa_no 17 ?_ | (refine wa_do 17 ?_ <;> (repeat' (first | refine red ?_ | refine redc fun r => ?_ | refine redv fun sv => ?_ | refine redf fun hbi => ?_ | refine redn fun b => ?_ | refine reds ?_ | refine redi (fun hc => ?_) (fun hc => ?_) | refine redq (fun hc => ?_) (fun hc => ?_) | refine redp (fun r => ?_) (fun r => ?_) | fail))) | fail) <;> (first | refine wa_pg 18 ?_ | refine wa_no 18 ?_ | (refine wa_do 18 ?_ <;> (repeat' (first | refine red ?_ | refine redc fun r => ?_ | refine redv fun sv => ?_ | refine redf fun hbi => ?_ | refine redn fun b => ?_ | refine reds ?_ | refine redi (fun hc => ?_) (fun hc => ?_) | refine redq (fun hc => ?_) (fun hc => ?_) | refine redp (fun r => ?_) (fun r => ?_) | fail))) | fail) <;> (first | refine wa_pg 19 ?_ | refine wa_no 19 ?_ | (refine wa_do 19 ?_ <;> (repeat' (first | refine red ?_ | refine redc fun r => ?_ | refine redv fun sv => ?_ | refine redf fun hbi => ?_ | refine redn fun b => ?_ | refine reds ?_ | refine redi (fun hc => ?_) (fun hc => ?_) | refine redq (fun hc => ?_) (fun hc => ?_) | refine redp (fun r => ?_) (fun r => ?_) | fail))) | fail) <;> (first | refine wa_p 20 ?_ | refine wa_p0 20 ?_ | (refine wa_do 20 ?_ <;> (repeat' (first | refine red ?_ | refine redc fun r => ?_ | refine redv fun sv => ?_ | refine redf fun hbi => ?_ | refine redn fun b => ?_ | refine reds ?_ | refine redi (fun hc => ?_) (fun hc => ?_) | refine redq (fun hc => ?_) (fun hc => ?_) | refine redp (fun r => ?_) (fun r => ?_) | fail))) | fail)) <;> (first | refine wa_end ?_ | with_reducible refine wq_keep ?_)) | fail)
      refine wq_next (k + 1) ⟨by omega, by omega, ?_⟩ (by omega) (by kernel_rfl) ent_e
      exact take_next hkk hkx hky heq
    by_cases hpos : 0 ≤ x.getD k 0 ∧ 0 ≤ y.getD k 0
    · have hcl := uni_clash (fun τ h1 h2 => part_clash hxo hyo hkx hky hpos.1 hpos.2 heq h1 (part_tau hI hst htt hx hy hxo hyo hkx hky hkk τ h1 h2))
      repeat' (first | refine red ?_ | refine redf fun hbi => ?_ | refine reds ?_ | refine redc fun r => ?_ | refine redp (fun r => ?_) (fun r => ?_) | refine redv fun sv => ?_ | refine redn fun b => ?_ | refine redz fun zs => ?_ | refine redq (fun hc => ?_) (fun hc => ?_) | with_reducible refine wq_blk_o rfl ?_ | (refine redi (fun hc => ?_) (fun hc => ?_) <;> try first | (exfalso; omega) | exact absurd rfl hc) | ((refine wa_begin 6 [false, false, false, false, false, false, false, false, false, false, false, false, false, false, false, false, false, false, false, false, false] [] ?_ <;> (first | refine wa_p 0 ?_ | refine wa_p0 0 ?_) <;> (first | refine wa_p 1 ?_ | refine wa_p0 1 ?_) <;> (first | refine wa_p 2 ?_ | refine wa_p0 2 ?_ | (refine wa_do 2 ?_ <;> (repeat' (first | refine red ?_ | refine redc fun r => ?_ | refine redv fun sv => ?_ | refine redf fun hbi => ?_ | refine redn fun b => ?_ | refine reds ?_ | refine redi (fun hc => ?_) (fun hc => ?_) | refine redq (fun hc => ?_) (fun hc => ?_) | refine redp (fun r => ?_) (fun r => ?_) | fail))) | fail) <;> refine wa_p 3 ?_ <;> (first | refine wa_p 4 ?_ | refine wa_p0 4 ?_) <;> (first | refine wa_pg 5 ?_ | refine wa_no 5 ?_ | (refine wa_if 44 (fun hc => ?_) (fun hc => ?_) <;> (try first | (exfalso; omega) | exact absurd rfl hc) <;> first | refine wa_pg 5 ?_ | refine wa_no 5 ?_) | fail) <;> (first | refine wa_pg 6 ?_ | refine wa_no 6 ?_ | (refine wa_do 6 ?_ <;> (repeat' (first | refine red ?_ | refine redc fun r => ?_ | refine redv fun sv => ?_ | refine redf fun hbi => ?_ | refine redn fun b => ?_ | refine reds ?_ | refine redi (fun hc => ?_) (fun hc => ?_) | refine redq (fun hc => ?_) (fun hc => ?_) | refine redp (fun r => ?_) (fun r => ?_) | fail))) | fail) <;> (first | refine wa_pg 7 ?_ | refine wa_no 7 ?_ | (refine wa_do 7 ?_ <;> (repeat' (first | refine red ?_ | refine redc fun r => ?_ | refine redv fun sv => ?_ | refine redf fun hbi => ?_ | refine redn fun b => ?_ | refine reds ?_ | refine redi (fun hc => ?_) (fun hc => ?_) | refine redq (fun hc => ?_) (fun hc => ?_) | refine redp (fun r => ?_) (fun r => ?_) | fail))) | fail) <;> (first | refine wa_pg 8 ?_ | refine wa_no 8 ?_ | (refine wa_do 8 ?_ <;> (repeat' (first | refine red ?_ | refine redc fun r => ?_ | refine redv fun sv => ?_ | refine redf fun hbi => ?_ | refine redn fun b => ?_ | refine reds ?_ | refine redi (fun hc => ?_) (fun hc => ?_) | refine redq (fun hc => ?_) (fun hc => ?_) | refine redp (fun r => ?_) (fun r => ?_) | fail))) | fail) <;> (first | refine wa_p 9 ?_ | refine wa_p0 9 ?_ | (refine wa_do 9 ?_ <;> (repeat' (first | refine red ?_ | refine redc fun r => ?_ | refine redv fun sv => ?_ | refine redf fun hbi => ?_ | refine redn fun b => ?_ | refine reds ?_ | refine redi (fun hc => ?_) (fun hc => ?_) | refine redq (fun hc => ?_) (fun hc => ?_) | refine redp (fun r => ?_) (fun r => ?_) | fail))) | fail) <;> (first | refine wa_p 10 ?_ | refine wa_p0 10 ?_) <;> (first | refine wa_pg 11 ?_ | refine wa_no 11 ?_ | (refine wa_if 50 (fun hc => ?_) (fun hc => ?_) <;> (try first | (exfalso; omega) | exact absurd rfl hc) <;> first | refine wa_pg 11 ?_ | refine wa_no 11 ?_) | fail) <;> (first | refine wa_pg 12 ?_ | refine wa_no 12 ?_ | fail) <;> (first | refine wa_pg 13 ?_ | refine wa_no 13 ?_ | fail) <;> (first | refine wa_pg 14 ?_ | refine wa_no 14 ?_ | fail) <;> (first | refine wa_pg 15 ?_ | refine wa_no 15 ?_ | fail) <;> (first | refine wa_pg 16 ?_ | refine wa_no 16 ?_ | (refine wa_do 16 ?_ <;> (repeat' (first | refine red ?_ | refine redc fun r => ?_ | refine redv fun sv => ?_ | refine redf fun hbi => ?_ | refine redn fun b => ?_ | refine reds ?_ | refine redi (fun hc => ?_) (fun hc => ?_) | refine redq (fun hc => ?_) (fun hc => ?_) | refine redp (fun r => ?_) (fun r => ?_) | fail))) | fail) <;> (first | refine wa_pg 17 ?_ | refine wa_no 17 ?_ | (refine wa_do 17 ?_ <;> (repeat' (first | refine red ?_ | refine redc fun r => ?_ | refine redv fun sv => ?_ | refine redf fun hbi => ?_ | refine redn fun b => ?_ | refine reds ?_ | refine redi (fun hc => ?_) (fun hc => ?_) | refine redq (fun hc => ?_) (fun hc => ?_) | refine redp (fun r => ?_) (fun r => ?_) | fail))) | fail) <;> (first | refine wa_pg 18 ?_ | refine wa_no 18 ?_ | (refine wa_do 18 ?_ <;> (repeat' (first | refine red ?_ | refine redc fun r => ?_ | refine redv fun sv => ?_ | refine redf fun hbi => ?_ | refine redn fun b => ?_ | refine reds ?_ | refine redi (fun hc => ?_) (fun hc => ?_) | refine redq (fun hc => ?_) (fun hc => ?_) | refine redp (fun r => ?_) (fun r => ?_) | fail))) | fail) <;> (first | refine wa_pg 19 ?_ | refine wa_no 19 ?_ | (refine wa_do 19 ?_ <;> (repeat' (first | refine red ?_ | refine redc fun r => ?_ | refine redv fun sv => ?_ | refine redf fun hbi => ?_ | refine redn fun b => ?_ | refine reds ?_ | refine redi (fun hc => ?_) (fun hc => ?_) | refine redq (fun hc => ?_) (fun hc => ?_) | refine redp (fun r => ?_) (fun r => ?_) | fail))) | fail) <;> (first | refine wa_p 20 ?_ | refine wa_p0 20 ?_ | (refine wa_do 20 ?_ <;> (repeat' (first | refine red ?_ | refine redc fun r => ?_ | refine redv fun sv => ?_ | refine redf fun hbi => ?_ | refine redn fun b => ?_ | refine reds ?_ | refine redi (fun hc => ?_) (fun hc => ?_) | refine redq (fun hc => ?_) (fun hc => ?_) | refine redp (fun r => ?_) (fun r => ?_) | fail))) | fail)) <;> (first | refine wa_end ?_ | with_reducible refine wq_keep ?_)) | fail)
      all_goals first
        | (exact ⟨(.slice none 0 0, ⟨none, (hcl).symm, by simp, by simp⟩), rfl, show Ent _ _ [.ow [.slice none 0 0] ([] : List (List Int)), .rd [v] a, .rd [vs] s, .rd [vt] t] from ent_e⟩)
        | omega
    by_cases hB : 0 ≤ x.getD k 0 ∨ y.getD k 0 < 0 ∧ y.getD k 0 < x.getD k 0
    · have hq0 : y.getD k 0 < 0 := by omega
      have hqo : x.getD k 0 < 0 → y.getD k 0 < x.getD k 0 := by omega
      by_cases hdum : True
      · have hb := bind_step hI hst htt (.inr hy) (.inl hx) hyo hxo hky hkx (fun τ h1 h2 => (part_tau hI hst htt hx hy hxo hyo hkx hky hkk τ h1 h2).symm) hq0 (fun h => heq h.symm) hqo
        obtain ⟨hb1, hb2⟩ := hb
        have hm : y.getD k 0 = -1 - ((-1 - y.getD k 0).toNat : Int) := by omega
        have hb3 := hb2 (-1 - y.getD k 0).toNat hm
        clear hb2 hm
        repeat' (first | refine red ?_ | refine redf fun hbi => ?_ | refine reds ?_ | refine redc fun r => ?_ | refine redp (fun r => ?_) (fun r => ?_) | refine redv fun sv => ?_ | refine redn fun b => ?_ | refine redz fun zs => ?_ | refine redq (fun hc => ?_) (fun hc => ?_) | with_reducible refine wq_blk_o rfl ?_ | (refine redi (fun hc => ?_) (fun hc => ?_) <;> try first | (exfalso; omega) | exact absurd rfl hc) | ((refine wa_begin 6 [false, false, false, false, false, false, false, false, false, false, false, false, false, false, false, false, false, false, false, false, false] [] ?_ <;> (first | refine wa_p 0 ?_ | refine wa_p0 0 ?_) <;> (first | refine wa_p 1 ?_ | refine wa_p0 1 ?_) <;> (first | refine wa_p 2 ?_ | refine wa_p0 2 ?_ | (refine wa_do 2 ?_ <;> (repeat' (first | refine red ?_ | refine redc fun r => ?_ | refine redv fun sv => ?_ | refine redf fun hbi => ?_ | refine redn fun b => ?_ | refine reds ?_ | refine redi (fun hc => ?_) (fun hc => ?_) | refine redq (fun hc => ?_) (fun hc => ?_) | refine redp (fun r => ?_) (fun r => ?_) | fail))) | fail) <;> refine wa_p 3 ?_ <;> (first | refine wa_p 4 ?_ | refine wa_p0 4 ?_) <;> (first | refine wa_pg 5 ?_ | refine wa_no 5 ?_ | (refine wa_if 44 (fun hc => ?_) (fun hc => ?_) <;> (try first | (exfalso; omega) | exact absurd rfl hc) <;> first | refine wa_pg 5 ?_ | refine wa_no 5 ?_) | fail) <;> (first | refine wa_pg 6 ?_ | refine wa_no 6 ?_ | (refine wa_do 6 ?_ <;> (repeat' (first | refine red ?_ | refine redc fun r => ?_ | refine redv fun sv => ?_ | refine redf fun hbi => ?_ | refine redn fun b => ?_ | refine reds ?_ | refine redi (fun hc => ?_) (fun hc => ?_) | refine redq (fun hc => ?_) (fun hc => ?_) | refine redp (fun r => ?_) (fun r => ?_) | fail))) | fail) <;> (first | refine wa_pg 7 ?_ | refine wa_no 7 ?_ | (refine wa_do 7 ?_ <;> (repeat' (first | refine red ?_ | refine redc fun r => ?_ | refine redv fun sv => ?_ | refine redf fun hbi => ?_ | refine redn fun b => ?_ | refine reds ?_ | refine redi (fun hc => ?_) (fun hc => ?_) | refine redq (fun hc => ?_) (fun hc => ?_) | refine redp (fun r => ?_) (fun r => ?_) | fail))) | fail) <;> (first | refine wa_pg 8 ?_ | refine wa_no 8 ?_ | (refine wa_do 8 ?_ <;> (repeat' (first | refine red ?_ | refine redc fun r => ?_ | refine redv fun sv => ?_ | refine redf fun hbi => ?_ | refine redn fun b => ?_ | refine reds ?_ | refine redi (fun hc => ?_) (fun hc => ?_) | refine redq (fun hc => ?_) (fun hc => ?_) | refine redp (fun r => ?_) (fun r => ?_) | fail))) | fail) <;> (first | refine wa_p 9 ?_ | refine wa_p0 9 ?_ | (refine wa_do 9 ?_ <;> (repeat' (first | refine red ?_ | refine redc fun r => ?_ | refine redv fun sv => ?_ | refine redf fun hbi => ?_ | refine redn fun b => ?_ | refine reds ?_ | refine redi (fun hc => ?_) (fun hc => ?_) | refine redq (fun hc => ?_) (fun hc => ?_) | refine redp (fun r => ?_) (fun r => ?_) | fail))) | fail) <;> (first | refine wa_p 10 ?_ | refine wa_p0 10 ?_) <;> (first | refine wa_pg 11 ?_ | refine wa_no 11 ?_ | (refine wa_if 50 (fun hc => ?_) (fun hc => ?_) <;> (try first | (exfalso; omega) | exact absurd rfl hc) <;> first | refine wa_pg 11 ?_ | refine wa_no 11 ?_) | fail) <;> (first | refine wa_pg 12 ?_ | refine wa_no 12 ?_ | fail) <;> (first | refine wa_pg 13 ?_ | refine wa_no 13 ?_ | fail) <;> (first | refine wa_pg 14 ?_ | refine wa_no 14 ?_ | fail) <;> (first | refine wa_pg 15 ?_ | refine wa_no 15 ?_ | fail) <;> (first | refine wa_pg 16 ?_ | refine wa_no 16 ?_ | (refine wa_do 16 ?_ <;> (repeat' (first | refine red ?_ | refine redc fun r => ?_ | refine redv fun sv => ?_ | refine redf fun hbi => ?_ | refine redn fun b => ?_ | refine reds ?_ | refine redi (fun hc => ?_) (fun hc => ?_) | refine redq (fun hc => ?_) (fun hc => ?_) | refine redp (fun r => ?_) (fun r => ?_) | fail))) | fail) <;> (first | refine wa_pg 17 ?_ | refine wa_no 17 ?_ | (refine wa_do 17 ?_ <;> (repeat' (first | refine red ?_ | refine redc fun r => ?_ | refine redv fun sv => ?_ | refine redf fun hbi => ?_ | refine redn fun b => ?_ | refine reds ?_ | refine redi (fun hc => ?_) (fun hc => ?_) | refine redq (fun hc => ?_) (fun hc => ?_) | refine redp (fun r => ?_) (fun r => ?_) | fail))) | fail) <;> (first | refine wa_pg 18 ?_ | refine wa_no 18 ?_ | (refine wa_do 18 ?_ <;> (repeat' (first | refine red ?_ | refine redc fun r => ?_ | refine redv fun sv => ?_ | refine redf fun hbi => ?_ | refine redn fun b => ?_ | refine reds ?_ | refine redi (fun hc => ?_) (fun hc => ?_) | refine redq (fun hc => ?_) (fun hc => ?_) | refine redp (fun r => ?_) (fun r => ?_) | fail))) | fail) <;> (first | refine wa_pg 19 ?_ | refine wa_no 19 ?_ | (refine wa_do 19 ?_ <;> (repeat' (first | refine red ?_ | refine redc fun r => ?_ | refine redv fun sv => ?_ | refine redf fun hbi => ?_ | refine redn fun b => ?_ | refine reds ?_ | refine redi (fun hc => ?_) (fun hc => ?_) | refine redq (fun hc => ?_) (fun hc => ?_) | refine redp (fun r => ?_) (fun r => ?_) | fail))) | fail) <;> (first | refine wa_p 20 ?_ | refine wa_p0 20 ?_ | (refine wa_do 20 ?_ <;> (repeat' (first | refine red ?_ | refine redc fun r => ?_ | refine redv fun sv => ?_ | refine redf fun hbi => ?_ | refine redn fun b => ?_ | refine reds ?_ | refine redi (fun hc => ?_) (fun hc => ?_) | refine redq (fun hc => ?_) (fun hc => ?_) | refine redp (fun r => ?_) (fun r => ?_) | fail))) | fail)) <;> (first | refine wa_end ?_ | with_reducible refine wq_keep ?_)) | fail)
        all_goals first
          | (exact ⟨(.slice none 0 0, ⟨none, (hb1 hc).symm, by simp, by simp⟩), rfl, show Ent _ _ [.ow [.slice none 0 0] ([] : List (List Int)), .rd [v] a, .rd [vs] s, .rd [vt] t] from ent_e⟩)
          | skip
        all_goals have hnn := hb3 (by assumption)
        all_goals first
          | (exact ⟨(.slice none 0 0, ⟨none, (hnn.1 (bindOf_none hc)).symm, by simp, by simp⟩), rfl, show Ent _ _ [.ow [.slice none 0 0] ([] : List (List Int)), .rd [v] a, .rd [vs] s, .rd [vt] t] from ent_e⟩)
          | skip
        all_goals
          obtain ⟨hall, hget⟩ := bindOf_some (by assumption)
          obtain ⟨hi1, hi2⟩ := hnn.2 hall
          rw [hget]
          exact wq_next (r, bindTo ts (-1 - y.getD k 0).toNat (subt a x k) 24) hi1 hi2 (by kernel_rfl) ent_e
      · exact absurd trivial hdum
    · have hp0 : x.getD k 0 < 0 := by omega
      have hpo : y.getD k 0 < 0 → x.getD k 0 < y.getD k 0 := by omega
      by_cases hdum : True
      · have hb := bind_step hI hst htt (.inl hx) (.inr hy) hxo hyo hkx hky (part_tau hI hst htt hx hy hxo hyo hkx hky hkk) hp0 heq hpo
        obtain ⟨hb1, hb2⟩ := hb
        have hm : x.getD k 0 = -1 - ((-1 - x.getD k 0).toNat : Int) := by omega
        have hb3 := hb2 (-1 - x.getD k 0).toNat hm
        clear hb2 hm
        repeat' (first | refine red ?_ | refine redf fun hbi => ?_ | refine reds ?_ | refine redc fun r => ?_ | refine redp (fun r => ?_) (fun r => ?_) | refine redv fun sv => ?_ | refine redn fun b => ?_ | refine redz fun zs => ?_ | refine redq (fun hc => ?_) (fun hc => ?_) | with_reducible refine wq_blk_o rfl ?_ | (refine redi (fun hc => ?_) (fun hc => ?_) <;> try first | (exfalso; omega) | exact absurd rfl hc) | ((refine wa_begin 6 [false, false, false, false, false, false, false, false, false, false, false, false, false, false, false, false, false, false, false, false, false] [] ?_ <;> (first | refine wa_p 0 ?_ | refine wa_p0 0 ?_) <;> (first | refine wa_p 1 ?_ | refine wa_p0 1 ?_) <;> (first | refine wa_p 2 ?_ | refine wa_p0 2 ?_ | (refine wa_do 2 ?_ <;> (repeat' (first | refine red ?_ | refine redc fun r => ?_ | refine redv fun sv => ?_ | refine redf fun hbi => ?_ | refine redn fun b => ?_ | refine reds ?_ | refine redi (fun hc => ?_) (fun hc => ?_) | refine redq (fun hc => ?_) (fun hc => ?_) | refine redp (fun r => ?_) (fun r => ?_) | fail))) | fail) <;> refine wa_p 3 ?_ <;> (first | refine wa_p 4 ?_ | refine wa_p0 4 ?_) <;> (first | refine wa_pg 5 ?_ | refine wa_no 5 ?_ | (refine wa_if 44 (fun hc => ?_) (fun hc => ?_) <;> (try first | (exfalso; omega) | exact absurd rfl hc) <;> first | refine wa_pg 5 ?_ | refine wa_no 5 ?_) | fail) <;> (first | refine wa_pg 6 ?_ | refine wa_no 6 ?_ | (refine wa_do 6 ?_ <;> (repeat' (first | refine red ?_ | refine redc fun r => ?_ | refine redv fun sv => ?_ | refine redf fun hbi => ?_ | refine redn fun b => ?_ | refine reds ?_ | refine redi (fun hc => ?_) (fun hc => ?_) | refine redq (fun hc => ?_) (fun hc => ?_) | refine redp (fun r => ?_) (fun r => ?_) | fail))) | fail) <;> (first | refine wa_pg 7 ?_ | refine wa_no 7 ?_ | (refine wa_do 7 ?_ <;> (repeat' (first | refine red ?_ | refine redc fun r => ?_ | refine redv fun sv => ?_ | refine redf fun hbi => ?_ | refine redn fun b => ?_ | refine reds ?_ | refine redi (fun hc => ?_) (fun hc => ?_) | refine redq (fun hc => ?_) (fun hc => ?_) | refine redp (fun r => ?_) (fun r => ?_) | fail))) | fail) <;> (first | refine wa_pg 8 ?_ | refine wa_no 8 ?_ | (refine wa_do 8 ?_ <;> (repeat' (first | refine red ?_ | refine redc fun r => ?_ | refine redv fun sv => ?_ | refine redf fun hbi => ?_ | refine redn fun b => ?_ | refine reds ?_ | refine redi (fun hc => ?_) (fun hc => ?_) | refine redq (fun hc => ?_) (fun hc => ?_) | refine redp (fun r => ?_) (fun r => ?_) | fail))) | fail) <;> (first | refine wa_p 9 ?_ | refine wa_p0 9 ?_ | (refine wa_do 9 ?_ <;> (repeat' (first | refine red ?_ | refine redc fun r => ?_ | refine redv fun sv => ?_ | refine redf fun hbi => ?_ | refine redn fun b => ?_ | refine reds ?_ | refine redi (fun hc => ?_) (fun hc => ?_) | refine redq (fun hc => ?_) (fun hc => ?_) | refine redp (fun r => ?_) (fun r => ?_) | fail))) | fail) <;> (first | refine wa_p 10 ?_ | refine wa_p0 10 ?_) <;> (first | refine wa_pg 11 ?_ | refine wa_no 11 ?_ | (refine wa_if 50 (fun hc => ?_) (fun hc => ?_) <;> (try first | (exfalso; omega) | exact absurd rfl hc) <;> first | refine wa_pg 11 ?_ | refine wa_no 11 ?_) | fail) <;> (first | refine wa_pg 12 ?_ | refine wa_no 12 ?_ | fail) <;> (first | refine wa_pg 13 ?_ | refine wa_no 13 ?_ | fail) <;> (first | refine wa_pg 14 ?_ | refine wa_no 14 ?_ | fail) <;> (first | refine wa_pg 15 ?_ | refine wa_no 15 ?_ | fail) <;> (first | refine wa_pg 16 ?_ | refine wa_no 16 ?_ | (refine wa_do 16 ?_ <;> (repeat' (first | refine red ?_ | refine redc fun r => ?_ | refine redv fun sv => ?_ | refine redf fun hbi => ?_ | refine redn fun b => ?_ | refine reds ?_ | refine redi (fun hc => ?_) (fun hc => ?_) | refine redq (fun hc => ?_) (fun hc => ?_) | refine redp (fun r => ?_) (fun r => ?_) | fail))) | fail) <;> (first | refine wa_pg 17 ?_ | refine wa_no 17 ?_ | (refine wa_do 17 ?_ <;> (repeat' (first | refine red ?_ | refine redc fun r => ?_ | refine redv fun sv => ?_ | refine redf fun hbi => ?_ | refine redn fun b => ?_ | refine reds ?_ | refine redi (fun hc => ?_) (fun hc => ?_) | refine redq (fun hc => ?_) (fun hc => ?_) | refine redp (fun r => ?_) (fun r => ?_) | fail))) | fail) <;> (first | refine wa_pg 18 ?_ | refine wa_no 18 ?_ | (refine wa_do 18 ?_ <;> (repeat' (first | refine red ?_ | refine redc fun r => ?_ | refine redv fun sv => ?_ | refine redf fun hbi => ?_ | refine redn fun b => ?_ | refine reds ?_ | refine redi (fun hc => ?_) (fun hc => ?_) | refine redq (fun hc => ?_) (fun hc => ?_) | refine redp (fun r => ?_) (fun r => ?_) | fail))) | fail) <;> (first | refine wa_pg 19 ?_ | refine wa_no 19 ?_ | (refine wa_do 19 ?_ <;> (repeat' (first | refine red ?_ | refine redc fun r => ?_ | refine redv fun sv => ?_ | refine redf fun hbi => ?_ | refine redn fun b => ?_ | refine reds ?_ | refine redi (fun hc => ?_) (fun hc => ?_) | refine redq (fun hc => ?_) (fun hc => ?_) | refine redp (fun r => ?_) (fun r => ?_) | fail))) | fail) <;> (first | refine wa_p 20 ?_ | refine wa_p0 20 ?_ | (refine wa_do 20 ?_ <;> (repeat' (first | refine red ?_ | refine redc fun r => ?_ | refine redv fun sv => ?_ | refine redf fun hbi => ?_ | refine redn fun b => ?_ | refine reds ?_ | refine redi (fun hc => ?_) (fun hc => ?_) | refine redq (fun hc => ?_) (fun hc => ?_) | refine redp (fun r => ?_) (fun r => ?_) | fail))) | fail)) <;> (first | refine wa_end ?_ | with_reducible refine wq_keep ?_)) | fail)
        all_goals first
          | (exact ⟨(.slice none 0 0, ⟨none, (hb1 hc).symm, by simp, by simp⟩), rfl, show Ent _ _ [.ow [.slice none 0 0] ([] : List (List Int)), .rd [v] a, .rd [vs] s, .rd [vt] t] from ent_e⟩)
          | skip
        all_goals have hnn := hb3 (by assumption)
        all_goals first
          | (exact ⟨(.slice none 0 0, ⟨none, (hnn.1 (bindOf_none hc)).symm, by simp, by simp⟩), rfl, show Ent _ _ [.ow [.slice none 0 0] ([] : List (List Int)), .rd [v] a, .rd [vs] s, .rd [vt] t] from ent_e⟩)
          | skip
        all_goals
          obtain ⟨hall, hget⟩ := bindOf_some (by assumption)
          obtain ⟨hi1, hi2⟩ := hnn.2 hall
          rw [hget]
          exact wq_next (r, bindTo ts (-1 - x.getD k 0).toNat (subt a y k) 24) hi1 hi2 (by kernel_rfl) ent_e
      · exact absurd trivial hdum
instance l5Unify_ctr {Γ : List Atom} {v vs vt : Value} {a s t : List Int} [h : HasRd (List Int) repList Γ [v] a] [h1 : HasRd (List Int) repList Γ [vs] s] [h2 : HasRd (List Int) repList Γ [vt] t] :
    CtrC Try.prog 92 [.agg #[v], .agg #[.slice none 0 0], vs, vt] Γ (termOk a s = true ∧ termOk a t = true) (Value × UniT a s t) (fun q : Value × UniT a s t => .tuple #[.agg #[q.1], .bool q.2.1.isSome]) (fun q => .ow [q.1] (q.2.1.getD []) :: Γ) := ⟨fun s w0 => l5Unify_spec s⟩

end Go.Proofs.Ytcpfcnjchlbapaa
namespace Go.Proofs.Ytcpfcnjchlbapaa
open Go Go.Eng
set_option linter.unusedVariables false
set_option linter.unusedSimpArgs false
set_option synthInstance.maxHeartbeats 400000
set_option synthInstance.maxSize 1000

noncomputable def unified (a s t : List Int) : Option (List (List Int)) := if termOk a s = true ∧ termOk a t = true then uniOf a s t else none
theorem un_yes {a s t : List Int} (h1 : termOk a s = true) (h2 : termOk a t = true) : unified a s t = uniOf a s t := if_pos ⟨h1, h2⟩
theorem un_no1 {a s t : List Int} (h1 : termOk a s = false) : unified a s t = none := if_neg (fun h => by rw [h1] at h; exact absurd h.1 (by simp))
theorem un_no2 {a s t : List Int} (h1 : termOk a t = false) : unified a s t = none := if_neg (fun h => by rw [h1] at h; exact absurd h.2 (by simp))
theorem spec_Unified_spec {w0 : World} {Γ : List Atom} {v vs vt : Value} {a s t : List Int} [h : HasRd (List Int) repList Γ [v] a] [h1 : HasRd (List Int) repList Γ [vs] s] [h2 : HasRd (List Int) repList Γ [vt] t] :
    CJ Try.prog 38 [.agg #[v], vs, vt] w0 Γ (fun q : Value => .tuple #[.agg #[q], .bool (unified a s t).isSome]) (fun q => .ow [q] ((unified a s t).getD []) :: Γ) := by
  refine cj_lift (R := [.rd [v] a, .rd [vs] s, .rd [vt] t]) (A := fun q => [.ow [q] ((unified a s t).getD [])]) (fun w1 => ?_) (reads_cons h (reads_cons h1 (reads_cons h2 (inferInstance)))) (fun _ => inferInstance)
  simp only [List.cons_append, List.nil_append]
  have hbd : ∀ q : UniT a s t, (q.1.getD []).length ≤ 48 ∧ ∀ x ∈ q.1.getD [], x.length ≤ 60 := fun q => q.2.2
  refine cj_enter Try.func38 Try.ntmps38 ?_
  repeat' (first | refine red ?_ | refine redf fun hbi => ?_ | refine reds ?_ | refine redc fun r => ?_ | refine redp (fun r => ?_) (fun r => ?_) | refine redv fun sv => ?_ | refine redn fun b => ?_ | refine redz fun zs => ?_ | refine redq (fun hc => ?_) (fun hc => ?_) | with_reducible refine wq_blk_o rfl ?_ | (refine redi (fun hc => ?_) (fun hc => ?_) <;> try first | (exfalso; omega) | exact absurd rfl hc) | fail)
  · rw [un_no1 hc]
    simp only [Option.getD_none, Option.isSome_none]
    exact ⟨_, rfl, ent_e⟩
  · rw [un_no2 hc]
    simp only [Option.getD_none, Option.isSome_none]
    exact ⟨_, rfl, ent_e⟩
  · rename_i hs1 _ hs2
    have hun : unified a s t = r.2.1.map plainOf := by rw [un_yes hs1 hs2]; exact r.2.2.1.symm
    rw [hun]
    obtain ⟨r1, ⟨r2, hr2⟩⟩ := r
    cases r2 with
    | none => 
      simp only [Option.getD_none, Option.isSome_none, Option.map_none]
      exact ⟨_, rfl, ent_e⟩
    | some ts => cases hc
  · rename_i hs1 _ hs2
    have hun : unified a s t = some (plainOf (r.2.1.getD [])) := by
      rw [un_yes hs1 hs2]
      refine r.2.2.1.symm.trans ?_
      obtain ⟨ts, hts⟩ := Option.isSome_iff_exists.1 hc
      rw [hts]; rfl
    rw [hun]
    obtain ⟨hb1, hb2⟩ := hbd r.2
    repeat' (first | refine red ?_ | refine redf fun hbi => ?_ | refine reds ?_ | refine redc fun r => ?_ | refine redp (fun r => ?_) (fun r => ?_) | refine redv fun sv => ?_ | refine redn fun b => ?_ | refine redz fun zs => ?_ | refine redq (fun hc => ?_) (fun hc => ?_) | with_reducible refine wq_blk_o rfl ?_ | (refine redi (fun hc => ?_) (fun hc => ?_) <;> try first | (exfalso; omega) | exact absurd rfl hc) | fail)
    simp only [Option.getD_some, Option.isSome_some]
    exact ⟨_, rfl, ent_e⟩
instance spec_Unified_ctr {Γ : List Atom} {v vs vt : Value} {a s t : List Int} [h : HasRd (List Int) repList Γ [v] a] [h1 : HasRd (List Int) repList Γ [vs] s] [h2 : HasRd (List Int) repList Γ [vt] t] :
    CtrC Try.prog 38 [.agg #[v], vs, vt] Γ (True) (Value) (fun q : Value => .tuple #[.agg #[q], .bool (unified a s t).isSome]) (fun q => .ow [q] ((unified a s t).getD []) :: Γ) := ⟨fun s w0 => spec_Unified_spec⟩

end Go.Proofs.Ytcpfcnjchlbapaa
