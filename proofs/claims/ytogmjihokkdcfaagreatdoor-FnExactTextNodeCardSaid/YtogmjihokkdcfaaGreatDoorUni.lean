/- Substitutions as functions; the one unifier that is idempotent and binds the variable of greater number: no program in sight. -/
import Derived.Test.YtogmjihokkdcfaaGreatDoorTerm
namespace Go.Proofs.YtogmjihokkdcfaaGreatDoor
open Go Go.Eng
set_option linter.unusedVariables false
set_option linter.unusedSimpArgs false

/-! ### Substitutions -/
def fm (f : Int → List Int) (t : List Int) : List Int := (t.map f).flatten
theorem fm_nil (f : Int → List Int) : fm f [] = [] := rfl
theorem fm_cons (f : Int → List Int) (x : Int) (t : List Int) : fm f (x :: t) = f x ++ fm f t := by simp [fm]
theorem fm_app (f : Int → List Int) (s t : List Int) : fm f (s ++ t) = fm f s ++ fm f t := by simp [fm]
theorem fm_one (f : Int → List Int) (x : Int) : fm f [x] = f x := by simp [fm]
theorem fm_fm (f g : Int → List Int) : ∀ t : List Int, fm f (fm g t) = fm (fun n => fm f (g n)) t
  | [] => rfl
  | x :: t => by rw [fm_cons, fm_app, fm_fm f g t, fm_cons]
theorem fm_congr {f g : Int → List Int} : ∀ {t : List Int}, (∀ n ∈ t, f n = g n) → fm f t = fm g t
  | [], _ => rfl
  | x :: t, h => by rw [fm_cons, fm_cons, h x (by simp), fm_congr (fun n hn => h n (List.mem_cons_of_mem _ hn))]
theorem fm_id {f : Int → List Int} : ∀ {t : List Int}, (∀ n ∈ t, f n = [n]) → fm f t = t
  | [], _ => rfl
  | x :: t, h => by rw [fm_cons, h x (by simp), fm_id (fun n hn => h n (List.mem_cons_of_mem _ hn))]; rfl
theorem mem_fm {f : Int → List Int} {t : List Int} {m : Int} : m ∈ fm f t ↔ ∃ n ∈ t, m ∈ f n := by
  unfold fm
  rw [List.mem_flatten]
  constructor
  · rintro ⟨l, hl, hm⟩
    obtain ⟨n, hn, rfl⟩ := List.mem_map.1 hl
    exact ⟨n, hn, hm⟩
  · rintro ⟨n, hn, hm⟩
    exact ⟨_, List.mem_map.2 ⟨n, hn, rfl⟩, hm⟩
theorem fm_len_ge {f : Int → List Int} : ∀ {t : List Int}, (∀ n ∈ t, 1 ≤ (f n).length) → t.length ≤ (fm f t).length
  | [], _ => Nat.le_refl _
  | x :: t, h => by
    have h1 := h x (by simp)
    have h2 := fm_len_ge (fun n hn => h n (List.mem_cons_of_mem _ hn))
    rw [fm_cons, List.length_append, List.length_cons]; omega
theorem fm_len_mem {f : Int → List Int} {m : Int} : ∀ {t : List Int}, (∀ n ∈ t, 1 ≤ (f n).length) → m ∈ t → (f m).length + t.length ≤ (fm f t).length + 1
  | x :: t, h, hm => by
    have h1 := h x (by simp)
    have h0 := fun n (hn : n ∈ t) => h n (List.mem_cons_of_mem _ hn)
    have h2 := fm_len_ge h0
    rw [fm_cons, List.length_append, List.length_cons]
    rcases List.mem_cons.1 hm with e | e
    · subst e; omega
    · have := fm_len_mem h0 e; omega

/-! ### Terms -/
def Tm (a t : List Int) : Prop := skp a (badS a) t 1 = (true, t.length)
theorem tm_ok {a t : List Int} (h : termOk a t = true) : Tm a t := (termOk_iff.1 h).2.2.2
theorem ok_tm {a t : List Int} (hs : sigOk a = true) (h : Tm a t) (hl : t.length ≤ 60) : termOk a t = true := by
  refine termOk_iff.2 ⟨hs, ?_, hl, h⟩
  have := skp_pos a (badS a) t 0 (by rw [show 0 + 1 = 1 from rfl, h])
  rw [show 0 + 1 = 1 from rfl, h] at this
  exact this
theorem tm_pos {a t : List Int} (h : Tm a t) : 1 ≤ t.length := by
  have := skp_pos a (badS a) t 0 (by rw [show 0 + 1 = 1 from rfl, h])
  rw [show 0 + 1 = 1 from rfl, h] at this
  exact this
theorem tm_mem {a t : List Int} (h : Tm a t) {x : Int} (hx : x ∈ t) : -24 ≤ x ∧ x < a.length := by
  have := skp_all t 1 (by rw [h]) x (by rw [h]; simpa using hx)
  simp only [badS, decide_eq_false_iff_not, not_or] at this
  omega
theorem ar_var {a : List Int} {n : Int} (h : n < 0) : ar a n = 0 := by unfold ar; rw [if_pos h]
theorem tm_var {a : List Int} {n : Int} (h : -24 ≤ n ∧ n < 0) : Tm a [n] := by
  unfold Tm
  rw [show 1 = 0 + 1 from rfl]
  unfold skp
  rw [if_neg (by simp [badS]; omega), ar_var h.2]
  simp [skp]
theorem tm_head {a : List Int} {n : Int} {t : List Int} (h : Tm a (n :: t)) (hn : n < 0) : t = [] := by
  unfold Tm at h
  rw [show 1 = 0 + 1 from rfl] at h
  unfold skp at h
  split at h
  · simp at h
  · rw [ar_var hn] at h
    simp [skp] at h
    exact h.symm ▸ rfl
theorem skp_app (a : List Int) (bad : Int → Bool) (u : List Int) : ∀ (l : List Int) (m : Nat), (skp a bad l m).1 = true → skp a bad (l ++ u) m = skp a bad l m
  | l, 0, _ => by simp [skp]
  | [], m + 1, h => by simp [skp] at h
  | x :: xs, m + 1, h => by
    rw [List.cons_append]
    simp only [skp] at h ⊢
    by_cases hb : bad x = true
    · simp [hb] at h
    · simp only [hb, Bool.false_eq_true, if_false] at h ⊢
      rw [skp_app a bad u xs _ h]
theorem tm_pre {a s t u v : List Int} (hs : Tm a s) (ht : Tm a t) (h : s ++ u = t ++ v) : s = t ∧ u = v := by
  have h1 := skp_app a (badS a) u s 1 (by rw [hs])
  have h2 := skp_app a (badS a) v t 1 (by rw [ht])
  rw [h, h2, ht, hs] at h1
  have hl : t.length = s.length := by simpa using h1
  exact List.append_inj h hl.symm

structure Sb (a : List Int) (f : Int → List Int) : Prop where
  pos : ∀ n, 0 ≤ n → f n = [n]
  tm : ∀ n, -24 ≤ n → n < 0 → Tm a (f n)
theorem Sb.len {a : List Int} {f : Int → List Int} (h : Sb a f) {n : Int} (hn : -24 ≤ n) : 1 ≤ (f n).length := by
  by_cases h0 : 0 ≤ n
  · rw [h.pos n h0]; simp
  · exact tm_pos (h.tm n hn (by omega))
theorem Sb.lens {a t : List Int} {f : Int → List Int} (h : Sb a f) (ht : Tm a t) : ∀ n ∈ t, 1 ≤ (f n).length := fun n hn => h.len (tm_mem ht hn).1
theorem skp_fm {a : List Int} {f : Int → List Int} (h : Sb a f) : ∀ (l : List Int) (m : Nat), skp a (badS a) l m = (true, l.length) → skp a (badS a) (fm f l) m = (true, (fm f l).length)
  | [], 0, _ => by simp [skp, fm_nil]
  | x :: xs, 0, e => by simp [skp] at e
  | [], m + 1, e => by simp [skp] at e
  | x :: xs, m + 1, e => by
    rw [fm_cons]
    unfold skp at e
    by_cases hb : badS a x = true
    · simp [hb] at e
    · rw [if_neg hb] at e
      have e1 : skp a (badS a) xs (m + (ar a x).toNat) = (true, xs.length) := by
        injection e with e2 e3
        ext
        · exact e2
        · simp only [List.length_cons] at e3 ⊢; omega
      have ih := skp_fm h xs _ e1
      by_cases h0 : 0 ≤ x
      · rw [h.pos x h0, List.singleton_append]
        unfold skp
        rw [if_neg hb, ih]
        simp
      · have hx : -24 ≤ x := by simp [badS] at hb; omega
        rw [ar_var (by omega)] at ih
        have ht := h.tm x hx (by omega)
        rw [show m + 1 = 1 + m from Nat.add_comm _ _, skp_split, skp_app a (badS a) _ (f x) 1 (by rw [ht]), ht]
        simp only [if_true, List.drop_left]
        rw [show m + (0 : Int).toNat = m from rfl] at ih
        rw [ih]
        simp
theorem Sb.fm {a t : List Int} {f : Int → List Int} (h : Sb a f) (ht : Tm a t) : Tm a (fm f t) := skp_fm h t 1 ht

/-! ### Where two terms part -/
theorem part_eq {a x y : List Int} {k : Nat} {τ : Int → List Int} (hx : termOk a x = true) (hy : termOk a y = true) (hk : k < x.length) (hk2 : k < y.length) (he : x.take k = y.take k) (hτ : Sb a τ) (h : fm τ x = fm τ y) :
    fm τ (subt a x k) = fm τ (subt a y k) := by
  have hsx : x = x.take k ++ (subt a x k ++ (x.drop k).drop (sz a x k)) := by unfold subt; rw [List.take_append_drop, List.take_append_drop]
  have hsy : y = y.take k ++ (subt a y k ++ (y.drop k).drop (sz a y k)) := by unfold subt; rw [List.take_append_drop, List.take_append_drop]
  rw [hsx, hsy, fm_app, fm_app, fm_app, fm_app, he] at h
  exact (tm_pre (hτ.fm (tm_ok (subt_ok hx hk))) (hτ.fm (tm_ok (subt_ok hy hk2))) (List.append_cancel_left h)).1
theorem pre_eq {a x y : List Int} {k : Nat} (hx : termOk a x = true) (hy : termOk a y = true) (he : x.take k = y.take k) (hk : x.length ≤ k ∨ y.length ≤ k) : x = y := by
  rcases hk with hk | hk
  · rw [List.take_of_length_le hk] at he
    have h2 : x ++ y.drop k = y ++ [] := by rw [he, List.take_append_drop, List.append_nil]
    exact (tm_pre (tm_ok hx) (tm_ok hy) h2).1
  · rw [List.take_of_length_le hk] at he
    have h2 : y ++ x.drop k = x ++ [] := by rw [← he, List.take_append_drop, List.append_nil]
    exact (tm_pre (tm_ok hy) (tm_ok hx) h2).1.symm
theorem subt_head {a x : List Int} {k : Nat} (hx : termOk a x = true) (hk : k < x.length) : ∃ r, subt a x k = x.getD k 0 :: r := by
  have h1 := (term_at hx hk).2.1
  unfold subt
  rw [drop_get hk]
  obtain ⟨n, hn⟩ : ∃ n, sz a x k = n + 1 := ⟨sz a x k - 1, by omega⟩
  rw [hn]
  exact ⟨_, rfl⟩

/-! ### Binding one variable more -/
def one (i : Int) (t : List Int) (n : Int) : List Int := if n = i then t else [n]
theorem one_self (i : Int) (t : List Int) : one i t i = t := if_pos rfl
theorem one_ne {i n : Int} (t : List Int) (h : n ≠ i) : one i t n = [n] := if_neg h
theorem sb_one {a : List Int} {i : Int} {t : List Int} (hi : i < 0) (ht : Tm a t) : Sb a (one i t) := ⟨fun n hn => one_ne t (by omega), fun n h1 h2 => by
  by_cases h : n = i
  · rw [h, one_self]; exact ht
  · rw [one_ne t h]; exact tm_var ⟨h1, h2⟩⟩
theorem fm_one_not {i : Int} {t u : List Int} (h : i ∉ u) : fm (one i t) u = u := fm_id (fun n hn => one_ne t (fun e => h (e ▸ hn)))
structure IO (a : List Int) (σ : Int → List Int) : Prop where
  sb : Sb a σ
  idem : ∀ n, -24 ≤ n → n < 0 → ∀ m ∈ σ n, m < 0 → σ m = [m]
  ori : ∀ n, -24 ≤ n → n < 0 → ∀ m, σ n = [m] → m < 0 → n ≤ m
def Gen (a : List Int) (U : (Int → List Int) → Prop) (σ : Int → List Int) : Prop := ∀ τ, Sb a τ → U τ → ∀ n, -24 ≤ n → n < 0 → fm τ (σ n) = τ n
theorem Gen.all {a t : List Int} {U : (Int → List Int) → Prop} {σ τ : Int → List Int} (h : Gen a U σ) (hs : Sb a σ) (hτ : Sb a τ) (hU : U τ) (ht : Tm a t) : fm τ (fm σ t) = fm τ t := by
  rw [fm_fm]
  refine fm_congr (fun n hn => ?_)
  by_cases h0 : 0 ≤ n
  · rw [hs.pos n h0, fm_one]
  · exact h τ hτ hU n (tm_mem ht hn).1 (by omega)
theorem IO.fix {a t : List Int} {σ : Int → List Int} (h : IO a σ) (ht : Tm a t) {m : Int} (hm : m ∈ fm σ t) (h0 : m < 0) : σ m = [m] := by
  obtain ⟨n, hn, hmn⟩ := mem_fm.1 hm
  by_cases hn0 : 0 ≤ n
  · rw [h.sb.pos n hn0] at hmn
    simp only [List.mem_singleton] at hmn
    omega
  · exact h.idem n (tm_mem ht hn).1 (by omega) m hmn h0
theorem IO.twice {a t : List Int} {σ : Int → List Int} (h : IO a σ) (ht : Tm a t) : fm σ (fm σ t) = fm σ t := fm_id (fun n hn => by
  by_cases h0 : 0 ≤ n
  · exact h.sb.pos n h0
  · exact h.fix ht hn (by omega))
def bindF (σ : Int → List Int) (i : Int) (t : List Int) : Int → List Int := fun n => fm (one i t) (σ n)
theorem bindF_fm (σ : Int → List Int) (i : Int) (t u : List Int) : fm (bindF σ i t) u = fm (one i t) (fm σ u) := (fm_fm _ _ u).symm
theorem io_bind {a : List Int} {σ : Int → List Int} {i : Int} {t : List Int} (h : IO a σ) (hi : -24 ≤ i ∧ i < 0) (hs : σ i = [i]) (ht : Tm a t) (hf : ∀ m ∈ t, m < 0 → σ m = [m]) (hn : i ∉ t) (ho : ∀ j, t = [j] → j < 0 → i < j) :
    IO a (bindF σ i t) := by
  have h1 := sb_one hi.2 ht
  refine ⟨⟨fun n h0 => ?_, fun n h2 h3 => h1.fm (h.sb.tm n h2 h3)⟩, fun n h2 h3 m hm h4 => ?_, fun n h2 h3 m hm h4 => ?_⟩
  · unfold bindF
    rw [h.sb.pos n h0, fm_one, one_ne t (by omega)]
  · obtain ⟨k, hk, hmk⟩ := mem_fm.1 hm
    have key : ∀ m, m < 0 → σ m = [m] → m ≠ i → bindF σ i t m = [m] := fun m _ h6 h7 => by
      unfold bindF; rw [h6, fm_one, one_ne t h7]
    by_cases hki : k = i
    · rw [hki, one_self] at hmk
      exact key m h4 (hf m hmk h4) (fun e => hn (e ▸ hmk))
    · rw [one_ne t hki, List.mem_singleton] at hmk
      subst hmk
      exact key m h4 (h.idem n h2 h3 m hk h4) hki
  · have ht2 := h.sb.tm n h2 h3
    have hl := fm_len_ge (h1.lens ht2)
    have hl2 : (fm (one i t) (σ n)).length = 1 := by
      have : fm (one i t) (σ n) = [m] := hm
      rw [this]; rfl
    have hp := tm_pos ht2
    obtain ⟨k, hk⟩ := List.length_eq_one_iff.1 (show (σ n).length = 1 by omega)
    have hm' : one i t k = [m] := by
      have : fm (one i t) (σ n) = [m] := hm
      rw [hk, fm_one] at this; exact this
    by_cases hki : k = i
    · subst hki
      rw [one_self] at hm'
      have h5 := ho m hm' h4
      have h6 := h.ori n h2 h3 k hk hi.2
      omega
    · rw [one_ne t hki] at hm'
      injection hm' with hm' _
      subst hm'
      exact h.ori n h2 h3 k hk h4
theorem gen_bind {a : List Int} {U U' : (Int → List Int) → Prop} {σ : Int → List Int} {i : Int} {t : List Int} (h : Gen a U σ) (hU : ∀ τ, Sb a τ → U' τ → U τ ∧ τ i = fm τ t) : Gen a U' (bindF σ i t) := by
  intro τ hτ hu n h1 h2
  obtain ⟨hu1, hu2⟩ := hU τ hτ hu
  unfold bindF
  rw [fm_fm, ← h τ hτ hu1 n h1 h2]
  refine fm_congr (fun k _ => ?_)
  by_cases hk : k = i
  · rw [hk, one_self, hu2]
  · rw [one_ne t hk, fm_one]

/-! ### The one unifier -/
def IOM (a s t : List Int) (σ : Int → List Int) : Prop := IO a σ ∧ fm σ s = fm σ t ∧ Gen a (fun τ => fm τ s = fm τ t) σ
def LenOk (σ : Int → List Int) (s : List Int) : Prop := (fm σ s).length ≤ 60 ∧ ∀ n, -24 ≤ n → n < 0 → (σ n).length ≤ 60
theorem iom_unique {a s t : List Int} {σ σ' : Int → List Int} (h : IOM a s t σ) (h' : IOM a s t σ') : ∀ n, -24 ≤ n → n < 0 → σ n = σ' n := by
  obtain ⟨hio, heq, hg⟩ := h
  obtain ⟨hio', heq', hg'⟩ := h'
  have step : ∀ m, -24 ≤ m → m < 0 → σ m = [m] → σ' m = [m] := by
    intro m h1 h2 h3
    have hB := hg' σ hio.sb heq m h1 h2
    rw [h3] at hB
    have ht := hio'.sb.tm m h1 h2
    have hl := fm_len_ge (hio.sb.lens ht)
    rw [hB, List.length_singleton] at hl
    have hp := tm_pos ht
    obtain ⟨p, hp1⟩ := List.length_eq_one_iff.1 (show (σ' m).length = 1 by omega)
    rw [hp1, fm_one] at hB
    have hpr := (tm_mem ht (show p ∈ σ' m by rw [hp1]; simp)).1
    by_cases h0 : 0 ≤ p
    · rw [hio.sb.pos p h0] at hB
      injection hB with hB _
      omega
    · have o1 := hio'.ori m h1 h2 p hp1 (by omega)
      have o2 := hio.ori p hpr (by omega) m hB h2
      rw [hp1, show p = m by omega]
  intro n h1 h2
  have hA := hg σ' hio'.sb heq' n h1 h2
  rw [← hA]
  symm
  refine fm_id (fun k hk => ?_)
  by_cases h0 : 0 ≤ k
  · exact hio'.sb.pos k h0
  · exact step k (tm_mem (hio.sb.tm n h1 h2) hk).1 (by omega) (hio.idem n h1 h2 k hk (by omega))
def tabOf (σ : Int → List Int) : List (List Int) := (List.range 24).map fun i : Nat => σ (-1 - (i : Int))
theorem tab_congr {σ σ' : Int → List Int} (h : ∀ n, -24 ≤ n → n < 0 → σ n = σ' n) : tabOf σ = tabOf σ' := by
  unfold tabOf
  refine List.map_congr_left (fun i hi => ?_)
  have := List.mem_range.1 hi
  exact h _ (by omega) (by omega)
open Classical in
noncomputable def uniOf (a s t : List Int) : Option (List (List Int)) := if h : ∃ σ, IOM a s t σ ∧ LenOk σ s then some (plainOf (tabOf (Classical.choose h))) else none
theorem uni_some {a s t : List Int} {σ : Int → List Int} (h : IOM a s t σ) (hl : LenOk σ s) : uniOf a s t = some (plainOf (tabOf σ)) := by
  have hx : ∃ σ, IOM a s t σ ∧ LenOk σ s := ⟨σ, h, hl⟩
  unfold uniOf
  rw [dif_pos hx, tab_congr (iom_unique (Classical.choose_spec hx).1 h)]
theorem uni_none {a s t : List Int} (h : ∀ σ, IOM a s t σ → ¬ LenOk σ s) : uniOf a s t = none := by
  unfold uniOf
  rw [dif_neg (fun ⟨σ, h1, h2⟩ => h σ h1 h2)]
theorem triv_ext : ∀ {xs ys : List (List Int)} (k : Nat), xs.length = ys.length → (∀ i, i < xs.length → triv (k + i) (xs.getD i []) = triv (k + i) (ys.getD i [])) → trivL k xs = trivL k ys
  | [], [], _, _, _ => rfl
  | [], _ :: _, _, h, _ => by simp at h
  | _ :: _, [], _, h, _ => by simp at h
  | x :: xs, y :: ys, k, h, he => by
    unfold trivL
    have h0 := he 0 (by simp)
    simp only [Nat.add_zero, List.getD_cons_zero] at h0
    rw [h0, triv_ext (k + 1) (by simpa using h) (fun i hi => by
      have := he (i + 1) (by simpa using hi)
      simp only [List.getD_cons_succ] at this
      rw [show k + 1 + i = k + (i + 1) by omega]; exact this)]
theorem tab_get {σ : Int → List Int} {i : Nat} (h : i < 24) : (tabOf σ).getD i [] = σ (-1 - (i : Int)) := by
  unfold tabOf; simp [List.getD_eq_getElem?_getD, h]
theorem tab_len (σ : Int → List Int) : (tabOf σ).length = 24 := by simp [tabOf]
theorem plain_of_tab {σ : Int → List Int} {ts : List (List Int)} (hl : ts.length = 24) (h : ∀ i : Nat, i < 24 → ts.getD i [] = σ (-1 - (i : Int)) ∨ (ts.getD i [] = [] ∧ σ (-1 - (i : Int)) = [-1 - (i : Int)])) : plainOf ts = plainOf (tabOf σ) := by
  unfold plainOf
  rw [triv_ext (xs := ts) (ys := tabOf σ) 0 (by rw [hl, tab_len]) (fun i hi => ?_)]
  rw [hl] at hi
  rw [tab_get hi, Nat.zero_add]
  rcases h i hi with e | ⟨e1, e2⟩
  · rw [e]
  · rw [e1, e2]; simp [triv]
theorem plain_nil : plainOf (tabOf fun n => [n]) = plainOf [] := by decide +kernel
/-- The term becomes too long before the end: there is none. -/
theorem uni_long {a s t u : List Int} {σ : Int → List Int} (hg : Gen a (fun τ => fm τ s = fm τ t) σ) (hs : Sb a σ) (hsm : Tm a s) (htm : Tm a t) (hu : u = s ∨ u = t) (hl : 60 < (fm σ u).length) : uniOf a s t = none := by
  refine uni_none (fun τ hτ hle => ?_)
  have hum : Tm a u := by rcases hu with rfl | rfl <;> assumption
  have h1 := hg.all hs hτ.1.sb hτ.2.1 hum
  have h2 := fm_len_ge (hτ.1.sb.lens (hs.fm hum))
  rw [h1] at h2
  have h3 : fm τ u = fm τ s := by rcases hu with rfl | rfl; rfl; exact hτ.2.1.symm
  rw [h3] at h2
  have := hle.1
  omega
theorem uni_long2 {a s t : List Int} {σ : Int → List Int} {n : Int} (hg : Gen a (fun τ => fm τ s = fm τ t) σ) (hs : Sb a σ) (hn : -24 ≤ n ∧ n < 0) (hl : 60 < (σ n).length) : uniOf a s t = none := by
  refine uni_none (fun τ hτ hle => ?_)
  have h1 := hg τ hτ.1.sb hτ.2.1 n hn.1 hn.2
  have h2 := fm_len_ge (hτ.1.sb.lens (hs.tm n hn.1 hn.2))
  rw [h1] at h2
  have := hle.2 n hn.1 hn.2
  omega
/-- Nothing unifies: there is none. -/
theorem uni_clash {a s t : List Int} (h : ∀ τ, Sb a τ → fm τ s ≠ fm τ t) : uniOf a s t = none := uni_none fun τ hτ _ => h τ hτ.1.sb hτ.2.1
/-- A variable within a term that is not it. -/
theorem occ_no {a t : List Int} {i : Int} {τ : Int → List Int} (hτ : Sb a τ) (ht : Tm a t) (hi : i ∈ t) (hne : t ≠ [i]) : τ i ≠ fm τ t := by
  intro e
  have h := fm_len_mem (hτ.lens ht) hi
  have hp := tm_pos ht
  rw [← e] at h
  have h1 : t.length = 1 := by omega
  obtain ⟨k, hk⟩ := List.length_eq_one_iff.1 h1
  rw [hk, List.mem_singleton] at hi
  exact hne (by rw [hk, hi])
end Go.Proofs.YtogmjihokkdcfaaGreatDoor
