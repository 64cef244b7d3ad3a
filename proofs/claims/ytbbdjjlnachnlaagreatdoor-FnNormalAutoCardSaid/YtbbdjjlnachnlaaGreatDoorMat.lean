/- The automaton of normal forms is an automaton. -/
import Derived.Test.YtbbdjjlnachnlaaGreatDoorSureIn
import Derived.Test.YtbbdjjlnachnlaaGreatDoorAutL
import Derived.Test.YtbbdjjlnachnlaaGreatDoorTerm
import Derived.Test.YtbbdjjlnachnlaaGreatDoorL04
namespace Go.Proofs.YtbbdjjlnachnlaaGreatDoor
open Go Go.Eng
set_option linter.unusedVariables false
set_option linter.unusedSimpArgs false
set_option maxRecDepth 20000
theorem trO_mem {f : Nat} {l : List Int} {all : List (List Int)} {o : Option (List Int)} {t : STrans} : t ∈ trO f l all o ↔ ∃ s, o = some s ∧ t = ((f : Int), l, placeOf all s) := by
  cases o with
  | none => simp [trO]
  | some s => simp [trO]
theorem trRG_mem {im : ImO} {ar : List Int} {sets : List (List Int)} {f : Nat} {out : List STrans} {t : STrans} : ∀ {m}, t ∈ trRG im ar sets f out m ↔ t ∈ out ∨ ∃ i s, i < m ∧ im f (listed sets (dig sets.length (arN ar f) i)) = some s ∧ t = ((f : Int), dig sets.length (arN ar f) i, placeOf sets s)
  | 0 => by simp [trRG]
  | m + 1 => by
    unfold trRG
    rw [List.mem_append, trRG_mem, trO_mem]
    constructor
    · rintro ((h | ⟨i, s, hi, he, rfl⟩) | ⟨s, he, rfl⟩)
      · exact .inl h
      · exact .inr ⟨i, s, by omega, he, rfl⟩
      · exact .inr ⟨m, s, by omega, he, rfl⟩
    · rintro (h | ⟨i, s, hi, he, rfl⟩)
      · exact .inl (.inl h)
      · by_cases e : i = m
        · subst e; exact .inr ⟨s, he, rfl⟩
        · exact .inl (.inr ⟨i, s, by omega, he, rfl⟩)
theorem trSG_mem {im : ImO} {ar : List Int} {sets : List (List Int)} {t : STrans} : ∀ {m}, t ∈ trSG im ar sets m ↔ ∃ f i s, f < m ∧ i < sets.length ^ arN ar f ∧ im f (listed sets (dig sets.length (arN ar f) i)) = some s ∧ t = ((f : Int), dig sets.length (arN ar f) i, placeOf sets s)
  | 0 => by simp [trSG]
  | m + 1 => by
    unfold trSG
    rw [trRG_mem, trSG_mem]
    constructor
    · rintro (⟨f, i, s, h1, h2, h3, rfl⟩ | ⟨i, s, hi, h3, rfl⟩)
      · exact ⟨f, i, s, by omega, h2, h3, rfl⟩
      · exact ⟨m, i, s, by omega, hi, h3, rfl⟩
    · rintro ⟨f, i, s, h1, h2, h3, rfl⟩
      by_cases e : f = m
      · subst e; exact .inr ⟨i, s, h2, h3, rfl⟩
      · exact .inl ⟨f, i, s, by omega, h2, h3, rfl⟩
theorem trSG_sure {im : ImO} {ar : List Int} {sets : List (List Int)} (hn : 0 < sets.length) : ∀ m, (trSG im ar sets m).Pairwise fun s t => ¬ FrT s t
  | 0 => List.Pairwise.nil
  | m + 1 => by
    unfold trSG
    have h0 := trSG_sure (im := im) (ar := ar) hn m
    have key : ∀ j, j ≤ sets.length ^ arN ar m → (trRG im ar sets m (trSG im ar sets m) j).Pairwise fun s t => ¬ FrT s t := by
      intro j
      induction j with
      | zero => exact fun _ => h0
      | succ j ih =>
        intro hj
        unfold trRG
        rw [List.pairwise_append]
        refine ⟨ih (by omega), ?_, fun s hs t ht => ?_⟩
        · cases im m (listed sets (dig sets.length (arN ar m) j)) with
          | none => exact List.Pairwise.nil
          | some s => exact List.pairwise_singleton _ _
        obtain ⟨s', _, rfl⟩ := trO_mem.1 ht
        rintro ⟨e1, e2⟩
        rcases trRG_mem.1 hs with h | ⟨i, _, hi, _, rfl⟩
        · obtain ⟨f, i, _, h1, h2, _, rfl⟩ := trSG_mem.1 h
          simp only at e1
          omega
        · have := dig_inj hn _ _ _ (show i < sets.length ^ arN ar m by omega) (show j < sets.length ^ arN ar m by omega) e2
          omega
    exact key _ (Nat.le_refl _)
theorem upTo_setP (n : Nat) : SetP (n : Int) (upTo n) (upTo n).length := fun i hi => by
  rw [upTo_len] at hi
  rw [upTo_get hi]
  refine ⟨by omega, fun h0 => ?_⟩
  rw [upTo_get (by omega)]; omega
theorem rowG_mem {im : ImO} {ar : List Int} {sets : List (List Int)} {f : Nat} {out : List (List Int)} {i : Nat} {s : List Int} (h : im f (listed sets (dig sets.length (arN ar f) i)) = some s) : s ∈ rowG im ar sets f out (i + 1) := by
  show s ∈ addO _ (im f _)
  rw [h]
  show s ∈ addNew _ s
  unfold addNew
  split
  · assumption
  · simp
theorem autG_auto {im : ImO} {ar : List Int} {y : SAuto} (hs : sigOk ar = true) (h : autG im ar = some y) : AutoP ar y := by
  unfold autG at h
  split at h
  · cases h
  · rename_i sets hf
    split at h
    · rename_i hl
      injection h with h
      subst h
      obtain ⟨⟨h1, h2⟩, hnd, hr⟩ := fixG_some 17 [] (by simp) List.nodup_nil sets hf
      have hrs : rndG im ar sets = sets := (pre_same (rndG_pre im ar sets) (by omega)).symm
      refine ⟨hs, ⟨by simp only; omega, by simp only; omega⟩, hl, upTo_setP _, ?_⟩
      refine rulesP_of (fun r hr => ?_) (sure_nd (trSG_sure (by omega) _))
      obtain ⟨f, i, s, g1, g2, g3, rfl⟩ := trSG_mem.1 hr
      have h3 := arN_eq hs g1
      have hm : s ∈ sets := by
        have h4 := (rowG_rnd (im := im) (ar := ar) (sets := sets) g1 (i := i + 1) (by omega)).subset (rowG_mem g3)
        rwa [hrs] at h4
      have h5 := List.idxOf_lt_length_of_mem hm
      have h6 : placeOf sets s = ((sets.idxOf s : Nat) : Int) := if_pos hm
      refine ⟨⟨by simp only; omega, by simp only; omega⟩, ?_, fun j hj => ?_, by simp only; rw [h6]; omega, by simp only; rw [h6]; omega⟩
      · simp only
        rw [dig_len, Int.toNat_natCast, h3.1]
      · exact dig_in (by omega) _ _ _ (getK hj)
    · cases h
end Go.Proofs.YtbbdjjlnachnlaaGreatDoor
namespace Go.Proofs.YtbbdjjlnachnlaaGreatDoor
open Go Go.Eng
set_option linter.unusedVariables false
set_option linter.unusedSimpArgs false

/-! ### Substitutions -/
def fm (f : Int → List Int) (t : List Int) : List Int := (t.map f).flatten
theorem fm_nil (f : Int → List Int) : fm f [] = [] := rfl
theorem fm_cons (f : Int → List Int) (x : Int) (t : List Int) : fm f (x :: t) = f x ++ fm f t := by simp [fm]
theorem fm_app (f : Int → List Int) (s t : List Int) : fm f (s ++ t) = fm f s ++ fm f t := by simp [fm]
theorem fm_one (f : Int → List Int) (x : Int) : fm f [x] = f x := by simp [fm]
theorem fm_fm (f g : Int → List Int) : ∀ t : List Int, fm f (fm g t) = fm (fun n => fm f (g n)) t
  | [] => rfl
  | x :: t => by rw [fm_cons, fm_app, fm_fm f g t, fm_cons]
theorem fm_congr {f g : Int → List Int} : ∀ {t : List Int}, (∀ n ∈ t, f n = g n) → fm f t = fm g t
  | [], _ => rfl
  | x :: t, h => by rw [fm_cons, fm_cons, h x (by simp), fm_congr (fun n hn => h n (List.mem_cons_of_mem _ hn))]
/-! ### Terms -/
def Tm (a t : List Int) : Prop := skp a (badS a) t 1 = (true, t.length)
theorem tm_ok {a t : List Int} (h : termOk a t = true) : Tm a t := (termOk_iff.1 h).2.2.2
theorem tm_pos {a t : List Int} (h : Tm a t) : 1 ≤ t.length := by
  have := skp_pos a (badS a) t 0 (by rw [show 0 + 1 = 1 from rfl, h])
  rw [show 0 + 1 = 1 from rfl, h] at this
  exact this
theorem tm_mem {a t : List Int} (h : Tm a t) {x : Int} (hx : x ∈ t) : -24 ≤ x ∧ x < a.length := by
  have := skp_all t 1 (by rw [h]) x (by rw [h]; simpa using hx)
  simp only [badS, decide_eq_false_iff_not, not_or] at this
  omega
theorem ar_var {a : List Int} {n : Int} (h : n < 0) : ar a n = 0 := by unfold ar; rw [if_pos h]
theorem tm_var {a : List Int} {n : Int} (h : -24 ≤ n ∧ n < 0) : Tm a [n] := by
  unfold Tm
  rw [show 1 = 0 + 1 from rfl]
  unfold skp
  rw [if_neg (by simp [badS]; omega), ar_var h.2]
  simp [skp]
theorem tm_head {a : List Int} {n : Int} {t : List Int} (h : Tm a (n :: t)) (hn : n < 0) : t = [] := by
  unfold Tm at h
  rw [show 1 = 0 + 1 from rfl] at h
  unfold skp at h
  split at h
  · simp at h
  · rw [ar_var hn] at h
    simp [skp] at h
    exact h.symm ▸ rfl
theorem skp_app (a : List Int) (bad : Int → Bool) (u : List Int) : ∀ (l : List Int) (m : Nat), (skp a bad l m).1 = true → skp a bad (l ++ u) m = skp a bad l m
  | l, 0, _ => by simp [skp]
  | [], m + 1, h => by simp [skp] at h
  | x :: xs, m + 1, h => by
    rw [List.cons_append]
    simp only [skp] at h ⊢
    by_cases hb : bad x = true
    · simp [hb] at h
    · simp only [hb, Bool.false_eq_true, if_false] at h ⊢
      rw [skp_app a bad u xs _ h]
theorem tm_pre {a s t u v : List Int} (hs : Tm a s) (ht : Tm a t) (h : s ++ u = t ++ v) : s = t ∧ u = v := by
  have h1 := skp_app a (badS a) u s 1 (by rw [hs])
  have h2 := skp_app a (badS a) v t 1 (by rw [ht])
  rw [h, h2, ht, hs] at h1
  have hl : t.length = s.length := by simpa using h1
  exact List.append_inj h hl.symm

structure Sb (a : List Int) (f : Int → List Int) : Prop where
  pos : ∀ n, 0 ≤ n → f n = [n]
  tm : ∀ n, -24 ≤ n → n < 0 → Tm a (f n)
theorem Sb.len {a : List Int} {f : Int → List Int} (h : Sb a f) {n : Int} (hn : -24 ≤ n) : 1 ≤ (f n).length := by
  by_cases h0 : 0 ≤ n
  · rw [h.pos n h0]; simp
  · exact tm_pos (h.tm n hn (by omega))
theorem skp_fm {a : List Int} {f : Int → List Int} (h : Sb a f) : ∀ (l : List Int) (m : Nat), skp a (badS a) l m = (true, l.length) → skp a (badS a) (fm f l) m = (true, (fm f l).length)
  | [], 0, _ => by simp [skp, fm_nil]
  | x :: xs, 0, e => by simp [skp] at e
  | [], m + 1, e => by simp [skp] at e
  | x :: xs, m + 1, e => by
    rw [fm_cons]
    unfold skp at e
    by_cases hb : badS a x = true
    · simp [hb] at e
    · rw [if_neg hb] at e
      have e1 : skp a (badS a) xs (m + (ar a x).toNat) = (true, xs.length) := by
        injection e with e2 e3
        ext
        · exact e2
        · simp only [List.length_cons] at e3 ⊢; omega
      have ih := skp_fm h xs _ e1
      by_cases h0 : 0 ≤ x
      · rw [h.pos x h0, List.singleton_append]
        unfold skp
        rw [if_neg hb, ih]
        simp
      · have hx : -24 ≤ x := by simp [badS] at hb; omega
        rw [ar_var (by omega)] at ih
        have ht := h.tm x hx (by omega)
        rw [show m + 1 = 1 + m from Nat.add_comm _ _, skp_split, skp_app a (badS a) _ (f x) 1 (by rw [ht]), ht]
        simp only [if_true, List.drop_left]
        rw [show m + (0 : Int).toNat = m from rfl] at ih
        rw [ih]
        simp
theorem Sb.fm {a t : List Int} {f : Int → List Int} (h : Sb a f) (ht : Tm a t) : Tm a (fm f t) := skp_fm h t 1 ht

/-! ### Where two terms part -/
theorem subt_head {a x : List Int} {k : Nat} (hx : termOk a x = true) (hk : k < x.length) : ∃ r, subt a x k = x.getD k 0 :: r := by
  have h1 := (term_at hx hk).2.1
  unfold subt
  rw [drop_get hk]
  obtain ⟨n, hn⟩ : ∃ n, sz a x k = n + 1 := ⟨sz a x k - 1, by omega⟩
  rw [hn]
  exact ⟨_, rfl⟩

/-! ### Binding one variable more -/
def one (i : Int) (t : List Int) (n : Int) : List Int := if n = i then t else [n]
theorem one_self (i : Int) (t : List Int) : one i t i = t := if_pos rfl
theorem one_ne {i n : Int} (t : List Int) (h : n ≠ i) : one i t n = [n] := if_neg h
theorem sb_one {a : List Int} {i : Int} {t : List Int} (hi : i < 0) (ht : Tm a t) : Sb a (one i t) := ⟨fun n hn => one_ne t (by omega), fun n h1 h2 => by
  by_cases h : n = i
  · rw [h, one_self]; exact ht
  · rw [one_ne t h]; exact tm_var ⟨h1, h2⟩⟩
structure IO (a : List Int) (σ : Int → List Int) : Prop where
  sb : Sb a σ
  idem : ∀ n, -24 ≤ n → n < 0 → ∀ m ∈ σ n, m < 0 → σ m = [m]
  ori : ∀ n, -24 ≤ n → n < 0 → ∀ m, σ n = [m] → m < 0 → n ≤ m
def Gen (a : List Int) (U : (Int → List Int) → Prop) (σ : Int → List Int) : Prop := ∀ τ, Sb a τ → U τ → ∀ n, -24 ≤ n → n < 0 → fm τ (σ n) = τ n
theorem Gen.all {a t : List Int} {U : (Int → List Int) → Prop} {σ τ : Int → List Int} (h : Gen a U σ) (hs : Sb a σ) (hτ : Sb a τ) (hU : U τ) (ht : Tm a t) : fm τ (fm σ t) = fm τ t := by
  rw [fm_fm]
  refine fm_congr (fun n hn => ?_)
  by_cases h0 : 0 ≤ n
  · rw [hs.pos n h0, fm_one]
  · exact h τ hτ hU n (tm_mem ht hn).1 (by omega)
/-! ### The one unifier -/
end Go.Proofs.YtbbdjjlnachnlaaGreatDoor
namespace Go.Proofs.YtbbdjjlnachnlaaGreatDoor
open Go Go.Eng
set_option linter.unusedVariables false
set_option linter.unusedSimpArgs false

/-- Terms one behind the other. -/
def Fo (a ts : List Int) (m : Nat) : Prop := skp a (badS a) ts m = (true, ts.length)
theorem fo_cons {a xs : List Int} {x : Int} {m : Nat} (h : Fo a (x :: xs) m) : ∃ m', m = m' + 1 ∧ badS a x = false ∧ Fo a xs (m' + (ar a x).toNat) := by
  cases m with
  | zero => simp [Fo, skp] at h
  | succ m' =>
    refine ⟨m', rfl, ?_⟩
    unfold Fo at h ⊢
    simp only [skp] at h
    by_cases hb : badS a x = true
    · simp [hb] at h
    · simp only [hb, Bool.false_eq_true, if_false, List.length_cons] at h
      injection h with h1 h2
      exact ⟨by simpa using hb, Prod.ext h1 (by simpa using h2)⟩
theorem fo_nil {a : List Int} {m : Nat} (h : Fo a [] m) : m = 0 := by
  cases m with
  | zero => rfl
  | succ m => simp [Fo, skp] at h
theorem fo_first {a ts : List Int} {m : Nat} (h : Fo a ts (m + 1)) : Tm a (ts.take (skp a (badS a) ts 1).2) ∧ Fo a (ts.drop (skp a (badS a) ts 1).2) m := by
  have hs := skp_split a (badS a) ts 1 m
  unfold Fo at h
  rw [Nat.add_comm 1 m, h] at hs
  by_cases h1 : (skp a (badS a) ts 1).1 = true
  · rw [if_pos h1] at hs
    injection hs with e1 e2
    have hle := skp_le a (badS a) ts 1
    constructor
    · unfold Tm
      rw [skp_take _ _ _ (Nat.le_refl _) h1, List.length_take, Nat.min_eq_left hle]
      exact Prod.ext h1 rfl
    · unfold Fo
      refine Prod.ext e1.symm ?_
      rw [List.length_drop]
      simp only
      omega
  · rw [if_neg h1] at hs
    exact absurd (by rw [← hs]) h1
theorem gd_set_self {b : List (List Int)} {i : Nat} {x : List Int} (h : i < b.length) : (b.set i x).getD i [] = x := by
  simp [List.getD_eq_getElem?_getD, h]
theorem gd_set_ne {b : List (List Int)} {i j : Nat} {x : List Int} (h : j ≠ i) : (b.set i x).getD j [] = b.getD j [] := by
  rw [List.getD_eq_getElem?_getD, List.getD_eq_getElem?_getD, List.getElem?_set, if_neg (Ne.symm h)]

/-- What bindings stand for. -/
def bF (b : List (List Int)) (n : Int) : List Int := if n < 0 ∧ b.getD (-1 - n).toNat [] ≠ [] then b.getD (-1 - n).toNat [] else [n]
theorem bF_sym {b : List (List Int)} {n : Int} (h : 0 ≤ n) : bF b n = [n] := if_neg (fun h' => by omega)
theorem bF_var {b : List (List Int)} {n : Int} (h : n < 0) (h' : b.getD (-1 - n).toNat [] ≠ []) : bF b n = b.getD (-1 - n).toNat [] := if_pos ⟨h, h'⟩
structure BOk (a : List Int) (b : List (List Int)) : Prop where
  len : b.length = 24
  tm : ∀ i, b.getD i [] ≠ [] → Tm a (b.getD i [])
theorem bok_zero (a : List Int) : BOk a (List.replicate 24 []) := ⟨by simp, fun i h => absurd (by
  rw [List.getD_eq_getElem?_getD, List.getElem?_replicate]
  split <;> rfl) h⟩
theorem bok_sb {a : List Int} {b : List (List Int)} (h : BOk a b) : Sb a (bF b) := ⟨fun n hn => bF_sym hn, fun n h1 h2 => by
  unfold bF
  split
  · rename_i hc
    exact h.tm _ hc.2
  · exact tm_var ⟨h1, h2⟩⟩
theorem bad_range {a : List Int} {n : Int} (h : badS a n = false) : -24 ≤ n ∧ n < a.length := by
  simp only [badS, decide_eq_false_iff_not] at h
  omega

theorem go_sound {a : List Int} : ∀ (p ts : List Int) (m : Nat) (b b' : List (List Int)), Fo a p m → Fo a ts m → BOk a b → matchGo a p ts b = some b' →
    BOk a b' ∧ (∀ i, b.getD i [] ≠ [] → b'.getD i [] = b.getD i []) ∧ fm (bF b') p = ts ∧ ∀ x ∈ p, x < 0 → b'.getD (-1 - x).toNat [] ≠ []
  | [], ts, m, b, b', hp, ht, hb, h => by
    have hm := fo_nil hp
    subst hm
    have : ts = [] := by
      unfold Fo at ht
      cases ts with
      | nil => rfl
      | cons x xs => simp [skp] at ht
    subst this
    simp only [matchGo, Option.some.injEq] at h
    subst h
    exact ⟨hb, fun _ _ => rfl, rfl, fun x hx => by cases hx⟩
  | _ :: _, [], m, b, b', hp, ht, hb, h => by simp [matchGo] at h
  | n :: p, x :: ts, m, b, b', hp, ht, hb, h => by
    obtain ⟨m', rfl, hbn, hp'⟩ := fo_cons hp
    have hnr := bad_range hbn
    simp only [matchGo] at h
    by_cases h0 : 0 ≤ n
    · rw [if_pos h0] at h
      by_cases hx : x = n
      · rw [if_pos hx] at h
        subst hx
        obtain ⟨m2, hm2, _, ht'⟩ := fo_cons ht
        have : m2 = m' := by omega
        subst this
        obtain ⟨a1, a2, a3, a4⟩ := go_sound p ts _ b b' hp' ht' hb h
        refine ⟨a1, a2, ?_, ?_⟩
        · rw [fm_cons, a3, bF_sym h0]; rfl
        · intro y hy h1
          rcases List.mem_cons.1 hy with e | e
          · omega
          · exact a4 y e h1
      · rw [if_neg hx] at h; cases h
    · rw [if_neg h0] at h
      have hp2 : Fo a p m' := by
        rw [ar_var (by omega)] at hp'
        simpa using hp'
      obtain ⟨hu, hv⟩ := fo_first ht
      generalize hk : (skp a (badS a) (x :: ts) 1).2 = k at h hu hv
      have hi : (-1 - n).toNat < b.length := by have := hb.len; omega
      have hne : (x :: ts).take k ≠ [] := fun e => by have := tm_pos hu; rw [e] at this; simp at this
      by_cases he : b.getD (-1 - n).toNat [] = []
      · rw [if_pos he] at h
        have hb2 : BOk a (b.set (-1 - n).toNat ((x :: ts).take k)) := ⟨by rw [List.length_set, hb.len], fun i hi' => by
          by_cases e : i = (-1 - n).toNat
          · rw [e, gd_set_self hi]; exact hu
          · rw [gd_set_ne e] at hi' ⊢; exact hb.tm i hi'⟩
        obtain ⟨a1, a2, a3, a4⟩ := go_sound p ((x :: ts).drop k) m' _ b' hp2 hv hb2 h
        have hbn' : b'.getD (-1 - n).toNat [] = (x :: ts).take k := by
          have := a2 (-1 - n).toNat (by rw [gd_set_self hi]; exact hne)
          rw [this, gd_set_self hi]
        refine ⟨a1, ?_, ?_, ?_⟩
        · intro i hi'
          have hne' : i ≠ (-1 - n).toNat := fun e => by rw [e] at hi'; exact hi' he
          have e := gd_set_ne (b := b) (x := (x :: ts).take k) hne'
          rw [← e] at hi' ⊢
          exact a2 i hi'
        · rw [fm_cons, a3, bF_var (by omega) (by rw [hbn']; exact hne), hbn', List.take_append_drop]
        · intro y hy h1
          rcases List.mem_cons.1 hy with e | e
          · rw [e, hbn']; exact hne
          · exact a4 y e h1
      · rw [if_neg he] at h
        by_cases hs : b.getD (-1 - n).toNat [] = (x :: ts).take k
        · rw [if_pos hs] at h
          obtain ⟨a1, a2, a3, a4⟩ := go_sound p ((x :: ts).drop k) m' b b' hp2 hv hb h
          have hbn' := a2 _ he
          refine ⟨a1, a2, ?_, ?_⟩
          · rw [fm_cons, a3, bF_var (by omega) (by rw [hbn']; exact he), hbn', hs, List.take_append_drop]
          · intro y hy h1
            rcases List.mem_cons.1 hy with e | e
            · rw [e, hbn']; exact he
            · exact a4 y e h1
        · rw [if_neg hs] at h; cases h
theorem go_complete {a : List Int} {σ : Int → List Int} (hσ : Sb a σ) : ∀ (p ts : List Int) (m : Nat) (b : List (List Int)), Fo a p m → fm σ p = ts → b.length = 24 → (∀ i, i < 24 → b.getD i [] = [] ∨ b.getD i [] = σ (-1 - (i : Int))) →
    ∃ b', matchGo a p ts b = some b'
  | [], ts, m, b, hp, h, hl, hb => ⟨b, by simp [matchGo]⟩
  | n :: p, ts, m, b, hp, h, hl, hb => by
    obtain ⟨m', rfl, hbn, hp'⟩ := fo_cons hp
    have hnr := bad_range hbn
    rw [fm_cons] at h
    by_cases h0 : 0 ≤ n
    · rw [hσ.pos n h0] at h
      subst h
      simp only [List.cons_append, List.nil_append, matchGo]
      rw [if_pos h0, if_pos trivial]
      exact go_complete hσ p _ _ b hp' rfl hl hb
    · have htm := hσ.tm n hnr.1 (by omega)
      have hsk : (skp a (badS a) ts 1).2 = (σ n).length := by rw [← h, skp_app _ _ _ _ _ (by rw [htm]), htm]
      have hpos := tm_pos htm
      have hp2 : Fo a p m' := by
        rw [ar_var (by omega)] at hp'
        simpa using hp'
      cases ts with
      | nil =>
        have := congrArg List.length h
        simp at this
        rw [this.1] at hpos
        simp at hpos
      | cons x ts =>
        simp only [matchGo]
        rw [if_neg h0, hsk, ← h, List.take_left, List.drop_left]
        have hin : σ (-1 - ((-1 - n).toNat : Int)) = σ n := by congr 1; omega
        by_cases he : b.getD (-1 - n).toNat [] = []
        · rw [if_pos he]
          refine go_complete hσ p _ _ _ hp2 rfl (by rw [List.length_set, hl]) (fun i hi => ?_)
          by_cases e : i = (-1 - n).toNat
          · right; rw [e, gd_set_self (by omega), hin]
          · rw [gd_set_ne e]; exact hb i hi
        · rw [if_neg he, if_pos (by
            rcases hb (-1 - n).toNat (by omega) with h1 | h1
            · exact absurd h1 he
            · rw [h1, hin])]
          exact go_complete hσ p _ _ b hp2 rfl hl hb
theorem fo_of {a t : List Int} (h : Tm a t) : Fo a t 1 := h
/-- A match gives bindings that fill the pattern. -/
theorem match_some {a p t : List Int} {ts : List (List Int)} (hp : termOk a p = true) (ht : termOk a t = true) (h : matchOf a p t = some ts) : ∃ b, BOk a b ∧ ts = plainOf b ∧ fm (bF b) p = t ∧ matchGo a p t (List.replicate 24 []) = some b := by
  unfold matchOf at h
  cases hg : matchGo a p t (List.replicate 24 []) with
  | none => rw [hg] at h; cases h
  | some b =>
    rw [hg] at h
    obtain ⟨h1, _, h3, _⟩ := go_sound p t 1 _ b (fo_of (tm_ok hp)) (fo_of (tm_ok ht)) (bok_zero a) hg
    exact ⟨b, h1, (Option.some.inj h).symm, h3, rfl⟩
theorem inst_iff {a p t : List Int} (hp : termOk a p = true) (ht : termOk a t = true) : instOf a p t = true ↔ ∃ σ, Sb a σ ∧ fm σ p = t := by
  constructor
  · intro h
    unfold instOf at h
    cases hm : matchOf a p t with
    | none => rw [hm] at h; cases h
    | some ts =>
      obtain ⟨b, h1, _, h3, _⟩ := match_some hp ht hm
      exact ⟨_, bok_sb h1, h3⟩
  · rintro ⟨σ, hσ, h⟩
    obtain ⟨b', hb'⟩ := go_complete hσ p t 1 (List.replicate 24 []) (fo_of (tm_ok hp)) h (by simp) (fun i hi => .inl (by
      rw [List.getD_eq_getElem?_getD, List.getElem?_replicate]
      split <;> rfl))
    unfold instOf matchOf
    rw [hb']
    rfl
theorem instanceIn_iff {a p t : List Int} : instanceIn a p t = true ↔ termOk a p = true ∧ termOk a t = true ∧ ∃ σ, Sb a σ ∧ fm σ p = t := by
  unfold instanceIn matchedOf
  by_cases h : termOk a p = true ∧ termOk a t = true
  · rw [if_pos h]
    have := inst_iff h.1 h.2
    unfold instOf at this
    rw [this]
    exact ⟨fun h' => ⟨h.1, h.2, h'⟩, fun h' => h'.2.2⟩
  · rw [if_neg h]
    exact Iff.intro (fun h' => by cases h') (fun h' => absurd ⟨h'.1, h'.2.1⟩ h)
theorem Sb.comp {a : List Int} {σ τ : Int → List Int} (hσ : Sb a σ) (hτ : Sb a τ) : Sb a (fun n => Go.Proofs.YtbbdjjlnachnlaaGreatDoor.fm τ (σ n)) := ⟨fun n hn => by
  rw [hσ.pos n hn, fm_one, hτ.pos n hn], fun n h1 h2 => hτ.fm (hσ.tm n h1 h2)⟩
theorem instanceIn_trans {a s t u : List Int} (h1 : instanceIn a s t = true) (h2 : instanceIn a t u = true) : instanceIn a s u = true := by
  obtain ⟨a1, a2, σ, a3, a4⟩ := instanceIn_iff.1 h1
  obtain ⟨b1, b2, τ, b3, b4⟩ := instanceIn_iff.1 h2
  exact instanceIn_iff.2 ⟨a1, b2, _, a3.comp b3, by rw [← fm_fm, a4, b4]⟩
end Go.Proofs.YtbbdjjlnachnlaaGreatDoor
