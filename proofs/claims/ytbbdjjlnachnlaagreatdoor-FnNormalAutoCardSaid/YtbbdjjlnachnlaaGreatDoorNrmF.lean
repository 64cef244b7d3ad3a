/- Shapes and forms of terms; what fits. No program in sight. -/
import Derived.Test.YtbbdjjlnachnlaaGreatDoorLin
import Derived.Test.YtbbdjjlnachnlaaGreatDoorL02m
import Derived.Test.YtbbdjjlnachnlaaGreatDoorCmp
namespace Go.Proofs.YtbbdjjlnachnlaaGreatDoor
open Go Go.Eng
set_option linter.unusedVariables false
set_option linter.unusedSimpArgs false
/-! ### Renaming -/
theorem pigeonN : ∀ (n : Nat) (l : List Int), l.Nodup → (∀ x ∈ l, -(n : Int) ≤ x ∧ x < 0) → l.length ≤ n
  | 0, l, _, h => by
    cases l with
    | nil => exact Nat.le_refl _
    | cons x xs => have := h x (by simp); omega
  | n + 1, l, hd, h => by
    by_cases hm : (-((n : Int) + 1)) ∈ l
    · have h1 := pigeonN n (l.erase (-((n : Int) + 1))) (hd.erase _) (fun x hx => by
        obtain ⟨h2, h3⟩ := (hd.mem_erase_iff).1 hx
        have := h x h3
        omega)
      have h2 := List.length_erase_of_mem hm
      have : 1 ≤ l.length := List.length_pos_of_mem hm
      omega
    · have h1 := pigeonN n l hd (fun x hx => by
        have h2 := h x hx
        refine ⟨?_, h2.2⟩
        by_cases e : x = -((n : Int) + 1)
        · rw [e] at hx; exact absurd hx hm
        · omega)
      omega
theorem ordIsN {t : List Int} {n : Int} : ∀ m, m ≤ t.length → n ∈ ordTo t m → n < 0 ∧ n ∈ t
  | 0, _, h => by cases h
  | m + 1, hm, h => by
    unfold ordTo at h
    split at h
    · rename_i hc
      rcases List.mem_append.1 h with h1 | h1
      · exact ordIsN m (by omega) h1
      · rw [List.mem_singleton] at h1
        rw [h1]
        exact ⟨hc.1, getD_mem (by omega)⟩
    · exact ordIsN m (by omega) h
theorem ordAll {t : List Int} {n : Int} (hn : n < 0) (hm : n ∈ t) : n ∈ ordTo t t.length := by
  obtain ⟨k, hk, rfl⟩ := List.getElem_of_mem hm
  have e : t.getD k 0 = t[k] := by rw [List.getD_eq_getElem?_getD, List.getElem?_eq_getElem hk]; rfl
  have h1 := ordTo_mem (t := t) (k := k) (by rw [e]; exact hn)
  obtain ⟨s, hs⟩ := ordTo_pre t (k + 1) (t.length - (k + 1))
  rw [show k + 1 + (t.length - (k + 1)) = t.length by omega] at hs
  rw [hs, ← e]
  exact List.mem_append_left _ h1
/-- A renaming of what stands in a list. -/
structure Rnm (φ : Int → Int) (t : List Int) : Prop where
  pos : ∀ n, 0 ≤ n → φ n = n
  neg : ∀ n ∈ t, n < 0 → φ n < 0
  inj : ∀ n ∈ t, ∀ m ∈ t, n < 0 → m < 0 → φ n = φ m → n = m
theorem Rnm.sub {φ : Int → Int} {s t : List Int} (h : Rnm φ t) (hs : ∀ x ∈ s, x ∈ t) : Rnm φ s := ⟨h.pos, fun n hn => h.neg n (hs n hn), fun n hn m hm => h.inj n (hs n hn) m (hs m hm)⟩
theorem map_getD {φ : Int → Int} {t : List Int} {k : Nat} (hk : k < t.length) : (t.map φ).getD k 0 = φ (t.getD k 0) := by
  rw [List.getD_eq_getElem?_getD, List.getElem?_map, List.getElem?_eq_getElem hk, List.getD_eq_getElem?_getD, List.getElem?_eq_getElem hk]; rfl
theorem Rnm.sign {φ : Int → Int} {t : List Int} (h : Rnm φ t) {n : Int} (hn : n ∈ t) : φ n < 0 ↔ n < 0 := by
  by_cases h0 : 0 ≤ n
  · rw [h.pos n h0]
  · exact ⟨fun _ => by omega, fun _ => h.neg n hn (by omega)⟩
theorem ord_map {φ : Int → Int} {t : List Int} (h : Rnm φ t) : ∀ k, k ≤ t.length → ordTo (t.map φ) k = (ordTo t k).map φ
  | 0, _ => rfl
  | k + 1, hk => by
    have ih := ord_map h k (by omega)
    have hm : t.getD k 0 ∈ t := getD_mem (by omega)
    have hg := map_getD (φ := φ) (t := t) (k := k) (by omega)
    by_cases hc : t.getD k 0 < 0 ∧ t.getD k 0 ∉ ordTo t k
    · rw [ordTo_new hc.1 hc.2, ordTo_new (by rw [hg]; exact (h.sign hm).2 hc.1) (by
        rw [hg, ih]
        intro hx
        obtain ⟨y, hy, e⟩ := List.mem_map.1 hx
        have hy2 := ordIsN k (by omega) hy
        exact hc.2 (h.inj y hy2.2 _ hm hy2.1 hc.1 e ▸ hy)), ih, hg, List.map_append]
      rfl
    · rw [ordTo_old hc, ordTo_old (fun hx => hc (by
        rw [hg, ih] at hx
        exact ⟨(h.sign hm).1 hx.1, fun hy => hx.2 (List.mem_map_of_mem hy)⟩)), ih]
theorem idx_mapN {φ : Int → Int} : ∀ {o : List Int} {x : Int}, x ∈ o → (∀ y ∈ o, φ y = φ x → y = x) → (o.map φ).idxOf (φ x) = o.idxOf x
  | y :: o, x, hm, hi => by
    by_cases e : y = x
    · subst e; rw [List.map_cons, List.idxOf_cons_self, List.idxOf_cons_self]
    · have e2 : φ y ≠ φ x := fun e2 => e (hi y (by simp) e2)
      have hm' : x ∈ o := by
        rcases List.mem_cons.1 hm with h | h
        · exact absurd h.symm e
        · exact h
      rw [List.map_cons, List.idxOf_cons, List.idxOf_cons, idx_mapN hm' (fun z hz => hi z (by simp [hz])), show (φ y == φ x) = false from beq_false_of_ne e2, show (y == x) = false from beq_false_of_ne e]
theorem ren_map {φ : Int → Int} {t : List Int} (h : Rnm φ t) : renOf (t.map φ) = renOf t := by
  unfold renOf
  rw [List.length_map, ord_map h _ (Nat.le_refl _), List.map_map]
  refine List.map_congr_left fun x hx => ?_
  show rn ((ordTo t t.length).map φ) (φ x) = rn (ordTo t t.length) x
  unfold rn
  by_cases h0 : x < 0
  · have hm := ordAll h0 hx
    rw [if_pos ⟨(h.sign hx).2 h0, List.mem_map_of_mem hm⟩, if_pos ⟨h0, hm⟩, idx_mapN hm fun y hy e => by
      have hy2 := ordIsN t.length (Nat.le_refl _) hy
      exact h.inj y hy2.2 x hx hy2.1 h0 e]
  · rw [if_neg fun hx2 => h0 ((h.sign hx).1 hx2.1), if_neg fun hx2 => h0 hx2.1, h.pos x (by omega)]
theorem idx_inj : ∀ {o : List Int} {x y : Int}, x ∈ o → y ∈ o → o.idxOf x = o.idxOf y → x = y
  | z :: o, x, y, hx, hy, e => by
    rw [List.idxOf_cons, List.idxOf_cons] at e
    by_cases h1 : z = x
    · by_cases h2 : z = y
      · rw [← h1, ← h2]
      · rw [show (z == x) = true from by simp [h1], show (z == y) = false from beq_false_of_ne h2] at e
        simp at e
    · by_cases h2 : z = y
      · rw [show (z == x) = false from beq_false_of_ne h1, show (z == y) = true from by simp [h2]] at e
        simp at e
      · rw [show (z == x) = false from beq_false_of_ne h1, show (z == y) = false from beq_false_of_ne h2] at e
        simp at e
        refine idx_inj ?_ ?_ e
        · rcases List.mem_cons.1 hx with h | h
          · exact absurd h.symm h1
          · exact h
        · rcases List.mem_cons.1 hy with h | h
          · exact absurd h.symm h2
          · exact h
/-- The renaming that renOf makes. -/
def rnF (t : List Int) : Int → Int := rn (ordTo t t.length)
theorem renOf_eq (t : List Int) : renOf t = t.map (rnF t) := rfl
theorem rnF_rnm (t : List Int) : Rnm (rnF t) t := by
  refine ⟨fun n hn => ?_, fun n hn h0 => ?_, fun n hn m hm h0 h1 e => ?_⟩
  · unfold rnF rn; rw [if_neg (fun h => by omega)]
  · unfold rnF rn
    rw [if_pos ⟨h0, ordAll h0 hn⟩]; omega
  · unfold rnF rn at e
    rw [if_pos ⟨h0, ordAll h0 hn⟩, if_pos ⟨h1, ordAll h1 hm⟩] at e
    exact idx_inj (ordAll h0 hn) (ordAll h1 hm) (by omega)
/-! ### Terms, mapped -/
theorem skp_mapN {a : List Int} {g : Int → Int} : ∀ (l : List Int) (m : Nat), (∀ n ∈ l, badS a (g n) = badS a n ∧ ar a (g n) = ar a n) → skp a (badS a) (l.map g) m = skp a (badS a) l m
  | l, 0, _ => by simp [skp]
  | [], m + 1, _ => by simp [skp]
  | x :: xs, m + 1, h => by
    obtain ⟨h1, h2⟩ := h x (by simp)
    rw [List.map_cons]
    simp only [skp]
    rw [h1, h2, skp_mapN xs _ (fun n hn => h n (by simp [hn]))]
theorem rnF_ok {a t : List Int} (h : termOk a t = true) : ∀ n ∈ t, badS a (rnF t n) = badS a n ∧ ar a (rnF t n) = ar a n := by
  have h24 : (ordTo t t.length).length ≤ 24 := pigeonN 24 _ (ordTo_nodup t _) fun x hx => by
    obtain ⟨h1, h2⟩ := ordIsN t.length (Nat.le_refl _) hx
    have := (termOk_mem h h2).1
    omega
  intro n hn
  have hb := termOk_mem h hn
  by_cases h0 : n < 0
  · have hm := ordAll h0 hn
    have hi := List.idxOf_lt_length_of_mem hm
    have e : rnF t n = -1 - ((ordTo t t.length).idxOf n : Int) := by unfold rnF rn; rw [if_pos ⟨h0, hm⟩]
    rw [e]
    unfold badS ar
    rw [decide_eq_false (by omega), decide_eq_false (by omega), if_pos (by omega), if_pos (by omega)]
    exact ⟨rfl, rfl⟩
  · rw [(rnF_rnm t).pos n (by omega)]
    exact ⟨rfl, rfl⟩
theorem ren_okN {a t : List Int} (h : termOk a t = true) : termOk a (renOf t) = true := by
  obtain ⟨h1, h2, h3, h4⟩ := termOk_iff.1 h
  refine termOk_iff.2 ⟨h1, by rw [renOf_eq, List.length_map]; exact h2, by rw [renOf_eq, List.length_map]; exact h3, ?_⟩
  rw [renOf_eq, List.length_map, skp_mapN t 1 (rnF_ok h), h4]
theorem sz_ren {a t : List Int} (h : termOk a t = true) (k : Nat) : sz a (renOf t) k = sz a t k := by
  unfold sz
  rw [renOf_eq, ← List.map_drop, skp_mapN _ _ (fun n hn => rnF_ok h n (List.mem_of_mem_drop hn))]
theorem subt_ren {a t : List Int} (h : termOk a t = true) (k : Nat) : subt a (renOf t) k = (subt a t k).map (rnF t) := by
  unfold subt
  rw [sz_ren h, renOf_eq, ← List.map_drop, ← List.map_take]
theorem subt_mem {a t : List Int} {k : Nat} {x : Int} (h : x ∈ subt a t k) : x ∈ t := List.mem_of_mem_drop (List.mem_of_mem_take h)
theorem ren_sub {a t : List Int} (h : termOk a t = true) (k : Nat) : renOf (subt a (renOf t) k) = renOf (subt a t k) := by
  rw [subt_ren h]
  exact ren_map ((rnF_rnm t).sub fun x hx => subt_mem hx)
theorem ren_get {t : List Int} {k : Nat} (hk : k < t.length) : ((renOf t).getD k 0 < 0 ↔ t.getD k 0 < 0) ∧ (0 ≤ t.getD k 0 → (renOf t).getD k 0 = t.getD k 0) := by
  rw [renOf_eq, map_getD hk]
  exact ⟨(rnF_rnm t).sign (getD_mem hk), fun h => (rnF_rnm t).pos _ h⟩
theorem renOf_len2 (t : List Int) : (renOf t).length = t.length := by rw [renOf_eq, List.length_map]
theorem skp_ext2 {a : List Int} {bad : Int → Bool} {r : List Int} : ∀ (l : List Int) (m : Nat), (skp a bad l m).1 = true → skp a bad (l ++ r) m = skp a bad l m
  | l, 0, _ => by simp [skp]
  | [], m + 1, h => by simp [skp] at h
  | x :: xs, m + 1, h => by
    simp only [skp, List.cons_append] at h ⊢
    by_cases hb : bad x = true
    · rw [if_pos hb] at h; cases h
    · rw [if_neg hb] at h ⊢
      rw [if_neg hb, skp_ext2 xs _ h]
theorem sz_sub {a t : List Int} (h : termOk a t = true) {k q : Nat} (hk : k < t.length) (hq : q < (subt a t k).length) : sz a (subt a t k) q = sz a t (k + q) := by
  have h1 := term_at (subt_ok h hk) hq
  have h2 : (skp a (badS a) ((subt a t k).drop q) 1) = skp a (badS a) (t.drop (k + q)) 1 := by
    have hsl := subt_len h hk
    have e : (subt a t k).drop q = (t.drop (k + q)).take (sz a t k - q) := by
      unfold subt
      rw [List.drop_take, List.drop_drop]
    have h3 := term_at h (k := k + q) (by have := (term_at h hk).2.2; omega)
    have h4 : skp a (badS a) ((t.drop (k + q)).take (sz a t k - q)) 1 = skp a (badS a) (t.drop (k + q)) 1 := by
      by_cases hle : sz a t (k + q) ≤ sz a t k - q
      · exact skp_take _ _ _ hle h3.1
      · exfalso
        have h5 := h1.1
        rw [e] at h5
        have h6 := skp_ext2 (r := (t.drop (k + q)).drop (sz a t k - q)) _ 1 h5
        rw [List.take_append_drop] at h6
        have h7 := skp_le a (badS a) ((t.drop (k + q)).take (sz a t k - q)) 1
        rw [← h6, List.length_take] at h7
        have e9 : sz a t (k + q) = (skp a (badS a) (t.drop (k + q)) 1).2 := rfl
        rw [e9] at hle
        omega
    rw [e, h4]
  unfold sz
  rw [h2]
theorem subt_subt {a t : List Int} (h : termOk a t = true) {k q : Nat} (hk : k < t.length) (hq : q < (subt a t k).length) : subt a (subt a t k) q = subt a t (k + q) := by
  have h1 := term_at (subt_ok h hk) hq
  have hsl := subt_len h hk
  have e : (subt a t k).drop q = (t.drop (k + q)).take (sz a t k - q) := by
    unfold subt
    rw [List.drop_take, List.drop_drop]
  rw [sz_sub h hk hq] at h1
  show ((subt a t k).drop q).take (sz a (subt a t k) q) = (t.drop (k + q)).take (sz a t (k + q))
  rw [sz_sub h hk hq, e, List.take_take, Nat.min_eq_left (by omega)]
/-! ### Shapes -/
def IsShape (a : List Int) (ls : List (List Int)) (s : List Int) : Prop := ∃ l ∈ ls, ∃ k, 1 ≤ k ∧ k < l.length ∧ 0 ≤ l.getD k 0 ∧ s = renOf (subt a l k)
/-- These are the shapes, ascending. -/
structure ShpL (a : List Int) (ls ys : List (List Int)) : Prop where
  srt : ys.Pairwise (fun x y => cmpS x y < 0)
  mem : ∀ s, s ∈ ys ↔ IsShape a ls s
theorem srt_ext {α : Type} {lt : α → α → Prop} (irr : ∀ x, ¬ lt x x) (tr : ∀ x y z, lt x y → lt y z → lt x z) : ∀ {xs ys : List α}, xs.Pairwise lt → ys.Pairwise lt → (∀ z, z ∈ xs ↔ z ∈ ys) → xs = ys
  | [], [], _, _, _ => rfl
  | [], y :: ys, _, _, h => absurd ((h y).2 (by simp)) (by simp)
  | x :: xs, [], _, _, h => absurd ((h x).1 (by simp)) (by simp)
  | x :: xs, y :: ys, hx, hy, h => by
    obtain ⟨hx1, hx2⟩ := List.pairwise_cons.1 hx
    obtain ⟨hy1, hy2⟩ := List.pairwise_cons.1 hy
    have e : x = y := by
      rcases List.mem_cons.1 ((h x).1 (by simp)) with e | e
      · exact e
      · rcases List.mem_cons.1 ((h y).2 (by simp)) with e' | e'
        · exact e'.symm
        · exact absurd (tr _ _ _ (hy1 x e) (hx1 y e')) (irr y)
    subst e
    rw [srt_ext irr tr hx2 hy2 fun z => ?_]
    constructor
    · intro hz
      rcases List.mem_cons.1 ((h z).1 (by simp [hz])) with e | e
      · rw [e] at hz; exact absurd (hx1 x hz) (irr x)
      · exact e
    · intro hz
      rcases List.mem_cons.1 ((h z).2 (by simp [hz])) with e | e
      · rw [e] at hz; exact absurd (hy1 x hz) (irr x)
      · exact e
theorem cmpS_irr (x : List Int) : ¬ cmpS x x < 0 := by rw [cmpS_refl]; decide
theorem cmpS_tr (x y z : List Int) (h1 : cmpS x y < 0) (h2 : cmpS y z < 0) : cmpS x z < 0 := by
  have h3 := cmpS_trans (show cmpS x y ≤ 0 by omega) (show cmpS y z ≤ 0 by omega)
  by_cases h : cmpS x z = 0
  · have e := cmpS_eq h
    subst e
    have := cmpS_neg x y
    omega
  · omega
theorem shpL_uniq {a : List Int} {ls ys zs : List (List Int)} (h : ShpL a ls ys) (h' : ShpL a ls zs) : ys = zs := srt_ext cmpS_irr cmpS_tr h.srt h'.srt fun z => (h.mem z).trans (h'.mem z).symm
noncomputable def shapesOf (a : List Int) (ls : List (List Int)) : List (List Int) := @dite _ (∃ ys, ShpL a ls ys) (Classical.propDecidable _) (fun h => h.choose) (fun _ => [])
theorem shapes_is {a : List Int} {ls ys : List (List Int)} (h : ShpL a ls ys) : shapesOf a ls = ys := by
  unfold shapesOf
  rw [dif_pos ⟨ys, h⟩]
  exact shpL_uniq (Exists.choose_spec (⟨ys, h⟩ : ∃ ys, ShpL a ls ys)) h
/-! ### What fits -/
def kidT (a t : List Int) (i : Nat) : List Int := subt a t (kidN a t 1 i)
def selN (f : Nat → Bool) : Nat → List Int
  | 0 => []
  | i + 1 => selN f i ++ (if f i = true then [(i : Int)] else [])
theorem selN_len (f : Nat → Bool) : ∀ n, (selN f n).length ≤ n
  | 0 => Nat.le_refl _
  | n + 1 => by
    have := selN_len f n
    unfold selN
    rw [List.length_append]
    split <;> simp <;> omega
theorem selN_congr {f g : Nat → Bool} : ∀ n, (∀ i, i < n → f i = g i) → selN f n = selN g n
  | 0, _ => rfl
  | n + 1, h => by unfold selN; rw [selN_congr n (fun i hi => h i (by omega)), h n (by omega)]
theorem selN_mem {f : Nat → Bool} {x : Int} : ∀ {n : Nat}, x ∈ selN f n ↔ ∃ i : Nat, i < n ∧ x = (i : Int) ∧ f i = true
  | 0 => by simp [selN]
  | n + 1 => by
    unfold selN
    rw [List.mem_append, selN_mem]
    constructor
    · rintro (⟨i, h1, h2, h3⟩ | h)
      · exact ⟨i, by omega, h2, h3⟩
      · split at h
        · rename_i hf
          exact ⟨n, by omega, by simpa using h, hf⟩
        · simp at h
    · rintro ⟨i, h1, h2, h3⟩
      by_cases e : i = n
      · right; subst e; rw [if_pos h3]; simp [h2]
      · exact .inl ⟨i, by omega, h2, h3⟩
/-- The i-th argument of p fits. -/
def FitK (a : List Int) (sh : List (List Int)) (p : List Int) (sets : List (List Int)) (i : Nat) : Prop := (renOf (kidT a p i)).getD 0 0 < 0 ∨ placeOf sh (renOf (kidT a p i)) ∈ sets.getD i default
def FitN (a : List Int) (sh : List (List Int)) (p : List Int) (f : Int) (sets : List (List Int)) : Prop := p.getD 0 0 = f ∧ ∀ i, i < arK a p 0 → FitK a sh p sets i
noncomputable def comesN (a : List Int) (sh : List (List Int)) (f : Int) (sets : List (List Int)) : List Int := selN (fun i => decC (FitN a sh (sh.getD i default) f sets)) sh.length
def ShutN (a : List Int) (sh ls : List (List Int)) (f : Int) (sets : List (List Int)) (k : Nat) : Prop := ∃ i, i < k ∧ FitN a sh (ls.getD i default) f sets
noncomputable def imN (a : List Int) (sh ls : List (List Int)) : ImO := fun f sets => if decC (ShutN a sh ls f sets ls.length) = true then none else some (comesN a sh f sets)
theorem imN_no {a : List Int} {sh ls : List (List Int)} {f : Nat} {sets : List (List Int)} (h : ShutN a sh ls f sets ls.length) : imN a sh ls f sets = none := by unfold imN; rw [if_pos (decC_t h)]
theorem imN_yes {a : List Int} {sh ls : List (List Int)} {f : Nat} {sets : List (List Int)} (h : ¬ ShutN a sh ls f sets ls.length) : imN a sh ls f sets = some (comesN a sh f sets) := by unfold imN; rw [if_neg (by rw [decC_f h]; decide)]
def leftsL (x : SSystem) : List (List Int) := x.2.map fun r => r.1
/-- The automaton of normal forms. -/
noncomputable def normA (x : SSystem) : Option SAuto := if decC (LlP x) = true then autG (imN x.1 (shapesOf x.1 (leftsL x)) (leftsL x)) x.1 else none
theorem norm_no {x : SSystem} (h : ¬ LlP x) : normA x = none := by unfold normA; rw [if_neg (by rw [decC_f h]; decide)]
theorem norm_yes {x : SSystem} (h : LlP x) : normA x = autG (imN x.1 (shapesOf x.1 (leftsL x)) (leftsL x)) x.1 := by unfold normA; rw [if_pos (decC_t h)]
/-! ### Forms -/
/-- The place of an argument's shape; -1 of a variable. -/
noncomputable def idxK (a : List Int) (sh : List (List Int)) (t : List Int) (i : Nat) : Int := if 0 ≤ (kidT a t i).getD 0 0 then placeOf sh (renOf (kidT a t i)) else -1
abbrev SForm : Type := Int × List Int
noncomputable def idxL (a : List Int) (sh : List (List Int)) (t : List Int) (n : Nat) : List Int := (List.range n).map (idxK a sh t)
noncomputable def formP (a : List Int) (sh : List (List Int)) (t : List Int) : SForm := (t.getD 0 0, idxL a sh t (arK a t 0))
def FitF (x : SForm) (f : Int) (sets : List (List Int)) : Prop := x.1 = f ∧ ∀ i, i < x.2.length → x.2.getD i 0 < 0 ∨ x.2.getD i 0 ∈ sets.getD i default
theorem idxL_len (a : List Int) (sh : List (List Int)) (t : List Int) (n : Nat) : (idxL a sh t n).length = n := by unfold idxL; simp
theorem idxL_get {a : List Int} {sh : List (List Int)} {t : List Int} {n i : Nat} (h : i < n) : (idxL a sh t n).getD i 0 = idxK a sh t i := by
  unfold idxL
  rw [List.getD_eq_getElem?_getD, List.getElem?_map, List.getElem?_range h]; rfl
theorem idxL_succ (a : List Int) (sh : List (List Int)) (t : List Int) (n : Nat) : idxL a sh t (n + 1) = idxL a sh t n ++ [idxK a sh t n] := by
  unfold idxL; rw [List.range_succ, List.map_append]; rfl
/-- The shapes of all arguments of t stand in the list. -/
def Closed (a : List Int) (sh : List (List Int)) (t : List Int) : Prop := termOk a t = true ∧ ∀ i, i < arK a t 0 → 0 ≤ (kidT a t i).getD 0 0 → renOf (kidT a t i) ∈ sh
theorem kidT_ok {a t : List Int} (h : termOk a t = true) {i : Nat} (hi : i < arK a t 0) : termOk a (kidT a t i) = true ∧ 1 ≤ (kidT a t i).length := by
  have h1 := kid_lt h (k := 0) (by have := termOk_len h; omega) hi
  have h2 := subt_ok h (k := kidN a t (0 + 1) i) h1.2
  exact ⟨h2, (termOk_len h2).1⟩
theorem fit_form {a : List Int} {sh : List (List Int)} {t : List Int} (h : Closed a sh t) {f : Int} {sets : List (List Int)} : FitF (formP a sh t) f sets ↔ FitN a sh t f sets := by
  unfold FitF FitN formP
  simp only [idxL_len]
  refine and_congr_right fun _ => forall_congr' fun i => forall_congr' fun hi => ?_
  rw [idxL_get hi]
  obtain ⟨h1, h2⟩ := kidT_ok h.1 hi
  have hr := ren_get (t := kidT a t i) (k := 0) (by omega)
  unfold FitK idxK
  by_cases h0 : 0 ≤ (kidT a t i).getD 0 0
  · have hp : 0 ≤ placeOf sh (renOf (kidT a t i)) := by
      unfold placeOf; rw [if_pos (h.2 i hi h0)]; omega
    rw [if_pos h0]
    constructor
    · rintro (h3 | h3)
      · omega
      · exact .inr h3
    · rintro (h3 | h3)
      · have := hr.1.1 h3; omega
      · exact .inr h3
  · rw [if_neg h0]
    exact ⟨fun _ => .inl (hr.1.2 (by omega)), fun _ => .inl (by omega)⟩
theorem kidT_get {a t : List Int} (h : termOk a t = true) {i : Nat} (hi : i < arK a t 0) : (kidT a t i).getD 0 0 = t.getD (kidN a t 1 i) 0 := by
  have h1 := kid_lt h (k := 0) (by have := termOk_len h; omega) hi
  have h2 := (kidT_ok h hi).2
  have h3 : (kidT a t i).length = sz a t (kidN a t 1 i) := subt_len h h1.2
  unfold kidT subt
  rw [List.getD_eq_getElem?_getD, List.getElem?_take_of_lt (by omega), List.getElem?_drop, List.getD_eq_getElem?_getD]
  rfl
theorem left_closed {a : List Int} {ls sh : List (List Int)} (hs : ∀ s, IsShape a ls s → s ∈ sh) {l : List Int} (hl : l ∈ ls) (ht : termOk a l = true) : Closed a sh l := ⟨ht, fun i hi h0 => by
  have h1 := kid_lt ht (k := 0) (by have := termOk_len ht; omega) hi
  rw [Nat.zero_add] at h1
  exact hs _ ⟨l, hl, kidN a l 1 i, by omega, h1.2, by rw [← kidT_get ht hi]; exact h0, rfl⟩⟩
theorem arK_ren {a t : List Int} (h : termOk a t = true) : arK a (renOf t) 0 = arK a t 0 := by
  have hl := termOk_len h
  unfold arK
  rw [renOf_eq, map_getD (by omega), (rnF_ok h _ (getD_mem (by omega))).2]
theorem kidN_ren {a t : List Int} (h : termOk a t = true) (p : Nat) : ∀ i, kidN a (renOf t) p i = kidN a t p i
  | 0 => rfl
  | i + 1 => by
    show kidN a (renOf t) p i + sz a (renOf t) (kidN a (renOf t) p i) = _
    rw [kidN_ren h p i, sz_ren h]
    rfl
theorem shape_closed {a : List Int} {ls sh : List (List Int)} (hls : ∀ l ∈ ls, termOk a l = true) (hs : ∀ s, IsShape a ls s → s ∈ sh) {s : List Int} (h : IsShape a ls s) : Closed a sh s := by
  obtain ⟨l, hl, k, hk1, hk2, hk3, rfl⟩ := h
  have ht := hls l hl
  have hu := subt_ok ht hk2
  have hsl := subt_len ht hk2
  have hul := termOk_len hu
  refine ⟨ren_okN hu, fun i hi h0 => ?_⟩
  rw [arK_ren hu] at hi
  have h1 := kid_lt hu (k := 0) (by omega) hi
  rw [Nat.zero_add] at h1
  have h2 := term_at ht hk2
  have e : renOf (kidT a (renOf (subt a l k)) i) = renOf (subt a l (k + kidN a (subt a l k) 1 i)) := by
    unfold kidT
    rw [kidN_ren hu, ren_sub hu, subt_subt ht hk2 h1.2]
  rw [e]
  refine hs _ ⟨l, hl, _, by omega, by omega, ?_, rfl⟩
  have hi' : i < arK a (renOf (subt a l k)) 0 := by rw [arK_ren hu]; exact hi
  rw [kidT_get (ren_okN hu) hi', kidN_ren hu] at h0
  have h3 := (ren_get (t := subt a l k) h1.2).1
  have h4 : (subt a l k).getD (kidN a (subt a l k) 1 i) 0 = l.getD (k + kidN a (subt a l k) 1 i) 0 := by
    have h6 := h1.2
    generalize kidN a (subt a l k) 1 i = q at h6 ⊢
    unfold subt
    rw [List.getD_eq_getElem?_getD, List.getElem?_take_of_lt (by omega), List.getElem?_drop, List.getD_eq_getElem?_getD]
  rw [← h4]
  exact Int.not_lt.1 fun h5 => by have := h3.2 h5; omega
end Go.Proofs.YtbbdjjlnachnlaaGreatDoor
