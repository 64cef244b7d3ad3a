/- The automaton of normal forms takes the normal terms and no others: no program in sight. -/
import Derived.Test.YtbbdjjlnachnlaaGreatDoorMat
import Derived.Test.YtbbdjjlnachnlaaGreatDoorL07n
namespace Go.Proofs.YtbbdjjlnachnlaaGreatDoor
open Go Go.Eng
set_option linter.unusedVariables false
set_option linter.unusedSimpArgs false
set_option maxRecDepth 20000
/-! ### A term and its arguments -/
theorem kid_skp {a t : List Int} {p n : Nat} (h : (skp a (badS a) (t.drop p) n).1 = true) : ∀ i, i ≤ n → (skp a (badS a) (t.drop p) n).2 + p = kidN a t p i + (skp a (badS a) (t.drop (kidN a t p i)) (n - i)).2
  | 0, _ => by show _ = p + (skp a (badS a) (t.drop p) (n - 0)).2; rw [Nat.sub_zero, Nat.add_comm]
  | i + 1, hi => by
    obtain ⟨h1, h2⟩ := kid_inv h i (by omega)
    have h4 := kid_skp h i (by omega)
    rw [show n - i = 1 + (n - (i + 1)) by omega] at h1 h4
    have h6 := skp_split a (badS a) (t.drop (kidN a t p i)) 1 (n - (i + 1))
    have h5 := skp_one a (badS a) (t.drop (kidN a t p i)) (n - (i + 1)) (by rw [Nat.add_comm]; exact h1)
    rw [if_pos h5.1, List.drop_drop] at h6
    rw [h6] at h4
    show _ = kidN a t p i + sz a t (kidN a t p i) + (skp a (badS a) (t.drop (kidN a t p i + sz a t (kidN a t p i))) (n - (i + 1))).2
    unfold sz
    simp only at h4
    omega
theorem sz_kids {a t : List Int} (h : termOk a t = true) {k : Nat} (hk : k < t.length) : sz a t k = (skp a (badS a) (t.drop (k + 1)) (arK a t k)).2 + 1 := by
  have h3 := (term_at h hk).1
  have e : skp a (badS a) (t.drop k) 1 = if badS a (t.getD k 0) = true then (false, 0) else ((skp a (badS a) (t.drop (k + 1)) (arK a t k)).1, (skp a (badS a) (t.drop (k + 1)) (arK a t k)).2 + 1) := by
    rw [drop_get hk]
    unfold arK
    simp only [skp, Nat.zero_add]
  unfold sz
  rw [e] at h3 ⊢
  split at h3
  · cases h3
  · rename_i hb
    rw [if_neg hb]
theorem kid_fin {a t : List Int} (h : termOk a t = true) {k : Nat} (hk : k < t.length) : kidN a t (k + 1) (arK a t k) = k + sz a t k := by
  have h2 := kid_skp (kids_skp h hk) (arK a t k) (Nat.le_refl _)
  rw [Nat.sub_self] at h2
  have h3 := sz_kids h hk
  simp only [skp] at h2
  omega
theorem kidN_mono {a t : List Int} {p : Nat} : ∀ {i j : Nat}, i ≤ j → kidN a t p i ≤ kidN a t p j
  | i, 0, h => by obtain rfl : i = 0 := by omega
                  exact Nat.le_refl _
  | i, j + 1, h => by
    by_cases e : i = j + 1
    · subst e; exact Nat.le_refl _
    · have := kidN_mono (a := a) (t := t) (p := p) (show i ≤ j by omega)
      show _ ≤ kidN a t p j + sz a t (kidN a t p j)
      omega
theorem kid_of {a t : List Int} {p j : Nat} (hp : p ≤ j) : ∀ m, j < kidN a t p m → ∃ i, i < m ∧ kidN a t p i ≤ j ∧ j < kidN a t p i + sz a t (kidN a t p i)
  | 0, h => by have : j < p := h; omega
  | m + 1, h => by
    by_cases h1 : j < kidN a t p m
    · obtain ⟨i, h2, h3⟩ := kid_of hp m h1
      exact ⟨i, by omega, h3⟩
    · exact ⟨m, by omega, by omega, h⟩
theorem hd_sub {a t : List Int} (h : termOk a t = true) {k : Nat} (hk : k < t.length) : (subt a t k).getD 0 0 = t.getD k 0 := by
  obtain ⟨r, hr⟩ := subt_head h hk
  rw [hr]; rfl
theorem arK_sub {a t : List Int} (h : termOk a t = true) {k : Nat} (hk : k < t.length) : arK a (subt a t k) 0 = arK a t k := by
  unfold arK; rw [hd_sub h hk]
theorem kidN_sub {a t : List Int} (h : termOk a t = true) {k : Nat} (hk : k < t.length) : ∀ i, i ≤ arK a t k → k + kidN a (subt a t k) 1 i = kidN a t (k + 1) i
  | 0, _ => rfl
  | i + 1, hi => by
    have hu := subt_ok h hk
    have h1 := kidN_sub h hk i (by omega)
    have h2 := kid_lt hu (k := 0) (by have := termOk_len hu; omega) (i := i) (by rw [arK_sub h hk]; omega)
    rw [Nat.zero_add] at h2
    show k + (kidN a (subt a t k) 1 i + sz a (subt a t k) (kidN a (subt a t k) 1 i)) = kidN a t (k + 1) i + sz a t (kidN a t (k + 1) i)
    rw [sz_sub h hk h2.2, h1]
    omega
theorem kidT_sub {a t : List Int} (h : termOk a t = true) {k : Nat} (hk : k < t.length) {i : Nat} (hi : i < arK a t k) : kidT a (subt a t k) i = subt a t (kidN a t (k + 1) i) := by
  have hu := subt_ok h hk
  have h2 := kid_lt hu (k := 0) (by have := termOk_len hu; omega) (i := i) (by rw [arK_sub h hk]; omega)
  rw [Nat.zero_add] at h2
  unfold kidT
  rw [subt_subt h hk h2.2, kidN_sub h hk i (by omega)]
def kidsT (a t : List Int) (n : Nat) : List (List Int) := (List.range n).map (kidT a t)
theorem take_kids {a t : List Int} (h : termOk a t = true) : ∀ i, i ≤ arK a t 0 → t.take (kidN a t 1 i) = t.getD 0 0 :: (kidsT a t i).flatten
  | 0, _ => by
    have := termOk_len h
    cases t with
    | nil => simp at this
    | cons x xs => rfl
  | i + 1, hi => by
    show t.take (kidN a t 1 i + sz a t (kidN a t 1 i)) = _
    rw [List.take_add, take_kids h i (by omega)]
    unfold kidsT
    rw [List.range_succ, List.map_append, List.flatten_append]
    simp [kidT, subt]
theorem kids_all {a t : List Int} (h : termOk a t = true) : t = t.getD 0 0 :: (kidsT a t (arK a t 0)).flatten := by
  have h1 := take_kids h (arK a t 0) (Nat.le_refl _)
  have h2 := kid_fin h (k := 0) (by have := termOk_len h; omega)
  have h3 : sz a t 0 = t.length := by unfold sz; rw [List.drop_zero, (termOk_iff.1 h).2.2.2]
  rw [Nat.zero_add] at h2
  rw [h2, h3, Nat.zero_add, List.take_length] at h1
  exact h1
theorem flat_inj {a : List Int} : ∀ {xs ys : List (List Int)}, xs.length = ys.length → (∀ x ∈ xs, Tm a x) → (∀ y ∈ ys, Tm a y) → xs.flatten = ys.flatten → xs = ys
  | [], [], _, _, _, _ => rfl
  | [], _ :: _, h, _, _, _ => by simp at h
  | _ :: _, [], h, _, _, _ => by simp at h
  | x :: xs, y :: ys, h, h1, h2, e => by
    rw [List.flatten_cons, List.flatten_cons] at e
    obtain ⟨e1, e2⟩ := tm_pre (h1 x (by simp)) (h2 y (by simp)) e
    rw [e1, flat_inj (by simpa using h) (fun z hz => h1 z (by simp [hz])) (fun z hz => h2 z (by simp [hz])) e2]
theorem fm_flat (f : Int → List Int) : ∀ xs : List (List Int), fm f xs.flatten = (xs.map (fm f)).flatten
  | [] => rfl
  | x :: xs => by rw [List.flatten_cons, fm_app, fm_flat f xs, List.map_cons, List.flatten_cons]
theorem kidsT_tm {a t : List Int} (h : termOk a t = true) : ∀ x ∈ kidsT a t (arK a t 0), Tm a x := fun x hx => by
  obtain ⟨i, hi, rfl⟩ := List.mem_map.1 hx
  exact tm_ok (kidT_ok h (List.mem_range.1 hi)).1
/-! ### Instances, argument by argument -/
theorem sub_at {a t : List Int} {k : Nat} {n : Int} (h : termOk a t = true) (hk : k < t.length) (hn : n ∈ subt a t k) : ∃ u, u < sz a t k ∧ k + u < t.length ∧ t.getD (k + u) 0 = n := by
  obtain ⟨u, hu, e⟩ := List.getElem_of_mem hn
  have h1 := subt_len h hk
  have h2 := (term_at h hk).2.2
  refine ⟨u, by omega, by omega, ?_⟩
  have hx : (subt a t k)[u]? = t[k + u]? := by
    unfold subt
    rw [List.getElem?_take_of_lt (by omega), List.getElem?_drop]
  rw [List.getD_eq_getElem?_getD, ← hx, List.getElem?_eq_getElem hu, e]
  rfl
theorem take_at {t : List Int} {i j : Nat} (h : i < j) (hi : i < t.length) : t.getD i 0 ∈ t.take j := by
  rw [List.getD_eq_getElem?_getD, List.getElem?_eq_getElem hi]
  exact List.mem_take_iff_getElem.2 ⟨i, by omega, rfl⟩
theorem lin_lt {a p : List Int} (h : termOk a p = true) (hl : LinP p p.length) {n : Int} (hn : n < 0) {i j : Nat} (hij : i < j) (hj : j < arK a p 0) (h1 : n ∈ kidT a p i) (h2 : n ∈ kidT a p j) : False := by
  have ki := kid_lt h (k := 0) (by have := termOk_len h; omega) (i := i) (by omega)
  have kj := kid_lt h (k := 0) (by have := termOk_len h; omega) hj
  rw [Nat.zero_add] at ki kj
  obtain ⟨u, hu1, hu2, hu3⟩ := sub_at h ki.2 h1
  obtain ⟨v, hv1, hv2, hv3⟩ := sub_at h kj.2 h2
  have hm : kidN a p 1 (i + 1) ≤ kidN a p 1 j := kidN_mono (by omega)
  have hs : kidN a p 1 (i + 1) = kidN a p 1 i + sz a p (kidN a p 1 i) := rfl
  refine hl _ hv2 (by omega) ?_
  rw [hv3, ← hu3]
  exact take_at (by omega) hu2
theorem lin_kids {a p : List Int} (h : termOk a p = true) (hl : LinP p p.length) {n : Int} (hn : n < 0) {i j : Nat} (hi : i < arK a p 0) (hj : j < arK a p 0) (h1 : n ∈ kidT a p i) (h2 : n ∈ kidT a p j) : i = j := by
  rcases Nat.lt_trichotomy i j with e | e | e
  · exact (lin_lt h hl hn e hj h1 h2).elim
  · exact e
  · exact (lin_lt h hl hn e hi h2 h1).elim
theorem inst_split {a p u : List Int} (hp : termOk a p = true) (hl : LinP p p.length) (h0 : 0 ≤ p.getD 0 0) (hu : termOk a u = true) : instOf a p u = true ↔ p.getD 0 0 = u.getD 0 0 ∧ ∀ i, i < arK a p 0 → instOf a (kidT a p i) (kidT a u i) = true := by
  rw [inst_iff hp hu]
  have ep := kids_all hp
  have eu := kids_all hu
  have hfm : ∀ σ, Sb a σ → fm σ p = p.getD 0 0 :: ((kidsT a p (arK a p 0)).map (fm σ)).flatten := fun σ hσ => by
    conv => lhs; rw [ep]
    rw [fm_cons, hσ.pos _ h0, fm_flat]; rfl
  constructor
  · rintro ⟨σ, hσ, h⟩
    rw [hfm σ hσ, eu] at h
    injection h with h1 h2
    have hA : arK a u 0 = arK a p 0 := by unfold arK; rw [h1]
    rw [hA] at h2
    have h3 := flat_inj (a := a) (by simp [kidsT]) (fun x hx => by
      obtain ⟨y, hy, rfl⟩ := List.mem_map.1 hx
      exact hσ.fm (kidsT_tm hp y hy)) (fun y hy => kidsT_tm hu y (by rw [hA]; exact hy)) h2
    refine ⟨h1, fun i hi => ?_⟩
    rw [inst_iff (kidT_ok hp hi).1 (kidT_ok hu (by rw [hA]; exact hi)).1]
    refine ⟨σ, hσ, ?_⟩
    have h4 := congrArg (fun l => l[i]?) h3
    simp only [kidsT, List.getElem?_map, List.getElem?_range hi, Option.map_some] at h4
    exact Option.some.inj h4
  · rintro ⟨h1, h2⟩
    have hA : arK a u 0 = arK a p 0 := by unfold arK; rw [h1]
    have h3 : ∀ i, ∃ σ, i < arK a p 0 → Sb a σ ∧ fm σ (kidT a p i) = kidT a u i := fun i => by
      by_cases hi : i < arK a p 0
      · obtain ⟨σ, h4⟩ := (inst_iff (kidT_ok hp hi).1 (kidT_ok hu (by rw [hA]; exact hi)).1).1 (h2 i hi)
        exact ⟨σ, fun _ => h4⟩
      · exact ⟨fun n => [n], fun h => absurd h hi⟩
    let F : Nat → Int → List Int := fun i => (h3 i).choose
    have hF : ∀ i, i < arK a p 0 → Sb a (F i) ∧ fm (F i) (kidT a p i) = kidT a u i := fun i => (h3 i).choose_spec
    let σ : Int → List Int := fun n => @dite _ (n < 0 ∧ ∃ i, i < arK a p 0 ∧ n ∈ kidT a p i) (Classical.propDecidable _) (fun h => F h.2.choose n) (fun _ => [n])
    have hσ : Sb a σ := ⟨fun n hn => by simp only [σ]; rw [dif_neg (by omega)], fun n hn1 hn2 => by
      simp only [σ]
      split
      · rename_i h
        exact (hF _ h.2.choose_spec.1).1.tm n hn1 hn2
      · exact tm_var ⟨hn1, hn2⟩⟩
    refine ⟨σ, hσ, ?_⟩
    rw [hfm σ hσ]
    conv => rhs; rw [eu]
    rw [h1, hA]
    congr 2
    unfold kidsT
    rw [List.map_map]
    refine List.map_congr_left fun i hi => ?_
    have hi := List.mem_range.1 hi
    show fm σ (kidT a p i) = _
    rw [← (hF i hi).2]
    refine fm_congr fun n hn => ?_
    by_cases hn0 : n < 0
    · have hex : n < 0 ∧ ∃ i, i < arK a p 0 ∧ n ∈ kidT a p i := ⟨hn0, i, hi, hn⟩
      simp only [σ]
      rw [dif_pos hex]
      have := lin_kids hp hl hn0 hex.2.choose_spec.1 hi hex.2.choose_spec.2 hn
      rw [this]
    · rw [hσ.pos n (by omega), (hF i hi).1.pos n (by omega)]
theorem inst_var {a p u : List Int} (hp : termOk a p = true) (h0 : p.getD 0 0 < 0) (hu : termOk a u = true) : instOf a p u = true := by
  rw [inst_iff hp hu]
  have h1 : p = [p.getD 0 0] := by
    have h2 := termOk_len hp
    cases p with
    | nil => simp at h2
    | cons x xs =>
      have := tm_head (tm_ok hp) h0
      rw [this]; rfl
  obtain ⟨n, rfl⟩ : ∃ n, p = [n] := ⟨_, h1⟩
  exact ⟨one n u, sb_one h0 (tm_ok hu), by rw [fm_one, one_self]⟩
theorem ren_ren (v : List Int) : renOf (renOf v) = renOf v := by
  have := ren_map (rnF_rnm v)
  rw [← renOf_eq] at this
  exact this
theorem inst_ren {a v u : List Int} (hv : termOk a v = true) (hu : termOk a u = true) : instOf a (renOf v) u = true ↔ instOf a v u = true := by
  have hr := ren_okN hv
  have k1 : instanceIn a v (renOf v) = true := ren_inst hv hr (ren_ren v).symm
  have k2 : instanceIn a (renOf v) v = true := ren_inst hr hv (ren_ren v)
  rw [inst_iff hr hu, inst_iff hv hu]
  constructor
  · intro h
    exact (instanceIn_iff.1 (instanceIn_trans k1 (instanceIn_iff.2 ⟨hr, hu, h⟩))).2.2
  · intro h
    exact (instanceIn_iff.1 (instanceIn_trans k2 (instanceIn_iff.2 ⟨hv, hu, h⟩))).2.2
theorem lin_sub {a p : List Int} (h : termOk a p = true) (hl : LinP p p.length) {k : Nat} (hk : k < p.length) : LinP (subt a p k) (subt a p k).length := fun i hi h0 hm => by
  have h1 := subt_len h hk
  have h2 := (term_at h hk).2.2
  have hg : ∀ j, j < sz a p k → (subt a p k).getD j 0 = p.getD (k + j) 0 := fun j hj => by
    unfold subt
    rw [List.getD_eq_getElem?_getD, List.getElem?_take_of_lt hj, List.getElem?_drop, List.getD_eq_getElem?_getD]
  obtain ⟨j, hj, e⟩ := List.mem_take_iff_getElem.1 hm
  rw [hg i (by omega)] at h0 e
  refine hl (k + i) (by omega) h0 ?_
  have h3 : (subt a p k).getD j 0 = (subt a p k)[j]'(by omega) := by rw [List.getD_eq_getElem?_getD, List.getElem?_eq_getElem (by omega)]; rfl
  rw [← e, ← h3, hg j (by omega)]
  exact take_at (by omega) (by omega)
/-! ### Fitting is matching -/
/-- The shapes that a term has. -/
def shpU (a : List Int) (sh : List (List Int)) (u : List Int) : List Int := selN (fun j => instOf a (sh.getD j default) u) sh.length
theorem fit_inst {a v u : List Int} {sh args : List (List Int)} (hv : Closed a sh v) (hl : LinP v v.length) (h0 : 0 ≤ v.getD 0 0) (hu : termOk a u = true) (ha : ∀ i, i < arK a u 0 → args.getD i default = shpU a sh (kidT a u i)) : FitN a sh v (u.getD 0 0) args ↔ instOf a v u = true := by
  rw [inst_split hv.1 hl h0 hu]
  unfold FitN
  refine and_congr_right fun he => forall_congr' fun i => forall_congr' fun hi => ?_
  have hA : arK a u 0 = arK a v 0 := by unfold arK; rw [he]
  have hk := kidT_ok hv.1 hi
  have hku := kidT_ok hu (i := i) (by omega)
  have hr := ren_get (t := kidT a v i) (k := 0) (by omega)
  unfold FitK
  rw [ha i (by omega)]
  by_cases hn : (kidT a v i).getD 0 0 < 0
  · exact ⟨fun _ => inst_var hk.1 hn hku.1, fun _ => .inl (hr.1.2 hn)⟩
  · have hm := hv.2 i hi (by omega)
    have h3 := place_mem hm
    rw [← inst_ren hk.1 hku.1]
    constructor
    · rintro (h | h)
      · exact absurd (hr.1.1 h) hn
      · obtain ⟨j, h4, h5, h6⟩ := selN_mem.1 h
        have e : j = sh.idxOf (renOf (kidT a v i)) := by omega
        rw [e, h3.2.2] at h6
        exact h6
    · exact fun h => .inr (selN_mem.2 ⟨_, h3.2.1, h3.1, by rw [h3.2.2]; exact h⟩)
theorem fitN_ren {a v : List Int} {sh args : List (List Int)} {f : Int} (hv : termOk a v = true) (h0 : 0 ≤ v.getD 0 0) : FitN a sh (renOf v) f args ↔ FitN a sh v f args := by
  have hl := termOk_len hv
  have hh := (ren_get (t := v) (k := 0) (by omega)).2 h0
  unfold FitN
  rw [hh, arK_ren hv]
  refine and_congr_right fun he => forall_congr' fun i => forall_congr' fun hi => ?_
  have e : renOf (kidT a (renOf v) i) = renOf (kidT a v i) := by
    unfold kidT
    rw [kidN_ren hv, ren_sub hv]
  unfold FitK
  rw [e]
/-! ### Where the terms come -/
/-- Left sides and their shapes. -/
structure NSys (a : List Int) (ls sh : List (List Int)) : Prop where
  ok : ∀ l ∈ ls, termOk a l = true
  lin : ∀ l ∈ ls, LinP l l.length
  hd : ∀ l ∈ ls, 0 ≤ l.getD 0 0
  mem : ∀ s, s ∈ sh ↔ IsShape a ls s
theorem NSys.left {a u : List Int} {ls sh args : List (List Int)} (h : NSys a ls sh) (hu : termOk a u = true) (ha : ∀ i, i < arK a u 0 → args.getD i default = shpU a sh (kidT a u i)) {l : List Int} (hl : l ∈ ls) : FitN a sh l (u.getD 0 0) args ↔ instOf a l u = true :=
  fit_inst (left_closed (fun s hs => (h.mem s).2 hs) hl (h.ok l hl)) (h.lin l hl) (h.hd l hl) hu ha
theorem NSys.shape {a u : List Int} {ls sh args : List (List Int)} (h : NSys a ls sh) (hu : termOk a u = true) (ha : ∀ i, i < arK a u 0 → args.getD i default = shpU a sh (kidT a u i)) {s : List Int} (hs : s ∈ sh) : FitN a sh s (u.getD 0 0) args ↔ instOf a s u = true := by
  obtain ⟨l, hl, k, hk1, hk2, hk3, rfl⟩ := (h.mem s).1 hs
  have ht := h.ok l hl
  have hv := subt_ok ht hk2
  have h0 : 0 ≤ (subt a l k).getD 0 0 := by rw [hd_sub ht hk2]; exact hk3
  rw [fitN_ren hv h0, inst_ren hv hu]
  refine fit_inst ⟨hv, fun i hi hi0 => ?_⟩ (lin_sub ht (h.lin l hl) hk2) h0 hu ha
  rw [arK_sub ht hk2] at hi
  have h1 := kid_lt ht hk2 hi
  rw [kidT_sub ht hk2 hi] at hi0 ⊢
  rw [hd_sub ht h1.2] at hi0
  exact (h.mem _).2 ⟨l, hl, _, by omega, h1.2, hi0, rfl⟩
theorem NSys.im {a u : List Int} {ls sh args : List (List Int)} (h : NSys a ls sh) (hu : termOk a u = true) (ha : ∀ i, i < arK a u 0 → args.getD i default = shpU a sh (kidT a u i)) {f : Nat} (hf : u.getD 0 0 = (f : Int)) :
    ((∃ l ∈ ls, instOf a l u = true) → imN a sh ls f args = none) ∧ ((¬ ∃ l ∈ ls, instOf a l u = true) → imN a sh ls f args = some (shpU a sh u)) := by
  have hS : ShutN a sh ls f args ls.length ↔ ∃ l ∈ ls, instOf a l u = true := by
    rw [← hf]
    constructor
    · rintro ⟨i, hi, hF⟩
      exact ⟨_, getD_memD hi, (h.left hu ha (getD_memD hi)).1 hF⟩
    · rintro ⟨l, hl, hi⟩
      obtain ⟨i, hi', rfl⟩ := List.getElem_of_mem hl
      refine ⟨i, hi', ?_⟩
      rw [show ls.getD i default = ls[i] by rw [List.getD_eq_getElem?_getD, List.getElem?_eq_getElem hi']; rfl]
      exact (h.left hu ha hl).2 hi
  refine ⟨fun h1 => imN_no (hS.2 h1), fun h1 => ?_⟩
  rw [imN_yes (fun h2 => h1 (hS.1 h2))]
  congr 1
  unfold comesN shpU
  refine selN_congr _ fun j hj => ?_
  rw [Bool.eq_iff_iff, decC_iff, ← hf]
  exact h.shape hu ha (getD_memD hj)
/-- Some left side matches in the subterm at k. -/
def RedT (a t : List Int) (ls : List (List Int)) (k : Nat) : Prop := ∃ j, k ≤ j ∧ j < k + sz a t k ∧ ∃ l ∈ ls, instOf a l (subt a t j) = true
theorem redT_kids {a t : List Int} {ls : List (List Int)} (h : termOk a t = true) {k : Nat} (hk : k < t.length) : RedT a t ls k ↔ (∃ l ∈ ls, instOf a l (subt a t k) = true) ∨ ∃ i, i < arK a t k ∧ RedT a t ls (kidN a t (k + 1) i) := by
  have hf := kid_fin h hk
  have h1 := (term_at h hk).2
  constructor
  · rintro ⟨j, h2, h3, h4⟩
    by_cases e : j = k
    · subst e; exact .inl h4
    · obtain ⟨i, h5, h6, h7⟩ := kid_of (a := a) (t := t) (p := k + 1) (j := j) (by omega) (arK a t k) (by omega)
      exact .inr ⟨i, h5, j, h6, h7, h4⟩
  · rintro (h4 | ⟨i, hi, j, h2, h3, h4⟩)
    · exact ⟨k, Nat.le_refl _, by omega, h4⟩
    · have hki := kid_lt h hk hi
      have hm : kidN a t (k + 1) (i + 1) ≤ kidN a t (k + 1) (arK a t k) := kidN_mono (by omega)
      have hs : kidN a t (k + 1) (i + 1) = kidN a t (k + 1) i + sz a t (kidN a t (k + 1) i) := rfl
      exact ⟨j, by omega, by omega, h4⟩
theorem norm_core {a t : List Int} {ls sh sets : List (List Int)} (hN : NSys a ls sh) (ht : GrP a t) (hs : sigOk a = true) (hn : 0 < sets.length) (hr : rndG (imN a sh ls) a sets = sets) : ∀ (N k : Nat), k < t.length → t.length - k ≤ N →
    (RedT a t ls k → ∀ q, ¬ Rs a t (trSG (imN a sh ls) a sets a.length) k q) ∧ (¬ RedT a t ls k → shpU a sh (subt a t k) ∈ sets ∧ ∀ q, Rs a t (trSG (imN a sh ls) a sets a.length) k q ↔ q = placeOf sets (shpU a sh (subt a t k)))
  | 0, k, hk, hl => by omega
  | N + 1, k, hk, hl => by
    have hto := ht.1
    have hg := gr_sym ht hk
    have hu := subt_ok hto hk
    obtain ⟨f, hf⟩ : ∃ f : Nat, t.getD k 0 = (f : Int) := ⟨(t.getD k 0).toNat, by omega⟩
    have hfl : f < a.length := by have := hg.2.1; omega
    have hA : arK a t k = arN a f := by have := hg.2.2; rw [hf] at this; simpa using this
    have ih : ∀ i, i < arK a t k → _ := fun i hi => norm_core hN ht hs hn hr N (kidN a t (k + 1) i) (kid_lt hto hk hi).2 (by have := kid_lt hto hk hi; omega)
    by_cases hkids : ∃ i, i < arK a t k ∧ RedT a t ls (kidN a t (k + 1) i)
    · refine ⟨fun _ q hq => ?_, fun h => absurd ((redT_kids hto hk).2 (.inr hkids)) h⟩
      obtain ⟨i, hi, hred⟩ := hkids
      obtain ⟨r, hr1, hr2, hr3, _⟩ := rs_inv hq
      exact (ih i hi).1 hred _ (hr3 i hi)
    have hnk : ∀ i, i < arK a t k → shpU a sh (subt a t (kidN a t (k + 1) i)) ∈ sets ∧ ∀ q, Rs a t (trSG (imN a sh ls) a sets a.length) (kidN a t (k + 1) i) q ↔ q = placeOf sets (shpU a sh (subt a t (kidN a t (k + 1) i))) := fun i hi => (ih i hi).2 fun h => hkids ⟨i, hi, h⟩
    obtain ⟨l, hll, hlg⟩ : ∃ l : List Int, l.length = arN a f ∧ ∀ i, i < arN a f → l.getD i 0 = placeOf sets (shpU a sh (subt a t (kidN a t (k + 1) i))) :=
      ⟨(List.range (arN a f)).map fun i => placeOf sets (shpU a sh (subt a t (kidN a t (k + 1) i))), by simp, fun i hi => by rw [List.getD_eq_getElem?_getD, List.getElem?_map, List.getElem?_range hi]; rfl⟩
    have hlin : ∀ q ∈ l, 0 ≤ q ∧ q < sets.length := fun q hq => by
      obtain ⟨i, hi, rfl⟩ := List.getElem_of_mem hq
      have h2 := hlg i (by omega)
      have h3 := place_mem (hnk i (by omega)).1
      rw [List.getD_eq_getElem?_getD, List.getElem?_eq_getElem hi] at h2
      simp only [Option.getD_some] at h2
      omega
    have harg : ∀ i, i < arK a (subt a t k) 0 → (listed sets l).getD i default = shpU a sh (kidT a (subt a t k) i) := fun i hi => by
      rw [arK_sub hto hk] at hi
      have h3 := place_mem (hnk i hi).1
      rw [listed_get (by omega), hlg i (by omega), h3.1, Int.toNat_natCast, h3.2.2, kidT_sub hto hk hi]
    have him := hN.im hu harg (f := f) (by rw [hd_sub hto hk]; exact hf)
    obtain ⟨m, hm, hdm⟩ := dig_sur hn l hlin
    rw [hll] at hm hdm
    -- what a rule that leads on looks like
    have hrule : ∀ q, Rs a t (trSG (imN a sh ls) a sets a.length) k q → ∃ s, imN a sh ls f (listed sets l) = some s ∧ q = placeOf sets s := fun q hq => by
      obtain ⟨r, hr1, hr2, hr3, rfl⟩ := rs_inv hq
      obtain ⟨f', i, s, g1, g2, g3, rfl⟩ := trSG_mem.1 hr1
      obtain rfl : f' = f := by
        have : (f' : Int) = t.getD k 0 := hr2
        omega
      have hda : dig sets.length (arN a f') i = l := by
        apply List.ext_getElem (by rw [dig_len]; omega)
        intro j h3 h4
        have h5 := ((hnk j (by omega)).2 _).1 (hr3 j (by omega))
        simp only at h5
        rw [← hlg j (by omega)] at h5
        rw [List.getD_eq_getElem?_getD, List.getElem?_eq_getElem h3, List.getD_eq_getElem?_getD, List.getElem?_eq_getElem h4] at h5
        exact h5
      rw [hda] at g3
      exact ⟨s, g3, rfl⟩
    by_cases hroot : ∃ l ∈ ls, instOf a l (subt a t k) = true
    · refine ⟨fun _ q hq => ?_, fun h => absurd ((redT_kids hto hk).2 (.inl hroot)) h⟩
      obtain ⟨s, h1, _⟩ := hrule q hq
      rw [him.1 hroot] at h1
      cases h1
    · refine ⟨fun h => ?_, fun _ => ?_⟩
      · rcases (redT_kids hto hk).1 h with h1 | h1
        · exact absurd h1 hroot
        · exact absurd h1 hkids
      have hsome := him.2 hroot
      have g3 : imN a sh ls f (listed sets (dig sets.length (arN a f) m)) = some (shpU a sh (subt a t k)) := by rw [hdm]; exact hsome
      have hmem : shpU a sh (subt a t k) ∈ sets := by
        have h4 := (rowG_rnd (im := imN a sh ls) (ar := a) (sets := sets) hfl (i := m + 1) (by omega)).subset (rowG_mem g3)
        rwa [hr] at h4
      refine ⟨hmem, fun q => ⟨fun hq => ?_, ?_⟩⟩
      · obtain ⟨s, h1, h2⟩ := hrule q hq
        rw [hsome] at h1
        injection h1 with h1
        rw [h2, h1]
      · rintro rfl
        refine rs_mk (r := ((f : Int), dig sets.length (arN a f) m, placeOf sets (shpU a sh (subt a t k)))) (trSG_mem.2 ⟨f, m, _, hfl, hm, g3, rfl⟩) hf.symm fun i hi => ?_
        simp only
        rw [hdm, hlg i (by omega)]
        exact ((hnk i hi).2 _).2 rfl
/-! ### The automaton -/
theorem nsys_of {x : SSystem} (h : LlP x) : NSys x.1 (leftsL x) (shapesOf x.1 (leftsL x)) := by
  have hS := shpF_of (lsC_of h)
  refine ⟨lefts_ok h, fun l hl => ?_, fun l hl => ?_, hS.shp.mem⟩
  · obtain ⟨k, hk, rfl⟩ := List.getElem_of_mem hl
    have hk' := hk
    rw [leftsL_len] at hk'
    have e := leftsL_get hk'
    rw [List.getD_eq_getElem?_getD, List.getElem?_eq_getElem hk] at e
    have e' : (leftsL x)[k] = (x.2.getD k default).1 := e
    rw [e']
    exact h.2 k hk'
  · obtain ⟨k, hk, rfl⟩ := List.getElem_of_mem hl
    have hk' := hk
    rw [leftsL_len] at hk'
    have e := leftsL_get hk'
    rw [List.getD_eq_getElem?_getD, List.getElem?_eq_getElem hk] at e
    have e' : (leftsL x)[k] = (x.2.getD k default).1 := e
    rw [e']
    exact (sys_leftN h.1 hk').2
theorem norm_rs {x : SSystem} {y : SAuto} {t : List Int} (h : normA x = some y) (ht : GrP x.1 t) : (∃ q, Rs x.1 t y.2.1 0 q) ↔ normalIn x t = true := by
  have hL : LlP x := by
    by_cases hL : LlP x
    · exact hL
    · rw [norm_no hL] at h; cases h
  rw [norm_yes hL] at h
  have hs := (sysOk_iff.1 hL.1).1.1
  unfold autG at h
  split at h
  · cases h
  · rename_i sets hf
    split at h
    · injection h with h
      subst h
      obtain ⟨⟨h1, h2⟩, hnd, hr⟩ := fixG_some 17 [] (by simp) List.nodup_nil sets hf
      have hrs := (pre_same (rndG_pre (imN x.1 (shapesOf x.1 (leftsL x)) (leftsL x)) x.1 sets) (by omega)).symm
      have hto := ht.1
      have hc := norm_core (nsys_of hL) ht hs (by omega) hrs t.length 0 (gr_pos ht) (by omega)
      have hsz : sz x.1 t 0 = t.length := by unfold sz; rw [List.drop_zero, (termOk_iff.1 hto).2.2.2]
      have hred : RedT x.1 t (leftsL x) 0 ↔ ¬ NoRed x t t.length := by
        constructor
        · rintro ⟨j, _, hj, l, hl, hi⟩ hn
          obtain ⟨k, hk, rfl⟩ := List.getElem_of_mem hl
          have hk' := hk
          rw [leftsL_len] at hk'
          have e := leftsL_get hk'
          rw [List.getD_eq_getElem?_getD, List.getElem?_eq_getElem hk] at e
          have e' : (leftsL x)[k] = (x.2.getD k default).1 := e
          rw [e'] at hi
          have h5 := hn j (by omega) k hk'
          unfold redN at h5
          unfold instOf at hi
          rw [h5] at hi
          cases hi
        · intro hn
          refine Classical.byContradiction fun hno => hn fun j hj k hk => ?_
          cases hb : redN x t j k with
          | false => rfl
          | true =>
            refine absurd ⟨j, Nat.zero_le _, by omega, (x.2.getD k default).1, ?_, hb⟩ hno
            rw [← leftsL_get hk]
            exact getD_memD (by rw [leftsL_len]; exact hk)
      unfold normalIn
      rw [hL.1, hto, Bool.true_and, Bool.true_and, decide_eq_true_iff]
      by_cases hn : NoRed x t t.length
      · exact ⟨fun _ => hn, fun _ => ⟨_, ((hc.2 (fun h => hred.1 h hn)).2 _).2 rfl⟩⟩
      · exact ⟨fun ⟨q, hq⟩ => absurd hq (hc.1 (hred.2 hn) q), fun h => absurd h hn⟩
    · cases h
theorem norm_fin {x : SSystem} {y : SAuto} (h : normA x = some y) : ∃ n : Nat, y.1 = (n : Int) ∧ y.2.2 = upTo n := by
  have hL : LlP x := by
    by_cases hL : LlP x
    · exact hL
    · rw [norm_no hL] at h; cases h
  rw [norm_yes hL] at h
  unfold autG at h
  split at h
  · cases h
  · split at h
    · injection h with h
      subst h
      exact ⟨_, rfl, rfl⟩
    · cases h
theorem norm_auto {x : SSystem} {y : SAuto} (h : normA x = some y) : AutoP x.1 y := by
  have hL : LlP x := by
    by_cases hL : LlP x
    · exact hL
    · rw [norm_no hL] at h; cases h
  rw [norm_yes hL] at h
  exact autG_auto (sysOk_iff.1 hL.1).1.1 h
theorem upTo_mem {n : Nat} {q : Int} (h0 : 0 ≤ q) (h : q < n) : q ∈ upTo n := by
  unfold upTo
  refine List.mem_map.2 ⟨q.toNat, List.mem_range.2 (by omega), ?_⟩
  show ((q.toNat : Nat) : Int) = q
  omega
theorem norm_acc {x : SSystem} {y : SAuto} {t : List Int} (h : normA x = some y) (ht : GrP x.1 t) : accN x.1 y t = normalIn x t := by
  have ha := norm_auto h
  obtain ⟨n, e1, e2⟩ := norm_fin h
  rw [Bool.eq_iff_iff, acc_iff ha ht, ← norm_rs h ht]
  constructor
  · rintro ⟨q, h1, _⟩; exact ⟨q, h1⟩
  · rintro ⟨q, h1⟩
    refine ⟨q, h1, ?_⟩
    obtain ⟨r, hr, _, _, rfl⟩ := rs_inv h1
    have := (auto_tr ha hr).2.2.2
    rw [e2]
    exact upTo_mem this.1 (by omega)
end Go.Proofs.YtbbdjjlnachnlaaGreatDoor
