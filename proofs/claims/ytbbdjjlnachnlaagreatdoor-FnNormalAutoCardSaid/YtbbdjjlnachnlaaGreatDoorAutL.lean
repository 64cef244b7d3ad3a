/- The languages of automata, plain: product, union, the sure automaton and its complement. -/
import Derived.Test.YtbbdjjlnachnlaaGreatDoorDraw6
import Derived.Test.YtbbdjjlnachnlaaGreatDoorSureIn
namespace Go.Proofs.YtbbdjjlnachnlaaGreatDoor
open Go Go.Eng
set_option linter.unusedVariables false
set_option linter.unusedSimpArgs false
/-! ### Reaching, by membership -/
theorem rs_mk {a t : List Int} {rs : List STrans} {k : Nat} {r : STrans} (hr : r ∈ rs) (hs : r.1 = t.getD k 0) (h : ∀ i, i < arK a t k → Rs a t rs (kidN a t (k + 1) i) (r.2.1.getD i 0)) : Rs a t rs k r.2.2 := by
  obtain ⟨j, hj, rfl⟩ := List.getElem_of_mem hr
  have e : rs.getD j default = rs[j] := by rw [List.getD_eq_getElem?_getD, List.getElem?_eq_getElem hj]; rfl
  rw [← e]
  exact Rs.mk k j hj (by rw [e]; exact hs) (by rw [e]; exact h)
theorem rs_inv {a t : List Int} {rs : List STrans} {k : Nat} {q : Int} (h : Rs a t rs k q) : ∃ r ∈ rs, r.1 = t.getD k 0 ∧ (∀ i, i < arK a t k → Rs a t rs (kidN a t (k + 1) i) (r.2.1.getD i 0)) ∧ q = r.2.2 := by
  cases h with
  | mk k j hj hs h => exact ⟨_, getT hj, hs, h, rfl⟩
theorem auto_tr {a : List Int} {x : SAuto} (h : AutoP a x) {r : STrans} (hr : r ∈ x.2.1) : TransP a x.1 r := by
  obtain ⟨j, hj, rfl⟩ := List.getElem_of_mem hr
  have h1 := (h.2.2.2.2 j hj).1
  rw [List.getD_eq_getElem?_getD, List.getElem?_eq_getElem hj] at h1
  exact h1
/-! ### Acceptance -/
noncomputable def accN (a : List Int) (x : SAuto) (t : List Int) : Bool := meets (statesOf a x t) x.2.2
theorem meets_iff {a b : List Int} : meets a b = true ↔ ∃ q, q ∈ a ∧ q ∈ b := by
  unfold meets
  rw [List.any_eq_true]
  exact ⟨fun ⟨q, h1, h2⟩ => ⟨q, h1, of_decide_eq_true h2⟩, fun ⟨q, h1, h2⟩ => ⟨q, h1, decide_eq_true h2⟩⟩
theorem acc_iff {a : List Int} {x : SAuto} {t : List Int} (h : AutoP a x) (ht : GrP a t) : accN a x t = true ↔ ∃ q, Rs a t x.2.1 0 q ∧ q ∈ x.2.2 := by
  unfold accN
  rw [meets_iff, st_yes h ht]
  exact exists_congr fun q => and_congr_left fun _ => pL_mem fun q hq => rs_in (inS_of h) hq
theorem acc_no {a : List Int} {x : SAuto} {t : List Int} (h : ¬ (AutoP a x ∧ GrP a t)) : accN a x t = false := by
  unfold accN
  rw [st_no h]; rfl
/-! ### The product -/
/-! ### The union -/
/-- Rules are well formed and no two alike. -/
theorem rulesP_of {ar : List Int} {n : Int} {rs : List STrans} (h : ∀ r ∈ rs, TransP ar n r) (hn : rs.Nodup) : RulesP ar n rs rs.length := fun i hi => by
  refine ⟨h _ (getT hi), fun k hk e => ?_⟩
  rw [List.getD_eq_getElem?_getD, List.getElem?_eq_getElem (by omega), List.getD_eq_getElem?_getD, List.getElem?_eq_getElem hi] at e
  exact absurd ((List.getElem_inj hn).1 e) (by omega)
/-! ### The sure automaton -/
theorem dig_sur {n : Nat} (hn : 0 < n) : ∀ (l : List Int), (∀ q ∈ l, 0 ≤ q ∧ q < n) → ∃ i, i < n ^ l.length ∧ dig n l.length i = l := by
  intro l
  induction h : l.length generalizing l with
  | zero => intro _; exact ⟨0, by simp, by rw [List.length_eq_zero_iff.1 h]; rfl⟩
  | succ k ih =>
    intro hl
    have hne : l ≠ [] := fun e => by rw [e] at h; cases h
    have hd := List.dropLast_concat_getLast hne
    have hdl : l.dropLast.length = k := by rw [List.length_dropLast]; omega
    obtain ⟨i, hi, he⟩ := ih l.dropLast hdl fun q hq => hl q (List.dropLast_subset _ hq)
    have hg := hl _ (List.getLast_mem hne)
    refine ⟨i * n + (l.getLast hne).toNat, ?_, ?_⟩
    · have : (i + 1) * n ≤ n ^ k * n := Nat.mul_le_mul_right _ hi
      rw [Nat.add_mul, Nat.one_mul] at this
      rw [Nat.pow_succ]
      omega
    · unfold dig
      have e1 : (i * n + (l.getLast hne).toNat) / n = i := by
        rw [Nat.add_comm, Nat.add_mul_div_right _ _ hn, Nat.div_eq_of_lt (by omega)]; omega
      have e2 : (i * n + (l.getLast hne).toNat) % n = (l.getLast hne).toNat := by
        rw [Nat.add_comm, Nat.add_mul_mod_self_right, Nat.mod_eq_of_lt (by omega)]
      rw [e1, e2, he, show (((l.getLast hne).toNat : Nat) : Int) = l.getLast hne by omega]
      exact hd
theorem dig_inj {n : Nat} (hn : 0 < n) : ∀ k i j, i < n ^ k → j < n ^ k → dig n k i = dig n k j → i = j
  | 0, i, j, hi, hj, _ => by rw [Nat.pow_zero] at hi hj; omega
  | k + 1, i, j, hi, hj, h => by
    unfold dig at h
    have h1 := List.append_inj' h rfl
    have h2 : ((i % n : Nat) : Int) = ((j % n : Nat) : Int) := by simpa using h1.2
    rw [Nat.pow_succ] at hi hj
    have h3 := dig_inj hn k (i / n) (j / n) ((Nat.div_lt_iff_lt_mul hn).2 hi) ((Nat.div_lt_iff_lt_mul hn).2 hj) h1.1
    have e1 := Nat.div_add_mod i n
    have e2 := Nat.div_add_mod j n
    rw [h3] at e1
    omega
theorem trR_mem {rs : List STrans} {ar : List Int} {sets : List (List Int)} {f : Nat} {out : List STrans} {t : STrans} : ∀ {m}, t ∈ trR rs ar sets f out m ↔ t ∈ out ∨ ∃ i, i < m ∧ t = ((f : Int), dig sets.length (arN ar f) i, toOf rs ar sets f i)
  | 0 => by simp [trR]
  | m + 1 => by
    unfold trR
    rw [List.mem_append, trR_mem, List.mem_singleton]
    constructor
    · rintro ((h | ⟨i, hi, rfl⟩) | rfl)
      · exact .inl h
      · exact .inr ⟨i, by omega, rfl⟩
      · exact .inr ⟨m, by omega, rfl⟩
    · rintro (h | ⟨i, hi, rfl⟩)
      · exact .inl (.inl h)
      · by_cases e : i = m
        · subst e; exact .inr rfl
        · exact .inl (.inr ⟨i, by omega, rfl⟩)
theorem trS_mem {rs : List STrans} {ar : List Int} {sets : List (List Int)} {t : STrans} : ∀ {m}, t ∈ trS rs ar sets m ↔ ∃ f i, f < m ∧ i < sets.length ^ arN ar f ∧ t = ((f : Int), dig sets.length (arN ar f) i, toOf rs ar sets f i)
  | 0 => by simp [trS]
  | m + 1 => by
    unfold trS
    rw [trR_mem, trS_mem]
    constructor
    · rintro (⟨f, i, h1, h2, rfl⟩ | ⟨i, hi, rfl⟩)
      · exact ⟨f, i, by omega, h2, rfl⟩
      · exact ⟨m, i, by omega, hi, rfl⟩
    · rintro ⟨f, i, h1, h2, rfl⟩
      by_cases e : f = m
      · subst e; exact .inr ⟨i, h2, rfl⟩
      · exact .inl ⟨f, i, by omega, h2, rfl⟩
/-- Each list stands once. -/
theorem trS_sure {rs : List STrans} {ar : List Int} {sets : List (List Int)} (hn : 0 < sets.length) : ∀ m, (trS rs ar sets m).Pairwise fun s t => ¬ FrT s t
  | 0 => List.Pairwise.nil
  | m + 1 => by
    unfold trS
    have h0 := trS_sure (rs := rs) (ar := ar) hn m
    have key : ∀ j, j ≤ sets.length ^ arN ar m → (trR rs ar sets m (trS rs ar sets m) j).Pairwise fun s t => ¬ FrT s t := by
      intro j
      induction j with
      | zero => exact fun _ => h0
      | succ j ih =>
        intro hj
        unfold trR
        rw [List.pairwise_append]
        refine ⟨ih (by omega), List.pairwise_singleton _ _, fun s hs t ht => ?_⟩
        rw [List.mem_singleton] at ht
        subst ht
        rintro ⟨e1, e2⟩
        rcases trR_mem.1 hs with h | ⟨i, hi, rfl⟩
        · obtain ⟨f, i, h1, h2, rfl⟩ := trS_mem.1 h
          simp only at e1
          omega
        · have := dig_inj hn _ _ _ (show i < sets.length ^ arN ar m by omega) (show j < sets.length ^ arN ar m by omega) e2
          omega
    exact key _ (Nat.le_refl _)
theorem sure_nd {rs : List STrans} (h : rs.Pairwise fun s t => ¬ FrT s t) : rs.Nodup := by
  rw [List.nodup_iff_pairwise_ne]
  exact h.imp fun hf e => hf (by rw [e]; exact ⟨rfl, rfl⟩)
/-- All images stand among the sets. -/
def ClosedS (rs : List STrans) (ar : List Int) (sets : List (List Int)) : Prop := ∀ f i, f < ar.length → i < sets.length ^ arN ar f → imgL rs f (listed sets (dig sets.length (arN ar f) i)) ∈ sets
theorem addNew_mem (out : List (List Int)) (s : List Int) : s ∈ addNew out s := by
  unfold addNew; split
  · assumption
  · simp
theorem closed_of {rs : List STrans} {ar : List Int} {sets : List (List Int)} (h : (rndS rs ar sets).length = sets.length) : ClosedS rs ar sets := fun f i hf hi => by
  have h1 := row_rnd (rs := rs) (sets := sets) hf (i := i + 1) (by omega)
  have h2 := h1.subset (addNew_mem _ _)
  rw [← (rndS_pre rs ar sets).eq_of_length h.symm] at h2
  exact h2
theorem fixS_cl {rs : List STrans} {ar : List Int} : ∀ (k : Nat) (s t : List (List Int)), fixS rs ar k s = some t → ClosedS rs ar t ∧ (s.Nodup → t.Nodup)
  | 0, s, t, h => by cases h
  | k + 1, s, t, h => by
    unfold fixS at h
    split at h
    · cases h
    · split at h
      · split at h
        · cases h
        · injection h with h
          subst h
          exact ⟨closed_of ‹_›, id⟩
      · have h1 := fixS_cl k _ t h
        refine ⟨h1.1, fun hn => h1.2 ?_⟩
        have hrow : ∀ f out, out.Nodup → ∀ i, (rowS rs ar s f out i).Nodup := fun f out ho i => by
          induction i with
          | zero => exact ho
          | succ i ih =>
            unfold rowS addNew
            split
            · exact ih
            · rw [List.nodup_append]
              exact ⟨ih, by simp, fun a ha b hb e => by rw [List.mem_singleton] at hb; subst hb; subst e; exact absurd ha ‹_›⟩
        have hsym : ∀ f, (symS rs ar s f).Nodup := fun f => by
          induction f with
          | zero => exact hn
          | succ f ih => exact hrow _ _ ih _
        exact hsym _
theorem place_mem {sets : List (List Int)} {s : List Int} (h : s ∈ sets) : placeOf sets s = ((sets.idxOf s : Nat) : Int) ∧ sets.idxOf s < sets.length ∧ sets.getD (sets.idxOf s) default = s := by
  have hl := List.idxOf_lt_length_of_mem h
  refine ⟨by unfold placeOf; rw [if_pos h], hl, ?_⟩
  rw [List.getD_eq_getElem?_getD, List.getElem?_eq_getElem hl]
  exact List.getElem_idxOf hl
theorem gr_sym {a t : List Int} (h : GrP a t) {k : Nat} (hk : k < t.length) : 0 ≤ t.getD k 0 ∧ (t.getD k 0).toNat < a.length ∧ arK a t k = arN a (t.getD k 0).toNat := by
  have h1 := h.2 k hk
  have h2 := (termOk_get h.1 hk).2
  refine ⟨h1, by omega, ?_⟩
  unfold arK arN ar
  rw [if_neg (by omega)]
/-- Where a ground term comes. -/
noncomputable def setK (a t : List Int) (rs : List STrans) (k : Nat) : List Int := pL (Rs a t rs k)
theorem setK_mem {a t : List Int} {rs : List STrans} (hi : InS rs) {k : Nat} {q : Int} : q ∈ setK a t rs k ↔ Rs a t rs k q := pL_mem fun q hq => rs_in hi hq
theorem listed_get {sets : List (List Int)} {l : List Int} {i : Nat} (h : i < l.length) : (listed sets l).getD i default = sets.getD (l.getD i 0).toNat default := by
  unfold listed
  rw [List.getD_eq_getElem?_getD, List.getElem?_map, List.getElem?_eq_getElem h, List.getD_eq_getElem?_getD (l := l), List.getElem?_eq_getElem h]; rfl
/-- The image of the arguments' sets is the set. -/
theorem img_setK {a t : List Int} {rs : List STrans} (hi : InS rs) {k : Nat} {sets : List (List Int)} {l : List Int} (hl : l.length = arK a t k) (h : ∀ i, i < arK a t k → sets.getD (l.getD i 0).toNat default = setK a t rs (kidN a t (k + 1) i)) : imgL rs (t.getD k 0) (listed sets l) = setK a t rs k := by
  unfold imgL
  show pL _ = pL _
  congr 1
  funext q
  rw [listed_len, hl]
  refine propext (rs_img (fun i hi' q => ?_) q)
  unfold InL
  rw [listed_get (by omega), h i hi']
  exact setK_mem hi
theorem sure_rs {a t : List Int} {rs : List STrans} (hi : InS rs) {sets : List (List Int)} (hn : 0 < sets.length) (hcl : ClosedS rs a sets) (ht : GrP a t) : ∀ d k, k < t.length → t.length - k ≤ d → setK a t rs k ∈ sets ∧ ∀ n, Rs a t (allT rs a sets) k n ↔ n = placeOf sets (setK a t rs k)
  | 0, k, hk, hd => by omega
  | d + 1, k, hk, hd => by
    have hkid : ∀ i, i < arK a t k → kidN a t (k + 1) i < t.length ∧ t.length - kidN a t (k + 1) i ≤ d := fun i hi' => by
      have := kid_lt ht.1 hk hi'
      omega
    have ih : ∀ i, i < arK a t k → _ := fun i hi' => sure_rs hi hn hcl ht d _ (hkid i hi').1 (hkid i hi').2
    obtain ⟨g1, g2, g3⟩ := gr_sym ht hk
    obtain ⟨f, hf⟩ : ∃ f : Nat, t.getD k 0 = (f : Int) := ⟨(t.getD k 0).toNat, by omega⟩
    rw [hf, Int.toNat_natCast] at g2 g3
    -- the places of the arguments' sets
    let l : List Int := (List.range (arK a t k)).map fun i => placeOf sets (setK a t rs (kidN a t (k + 1) i))
    have hll : l.length = arK a t k := by simp [l]
    have hlg : ∀ i, i < arK a t k → l.getD i 0 = placeOf sets (setK a t rs (kidN a t (k + 1) i)) := fun i hi' => by
      simp only [l]
      rw [List.getD_eq_getElem?_getD, List.getElem?_map, List.getElem?_range hi']; rfl
    have hset : ∀ i, i < arK a t k → sets.getD (l.getD i 0).toNat default = setK a t rs (kidN a t (k + 1) i) := fun i hi' => by
      have h1 := place_mem (ih i hi').1
      rw [hlg i hi', h1.1, Int.toNat_natCast]
      exact h1.2.2
    have hlin : ∀ q ∈ l, 0 ≤ q ∧ q < sets.length := fun q hq => by
      obtain ⟨i, h1, rfl⟩ := List.getElem_of_mem hq
      rw [hll] at h1
      have h2 := hlg i h1
      rw [List.getD_eq_getElem?_getD, List.getElem?_eq_getElem (by omega)] at h2
      have h3 := place_mem (ih i h1).1
      simp only [Option.getD_some] at h2
      omega
    have himg : imgL rs f (listed sets l) = setK a t rs k := by rw [← hf]; exact img_setK hi hll hset
    obtain ⟨m, hm, hdm⟩ := dig_sur hn l hlin
    rw [hll, g3] at hm hdm
    have hmem : setK a t rs k ∈ sets := by
      have := hcl f m g2 hm
      rw [hdm, himg] at this
      exact this
    refine ⟨hmem, fun n => ⟨fun h => ?_, ?_⟩⟩
    · obtain ⟨r, hr, hrs, hra, rfl⟩ := rs_inv h
      obtain ⟨f', i, h1, h2, rfl⟩ := trS_mem.1 hr
      have hff : f' = f := by
        have : (f' : Int) = t.getD k 0 := hrs
        omega
      subst hff
      have hdl := dig_len sets.length (arN a f') i
      have hda : dig sets.length (arN a f') i = l := by
        apply List.ext_getElem (by omega)
        intro j h3 h4
        have h5 := ((ih j (by omega)).2 _).1 (hra j (by omega))
        simp only at h5
        rw [← hlg j (by omega)] at h5
        rw [List.getD_eq_getElem?_getD, List.getElem?_eq_getElem h3, List.getD_eq_getElem?_getD, List.getElem?_eq_getElem h4] at h5
        exact h5
      show placeOf sets (imgL rs f' (listed sets (dig sets.length (arN a f') i))) = _
      rw [hda, himg]
    · rintro rfl
      have hr : ((f : Int), dig sets.length (arN a f) m, toOf rs a sets f m) ∈ allT rs a sets := trS_mem.2 ⟨f, m, g2, hm, rfl⟩
      have := rs_mk (k := k) (t := t) (a := a) hr hf.symm fun i hi' => by
        simp only
        rw [hdm, hlg i hi']
        exact ((ih i hi').2 _).2 rfl
      simp only [toOf] at this
      rw [hdm, himg] at this
      exact this
theorem finN_mem {sets : List (List Int)} {fs : List Int} {q : Int} : ∀ {m}, q ∈ finN sets fs m ↔ ∃ i, i < m ∧ q = (i : Int) ∧ meets (sets.getD i default) fs = true
  | 0 => by simp [finN]
  | m + 1 => by
    unfold finN
    rw [List.mem_append, finN_mem]
    constructor
    · rintro (⟨i, h1, h2, h3⟩ | h)
      · exact ⟨i, by omega, h2, h3⟩
      · split at h
        · rw [List.mem_singleton] at h; exact ⟨m, by omega, h, ‹_›⟩
        · cases h
    · rintro ⟨i, h1, h2, h3⟩
      by_cases e : i = m
      · subst e; exact .inr (by rw [if_pos h3, h2]; simp)
      · exact .inl ⟨i, by omega, h2, h3⟩
theorem finN_set {sets : List (List Int)} {fs : List Int} {n : Int} : ∀ m : Nat, (m : Int) ≤ n → (finN sets fs m).Pairwise (· < ·) ∧ ∀ q ∈ finN sets fs m, 0 ≤ q ∧ q < (m : Int)
  | 0, _ => ⟨List.Pairwise.nil, fun q h => by cases h⟩
  | m + 1, hm => by
    obtain ⟨h1, h2⟩ := finN_set (sets := sets) (fs := fs) (n := n) m (by omega)
    refine ⟨?_, fun q hq => ?_⟩
    · unfold finN
      rw [List.pairwise_append]
      refine ⟨h1, by split <;> simp, fun a ha b hb => ?_⟩
      split at hb
      · rw [List.mem_singleton] at hb; have := h2 a ha; omega
      · cases hb
    · obtain ⟨i, h3, h4, _⟩ := finN_mem.1 hq
      omega
theorem setP_of {n : Int} {xs : List Int} (h : xs.Pairwise (· < ·)) (hi : ∀ q ∈ xs, 0 ≤ q ∧ q < n) : SetP n xs xs.length := fun i hl => by
  refine ⟨hi _ (getK hl), fun h0 => ?_⟩
  have := (List.pairwise_iff_getElem.1 h) (i - 1) i (by omega) hl (by omega)
  rw [List.getD_eq_getElem?_getD, List.getElem?_eq_getElem (by omega), List.getD_eq_getElem?_getD, List.getElem?_eq_getElem hl]
  exact this
/-- The sure automaton, when there is one. -/
structure SureW (a : List Int) (x z : SAuto) (sets : List (List Int)) : Prop where
  au : AutoP a x
  ok : z = ((sets.length : Int), allT x.2.1 a sets, finN sets x.2.2 sets.length)
  n1 : 1 ≤ sets.length ∧ sets.length ≤ 16
  r3 : (allT x.2.1 a sets).length ≤ 300
  cl : ClosedS x.2.1 a sets
  nd : sets.Nodup
theorem sureOf_w {a : List Int} {x z : SAuto} (h : sureOf a x = some z) : ∃ sets, SureW a x z sets := by
  unfold sureOf at h
  split at h
  · rename_i hau
    split at h
    · cases h
    · rename_i sets hfx
      split at h
      · injection h with h
        exact ⟨sets, decC_iff.1 hau, h.symm, fixS_len 17 [] (by simp) _ hfx, ‹_›, (fixS_cl 17 [] _ hfx).1, (fixS_cl 17 [] _ hfx).2 List.nodup_nil⟩
      · cases h
  · cases h
theorem toOf_in {rs : List STrans} {a : List Int} {sets : List (List Int)} (h : ClosedS rs a sets) {f i : Nat} (hf : f < a.length) (hi : i < sets.length ^ arN a f) : 0 ≤ toOf rs a sets f i ∧ toOf rs a sets f i < sets.length := by
  have := place_mem (h f i hf hi)
  unfold toOf
  omega
theorem arN_eq {a : List Int} (h : sigOk a = true) {f : Nat} (hf : f < a.length) : a.getD f 0 = ((arN a f : Nat) : Int) ∧ arN a f ≤ 3 := by
  have := sig_el h hf
  unfold arN
  omega
theorem SureW.rules {a : List Int} {x z : SAuto} {sets : List (List Int)} (h : SureW a x z sets) : RulesP a sets.length (allT x.2.1 a sets) (allT x.2.1 a sets).length := by
  refine rulesP_of (fun r hr => ?_) (sure_nd (trS_sure (by have := h.n1; omega) _))
  obtain ⟨f, i, h1, h2, rfl⟩ := trS_mem.1 hr
  have h3 := arN_eq h.au.1 h1
  have h4 := toOf_in h.cl h1 h2
  refine ⟨⟨by simp only; omega, by simp only; omega⟩, ?_, fun j hj => ?_, h4⟩
  · simp only
    rw [dig_len, Int.toNat_natCast, h3.1]
  · exact dig_in (by have := h.n1; omega) _ _ _ (getK hj)
theorem SureW.auto {a : List Int} {x z : SAuto} {sets : List (List Int)} (h : SureW a x z sets) : AutoP a z := by
  have h1 := h.n1
  rw [h.ok]
  have h2 := finN_set (sets := sets) (fs := x.2.2) (n := sets.length) sets.length (Int.le_refl _)
  exact ⟨h.au.1, ⟨by simp only; omega, by simp only; omega⟩, h.r3, setP_of h2.1 h2.2, h.rules⟩
theorem gr_pos {a t : List Int} (h : GrP a t) : 0 < t.length := (termOk_len h.1).1
theorem SureW.acc {a t : List Int} {x z : SAuto} {sets : List (List Int)} (h : SureW a x z sets) (ht : GrP a t) : accN a z t = accN a x t := by
  have hz := h.auto
  rw [Bool.eq_iff_iff, acc_iff hz ht, acc_iff h.au ht]
  have hi := inS_of h.au
  obtain ⟨h1, h2⟩ := sure_rs hi (by have := h.n1; omega) h.cl ht t.length 0 (gr_pos ht) (by omega)
  have h3 := place_mem h1
  rw [h.ok]
  simp only
  constructor
  · rintro ⟨n, hn, hf⟩
    rw [h2] at hn
    subst hn
    obtain ⟨i, h4, h5, h6⟩ := finN_mem.1 hf
    have : i = sets.idxOf (setK a t x.2.1 0) := by omega
    subst this
    rw [h3.2.2, meets_iff] at h6
    obtain ⟨q, h7, h8⟩ := h6
    exact ⟨q, (setK_mem hi).1 h7, h8⟩
  · rintro ⟨q, h7, h8⟩
    refine ⟨_, (h2 _).2 rfl, finN_mem.2 ⟨_, h3.2.1, h3.1, ?_⟩⟩
    rw [h3.2.2, meets_iff]
    exact ⟨q, (setK_mem hi).2 h7, h8⟩
end Go.Proofs.YtbbdjjlnachnlaaGreatDoor
