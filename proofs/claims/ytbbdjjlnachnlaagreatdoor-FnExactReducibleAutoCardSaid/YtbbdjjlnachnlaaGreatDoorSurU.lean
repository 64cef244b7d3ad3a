/- The automaton of normal forms is an automaton. -/
import Derived.Test.YtbbdjjlnachnlaaGreatDoorSureIn
import Derived.Test.YtbbdjjlnachnlaaGreatDoorAutL
import Derived.Test.YtbbdjjlnachnlaaGreatDoorSetS
import Derived.Test.YtbbdjjlnachnlaaGreatDoorMap
namespace Go.Proofs.YtbbdjjlnachnlaaGreatDoor
open Go Go.Eng
set_option linter.unusedVariables false
set_option linter.unusedSimpArgs false
set_option maxRecDepth 20000
theorem trO_mem {f : Nat} {l : List Int} {all : List (List Int)} {o : Option (List Int)} {t : STrans} : t ∈ trO f l all o ↔ ∃ s, o = some s ∧ t = ((f : Int), l, placeOf all s) := by
  cases o with
  | none => simp [trO]
  | some s => simp [trO]
theorem trRG_mem {im : ImO} {ar : List Int} {sets : List (List Int)} {f : Nat} {out : List STrans} {t : STrans} : ∀ {m}, t ∈ trRG im ar sets f out m ↔ t ∈ out ∨ ∃ i s, i < m ∧ im f (listed sets (dig sets.length (arN ar f) i)) = some s ∧ t = ((f : Int), dig sets.length (arN ar f) i, placeOf sets s)
  | 0 => by simp [trRG]
  | m + 1 => by
    unfold trRG
    rw [List.mem_append, trRG_mem, trO_mem]
    constructor
    · rintro ((h | ⟨i, s, hi, he, rfl⟩) | ⟨s, he, rfl⟩)
      · exact .inl h
      · exact .inr ⟨i, s, by omega, he, rfl⟩
      · exact .inr ⟨m, s, by omega, he, rfl⟩
    · rintro (h | ⟨i, s, hi, he, rfl⟩)
      · exact .inl (.inl h)
      · by_cases e : i = m
        · subst e; exact .inr ⟨s, he, rfl⟩
        · exact .inl (.inr ⟨i, s, by omega, he, rfl⟩)
theorem trSG_mem {im : ImO} {ar : List Int} {sets : List (List Int)} {t : STrans} : ∀ {m}, t ∈ trSG im ar sets m ↔ ∃ f i s, f < m ∧ i < sets.length ^ arN ar f ∧ im f (listed sets (dig sets.length (arN ar f) i)) = some s ∧ t = ((f : Int), dig sets.length (arN ar f) i, placeOf sets s)
  | 0 => by simp [trSG]
  | m + 1 => by
    unfold trSG
    rw [trRG_mem, trSG_mem]
    constructor
    · rintro (⟨f, i, s, h1, h2, h3, rfl⟩ | ⟨i, s, hi, h3, rfl⟩)
      · exact ⟨f, i, s, by omega, h2, h3, rfl⟩
      · exact ⟨m, i, s, by omega, hi, h3, rfl⟩
    · rintro ⟨f, i, s, h1, h2, h3, rfl⟩
      by_cases e : f = m
      · subst e; exact .inr ⟨i, s, h2, h3, rfl⟩
      · exact .inl ⟨f, i, s, by omega, h2, h3, rfl⟩
theorem trSG_sure {im : ImO} {ar : List Int} {sets : List (List Int)} (hn : 0 < sets.length) : ∀ m, (trSG im ar sets m).Pairwise fun s t => ¬ FrT s t
  | 0 => List.Pairwise.nil
  | m + 1 => by
    unfold trSG
    have h0 := trSG_sure (im := im) (ar := ar) hn m
    have key : ∀ j, j ≤ sets.length ^ arN ar m → (trRG im ar sets m (trSG im ar sets m) j).Pairwise fun s t => ¬ FrT s t := by
      intro j
      induction j with
      | zero => exact fun _ => h0
      | succ j ih =>
        intro hj
        unfold trRG
        rw [List.pairwise_append]
        refine ⟨ih (by omega), ?_, fun s hs t ht => ?_⟩
        · cases im m (listed sets (dig sets.length (arN ar m) j)) with
          | none => exact List.Pairwise.nil
          | some s => exact List.pairwise_singleton _ _
        obtain ⟨s', _, rfl⟩ := trO_mem.1 ht
        rintro ⟨e1, e2⟩
        rcases trRG_mem.1 hs with h | ⟨i, _, hi, _, rfl⟩
        · obtain ⟨f, i, _, h1, h2, _, rfl⟩ := trSG_mem.1 h
          simp only at e1
          omega
        · have := dig_inj hn _ _ _ (show i < sets.length ^ arN ar m by omega) (show j < sets.length ^ arN ar m by omega) e2
          omega
    exact key _ (Nat.le_refl _)
theorem upTo_setP (n : Nat) : SetP (n : Int) (upTo n) (upTo n).length := fun i hi => by
  rw [upTo_len] at hi
  rw [upTo_get hi]
  refine ⟨by omega, fun h0 => ?_⟩
  rw [upTo_get (by omega)]; omega
theorem rowG_mem {im : ImO} {ar : List Int} {sets : List (List Int)} {f : Nat} {out : List (List Int)} {i : Nat} {s : List Int} (h : im f (listed sets (dig sets.length (arN ar f) i)) = some s) : s ∈ rowG im ar sets f out (i + 1) := by
  show s ∈ addO _ (im f _)
  rw [h]
  show s ∈ addNew _ s
  unfold addNew
  split
  · assumption
  · simp
theorem autG_auto {im : ImO} {ar : List Int} {y : SAuto} (hs : sigOk ar = true) (h : autG im ar = some y) : AutoP ar y := by
  unfold autG at h
  split at h
  · cases h
  · rename_i sets hf
    split at h
    · rename_i hl
      injection h with h
      subst h
      obtain ⟨⟨h1, h2⟩, hnd, hr⟩ := fixG_some 17 [] (by simp) List.nodup_nil sets hf
      have hrs : rndG im ar sets = sets := (pre_same (rndG_pre im ar sets) (by omega)).symm
      refine ⟨hs, ⟨by simp only; omega, by simp only; omega⟩, hl, upTo_setP _, ?_⟩
      refine rulesP_of (fun r hr => ?_) (sure_nd (trSG_sure (by omega) _))
      obtain ⟨f, i, s, g1, g2, g3, rfl⟩ := trSG_mem.1 hr
      have h3 := arN_eq hs g1
      have hm : s ∈ sets := by
        have h4 := (rowG_rnd (im := im) (ar := ar) (sets := sets) g1 (i := i + 1) (by omega)).subset (rowG_mem g3)
        rwa [hrs] at h4
      have h5 := List.idxOf_lt_length_of_mem hm
      have h6 : placeOf sets s = ((sets.idxOf s : Nat) : Int) := if_pos hm
      refine ⟨⟨by simp only; omega, by simp only; omega⟩, ?_, fun j hj => ?_, by simp only; rw [h6]; omega, by simp only; rw [h6]; omega⟩
      · simp only
        rw [dig_len, Int.toNat_natCast, h3.1]
      · exact dig_in (by omega) _ _ _ (getK hj)
    · cases h
end Go.Proofs.YtbbdjjlnachnlaaGreatDoor
namespace Go.Proofs.YtbbdjjlnachnlaaGreatDoor
open Go Go.Eng
set_option linter.unusedVariables false
set_option linter.unusedSimpArgs false
instance : DecidableEq U32 := fun a b => if h : a.n = b.n then .isTrue (by cases a; cases b; simp_all) else .isFalse (fun e => h (by rw [e]))
/-- A word as a list of states. -/
def stl (u : U32) : List Int := listN u.n 16
theorem mem_stl {u : U32} {q : Int} : q ∈ stl u ↔ 0 ≤ q ∧ q < 16 ∧ u.n.testBit q.toNat = true := by
  unfold stl listN
  rw [List.mem_map]
  constructor
  · rintro ⟨a, ha, rfl⟩
    rw [List.mem_filter, List.mem_range] at ha
    exact ⟨Int.natCast_nonneg a, by show ((a : Nat) : Int) < 16; have := ha.1; omega, ha.2⟩
  · rintro ⟨h1, h2, h3⟩
    exact ⟨q.toNat, by rw [List.mem_filter, List.mem_range]; exact ⟨by omega, h3⟩, by show ((q.toNat : Nat) : Int) = q; omega⟩
theorem stl_inj {u v : U32} (hu : u.n < 65536) (hv : v.n < 65536) (h : stl u = stl v) : u = v := by
  have e : u.n = v.n := by
    apply Nat.eq_of_testBit_eq
    intro i
    by_cases hi : i < 16
    · have h1 : ((i : Int) ∈ stl u) ↔ ((i : Int) ∈ stl v) := by rw [h]
      rw [mem_stl, mem_stl, Int.toNat_natCast] at h1
      have h2 : u.n.testBit i = true ↔ v.n.testBit i = true := ⟨fun h => (h1.1 ⟨by omega, by omega, h⟩).2.2, fun h => (h1.2 ⟨by omega, by omega, h⟩).2.2⟩
      cases h3 : u.n.testBit i <;> cases h4 : v.n.testBit i <;> simp_all
    · have hp : 2 ^ 16 ≤ 2 ^ i := Nat.pow_le_pow_right (by decide) (by omega)
      rw [Nat.testBit_lt_two_pow (Nat.lt_of_lt_of_le hu hp), Nat.testBit_lt_two_pow (Nat.lt_of_lt_of_le hv hp)]
  cases u; cases v; simp_all
/-- The words are the sets, each once. -/
structure RelU (ms : List U32) (sets : List (List Int)) : Prop where
  eq : sets = ms.map stl
  sm : ∀ u ∈ ms, u.n < 65536
  nd : ms.Nodup
theorem RelU.len {ms : List U32} {sets : List (List Int)} (h : RelU ms sets) : sets.length = ms.length := by rw [h.eq, List.length_map]
theorem RelU.mem {ms : List U32} {sets : List (List Int)} (h : RelU ms sets) {u : U32} (hu : u.n < 65536) : u ∈ ms ↔ stl u ∈ sets := by
  rw [h.eq, List.mem_map]
  constructor
  · exact fun hm => ⟨u, hm, rfl⟩
  · rintro ⟨v, hv, he⟩
    rw [← stl_inj (h.sm v hv) hu he]; exact hv
theorem idx_map {ms : List U32} (hs : ∀ u ∈ ms, u.n < 65536) {u : U32} (hu : u.n < 65536) : (ms.map stl).idxOf (stl u) = ms.idxOf u := by
  induction ms with
  | nil => rfl
  | cons v ms ih =>
    rw [List.map_cons, List.idxOf_cons, List.idxOf_cons, ih fun w hw => hs w (List.mem_cons_of_mem _ hw)]
    by_cases he : v = u
    · subst he; simp
    · have hne : ¬ stl v = stl u := fun h => he (stl_inj (hs v (List.mem_cons_self ..)) hu h)
      have e1 : (v == u) = false := by simpa using he
      have e2 : (stl v == stl u) = false := by simpa using hne
      rw [e1, e2]
theorem RelU.place {ms : List U32} {sets : List (List Int)} (h : RelU ms sets) {u : U32} (hu : u.n < 65536) : placeOf sets (stl u) = if u ∈ ms then ((ms.idxOf u : Nat) : Int) else -1 := by
  unfold placeOf
  by_cases hm : u ∈ ms
  · rw [if_pos hm, if_pos ((h.mem hu).1 hm), h.eq, idx_map h.sm hu]
  · rw [if_neg hm, if_neg fun h2 => hm ((h.mem hu).2 h2)]
theorem RelU.add {ms : List U32} {sets : List (List Int)} (h : RelU ms sets) {u : U32} (hu : u.n < 65536) : RelU (if u ∈ ms then ms else ms ++ [u]) (addNew sets (stl u)) := by
  unfold addNew
  by_cases hm : u ∈ ms
  · rw [if_pos hm, if_pos ((h.mem hu).1 hm)]; exact h
  · rw [if_neg hm, if_neg fun h2 => hm ((h.mem hu).2 h2)]
    refine ⟨by rw [h.eq, List.map_append]; rfl, fun v hv => ?_, ?_⟩
    · rcases List.mem_append.1 hv with hv | hv
      · exact h.sm v hv
      · rw [List.mem_singleton] at hv; rw [hv]; exact hu
    · rw [List.nodup_append]
      exact ⟨h.nd, by simp, fun a ha b hb e => by rw [List.mem_singleton] at hb; exact hm (by rw [← hb, ← e]; exact ha)⟩
theorem RelU.nil : RelU [] [] := ⟨rfl, fun _ h => absurd h (by simp), List.nodup_nil⟩
/-- The words that stand at these places. -/
def wds (ms : List U32) (l : List Int) : List U32 := l.map fun i => ms.getD i.toNat default
theorem wds_len (ms : List U32) (l : List Int) : (wds ms l).length = l.length := by unfold wds; simp
theorem wds_succ (ms : List U32) {l : List Int} {k : Nat} (h : k < l.length) : wds ms (l.take (k + 1)) = wds ms (l.take k) ++ [ms.getD (l.getD k 0).toNat default] := by
  unfold wds
  rw [List.take_succ_eq_append_getElem h, List.map_append, List.getD_eq_getElem?_getD (l := l), List.getElem?_eq_getElem h]; rfl
theorem wds_at {ms : List U32} {sets : List (List Int)} (h : RelU ms sets) {l : List Int} (hl : ∀ q ∈ l, 0 ≤ q ∧ q < ms.length) {i : Nat} (hi : i < l.length) : (wds ms l).getD i default ∈ ms ∧ (listed sets l).getD i default = stl ((wds ms l).getD i default) := by
  have hq := hl _ (List.getElem_mem hi)
  have h1 : (wds ms l).getD i default = ms.getD (l[i]).toNat default := by
    unfold wds
    rw [List.getD_eq_getElem?_getD, List.getElem?_map, List.getElem?_eq_getElem hi]; rfl
  have h2 : (listed sets l).getD i default = sets.getD (l[i]).toNat default := by
    unfold listed
    rw [List.getD_eq_getElem?_getD, List.getElem?_map, List.getElem?_eq_getElem hi]; rfl
  have hlt : (l[i]).toNat < ms.length := by omega
  rw [h1, h2, h.eq, List.getD_eq_getElem?_getD, List.getD_eq_getElem?_getD, List.getElem?_map, List.getElem?_eq_getElem hlt]
  exact ⟨List.getElem_mem hlt, rfl⟩
theorem wds_small {ms : List U32} {sets : List (List Int)} (h : RelU ms sets) {l : List Int} (hl : ∀ q ∈ l, 0 ≤ q ∧ q < ms.length) : Small (wds ms l) := fun i hi => by
  rw [wds_len] at hi
  exact h.sm _ (wds_at h hl hi).1
/-- The image, as a word and as a list. -/
theorem img_stl {ar : List Int} {x : SAuto} {f : Nat} (ha : ARi ar x f) {ms : List U32} {sets : List (List Int)} (h : RelU ms sets) {l : List Int} (hll : l.length = arN ar f) (hl : ∀ q ∈ l, 0 ≤ q ∧ q < ms.length) {s : Nat}
    (hs : ∀ i : Nat, s.testBit i = true ↔ Img x.2.1 x.2.1.length (f : Int) (InB (wds ms l)) (wds ms l).length (i : Int)) : stl ⟨s⟩ = imgL x.2.1 f (listed sets l) := by
  unfold stl imgL
  refine listN_pL fun i hi => (hs i).trans ?_
  have hin := (ha.img (sets := sets) hll).1
  have hlen := (ha.img (sets := sets) hll).2
  rw [listed_len] at hlen
  have key : ∀ j, j < x.2.1.length → (Fit (f : Int) (InB (wds ms l)) (wds ms l).length (x.2.1.getD j default) ↔ Fit (f : Int) (InL (listed sets l)) (listed sets l).length (x.2.1.getD j default)) := fun j hj => by
    rw [wds_len, listed_len]
    unfold Fit
    refine and_congr_right fun h1 => ?_
    have hal := hlen j hj h1
    refine forall_congr' fun i => forall_congr' fun hi => ?_
    unfold InB InL
    have hw := wds_at h hl hi
    rw [hw.2, mem_stl]
    have hr := (hin _ (getT hj)).1 _ (getK (show i < (x.2.1.getD j default).2.1.length by omega))
    exact ⟨fun h => ⟨hr.1, hr.2, h⟩, fun h => h.2.2⟩
  constructor
  · rintro ⟨j, hj, h1, h2⟩
    exact ⟨j, hj, (key j hj).1 h1, h2⟩
  · rintro ⟨j, hj, h1, h2⟩
    exact ⟨j, hj, (key j hj).2 h1, h2⟩
/-- Keys of 32 bits. -/
structure K32 where
  n : Nat
  deriving DecidableEq
instance ky32 : Ky K32 where
  dec := inferInstance
  v := fun q => .int .u32 (q.n : Int)
  l := fun q => .int .u32 (q.n : Int)
  ok := fun q => q.n < 4294967296
  inj := fun a b _ _ h => by
    simp only [Lit.int.injEq, true_and] at h
    cases a; cases b; simp only [K32.mk.injEq]; simp only at h; omega
class U32T (P : Program) (T : TypeId) : Prop where
  eq : P.underlying T = some (.int .u32)
instance {P : Program} {k : TypeId} [h : U32T P k] : KyP P k K32 := ⟨Maps.int_keyed h.eq, fun a ha => Maps.keyOf_int_mk h.eq (by
  have : a.n < 4294967296 := ha
  show (decide (IntKind.u32.min ≤ (a.n : Int)) && decide ((a.n : Int) ≤ IntKind.u32.max)) = true
  rw [decide_eq_true (show IntKind.u32.min ≤ (a.n : Int) by show (0 : Int) ≤ _; omega), decide_eq_true (show (a.n : Int) ≤ IntKind.u32.max by show _ ≤ (4294967295 : Int); omega)]
  rfl)⟩
instance {n : Nat} : KeyIs K32 (.int .u32 (n : Int)) ⟨n⟩ := ⟨rfl⟩
/-- Which number a word has. -/
def numF (ms : List U32) : K32 → Option Value := fun q => if (U32.mk q.n) ∈ ms then some (.int .i64 ((ms.idxOf (U32.mk q.n) : Nat) : Int)) else none
theorem numF_nil : numF [] = fun _ => none := by funext q; simp [numF]
theorem numF_add {ms : List U32} {u : U32} (h : u ∉ ms) : upd (numF ms) ⟨u.n⟩ (.int .i64 (ms.length : Int)) = numF (ms ++ [u]) := by
  funext q
  unfold upd numF
  by_cases he : q = ⟨u.n⟩
  · subst he
    rw [if_pos rfl]
    simp only
    rw [if_pos (by simp), List.idxOf_append, if_neg h]
    simp
  · rw [if_neg he]
    have hne : ¬ U32.mk q.n = u := fun e => he (by cases u; cases q; simp_all)
    by_cases hm : U32.mk q.n ∈ ms
    · rw [if_pos hm, if_pos (by simp [hm]), List.idxOf_append, if_pos hm]
    · rw [if_neg hm, if_neg (by simp [hm, hne])]
/-- The transitions of a round, as the program makes them. -/
noncomputable def rowU (rs : List STrans) (ar : List Int) (sets : List (List Int)) (f : Nat) (out : List (List Int)) (ru : List STrans) : Nat → List STrans
  | 0 => ru
  | i + 1 => rowU rs ar sets f out ru i ++ [((f : Int), dig sets.length (arN ar f) i, placeOf (rowS rs ar sets f out (i + 1)) (imgL rs f (listed sets (dig sets.length (arN ar f) i))))]
noncomputable def symU (rs : List STrans) (ar : List Int) (sets : List (List Int)) : Nat → List STrans
  | 0 => []
  | f + 1 => rowU rs ar sets f (symS rs ar sets f) (symU rs ar sets f) (sets.length ^ arN ar f)
theorem rowU_len (rs : List STrans) (ar : List Int) (sets : List (List Int)) (f : Nat) (out : List (List Int)) (ru : List STrans) : ∀ i, (rowU rs ar sets f out ru i).length = ru.length + i
  | 0 => rfl
  | i + 1 => by unfold rowU; rw [List.length_append, rowU_len rs ar sets f out ru i]; rfl
theorem symU_len (rs : List STrans) (ar : List Int) (sets : List (List Int)) : ∀ f, (symU rs ar sets f).length = (trS rs ar sets f).length
  | 0 => rfl
  | f + 1 => by
    show (rowU rs ar sets f (symS rs ar sets f) (symU rs ar sets f) (sets.length ^ arN ar f)).length = (trR rs ar sets f (trS rs ar sets f) (sets.length ^ arN ar f)).length
    rw [rowU_len, trR_len, symU_len rs ar sets f]
theorem rowS_same {rs : List STrans} {ar : List Int} {sets : List (List Int)} (h : (rndS rs ar sets).length = sets.length) {f i : Nat} (hf : f < ar.length) (hi : i ≤ sets.length ^ arN ar f) : rowS rs ar sets f (symS rs ar sets f) i = sets := by
  have h1 := row_rnd (rs := rs) (sets := sets) hf hi
  have h2 := symS_pre rs ar sets 0 f
  rw [Nat.zero_add] at h2
  have h3 := rowS_pre rs ar sets f (symS rs ar sets f) 0 i
  rw [Nat.zero_add] at h3
  have h4 : sets <+: rowS rs ar sets f (symS rs ar sets f) i := h2.trans h3
  exact (h4.eq_of_length (Nat.le_antisymm h4.length_le (h ▸ h1.length_le))).symm
theorem symU_all {rs : List STrans} {ar : List Int} {sets : List (List Int)} (h : (rndS rs ar sets).length = sets.length) : symU rs ar sets ar.length = allT rs ar sets := by
  have key : ∀ f, f ≤ ar.length → symU rs ar sets f = trS rs ar sets f := by
    intro f
    induction f with
    | zero => intro _; rfl
    | succ f ih =>
      intro hf
      have row : ∀ i, i ≤ sets.length ^ arN ar f → rowU rs ar sets f (symS rs ar sets f) (symU rs ar sets f) i = trR rs ar sets f (trS rs ar sets f) i := by
        intro i
        induction i with
        | zero => intro _; exact ih (by omega)
        | succ i ih2 =>
          intro hi
          show _ ++ [_] = _ ++ [_]
          rw [ih2 (by omega), rowS_same h (by omega) hi]
          rfl
      exact row _ (Nat.le_refl _)
  exact key _ (Nat.le_refl _)
end Go.Proofs.YtbbdjjlnachnlaaGreatDoor
