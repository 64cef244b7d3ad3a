/- The state of a term in the automaton of normal forms: the program. -/
import Derived.Test.YtbbdjjlnachnlaaGreatDoorMat
import Derived.Test.YtbbdjjlnachnlaaGreatDoorDraw6
import Derived.Test.YtbbdjjlnachnlaaGreatDoorSureIn
import Derived.Test.YtbbdjjlnachnlaaGreatDoorNum
import Derived.Test.YtbbdjjlnachnlaaGreatDoorNrmU
namespace Go.Proofs.YtbbdjjlnachnlaaGreatDoor
open Go Go.Eng
set_option linter.unusedVariables false
set_option linter.unusedSimpArgs false
set_option synthInstance.maxHeartbeats 400000
set_option synthInstance.maxSize 1000
set_option maxHeartbeats 0
set_option maxRecDepth 20000

theorem normD_auto {x : SSystem} (h : (normA x).isSome = true) : AutoP x.1 (normD x) := by
  obtain ⟨y, hy⟩ := Option.isSome_iff_exists.1 h
  have hd : normD x = y := by unfold normD; rw [hy]; rfl
  rw [hd]
  by_cases hL : LlP x
  · rw [norm_yes hL] at hy
    exact autG_auto (sysOk_iff.1 hL.1).1.1 hy
  · rw [norm_no hL] at hy; cases hy
theorem impl_NormalStateOf_spec {w0 : World} {Γ : List Atom} {v0 v1 vt : Value} {x : SSystem} {t : List Int} [h0 : HasRd (List Int) repList Γ [v0] x.1] [h1 : HasRd (List SRule) repList Γ [v1] x.2] [h2 : HasRd (List Int) repList Γ [vt] t] [ht : HasRd (Tab) repTab Γ [tabV] (Tab.mk Lib.pow10Tab)] :
    CJ Tryz.prog 11 [.agg #[v0, v1], vt] w0 Γ (fun _ : Unit => .int .i64 (nsO x t)) (fun _ => Γ) := by
  refine cj_lift (R := [.rd [v0] x.1, .rd [v1] x.2, .rd [vt] t, .rd [tabV] (Tab.mk Lib.pow10Tab)]) (A := fun _ => []) (fun w1 => ?_) (reads_cons h0 (reads_cons h1 (reads_cons h2 (reads_cons ht (inferInstance))))) (fun _ => inferInstance)
  simp only [List.cons_append, List.nil_append]
  by_cases hok : (normA x).isSome = true ∧ GrP x.1 t
  · obtain ⟨hs, hg⟩ := hok
    have hau := normD_auto hs
    have hag : AG x.1 (normD x) t := ⟨hau, hg⟩
    have hl := termOk_len hg.1
    have hsm : ∀ p : StB x.1 t (normD x).2.1 0, p.1 < 4294967296 := fun p => by have := p.2.1; omega
    have hns : nsO x t = if (statesOf x.1 (normD x) t).length = 0 then -1 else (statesOf x.1 (normD x) t).getD 0 0 := by unfold nsO; rw [if_pos ⟨hs, decC_t hg⟩]
    rw [st_yes hau hg] at hns
    rw [hns]
    refine cj_enter Tryz.func11 Tryz.ntmps11 ?_
    repeat' (first | refine red ?_ | refine redf fun hbi => ?_ | refine reds ?_ | (refine redc fun r => ?_; try have hr := Subtype.property r) | refine redn fun b => ?_ | (refine redi (fun hc => ?_) (fun hc => ?_) <;> try first | (exfalso; omega) | with_reducible first | exact absurd rfl hc | exact absurd hc Bool.false_ne_true | exact absurd hc Bool.false_ne_true.symm) | fail)
    all_goals first
      | (exfalso; rw [hs] at hc; cases hc; done)
      | (exfalso; exact ‹¬ GrP x.1 t› hg)
      | skip
    all_goals
      rename StB x.1 t (normD x).2.1 0 => r0
      have e := listN_pL (fun i _ => r0.2.2 i)
      rw [e] at hc
      refine ⟨(), ?_, ent_e⟩
      first
        | rw [if_pos (by omega)]
        | (rw [if_neg (by omega), e]; try rfl)
  · have hns : nsO x t = -1 := by unfold nsO; rw [if_neg (fun h => hok ⟨h.1, decC_iff.1 h.2⟩)]
    rw [hns]
    refine cj_enter Tryz.func11 Tryz.ntmps11 ?_
    repeat' (first | refine red ?_ | (refine redc fun r => ?_; try have hr := Subtype.property r) | refine redn fun b => ?_ | (refine redi (fun hc => ?_) (fun hc => ?_) <;> try first | (exfalso; omega) | with_reducible first | exact absurd rfl hc | exact absurd hc Bool.false_ne_true | exact absurd hc Bool.false_ne_true.symm) | fail)
    all_goals first
      | exact ⟨(), rfl, ent_e⟩
      | (exfalso; exact hok ⟨by assumption, by assumption⟩)
instance impl_NormalStateOf_ctr {Γ : List Atom} {v0 v1 vt : Value} {x : SSystem} {t : List Int} [h0 : HasRd (List Int) repList Γ [v0] x.1] [h1 : HasRd (List SRule) repList Γ [v1] x.2] [h2 : HasRd (List Int) repList Γ [vt] t] [ht : HasRd (Tab) repTab Γ [tabV] (Tab.mk Lib.pow10Tab)] :
    CtrC Tryz.prog 11 [.agg #[v0, v1], vt] Γ (True) (Unit) (fun _ : Unit => .int .i64 (nsO x t)) (fun _ => Γ) := ⟨fun s w0 => impl_NormalStateOf_spec⟩

end Go.Proofs.YtbbdjjlnachnlaaGreatDoor
namespace Go.Proofs.YtbbdjjlnachnlaaGreatDoor
open Go Go.Eng
set_option linter.unusedVariables false
set_option linter.unusedSimpArgs false
instance : DecidableEq U32 := fun a b => if h : a.n = b.n then .isTrue (by cases a; cases b; simp_all) else .isFalse (fun e => h (by rw [e]))
/-- A word as a list of states. -/
def stl (u : U32) : List Int := listN u.n 16
theorem mem_stl {u : U32} {q : Int} : q ∈ stl u ↔ 0 ≤ q ∧ q < 16 ∧ u.n.testBit q.toNat = true := by
  unfold stl listN
  rw [List.mem_map]
  constructor
  · rintro ⟨a, ha, rfl⟩
    rw [List.mem_filter, List.mem_range] at ha
    exact ⟨Int.natCast_nonneg a, by show ((a : Nat) : Int) < 16; have := ha.1; omega, ha.2⟩
  · rintro ⟨h1, h2, h3⟩
    exact ⟨q.toNat, by rw [List.mem_filter, List.mem_range]; exact ⟨by omega, h3⟩, by show ((q.toNat : Nat) : Int) = q; omega⟩
theorem stl_inj {u v : U32} (hu : u.n < 65536) (hv : v.n < 65536) (h : stl u = stl v) : u = v := by
  have e : u.n = v.n := by
    apply Nat.eq_of_testBit_eq
    intro i
    by_cases hi : i < 16
    · have h1 : ((i : Int) ∈ stl u) ↔ ((i : Int) ∈ stl v) := by rw [h]
      rw [mem_stl, mem_stl, Int.toNat_natCast] at h1
      have h2 : u.n.testBit i = true ↔ v.n.testBit i = true := ⟨fun h => (h1.1 ⟨by omega, by omega, h⟩).2.2, fun h => (h1.2 ⟨by omega, by omega, h⟩).2.2⟩
      cases h3 : u.n.testBit i <;> cases h4 : v.n.testBit i <;> simp_all
    · have hp : 2 ^ 16 ≤ 2 ^ i := Nat.pow_le_pow_right (by decide) (by omega)
      rw [Nat.testBit_lt_two_pow (Nat.lt_of_lt_of_le hu hp), Nat.testBit_lt_two_pow (Nat.lt_of_lt_of_le hv hp)]
  cases u; cases v; simp_all
/-- The words are the sets, each once. -/
structure RelU (ms : List U32) (sets : List (List Int)) : Prop where
  eq : sets = ms.map stl
  sm : ∀ u ∈ ms, u.n < 65536
  nd : ms.Nodup
theorem RelU.len {ms : List U32} {sets : List (List Int)} (h : RelU ms sets) : sets.length = ms.length := by rw [h.eq, List.length_map]
theorem RelU.mem {ms : List U32} {sets : List (List Int)} (h : RelU ms sets) {u : U32} (hu : u.n < 65536) : u ∈ ms ↔ stl u ∈ sets := by
  rw [h.eq, List.mem_map]
  constructor
  · exact fun hm => ⟨u, hm, rfl⟩
  · rintro ⟨v, hv, he⟩
    rw [← stl_inj (h.sm v hv) hu he]; exact hv
theorem idx_map {ms : List U32} (hs : ∀ u ∈ ms, u.n < 65536) {u : U32} (hu : u.n < 65536) : (ms.map stl).idxOf (stl u) = ms.idxOf u := by
  induction ms with
  | nil => rfl
  | cons v ms ih =>
    rw [List.map_cons, List.idxOf_cons, List.idxOf_cons, ih fun w hw => hs w (List.mem_cons_of_mem _ hw)]
    by_cases he : v = u
    · subst he; simp
    · have hne : ¬ stl v = stl u := fun h => he (stl_inj (hs v (List.mem_cons_self ..)) hu h)
      have e1 : (v == u) = false := by simpa using he
      have e2 : (stl v == stl u) = false := by simpa using hne
      rw [e1, e2]
theorem RelU.place {ms : List U32} {sets : List (List Int)} (h : RelU ms sets) {u : U32} (hu : u.n < 65536) : placeOf sets (stl u) = if u ∈ ms then ((ms.idxOf u : Nat) : Int) else -1 := by
  unfold placeOf
  by_cases hm : u ∈ ms
  · rw [if_pos hm, if_pos ((h.mem hu).1 hm), h.eq, idx_map h.sm hu]
  · rw [if_neg hm, if_neg fun h2 => hm ((h.mem hu).2 h2)]
theorem RelU.add {ms : List U32} {sets : List (List Int)} (h : RelU ms sets) {u : U32} (hu : u.n < 65536) : RelU (if u ∈ ms then ms else ms ++ [u]) (addNew sets (stl u)) := by
  unfold addNew
  by_cases hm : u ∈ ms
  · rw [if_pos hm, if_pos ((h.mem hu).1 hm)]; exact h
  · rw [if_neg hm, if_neg fun h2 => hm ((h.mem hu).2 h2)]
    refine ⟨by rw [h.eq, List.map_append]; rfl, fun v hv => ?_, ?_⟩
    · rcases List.mem_append.1 hv with hv | hv
      · exact h.sm v hv
      · rw [List.mem_singleton] at hv; rw [hv]; exact hu
    · rw [List.nodup_append]
      exact ⟨h.nd, by simp, fun a ha b hb e => by rw [List.mem_singleton] at hb; exact hm (by rw [← hb, ← e]; exact ha)⟩
theorem RelU.nil : RelU [] [] := ⟨rfl, fun _ h => absurd h (by simp), List.nodup_nil⟩
/-- The words that stand at these places. -/
def wds (ms : List U32) (l : List Int) : List U32 := l.map fun i => ms.getD i.toNat default
theorem wds_len (ms : List U32) (l : List Int) : (wds ms l).length = l.length := by unfold wds; simp
theorem wds_succ (ms : List U32) {l : List Int} {k : Nat} (h : k < l.length) : wds ms (l.take (k + 1)) = wds ms (l.take k) ++ [ms.getD (l.getD k 0).toNat default] := by
  unfold wds
  rw [List.take_succ_eq_append_getElem h, List.map_append, List.getD_eq_getElem?_getD (l := l), List.getElem?_eq_getElem h]; rfl
theorem wds_at {ms : List U32} {sets : List (List Int)} (h : RelU ms sets) {l : List Int} (hl : ∀ q ∈ l, 0 ≤ q ∧ q < ms.length) {i : Nat} (hi : i < l.length) : (wds ms l).getD i default ∈ ms ∧ (listed sets l).getD i default = stl ((wds ms l).getD i default) := by
  have hq := hl _ (List.getElem_mem hi)
  have h1 : (wds ms l).getD i default = ms.getD (l[i]).toNat default := by
    unfold wds
    rw [List.getD_eq_getElem?_getD, List.getElem?_map, List.getElem?_eq_getElem hi]; rfl
  have h2 : (listed sets l).getD i default = sets.getD (l[i]).toNat default := by
    unfold listed
    rw [List.getD_eq_getElem?_getD, List.getElem?_map, List.getElem?_eq_getElem hi]; rfl
  have hlt : (l[i]).toNat < ms.length := by omega
  rw [h1, h2, h.eq, List.getD_eq_getElem?_getD, List.getD_eq_getElem?_getD, List.getElem?_map, List.getElem?_eq_getElem hlt]
  exact ⟨List.getElem_mem hlt, rfl⟩
theorem wds_small {ms : List U32} {sets : List (List Int)} (h : RelU ms sets) {l : List Int} (hl : ∀ q ∈ l, 0 ≤ q ∧ q < ms.length) : Small (wds ms l) := fun i hi => by
  rw [wds_len] at hi
  exact h.sm _ (wds_at h hl hi).1
/-- The image, as a word and as a list. -/
theorem img_stl {ar : List Int} {x : SAuto} {f : Nat} (ha : ARi ar x f) {ms : List U32} {sets : List (List Int)} (h : RelU ms sets) {l : List Int} (hll : l.length = arN ar f) (hl : ∀ q ∈ l, 0 ≤ q ∧ q < ms.length) {s : Nat}
    (hs : ∀ i : Nat, s.testBit i = true ↔ Img x.2.1 x.2.1.length (f : Int) (InB (wds ms l)) (wds ms l).length (i : Int)) : stl ⟨s⟩ = imgL x.2.1 f (listed sets l) := by
  unfold stl imgL
  refine listN_pL fun i hi => (hs i).trans ?_
  have hin := (ha.img (sets := sets) hll).1
  have hlen := (ha.img (sets := sets) hll).2
  rw [listed_len] at hlen
  have key : ∀ j, j < x.2.1.length → (Fit (f : Int) (InB (wds ms l)) (wds ms l).length (x.2.1.getD j default) ↔ Fit (f : Int) (InL (listed sets l)) (listed sets l).length (x.2.1.getD j default)) := fun j hj => by
    rw [wds_len, listed_len]
    unfold Fit
    refine and_congr_right fun h1 => ?_
    have hal := hlen j hj h1
    refine forall_congr' fun i => forall_congr' fun hi => ?_
    unfold InB InL
    have hw := wds_at h hl hi
    rw [hw.2, mem_stl]
    have hr := (hin _ (getT hj)).1 _ (getK (show i < (x.2.1.getD j default).2.1.length by omega))
    exact ⟨fun h => ⟨hr.1, hr.2, h⟩, fun h => h.2.2⟩
  constructor
  · rintro ⟨j, hj, h1, h2⟩
    exact ⟨j, hj, (key j hj).1 h1, h2⟩
  · rintro ⟨j, hj, h1, h2⟩
    exact ⟨j, hj, (key j hj).2 h1, h2⟩
/-- Keys of 32 bits. -/
structure K32 where
  n : Nat
  deriving DecidableEq
instance ky32 : Ky K32 where
  dec := inferInstance
  v := fun q => .int .u32 (q.n : Int)
  l := fun q => .int .u32 (q.n : Int)
  ok := fun q => q.n < 4294967296
  inj := fun a b _ _ h => by
    simp only [Lit.int.injEq, true_and] at h
    cases a; cases b; simp only [K32.mk.injEq]; simp only at h; omega
class U32T (P : Program) (T : TypeId) : Prop where
  eq : P.underlying T = some (.int .u32)
instance {P : Program} {k : TypeId} [h : U32T P k] : KyP P k K32 := ⟨Maps.int_keyed h.eq, fun a ha => Maps.keyOf_int_mk h.eq (by
  have : a.n < 4294967296 := ha
  show (decide (IntKind.u32.min ≤ (a.n : Int)) && decide ((a.n : Int) ≤ IntKind.u32.max)) = true
  rw [decide_eq_true (show IntKind.u32.min ≤ (a.n : Int) by show (0 : Int) ≤ _; omega), decide_eq_true (show (a.n : Int) ≤ IntKind.u32.max by show _ ≤ (4294967295 : Int); omega)]
  rfl)⟩
instance {n : Nat} : KeyIs K32 (.int .u32 (n : Int)) ⟨n⟩ := ⟨rfl⟩
/-- Which number a word has. -/
def numF (ms : List U32) : K32 → Option Value := fun q => if (U32.mk q.n) ∈ ms then some (.int .i64 ((ms.idxOf (U32.mk q.n) : Nat) : Int)) else none
theorem numF_nil : numF [] = fun _ => none := by funext q; simp [numF]
theorem numF_add {ms : List U32} {u : U32} (h : u ∉ ms) : upd (numF ms) ⟨u.n⟩ (.int .i64 (ms.length : Int)) = numF (ms ++ [u]) := by
  funext q
  unfold upd numF
  by_cases he : q = ⟨u.n⟩
  · subst he
    rw [if_pos rfl]
    simp only
    rw [if_pos (by simp), List.idxOf_append, if_neg h]
    simp
  · rw [if_neg he]
    have hne : ¬ U32.mk q.n = u := fun e => he (by cases u; cases q; simp_all)
    by_cases hm : U32.mk q.n ∈ ms
    · rw [if_pos hm, if_pos (by simp [hm]), List.idxOf_append, if_pos hm]
    · rw [if_neg hm, if_neg (by simp [hm, hne])]
/-- The transitions of a round, as the program makes them. -/
noncomputable def rowU (rs : List STrans) (ar : List Int) (sets : List (List Int)) (f : Nat) (out : List (List Int)) (ru : List STrans) : Nat → List STrans
  | 0 => ru
  | i + 1 => rowU rs ar sets f out ru i ++ [((f : Int), dig sets.length (arN ar f) i, placeOf (rowS rs ar sets f out (i + 1)) (imgL rs f (listed sets (dig sets.length (arN ar f) i))))]
noncomputable def symU (rs : List STrans) (ar : List Int) (sets : List (List Int)) : Nat → List STrans
  | 0 => []
  | f + 1 => rowU rs ar sets f (symS rs ar sets f) (symU rs ar sets f) (sets.length ^ arN ar f)
theorem rowU_len (rs : List STrans) (ar : List Int) (sets : List (List Int)) (f : Nat) (out : List (List Int)) (ru : List STrans) : ∀ i, (rowU rs ar sets f out ru i).length = ru.length + i
  | 0 => rfl
  | i + 1 => by unfold rowU; rw [List.length_append, rowU_len rs ar sets f out ru i]; rfl
theorem symU_len (rs : List STrans) (ar : List Int) (sets : List (List Int)) : ∀ f, (symU rs ar sets f).length = (trS rs ar sets f).length
  | 0 => rfl
  | f + 1 => by
    show (rowU rs ar sets f (symS rs ar sets f) (symU rs ar sets f) (sets.length ^ arN ar f)).length = (trR rs ar sets f (trS rs ar sets f) (sets.length ^ arN ar f)).length
    rw [rowU_len, trR_len, symU_len rs ar sets f]
theorem rowS_same {rs : List STrans} {ar : List Int} {sets : List (List Int)} (h : (rndS rs ar sets).length = sets.length) {f i : Nat} (hf : f < ar.length) (hi : i ≤ sets.length ^ arN ar f) : rowS rs ar sets f (symS rs ar sets f) i = sets := by
  have h1 := row_rnd (rs := rs) (sets := sets) hf hi
  have h2 := symS_pre rs ar sets 0 f
  rw [Nat.zero_add] at h2
  have h3 := rowS_pre rs ar sets f (symS rs ar sets f) 0 i
  rw [Nat.zero_add] at h3
  have h4 : sets <+: rowS rs ar sets f (symS rs ar sets f) i := h2.trans h3
  exact (h4.eq_of_length (Nat.le_antisymm h4.length_le (h ▸ h1.length_le))).symm
theorem symU_all {rs : List STrans} {ar : List Int} {sets : List (List Int)} (h : (rndS rs ar sets).length = sets.length) : symU rs ar sets ar.length = allT rs ar sets := by
  have key : ∀ f, f ≤ ar.length → symU rs ar sets f = trS rs ar sets f := by
    intro f
    induction f with
    | zero => intro _; rfl
    | succ f ih =>
      intro hf
      have row : ∀ i, i ≤ sets.length ^ arN ar f → rowU rs ar sets f (symS rs ar sets f) (symU rs ar sets f) i = trR rs ar sets f (trS rs ar sets f) i := by
        intro i
        induction i with
        | zero => intro _; exact ih (by omega)
        | succ i ih2 =>
          intro hi
          show _ ++ [_] = _ ++ [_]
          rw [ih2 (by omega), rowS_same h (by omega) hi]
          rfl
      exact row _ (Nat.le_refl _)
  exact key _ (Nat.le_refl _)
end Go.Proofs.YtbbdjjlnachnlaaGreatDoor
namespace Go.Proofs.YtbbdjjlnachnlaaGreatDoor
open Go Go.Eng
set_option linter.unusedVariables false
set_option linter.unusedSimpArgs false
set_option synthInstance.maxHeartbeats 400000
set_option synthInstance.maxSize 1000
set_option maxHeartbeats 2000000
set_option maxRecDepth 20000

abbrev tMapS : TypeId := 202
instance : U32T Tryz.prog 68 := ⟨Tryz.underlying68⟩
instance : KyT Tryz.prog tMapS K32 := ⟨ky32⟩
instance : MpT Tryz.prog tMapS 68 (.int .i64 0) := ⟨_, Tryz.underlying202, Tryz.zeroValue3⟩
/-- What a round answers. -/
abbrev RdU (rs : List STrans) (ar : List Int) (ms : List U32) (sets : List (List Int)) (sv : Value) : Type :=
  { p : Value × List U32 × Bool // (p.2.2 = true → (RelU p.2.1 (rndS rs ar sets) ∧ p.2.1.length ≤ 16) ∧ (allT rs ar sets).length ≤ 300 ∧ (p.2.1.length = ms.length → p.1 = sv ∧ p.2.1 = ms)) ∧ (p.2.2 = false → 16 < (rndS rs ar sets).length ∨ 300 < (allT rs ar sets).length) }
structure RdC (ar : List Int) (x : SAuto) (ms : List U32) : Prop where
  au : AutoP ar x
  rel : RelU ms (ms.map stl)
  l16 : ms.length ≤ 16
theorem numF_take {ms : List U32} (hn : ms.Nodup) {k : Nat} (h : k < ms.length) : upd (numF (ms.take k)) ⟨(ms.getD k default).n⟩ (.int .i64 (k : Int)) = numF (ms.take (k + 1)) := by
  have hg : ms.getD k default = ms[k] := by rw [List.getD_eq_getElem?_getD, List.getElem?_eq_getElem h]; rfl
  have hni : ms[k] ∉ ms.take k := fun hm => by
    obtain ⟨i, hi, he⟩ := List.mem_take_iff_getElem.1 hm
    have := (List.getElem_inj hn).1 he
    omega
  have h1 := numF_add hni
  rw [List.length_take, Nat.min_eq_left (by omega)] at h1
  rw [hg, h1, ← List.take_succ_eq_append_getElem h]
theorem wds_pre {ms mc : List U32} (h : ms <+: mc) {l : List Int} (hl : ∀ q ∈ l, 0 ≤ q ∧ q < ms.length) : wds mc l = wds ms l := by
  unfold wds
  refine List.map_congr_left fun q hq => ?_
  have := hl q hq
  obtain ⟨t, rfl⟩ := h
  rw [List.getD_eq_getElem?_getD, List.getD_eq_getElem?_getD, List.getElem?_append_left (by omega)]
theorem round_spec {w0 : World} {Γ Δ : List Atom} {v v0 v1 vs : Value} {ar : List Int} {x : SAuto} {ms : List U32} [hp : PullOw (List U32) repList Γ [vs] ms Δ] [h : HasRd (List Int) repList Δ [v] ar] [h0 : HasRd (List STrans) repList Δ [v0] x.2.1] [h1 : HasRd (List Int) repList Δ [v1] x.2.2] (hC : RdC ar x ms) :
    CJ Tryz.prog 170 [.agg #[.int .i64 x.1, v0, v1], .agg #[v], vs] w0 Γ (fun q : RdU x.2.1 ar ms (ms.map stl) vs × Value => .tuple #[q.1.1.1, q.2, .bool q.1.1.2.2]) (fun q => .ow [q.1.1.1] q.1.1.2.1 :: .ow [q.2] (if q.1.1.2.2 = true then symU x.2.1 ar (ms.map stl) ar.length else []) :: Δ) := by
  refine cj_perm hp.perm ?_
  obtain ⟨hau, hrel, hl16⟩ := hC
  obtain ⟨sets, hsets⟩ : ∃ s, s = ms.map stl := ⟨_, rfl⟩
  rw [← hsets] at hrel ⊢
  have hsg := sigOk_len hau.1
  have hsl := hrel.len
  refine cj_enter Tryz.func170 Tryz.ntmps170 ?_
  repeat' (first | refine red ?_ | refine redv fun sv => ?_ | refine redn fun b => ?_ | fail)
  rename Value => mv
  have hmap0 : (fun x => none : K32 → Option Value) = numF (ms.take 0) := by rw [List.take_zero, numF_nil]
  rw [hmap0]
  refine wc_loop_p [29] [30, 31, 32, 33, 12, 13, 34, 35, 36, 37] (ι := Nat) (fun k => [.int .i64 k]) (fun k => [.ow [mv] (Mp.mk k (numF (ms.take k)) : Mp Tryz.prog 68 K32)]) (fun k => k ≤ ms.length) (fun k => ms.length - k) 0 [.ow [mv] (Mp.mk 0 (numF (ms.take 0)) : Mp Tryz.prog 68 K32)] (by kernel_rfl) (Nat.zero_le _) rfl ?_
  intro k u l' hl' hk
  simp only [patch, List.map_cons, List.map_nil, List.set_cons_zero, List.set_cons_succ] at hl'
  subst hl'
  simp only [List.cons_append, List.nil_append] at hk ⊢
  by_cases hkl : k < ms.length
  · have hokk : Ky.ok (K32.mk (ms.getD k default).n) ∧ k < maxLen := ⟨by
      have := hrel.sm (ms.getD k default) (by rw [List.getD_eq_getElem?_getD, List.getElem?_eq_getElem hkl]; exact List.getElem_mem hkl)
      show (ms.getD k default).n < 4294967296
      omega, by unfold maxLen; omega⟩
    repeat' (first | refine red ?_ | refine reds ?_ | (refine redi (fun hc => ?_) (fun hc => ?_) <;> try first | (exfalso; omega) | with_reducible first | exact absurd rfl hc | exact absurd hc Bool.false_ne_true | exact absurd hc Bool.false_ne_true.symm) | fail)
    rw [show upd (numF (ms.take k)) (K32.mk (ms.getD ((k : Nat) : Int).toNat default).n) (.int .i64 (k : Int)) = numF (ms.take (k + 1)) from numF_take hrel.nd hkl]
    exact wq_next (k + 1) (by omega) (by omega) (by kernel_rfl) ent_e
  obtain rfl : k = ms.length := by omega
  rw [List.take_length]
  repeat' (first | refine red ?_ | (refine redi (fun hc => ?_) (fun hc => ?_) <;> try first | (exfalso; omega) | with_reducible first | exact absurd rfl hc | exact absurd hc Bool.false_ne_true | exact absurd hc Bool.false_ne_true.symm) | fail)
  refine wc_nil_ow (α := STrans) (iα := repProd) ?_
  refine wc_loop_p [2, 9, 41] [42, 43, 44, 45, 14, 15, 46, 47, 48, 49, 50, 51, 52, 53, 16, 17, 54, 18, 63, 64, 65, 66, 67, 68, 20, 69, 70, 71, 72, 73, 74, 75, 76, 77, 78, 79, 80, 21, 82, 83, 84, 81, 85, 86, 22, 23, 87, 88, 89, 90, 91, 92, 93, 94, 95, 96, 97, 98, 99, 100, 101, 102, 103, 104, 105, 106, 107, 108, 109, 110, 111, 112, 113, 6, 7, 8, 55, 56, 57, 58, 59, 60, 61, 62, 114] (ι := Value × Value × List U32 × Nat) (fun k => [k.1, k.2.1, .int .i64 k.2.2.2]) (fun k => [.ow [k.1] k.2.2.1, .ow [k.2.1] (symU x.2.1 ar sets k.2.2.2), .ow [mv] (Mp.mk k.2.2.1.length (numF k.2.2.1) : Mp Tryz.prog 68 K32)]) (fun k => k.2.2.2 ≤ ar.length ∧ RelU k.2.2.1 (symS x.2.1 ar sets k.2.2.2) ∧ (k.2.2.1.length ≤ 16 ∧ (symU x.2.1 ar sets k.2.2.2).length ≤ 300) ∧ ms <+: k.2.2.1 ∧ (k.2.2.1.length = ms.length → k.1 = vs ∧ k.2.2.1 = ms)) (fun k => ar.length - k.2.2.2) (vs, .slice none 0 0, ms, 0) [.ow [vs] ms, .ow [.slice none 0 0] ([] : List STrans), .ow [mv] (Mp.mk ms.length (numF ms) : Mp Tryz.prog 68 K32)] (by kernel_rfl) ⟨Nat.zero_le _, hrel, ⟨hl16, Nat.zero_le _⟩, List.prefix_rfl, fun _ => ⟨rfl, rfl⟩⟩ rfl ?_
  intro ⟨sv, rv, mc, f⟩ u l' hl' ⟨hf, hrc, ⟨hm16, hu3⟩, hpre, hsame⟩
  simp only [patch, List.map_cons, List.map_nil, List.set_cons_zero, List.set_cons_succ] at hl'
  subst hl'
  simp only [List.cons_append, List.nil_append] at hf hrc hm16 hu3 hpre hsame ⊢
  by_cases hfa : f < ar.length
  · obtain ⟨hf0, hf3⟩ := sig_el hau.1 hfa
    have harN : ar.getD f 0 = ((arN ar f : Nat) : Int) := by unfold arN; omega
    have hARi : ARi ar x f := ⟨hau, hfa⟩
    by_cases hskip : 0 < arN ar f ∧ ms.length = 0
    · repeat' (first | refine red ?_ | refine redf fun hbi => ?_ | refine reds ?_ | (refine redi (fun hc => ?_) (fun hc => ?_) <;> try first | (exfalso; omega) | with_reducible first | exact absurd rfl hc | exact absurd hc Bool.false_ne_true | exact absurd hc Bool.false_ne_true.symm) | fail)
      · have hN0 : sets.length ^ arN ar f = 0 := by rw [hsl, hskip.2]; exact Nat.zero_pow hskip.1
        have e1 : symS x.2.1 ar sets (f + 1) = symS x.2.1 ar sets f := by show rowS _ _ _ _ _ _ = _; rw [hN0]; rfl
        have e2 : symU x.2.1 ar sets (f + 1) = symU x.2.1 ar sets f := by show rowU _ _ _ _ _ _ _ = _; rw [hN0]; rfl
        exact wq_next (sv, rv, mc, f + 1) ⟨by simp only; omega, by simp only; rw [e1]; exact hrc, ⟨hm16, by simp only; rw [e2]; exact hu3⟩, hpre, hsame⟩ (by simp only; omega) (by kernel_rfl) (by simp only; rw [e2]; exact ent_e)
      all_goals (exfalso; omega)
    have hpos : 0 < sets.length ^ arN ar f := by
      rw [hsl]
      by_cases ha0 : arN ar f = 0
      · rw [ha0]; exact Nat.one_pos
      · exact Nat.pow_pos (by omega)
    obtain ⟨N, hN⟩ : ∃ N, N = sets.length ^ arN ar f := ⟨_, rfl⟩
    have hr0 : List.replicate (ar.getD f 0).toNat (0 : Int) = if 0 < N then dig sets.length (arN ar f) 0 else List.replicate (arN ar f) (0 : Int) := by
      rw [if_pos (by omega), dig_zero, harN, Int.toNat_natCast]
    repeat' (first | refine red ?_ | refine redf fun hbi => ?_ | refine reds ?_ | (refine redc fun r => ?_; try have hr := Subtype.property r) | (refine redi (fun hc => ?_) (fun hc => ?_) <;> try first | (exfalso; omega) | with_reducible first | exact absurd rfl hc | exact absurd hc Bool.false_ne_true | exact absurd hc Bool.false_ne_true.symm) | fail)
    all_goals rename Value => lv
    all_goals rw [hr0]
    all_goals
      refine wc_loop_p [2, 9, 17] [54, 18, 63, 64, 65, 66, 67, 68, 20, 69, 70, 71, 72, 73, 74, 75, 76, 77, 78, 79, 80, 21, 82, 83, 84, 81, 85, 86, 22, 23, 87, 88, 89, 90, 91, 92, 93, 94, 95, 96, 97, 98, 99, 100, 101, 102, 103, 104, 105, 106, 107, 108, 109, 110, 111, 112, 113, 6, 7, 8, 55, 56, 57, 58, 59, 60, 61, 62] (ι := Value × Value × List U32 × Nat) (fun k => [k.1, k.2.1, .bool (decide (k.2.2.2 < N))]) (fun k => [.ow [k.1] k.2.2.1, .ow [k.2.1] (rowU x.2.1 ar sets f (symS x.2.1 ar sets f) (symU x.2.1 ar sets f) k.2.2.2), .ow [mv] (Mp.mk k.2.2.1.length (numF k.2.2.1) : Mp Tryz.prog 68 K32), .ow [lv] (if k.2.2.2 < N then dig sets.length (arN ar f) k.2.2.2 else List.replicate (arN ar f) (0 : Int))]) (fun k => k.2.2.2 ≤ N ∧ RelU k.2.2.1 (rowS x.2.1 ar sets f (symS x.2.1 ar sets f) k.2.2.2) ∧ (k.2.2.1.length ≤ 16 ∧ (rowU x.2.1 ar sets f (symS x.2.1 ar sets f) (symU x.2.1 ar sets f) k.2.2.2).length ≤ 300) ∧ ms <+: k.2.2.1 ∧ (k.2.2.1.length = ms.length → k.1 = vs ∧ k.2.2.1 = ms)) (fun k => N - k.2.2.2) (sv, rv, mc, 0) [.ow [sv] mc, .ow [rv] (symU x.2.1 ar sets f), .ow [mv] (Mp.mk mc.length (numF mc) : Mp Tryz.prog 68 K32), .ow [lv] (if 0 < N then dig sets.length (arN ar f) 0 else List.replicate (arN ar f) (0 : Int))] (by simp only [show decide (0 < N) = true from decide_eq_true (by omega)]; kernel_rfl) ⟨Nat.zero_le _, hrc, ⟨hm16, hu3⟩, hpre, hsame⟩ rfl ?_
      intro ⟨sc, rv, mc, i⟩ u l' hl' ⟨hi, hrc, ⟨hm16, hu3⟩, hpre, hsame⟩
      simp only [patch, List.map_cons, List.map_nil, List.set_cons_zero, List.set_cons_succ] at hl'
      subst hl'
      simp only [List.cons_append, List.nil_append] at hi hrc hm16 hu3 hpre hsame ⊢
      by_cases hlt : i < N
      · simp only [if_pos hlt, decide_eq_true hlt]
        have hlt' : i < sets.length ^ arN ar f := by omega
        have hdl := dig_len sets.length (arN ar f) i
        obtain ⟨l, hl⟩ : ∃ l, l = dig sets.length (arN ar f) i := ⟨_, rfl⟩
        rw [← hl] at hdl ⊢
        have hel : ∀ q ∈ l, 0 ≤ q ∧ q < sets.length := by rw [hl]; exact dig_el hlt'
        have hml := hpre.length_le
        have hpl : ms.length ≤ mc.length := hml
        repeat' (first | refine red ?_ | fail)
        refine wc_nil_ow (α := U32) (iα := repU32) ?_
        refine wc_loop_p [18, 65] [66, 67, 68, 20, 69, 70, 71, 72, 73, 74, 75, 76] (ι := Value × Nat) (fun k => [k.1, .int .i64 k.2]) (fun k => [.ow [k.1] (wds mc (l.take k.2))]) (fun k => k.2 ≤ l.length) (fun k => l.length - k.2) (.slice none 0 0, 0) [.ow [.slice none 0 0] ([] : List U32)] (by kernel_rfl) (Nat.zero_le _) rfl ?_
        intro ⟨av, k⟩ u l' hl' hk
        simp only [patch, List.map_cons, List.map_nil, List.set_cons_zero, List.set_cons_succ] at hl'
        subst hl'
        simp only [List.cons_append, List.nil_append] at hk ⊢
        have hwl : (wds mc (l.take k)).length = k := by rw [wds_len, List.length_take]; omega
        by_cases hkl : k < l.length
        · have hq := hel _ (getK hkl)
          repeat' (first | refine red ?_ | refine redf fun hbi => ?_ | refine reds ?_ | refine redv fun sv => ?_ | (refine redi (fun hc => ?_) (fun hc => ?_) <;> try first | (exfalso; omega) | with_reducible first | exact absurd rfl hc | exact absurd hc Bool.false_ne_true | exact absurd hc Bool.false_ne_true.symm) | fail)
          all_goals
           rw [show wds mc (l.take k) ++ [U32.mk (mc.getD ((((l.getD k 0).toNat : Nat) : Int)).toNat default).n] = wds mc (l.take (k + 1)) from (wds_succ mc hkl).symm]
           exact wq_next (sv, k + 1) (by simp only; omega) (by simp only; omega) (by kernel_rfl) ent_e
        obtain rfl : k = l.length := by omega
        rw [List.take_length]
        have hel2 : ∀ q ∈ l, 0 ≤ q ∧ q < ms.length := fun q hq => by have := hel q hq; omega
        have hwp := wds_pre hpre hel2
        have hcond : InS x.2.1 ∧ (∀ j, j < x.2.1.length → (x.2.1.getD j default).1 = (f : Int) → (x.2.1.getD j default).2.1.length = (wds mc l).length) ∧ Small (wds mc l) := by
          have h1 := hARi.img (sets := sets) hdl
          rw [listed_len] at h1
          exact ⟨h1.1, by rw [wds_len]; exact h1.2, by rw [hwp]; exact wds_small hrel hel2⟩
        have hwd := wds_len mc l
        repeat' (first | refine red ?_ | (refine redc fun r => ?_; try have hr := Subtype.property r) | (refine redi (fun hc => ?_) (fun hc => ?_) <;> try first | (exfalso; omega) | with_reducible first | exact absurd rfl hc | exact absurd hc Bool.false_ne_true | exact absurd hc Bool.false_ne_true.symm) | fail)
        rename Subtype _ => rr
        have hr1 := hr.1
        have himg := img_stl hARi hrel hdl hel2 (s := rr.1) (by rw [← hwp]; exact hr.2)
        have hrn : ∀ y, rowS x.2.1 ar sets f (symS x.2.1 ar sets f) (i + 1) = y ↔ addNew (rowS x.2.1 ar sets f (symS x.2.1 ar sets f) i) (stl ⟨rr.1⟩) = y := fun y => by
          rw [rowS_sh, himg, hl]
        have hnew := hrc.add (u := ⟨rr.1⟩) hr1
        rw [(hrn _).2 rfl |>.symm] at hnew
        have hun : rowU x.2.1 ar sets f (symS x.2.1 ar sets f) (symU x.2.1 ar sets f) (i + 1) = rowU x.2.1 ar sets f (symS x.2.1 ar sets f) (symU x.2.1 ar sets f) i ++ [((f : Int), l, placeOf (rowS x.2.1 ar sets f (symS x.2.1 ar sets f) (i + 1)) (stl ⟨rr.1⟩))] := by
          rw [himg, hl]; rfl
        have hul := rowU_len x.2.1 ar sets f (symS x.2.1 ar sets f) (symU x.2.1 ar sets f) i
        have hul1 := rowU_len x.2.1 ar sets f (symS x.2.1 ar sets f) (symU x.2.1 ar sets f) (i + 1)
        have hpl2 := hnew.place (u := ⟨rr.1⟩) hr1
        have hnx : NxL sets.length (arN ar f) i := ⟨by omega, by
          by_cases ha0 : arN ar f = 0
          · exact .inr ha0
          · exact .inl (by have := hel; by_cases h0 : sets.length = 0
                           · rw [h0, Nat.zero_pow (by omega)] at hpos; omega
                           · omega), by omega, hlt'⟩
        have hokk : Ky.ok (K32.mk rr.1) := by show rr.1 < 4294967296; omega
        have hra := row_all (rs := x.2.1) (sets := sets) hfa (i := i + 1) (by omega)
        have hsul := symU_len x.2.1 ar sets f
        have hrw := row_rnd (rs := x.2.1) (sets := sets) hfa (i := i + 1) (by omega)
        haveI : ToN (ar.getD f 0) (arN ar f) := ⟨rfl⟩
        by_cases hin : U32.mk rr.1 ∈ mc
        · haveI : MapAt (numF mc) (K32.mk rr.1) (some (.int .i64 ((mc.idxOf (U32.mk rr.1) : Nat) : Int))) := ⟨if_pos hin⟩
          rw [if_pos hin] at hnew hpl2
          rw [if_pos hin] at hpl2
          have hix := List.idxOf_lt_length_of_mem hin
          repeat' (first | refine red ?_ | refine reds ?_ | (refine redc fun r => ?_; try have hr := Subtype.property r) | refine redv fun sv => ?_ | (refine redi (fun hc => ?_) (fun hc => ?_) <;> try first | (exfalso; omega) | with_reducible first | exact absurd rfl hc | exact absurd hc Bool.false_ne_true | exact absurd hc Bool.false_ne_true.symm) | fail)
          · refine ⟨(⟨(.slice none 0 0, [], false), ⟨fun h => (by cases h), fun _ => Or.inr (by simp only [List.length_append, List.length_singleton] at hc; omega)⟩⟩, .slice none 0 0), rfl, ?_⟩
            simp only [Bool.false_eq_true, if_false]
            exact ent_e
          · simp only [List.length_append, List.length_singleton] at hc
            subst hl
            have hnz : NxZ sets.length (arN ar f) i ((ms.length : Int) - 1) := ⟨hnx, by omega⟩
            repeat' (first | refine red ?_ | (refine redc fun r => ?_; try have hr := Subtype.property r) | fail)
            rw [hpl2] at hun
            rw [← hun, ← hN]
            exact wq_next (sc, sv, mc, i + 1) ⟨by simp only; omega, hnew, ⟨hm16, by simp only; omega⟩, hpre, hsame⟩ (by simp only; omega) (by kernel_rfl) ent_e
        · haveI : MapAt (numF mc) (K32.mk rr.1) none := ⟨if_neg hin⟩
          rw [if_neg hin] at hnew hpl2
          rw [if_pos (by simp)] at hpl2
          have hpl3 : placeOf (rowS x.2.1 ar sets f (symS x.2.1 ar sets f) (i + 1)) (stl ⟨rr.1⟩) = (mc.length : Int) := by
            rw [hpl2, List.idxOf_append, if_neg hin]; simp
          rw [hpl3] at hun
          have hnl := hnew.len
          have hrwl := hrw.length_le
          have hokm : Ky.ok (K32.mk rr.1) ∧ mc.length < maxLen := ⟨hokk, by unfold maxLen; omega⟩
          have hnm : numF (mc ++ [U32.mk rr.1]) = upd (numF mc) (K32.mk rr.1) (.int .i64 (mc.length : Int)) := (numF_add hin).symm
          have hal : (mc ++ [U32.mk rr.1]).length = mc.length + 1 := by simp
          repeat' (first | refine red ?_ | refine reds ?_ | (refine redc fun r => ?_; try have hr := Subtype.property r) | refine redv fun sv => ?_ | (refine redi (fun hc => ?_) (fun hc => ?_) <;> try first | (exfalso; omega) | with_reducible first | exact absurd rfl hc | exact absurd hc Bool.false_ne_true | exact absurd hc Bool.false_ne_true.symm) | fail)
          · refine ⟨(⟨(.slice none 0 0, [], false), ⟨fun h => (by cases h), fun _ => Or.inl (by omega)⟩⟩, .slice none 0 0), rfl, ?_⟩
            simp only [Bool.false_eq_true, if_false]
            exact ent_e
          · refine ⟨(⟨(.slice none 0 0, [], false), ⟨fun h => (by cases h), fun _ => Or.inr (by simp only [List.length_append, List.length_singleton] at hc; omega)⟩⟩, .slice none 0 0), rfl, ?_⟩
            simp only [Bool.false_eq_true, if_false]
            exact ent_e
          · simp only [List.length_append, List.length_singleton] at hc
            subst hl
            rename_i w2 wc w1 wl w3 hh
            have hnz : NxZ sets.length (arN ar f) i ((ms.length : Int) - 1) := ⟨hnx, by omega⟩
            repeat' (first | refine red ?_ | (refine redc fun r => ?_; try have hr := Subtype.property r) | fail)
            rw [← hun, ← hN, ← hnm, ← hal]
            exact wq_next (w2, sv, mc ++ [U32.mk rr.1], i + 1) ⟨by simp only; omega, hnew, ⟨by simp only; omega, by simp only; omega⟩, hpre.trans (List.prefix_append _ _), fun h => absurd h (by simp only; omega)⟩ (by simp only; omega) (by kernel_rfl) ent_e
      · simp only [if_neg hlt, decide_eq_false hlt]
        have hiN : i = sets.length ^ arN ar f := by omega
        repeat' (first | refine red ?_ | refine reds ?_ | fail)
        rw [hiN] at hrc hu3 ⊢
        exact wq_next (sc, rv, mc, f + 1) ⟨by simp only; omega, hrc, ⟨hm16, hu3⟩, hpre, hsame⟩ (by simp only; omega) (by kernel_rfl) (by
          show Ent _ _ (.ow [sc] mc :: .ow [rv] (rowU x.2.1 ar sets f (symS x.2.1 ar sets f) (symU x.2.1 ar sets f) (sets.length ^ arN ar f)) :: _)
          exact ent_e)
  · have hfe : f = ar.length := by omega
    subst hfe
    have hall : (allT x.2.1 ar sets).length ≤ 300 := by rw [symU_len] at hu3; exact hu3
    repeat' (first | refine red ?_ | (refine redi (fun hc => ?_) (fun hc => ?_) <;> try first | (exfalso; omega) | with_reducible first | exact absurd rfl hc | exact absurd hc Bool.false_ne_true | exact absurd hc Bool.false_ne_true.symm) | fail)
    refine ⟨(⟨(sv, mc, true), ⟨fun _ => ⟨⟨hrc, hm16⟩, hall, hsame⟩, fun h => (by cases h)⟩⟩, rv), rfl, ?_⟩
    simp only [if_true]
    exact ent_e
instance round_ctr {Γ Δ : List Atom} {v v0 v1 vs : Value} {ar : List Int} {x : SAuto} {ms : List U32} [hp : PullOw (List U32) repList Γ [vs] ms Δ] [h : HasRd (List Int) repList Δ [v] ar] [h0 : HasRd (List STrans) repList Δ [v0] x.2.1] [h1 : HasRd (List Int) repList Δ [v1] x.2.2] :
    CtrC Tryz.prog 170 [.agg #[.int .i64 x.1, v0, v1], .agg #[v], vs] Γ (RdC ar x ms) (RdU x.2.1 ar ms (ms.map stl) vs × Value) (fun q : RdU x.2.1 ar ms (ms.map stl) vs × Value => .tuple #[q.1.1.1, q.2, .bool q.1.1.2.2]) (fun q => .ow [q.1.1.1] q.1.1.2.1 :: .ow [q.2] (if q.1.1.2.2 = true then symU x.2.1 ar (ms.map stl) ar.length else []) :: Δ) := ⟨fun s w0 => round_spec s⟩

end Go.Proofs.YtbbdjjlnachnlaaGreatDoor
