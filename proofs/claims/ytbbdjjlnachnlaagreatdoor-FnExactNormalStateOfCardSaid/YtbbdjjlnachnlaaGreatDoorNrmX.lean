/- The automaton of normal forms is an automaton. -/
import Derived.Test.YtbbdjjlnachnlaaGreatDoorSureIn
import Derived.Test.YtbbdjjlnachnlaaGreatDoorAutL
import Derived.Test.YtbbdjjlnachnlaaGreatDoorNumG
import Derived.LaidSub
import Derived.MakeChecks
namespace Go.Proofs.YtbbdjjlnachnlaaGreatDoor
open Go Go.Eng
set_option linter.unusedVariables false
set_option linter.unusedSimpArgs false
set_option maxRecDepth 20000
theorem trO_mem {f : Nat} {l : List Int} {all : List (List Int)} {o : Option (List Int)} {t : STrans} : t ∈ trO f l all o ↔ ∃ s, o = some s ∧ t = ((f : Int), l, placeOf all s) := by
  cases o with
  | none => simp [trO]
  | some s => simp [trO]
theorem trRG_mem {im : ImO} {ar : List Int} {sets : List (List Int)} {f : Nat} {out : List STrans} {t : STrans} : ∀ {m}, t ∈ trRG im ar sets f out m ↔ t ∈ out ∨ ∃ i s, i < m ∧ im f (listed sets (dig sets.length (arN ar f) i)) = some s ∧ t = ((f : Int), dig sets.length (arN ar f) i, placeOf sets s)
  | 0 => by simp [trRG]
  | m + 1 => by
    unfold trRG
    rw [List.mem_append, trRG_mem, trO_mem]
    constructor
    · rintro ((h | ⟨i, s, hi, he, rfl⟩) | ⟨s, he, rfl⟩)
      · exact .inl h
      · exact .inr ⟨i, s, by omega, he, rfl⟩
      · exact .inr ⟨m, s, by omega, he, rfl⟩
    · rintro (h | ⟨i, s, hi, he, rfl⟩)
      · exact .inl (.inl h)
      · by_cases e : i = m
        · subst e; exact .inr ⟨s, he, rfl⟩
        · exact .inl (.inr ⟨i, s, by omega, he, rfl⟩)
theorem trSG_mem {im : ImO} {ar : List Int} {sets : List (List Int)} {t : STrans} : ∀ {m}, t ∈ trSG im ar sets m ↔ ∃ f i s, f < m ∧ i < sets.length ^ arN ar f ∧ im f (listed sets (dig sets.length (arN ar f) i)) = some s ∧ t = ((f : Int), dig sets.length (arN ar f) i, placeOf sets s)
  | 0 => by simp [trSG]
  | m + 1 => by
    unfold trSG
    rw [trRG_mem, trSG_mem]
    constructor
    · rintro (⟨f, i, s, h1, h2, h3, rfl⟩ | ⟨i, s, hi, h3, rfl⟩)
      · exact ⟨f, i, s, by omega, h2, h3, rfl⟩
      · exact ⟨m, i, s, by omega, hi, h3, rfl⟩
    · rintro ⟨f, i, s, h1, h2, h3, rfl⟩
      by_cases e : f = m
      · subst e; exact .inr ⟨i, s, h2, h3, rfl⟩
      · exact .inl ⟨f, i, s, by omega, h2, h3, rfl⟩
theorem trSG_sure {im : ImO} {ar : List Int} {sets : List (List Int)} (hn : 0 < sets.length) : ∀ m, (trSG im ar sets m).Pairwise fun s t => ¬ FrT s t
  | 0 => List.Pairwise.nil
  | m + 1 => by
    unfold trSG
    have h0 := trSG_sure (im := im) (ar := ar) hn m
    have key : ∀ j, j ≤ sets.length ^ arN ar m → (trRG im ar sets m (trSG im ar sets m) j).Pairwise fun s t => ¬ FrT s t := by
      intro j
      induction j with
      | zero => exact fun _ => h0
      | succ j ih =>
        intro hj
        unfold trRG
        rw [List.pairwise_append]
        refine ⟨ih (by omega), ?_, fun s hs t ht => ?_⟩
        · cases im m (listed sets (dig sets.length (arN ar m) j)) with
          | none => exact List.Pairwise.nil
          | some s => exact List.pairwise_singleton _ _
        obtain ⟨s', _, rfl⟩ := trO_mem.1 ht
        rintro ⟨e1, e2⟩
        rcases trRG_mem.1 hs with h | ⟨i, _, hi, _, rfl⟩
        · obtain ⟨f, i, _, h1, h2, _, rfl⟩ := trSG_mem.1 h
          simp only at e1
          omega
        · have := dig_inj hn _ _ _ (show i < sets.length ^ arN ar m by omega) (show j < sets.length ^ arN ar m by omega) e2
          omega
    exact key _ (Nat.le_refl _)
theorem upTo_setP (n : Nat) : SetP (n : Int) (upTo n) (upTo n).length := fun i hi => by
  rw [upTo_len] at hi
  rw [upTo_get hi]
  refine ⟨by omega, fun h0 => ?_⟩
  rw [upTo_get (by omega)]; omega
theorem rowG_mem {im : ImO} {ar : List Int} {sets : List (List Int)} {f : Nat} {out : List (List Int)} {i : Nat} {s : List Int} (h : im f (listed sets (dig sets.length (arN ar f) i)) = some s) : s ∈ rowG im ar sets f out (i + 1) := by
  show s ∈ addO _ (im f _)
  rw [h]
  show s ∈ addNew _ s
  unfold addNew
  split
  · assumption
  · simp
theorem autG_auto {im : ImO} {ar : List Int} {y : SAuto} (hs : sigOk ar = true) (h : autG im ar = some y) : AutoP ar y := by
  unfold autG at h
  split at h
  · cases h
  · rename_i sets hf
    split at h
    · rename_i hl
      injection h with h
      subst h
      obtain ⟨⟨h1, h2⟩, hnd, hr⟩ := fixG_some 17 [] (by simp) List.nodup_nil sets hf
      have hrs : rndG im ar sets = sets := (pre_same (rndG_pre im ar sets) (by omega)).symm
      refine ⟨hs, ⟨by simp only; omega, by simp only; omega⟩, hl, upTo_setP _, ?_⟩
      refine rulesP_of (fun r hr => ?_) (sure_nd (trSG_sure (by omega) _))
      obtain ⟨f, i, s, g1, g2, g3, rfl⟩ := trSG_mem.1 hr
      have h3 := arN_eq hs g1
      have hm : s ∈ sets := by
        have h4 := (rowG_rnd (im := im) (ar := ar) (sets := sets) g1 (i := i + 1) (by omega)).subset (rowG_mem g3)
        rwa [hrs] at h4
      have h5 := List.idxOf_lt_length_of_mem hm
      have h6 : placeOf sets s = ((sets.idxOf s : Nat) : Int) := if_pos hm
      refine ⟨⟨by simp only; omega, by simp only; omega⟩, ?_, fun j hj => ?_, by simp only; rw [h6]; omega, by simp only; rw [h6]; omega⟩
      · simp only
        rw [dig_len, Int.toNat_natCast, h3.1]
      · exact dig_in (by omega) _ _ _ (getK hj)
    · cases h
end Go.Proofs.YtbbdjjlnachnlaaGreatDoor
namespace Go.Proofs.YtbbdjjlnachnlaaGreatDoor
open Go Go.Eng
set_option linter.unusedVariables false
set_option linter.unusedSimpArgs false
set_option synthInstance.maxHeartbeats 400000
set_option synthInstance.maxSize 1000
set_option maxHeartbeats 0
set_option maxRecDepth 20000


theorem normD_auto {x : SSystem} (h : (normA x).isSome = true) : AutoP x.1 (normD x) := by
  obtain ⟨y, hy⟩ := Option.isSome_iff_exists.1 h
  have hd : normD x = y := by unfold normD; rw [hy]; rfl
  rw [hd]
  by_cases hL : LlP x
  · rw [norm_yes hL] at hy
    exact autG_auto (sysOk_iff.1 hL.1).1.1 hy
  · rw [norm_no hL] at hy; cases hy
theorem impl_NormalStateOf_spec {w0 : World} {Γ : List Atom} {v0 v1 vt : Value} {x : SSystem} {t : List Int} [h0 : HasRd (List Int) repList Γ [v0] x.1] [h1 : HasRd (List SRule) repList Γ [v1] x.2] [h2 : HasRd (List Int) repList Γ [vt] t] [ht : HasRd (Tab) repTab Γ [tabV] (Tab.mk Lib.pow10Tab)] :
    CJ Tryz.prog 11 [.agg #[v0, v1], vt] w0 Γ (fun _ : Unit => .int .i64 (nsO x t)) (fun _ => Γ) := by
  refine cj_lift (R := [.rd [v0] x.1, .rd [v1] x.2, .rd [vt] t, .rd [tabV] (Tab.mk Lib.pow10Tab)]) (A := fun _ => []) (fun w1 => ?_) (reads_cons h0 (reads_cons h1 (reads_cons h2 (reads_cons ht (inferInstance))))) (fun _ => inferInstance)
  simp only [List.cons_append, List.nil_append]
  by_cases hok : (normA x).isSome = true ∧ GrP x.1 t
  · obtain ⟨hs, hg⟩ := hok
    have hau := normD_auto hs
    have hag : AG x.1 (normD x) t := ⟨hau, hg⟩
    have hl := termOk_len hg.1
    have hsm : ∀ p : StB x.1 t (normD x).2.1 0, p.1 < 4294967296 := fun p => by have := p.2.1; omega
    have hns : nsO x t = if (statesOf x.1 (normD x) t).length = 0 then -1 else (statesOf x.1 (normD x) t).getD 0 0 := by unfold nsO; rw [if_pos ⟨hs, decC_t hg⟩]
    rw [st_yes hau hg] at hns
    rw [hns]
    refine cj_enter Tryz.func11 Tryz.ntmps11 ?_
    repeat' (first | refine red ?_ | refine redf fun hbi => ?_ | refine reds ?_ | (refine redc fun r => ?_; try have hr := Subtype.property r) | refine redn fun b => ?_ | (refine redi (fun hc => ?_) (fun hc => ?_) <;> try first | (exfalso; omega) | with_reducible first | exact absurd rfl hc | exact absurd hc Bool.false_ne_true | exact absurd hc Bool.false_ne_true.symm) | fail)
    all_goals first
      | (exfalso; rw [hs] at hc; cases hc; done)
      | (exfalso; exact ‹¬ GrP x.1 t› hg)
      | skip
    all_goals
      rename StB x.1 t (normD x).2.1 0 => r0
      have e := listN_pL (fun i _ => r0.2.2 i)
      rw [e] at hc
      refine ⟨(), ?_, ent_e⟩
      first
        | rw [if_pos (by omega)]
        | (rw [if_neg (by omega), e]; try rfl)
  · have hns : nsO x t = -1 := by unfold nsO; rw [if_neg (fun h => hok ⟨h.1, decC_iff.1 h.2⟩)]
    rw [hns]
    refine cj_enter Tryz.func11 Tryz.ntmps11 ?_
    repeat' (first | refine red ?_ | (refine redc fun r => ?_; try have hr := Subtype.property r) | refine redn fun b => ?_ | (refine redi (fun hc => ?_) (fun hc => ?_) <;> try first | (exfalso; omega) | with_reducible first | exact absurd rfl hc | exact absurd hc Bool.false_ne_true | exact absurd hc Bool.false_ne_true.symm) | fail)
    all_goals first
      | exact ⟨(), rfl, ent_e⟩
      | (exfalso; exact hok ⟨by assumption, by assumption⟩)
instance impl_NormalStateOf_ctr {Γ : List Atom} {v0 v1 vt : Value} {x : SSystem} {t : List Int} [h0 : HasRd (List Int) repList Γ [v0] x.1] [h1 : HasRd (List SRule) repList Γ [v1] x.2] [h2 : HasRd (List Int) repList Γ [vt] t] [ht : HasRd (Tab) repTab Γ [tabV] (Tab.mk Lib.pow10Tab)] :
    CtrC Tryz.prog 11 [.agg #[v0, v1], vt] Γ (True) (Unit) (fun _ : Unit => .int .i64 (nsO x t)) (fun _ => Γ) := ⟨fun s w0 => impl_NormalStateOf_spec⟩

end Go.Proofs.YtbbdjjlnachnlaaGreatDoor
namespace Go.Proofs.YtbbdjjlnachnlaaGreatDoor
open Go Go.Eng
set_option linter.unusedVariables false
set_option linter.unusedSimpArgs false
set_option maxRecDepth 20000
/-- The table stands in memory where the row lists it. -/
theorem tab_rd {W : World} {l : List (String × DataW Unit)} (h : laidMetH Tryz.prog l W) (hl : (l.filter fun x => x.1 == "internal/strconv.uint64pow10") = [("internal/strconv.uint64pow10", Lib.tabData .u64 Lib.pow10Tab)]) :
    @Rep.rd Tab repTab (fun _ => True) W [tabV] (Tab.mk Lib.pow10Tab) := by
  have h1 := h.filter fun x => x.1 == "internal/strconv.uint64pow10"
  rw [hl, MakeChecks.laidMetH_plain _ _ _ (by kernel_rfl)] at h1
  have h2 := Lib.tabIs_of_head (P := Tryz.prog) (W := W) (name := "internal/strconv.uint64pow10") (k := .u64) (zs := Lib.pow10Tab) (rest := []) (g := 0) tab_named (t := 244) (e := 198) (n := 20) (by kernel_rfl) (by kernel_rfl) (by kernel_rfl) (by kernel_rfl) (by kernel_rfl) h1
  unfold Lib.TabIs World.var? at h2
  rw [tab_named] at h2
  simp only [Option.bind_some] at h2
  split at h2
  · rename_i cs e fz he
    exact ⟨0, e, fz, rfl, trivial, by rw [he]; simp only [Option.some.injEq] at h2; rw [h2]⟩
  · exact absurd h2 (by simp)
end Go.Proofs.YtbbdjjlnachnlaaGreatDoor
namespace Go.Proofs.YtbbdjjlnachnlaaGreatDoor
open Go Go.Eng
set_option linter.unusedVariables false
set_option linter.unusedSimpArgs false
set_option synthInstance.maxHeartbeats 400000
set_option synthInstance.maxSize 1000
set_option maxHeartbeats 0
set_option maxRecDepth 20000

set_option maxHeartbeats 0 in
set_option synthInstance.maxHeartbeats 400000 in
set_option synthInstance.maxSize 1000 in
theorem FnExactNormalStateOf_law {w0 : World} {Γ : List Atom} {x0 : SSystem} {x1 : List Int} {v0_0 v0_1 v1_0 : Value} [h0_0 : HasRd (List Int) repList Γ [v0_0] x0.1] [h0_1 : HasRd (List SRule) repList Γ [v0_1] x0.2] [h1_0 : HasRd (List Int) repList Γ [v1_0] x1] [htab : HasRd (Tab) repTab Γ [tabV] (Tab.mk Lib.pow10Tab)] (hf0 : (x0.1.length ≤ 9223372036854775807) ∧ x0.2.length ≤ 9223372036854775807) (hf1 : x1.length ≤ 9223372036854775807) :
    CJ Tryz.prog 4 [.agg #[v0_0, v0_1], v1_0] w0 Γ (fun _ : Unit => .bool true) (fun _ => Γ) := by
  have hz0 := lft_spec 1048576 (Siz.size x0)
  have hs0 : Siz.size x0 = Siz.size x0.1 + Siz.size x0.2 := by simp only [siz_pair, siz_int, siz_bool, siz_str] <;> omega
  have hb0_0 := cntL_le x0.1
  have hl0_0 := siz_ints x0.1
  have hb0_1 := cntL_le x0.2
  have hb1_0 := cntL_le x1
  have hl1_0 := siz_ints x1
  refine cj_enter Tryz.func4 Tryz.ntmps4 ?_
  repeat' (first | refine red ?_ | refine redc fun r => ?_ | refine redn fun b => ?_ | (refine redi (fun hc => ?_) (fun hc => ?_) <;> try first | (exfalso; omega) | with_reducible first | exact absurd rfl hc | exact absurd hc Bool.false_ne_true | exact absurd hc Bool.false_ne_true.symm) | ((refine wa_begin 13 [false, false, false, false, false] [] ?_ <;> (first | refine wa_p 0 ?_ | fail) <;> (first | refine wa_p 1 ?_ | fail) <;> (refine wa_do 2 ?_ <;> (repeat' (first | refine red ?_ | refine redc fun r => ?_ | fail))) <;> (refine wa_do 3 ?_ <;> (repeat' (first | refine red ?_ | refine redc fun r => ?_ | fail))) <;> (first | refine wa_p 4 ?_ | fail)) <;> (refine wa_end ?_)) | fail)
  all_goals exact ⟨(), rfl, ent_e⟩

end Go.Proofs.YtbbdjjlnachnlaaGreatDoor
