/- Pairs weighed: the reference. -/
import Derived.Test.YtjblieilblcdnaaTraM
namespace Go.Proofs.Ytjblieilblcdnaa
open Go Go.Eng
set_option linter.unusedVariables false
set_option linter.unusedSimpArgs false
set_option synthInstance.maxHeartbeats 400000
set_option synthInstance.maxSize 1000
set_option maxHeartbeats 4000000
set_option maxRecDepth 20000

/-- The pair falls, or does not rise. -/
def LsW (x : SSystem) (ps : List SPoly) (d : SDep) : Prop := LesO (headO x.1 ps) d.2.1 d.1
def AmW (x : SSystem) (ps : List SPoly) (d : SDep) : Prop := AtmO (headO x.1 ps) d.2.1 d.1
def WghP (x : SSystem) (ds : List SDep) (s : List Int) (ps : List SPoly) : Prop := ∀ i, i < s.length → AmW x ps (ds.getD (s.getD i 0).toNat default)
noncomputable def wghF (x : SSystem) (ds : List SDep) (s : List Int) (ps : List SPoly) (k : Nat) : List Int := (s.take k).filter fun v => dcP (LsW x ps (ds.getD v.toNat default))
noncomputable def wghD (x : SSystem) (ds : List SDep) (s : List Int) (ps : List SPoly) : List Int := if dcP (WghP x ds s ps) = true then wghF x ds s ps s.length else []
theorem wghD_yes {x : SSystem} {ds : List SDep} {s : List Int} {ps : List SPoly} (h : WghP x ds s ps) : wghD x ds s ps = wghF x ds s ps s.length := if_pos (dcP_t h)
theorem wghD_no {x : SSystem} {ds : List SDep} {s : List Int} {ps : List SPoly} (h : ¬ WghP x ds s ps) : wghD x ds s ps = [] := if_neg (by rw [dcP_f h]; decide)
theorem wghF_yes {x : SSystem} {ds : List SDep} {s : List Int} {ps : List SPoly} {k : Nat} (hk : k < s.length) (h : LsW x ps (ds.getD (s.getD k 0).toNat default)) : wghF x ds s ps (k + 1) = wghF x ds s ps k ++ [s.getD k 0] := by
  unfold wghF
  rw [take_getD hk, List.filter_append, List.filter_cons_of_pos (by exact dcP_t h), List.filter_nil]
theorem wghF_no {x : SSystem} {ds : List SDep} {s : List Int} {ps : List SPoly} {k : Nat} (hk : k < s.length) (h : ¬ LsW x ps (ds.getD (s.getD k 0).toNat default)) : wghF x ds s ps (k + 1) = wghF x ds s ps k := by
  unfold wghF
  rw [take_getD hk, List.filter_append, List.filter_cons_of_neg (by rw [dcP_f h]; decide), List.filter_nil, List.append_nil]
theorem wghF_len (x : SSystem) (ds : List SDep) (s : List Int) (ps : List SPoly) (k : Nat) : (wghF x ds s ps k).length ≤ s.length := (List.filter_sublist.trans (List.take_sublist k s)).length_le
theorem wghD_sub (x : SSystem) (ds : List SDep) (s : List Int) (ps : List SPoly) : (wghD x ds s ps).Sublist s := by
  unfold wghD
  split
  · exact List.filter_sublist.trans (List.take_sublist _ s)
  · exact List.nil_sublist s
structure WgC (x : SSystem) (ds : List SDep) (s : List Int) : Prop where
  ok : sysOk x = true
  dl : ds.length ≤ 64
  st : StC ds.length s
theorem l18Weighed_spec {w0 : World} {Γ : List Atom} {v0 v1 vd vs vp : Value} {x : SSystem} {ds : List SDep} {s : List Int} {ps : List SPoly} [h0 : HasRd (List Int) repList Γ [v0] x.1] [h1 : HasRd (List SRule) repList Γ [v1] x.2] [h4 : HasRd (List SDep) repList Γ [vd] ds] [h2 : HasRd (List Int) repList Γ [vs] s] [h3 : HasRd (List SPoly) repList Γ [vp] ps] (hs : WgC x ds s) :
    CJ Try.prog 72 [.agg #[v0, v1], vd, vs, vp] w0 Γ (fun q : Value => .tuple #[q, .bool (dcP (WghP x ds s ps))]) (fun q => .ow [q] (wghD x ds s ps) :: Γ) := by
  refine cj_lift (R := [.rd [v0] x.1, .rd [v1] x.2, .rd [vd] ds, .rd [vs] s, .rd [vp] ps]) (A := fun q : Value => [.ow [q] (wghD x ds s ps)]) (fun w1 => ?_) (reads_cons h0 (reads_cons h1 (reads_cons h4 (reads_cons h2 (reads_cons h3 (inferInstance)))))) (fun _ => inferInstance)
  simp only [List.cons_append, List.nil_append]
  obtain ⟨hok, hdl, hst⟩ := hs
  have hsl := hst.len
  have hsa := (sysOk_iff.1 hok).1.1
  refine cj_enter Try.func72 Try.ntmps72 ?_
  repeat' (first | refine red ?_ | refine redv fun sv => ?_ | refine redn fun b => ?_ | fail)
  refine wc_loop_p [10, 11] [13, 14, 15, 16, 19, 20, 21, 22, 23, 24, 25, 26, 27, 28, 29, 30, 31, 8, 9, 32, 33, 34, 35, 36, 37, 38, 39, 40, 41, 42, 43, 44, 45, 46, 47, 48, 49, 17, 18] (ι := Value × Nat) (fun k => [k.1, .int .i64 k.2]) (fun k => [.ow [k.1] (wghF x ds s ps k.2)]) (fun k => k.2 ≤ s.length ∧ ∀ i, i < k.2 → AmW x ps (ds.getD (s.getD i 0).toNat default)) (fun k => s.length - k.2) (sv, 0) [.ow [sv] ([] : List Int)] (by kernel_rfl) ⟨Nat.zero_le _, fun i hi => absurd hi (Nat.not_lt_zero i)⟩ rfl ?_
  intro ⟨so, i⟩ u l' hl' ⟨hi, hF⟩
  simp only [patch, List.map_cons, List.map_nil, List.set_cons_zero, List.set_cons_succ] at hl'
  subst hl'
  simp only [List.cons_append, List.nil_append] at hi hF ⊢
  have hfl := wghF_len x ds s ps i
  by_cases hil : i < s.length
  · have hm := hst.mem _ (getD_mem hil)
    have hk : (s.getD i 0).toNat < ds.length := by omega
    repeat' (first | refine red ?_ | refine redf fun hbi => ?_ | refine reds ?_ | refine redv fun sv => ?_ | (refine redi (fun hc => ?_) (fun hc => ?_) <;> try first | (exfalso; omega) | with_reducible first | exact absurd rfl hc | exact absurd hc Bool.false_ne_true | exact absurd hc Bool.false_ne_true.symm) | ((refine wa_begin 5 [false, false, false, false, false, false, false, false, false, false, false, false] [] ?_ <;> (first | refine wa_p 0 ?_ | fail) <;> refine wa_p 1 ?_ <;> refine wa_p 2 ?_ <;> refine wa_p 3 ?_ <;> refine wa_p 4 ?_ <;> refine wa_p 5 ?_ <;> refine wa_p 6 ?_ <;> (first | refine wa_f 7 fun hbi => ?_ | fail) <;> (first | (refine wa_deep 8 fun p cs as_ asb_ hcs has hasb hf => ?_; simp only [Un.cells, Un.atoms, Un.fact, List.cons_append, List.nil_append] at hcs has hasb hf; subst hcs has hasb) | fail) <;> (first | refine wa_p 9 ?_ | fail) <;> (refine wa_do 10 ?_ <;> (repeat' (first | refine red ?_ | (refine redc fun r => ?_; try have hr := Subtype.property r) | fail))) <;> (first | refine wa_p 11 ?_ | fail)) <;> (refine wa_end ?_)) | ((refine wa_begin 7 [false, false, false, false, false, false, false, false, false, false, false] [] ?_ <;> (first | refine wa_p 0 ?_ | fail) <;> refine wa_p 1 ?_ <;> refine wa_p 2 ?_ <;> refine wa_p 3 ?_ <;> refine wa_p 4 ?_ <;> refine wa_p 5 ?_ <;> refine wa_p 6 ?_ <;> (first | refine wa_f 7 fun hbi => ?_ | fail) <;> (first | refine wa_p 8 ?_ | fail) <;> (first | refine wa_p 9 ?_ | fail) <;> (refine wa_do 10 ?_ <;> (repeat' (first | refine red ?_ | (refine redc fun r => ?_; try have hr := Subtype.property r) | fail)))) <;> (refine wa_end ?_)) | fail)
    · have hno : ¬ WghP x ds s ps := fun h => hc (h i hil)
      rw [wghD_no hno, dcP_f hno]
      exact ⟨sv, rfl, ent_e⟩
    all_goals
      have hnx : ∀ j, j < i + 1 → AmW x ps (ds.getD (s.getD j 0).toNat default) := fun j hj => by
        by_cases e : j = i
        · subst e; assumption
        · exact hF j (by omega)
    · exact wq_next (sv, i + 1) ⟨by simp only; omega, hnx⟩ (by simp only; omega) (by kernel_rfl) (by simp only [wghF_yes (ps := ps) (ds := ds) hil hc]; exact ent_e)
    · exact wq_next (so, i + 1) ⟨by simp only; omega, hnx⟩ (by simp only; omega) (by kernel_rfl) (by simp only [wghF_no (ps := ps) (ds := ds) hil hc]; exact ent_e)
  · obtain rfl : i = s.length := by omega
    repeat' (first | refine red ?_ | (refine redi (fun hc => ?_) (fun hc => ?_) <;> try first | (exfalso; omega) | with_reducible first | exact absurd rfl hc | exact absurd hc Bool.false_ne_true | exact absurd hc Bool.false_ne_true.symm) | fail)
    have hW : WghP x ds s ps := hF
    rw [wghD_yes hW, dcP_t hW]
    exact ⟨so, rfl, ent_e⟩
instance l18Weighed_ctr {Γ : List Atom} {v0 v1 vd vs vp : Value} {x : SSystem} {ds : List SDep} {s : List Int} {ps : List SPoly} [h0 : HasRd (List Int) repList Γ [v0] x.1] [h1 : HasRd (List SRule) repList Γ [v1] x.2] [h4 : HasRd (List SDep) repList Γ [vd] ds] [h2 : HasRd (List Int) repList Γ [vs] s] [h3 : HasRd (List SPoly) repList Γ [vp] ps] :
    CtrC Try.prog 72 [.agg #[v0, v1], vd, vs, vp] Γ (WgC x ds s) (Value) (fun q : Value => .tuple #[q, .bool (dcP (WghP x ds s ps))]) (fun q => .ow [q] (wghD x ds s ps) :: Γ) := ⟨fun s w0 => l18Weighed_spec s⟩

structure WgbP (x : SSystem) (s : List Int) (ps : List SPoly) : Prop where
  ok : PairsP x
  st : StC (pairsD x).length s
  mm : MarkP x.1 ps
  al : AlwP x (ps.take x.1.length)
  wg : WghP x (pairsD x) s ps
noncomputable def wgbD (x : SSystem) (s : List Int) (ps : List SPoly) : List Int := if dcP (WgbP x s ps) = true then wghD x (pairsD x) s ps else []
theorem wgbD_yes {x : SSystem} {s : List Int} {ps : List SPoly} (h : WgbP x s ps) : wgbD x s ps = wghD x (pairsD x) s ps := if_pos (dcP_t h)
theorem wgbD_no {x : SSystem} {s : List Int} {ps : List SPoly} (h : ¬ WgbP x s ps) : wgbD x s ps = [] := if_neg (by rw [dcP_f h]; decide)
theorem wgbD_sub (x : SSystem) (s : List Int) (ps : List SPoly) : (wgbD x s ps).Sublist s := by
  unfold wgbD
  split
  · exact wghD_sub x _ s ps
  · exact List.nil_sublist s
theorem WeighedBy_spec {w0 : World} {Γ : List Atom} {v0 v1 vs vp : Value} {x : SSystem} {s : List Int} {ps : List SPoly} [h0 : HasRd (List Int) repList Γ [v0] x.1] [h1 : HasRd (List SRule) repList Γ [v1] x.2] [h2 : HasRd (List Int) repList Γ [vs] s] [h3 : HasRd (List SPoly) repList Γ [vp] ps] :
    CJ Try.prog 44 [.agg #[v0, v1], vs, vp] w0 Γ (fun q : Value => .tuple #[q, .bool (dcP (WgbP x s ps))]) (fun q => .ow [q] (wgbD x s ps) :: Γ) := by
  refine cj_lift (R := [.rd [v0] x.1, .rd [v1] x.2, .rd [vs] s, .rd [vp] ps]) (A := fun q : Value => [.ow [q] (wgbD x s ps)]) (fun w1 => ?_) (reads_cons h0 (reads_cons h1 (reads_cons h2 (reads_cons h3 (inferInstance))))) (fun _ => inferInstance)
  simp only [List.cons_append, List.nil_append]
  have hpl := pairsD_len x
  by_cases hok : PairsP x
  · have hsa := (sysOk_iff.1 hok.1).1.1
    by_cases hst : StC (pairsD x).length s
    · have hwc : WgC x (pairsD x) s := ⟨hok.1, hpl, hst⟩
      by_cases hmk : MarkP x.1 ps
      · have hml := hmk.l
        refine cj_enter Try.func44 Try.ntmps44 ?_
        repeat' (first | refine red ?_ | (refine redc fun r => ?_; try have hr := Subtype.property r) | refine redv fun sv => ?_ | refine redn fun b => ?_ | (refine redi (fun hc => ?_) (fun hc => ?_) <;> try first | (exfalso; omega) | with_reducible first | exact absurd rfl hc | exact absurd hc Bool.false_ne_true | exact absurd hc Bool.false_ne_true.symm) | ((refine wa_begin 2 [false, false, false, false, false, false, false, false, false, false, false, false, false, false, false, false, false, false, false, false, false, false, false, false, false, false, false] [] ?_ <;> refine wa_p 0 ?_ <;> (first | refine wa_p 1 ?_ | fail) <;> refine wa_p 2 ?_ <;> (first | (refine wa_if 17 (fun hc => ?_) (fun hc => ?_) <;> (try first | (exfalso; omega) | with_reducible first | exact absurd rfl hc | exact absurd hc Bool.false_ne_true | exact absurd hc Bool.false_ne_true.symm) <;> first | refine wa_pg 3 ?_ | refine wa_no 3 ?_) | fail) <;> (first | refine wa_pg 4 ?_ | refine wa_no 4 ?_ | fail) <;> (first | refine wa_pg 5 ?_ | refine wa_no 5 ?_ | fail) <;> (refine wa_do 6 ?_ <;> (repeat' (first | refine red ?_ | (refine redc fun r => ?_; try have hr := Subtype.property r) | fail))) <;> (first | refine wa_pg 7 ?_ | refine wa_no 7 ?_ | fail) <;> (first | refine wa_p 8 ?_ | fail) <;> refine wa_p 9 ?_ <;> (first | refine wa_no 10 ?_ | (refine wa_if 24 (fun hc => ?_) (fun hc => ?_) <;> (try first | (exfalso; omega) | with_reducible first | exact absurd rfl hc | exact absurd hc Bool.false_ne_true | exact absurd hc Bool.false_ne_true.symm) <;> first | refine wa_pg 10 ?_ | refine wa_no 10 ?_) | fail) <;> (first | refine wa_pg 11 ?_ | refine wa_no 11 ?_ | fail) <;> (first | refine wa_pg 12 ?_ | refine wa_no 12 ?_ | fail) <;> (refine wa_do 13 ?_ <;> (repeat' (first | refine red ?_ | (refine redc fun r => ?_; try have hr := Subtype.property r) | fail))) <;> (first | refine wa_pg 14 ?_ | refine wa_no 14 ?_ | fail) <;> (first | refine wa_p 15 ?_ | fail) <;> refine wa_p 16 ?_ <;> (first | refine wa_no 17 ?_ | (refine wa_if 31 (fun hc => ?_) (fun hc => ?_) <;> (try first | (exfalso; omega) | with_reducible first | exact absurd rfl hc | exact absurd hc Bool.false_ne_true | exact absurd hc Bool.false_ne_true.symm) <;> first | refine wa_pg 17 ?_ | refine wa_no 17 ?_) | fail) <;> (first | refine wa_pg 18 ?_ | refine wa_no 18 ?_ | fail) <;> (first | refine wa_pg 19 ?_ | refine wa_no 19 ?_ | fail) <;> (first | refine wa_pg 20 ?_ | refine wa_no 20 ?_ | fail) <;> (first | refine wa_pg 21 ?_ | refine wa_no 21 ?_ | fail) <;> (first | refine wa_pg 22 ?_ | refine wa_no 22 ?_ | fail) <;> (refine wa_do 23 ?_ <;> (repeat' (first | refine red ?_ | refine redv fun sv => ?_ | fail))) <;> (refine wa_do 24 ?_ <;> (repeat' (first | refine red ?_ | (refine redc fun r => ?_; try have hr := Subtype.property r) | fail))) <;> (first | refine wa_pg 25 ?_ | refine wa_no 25 ?_ | fail) <;> (first | refine wa_p 26 ?_ | fail)) <;> (refine wa_end ?_)) | fail)
        · exact absurd hok hc
        · exact absurd hst hc
        · exact absurd hmk hc
        · have hno : ¬ WgbP x s ps := fun h => hc h.al
          rw [wgbD_no hno, dcP_f hno]
          exact ⟨sv, rfl, ent_e⟩
        · by_cases hw : WghP x (pairsD x) s ps
          · have hyes : WgbP x s ps := ⟨hok, hst, hmk, hc, hw⟩
            rw [wgbD_yes hyes, dcP_t hyes, dcP_t hw]
            exact ⟨r, rfl, ent_e⟩
          · have hno : ¬ WgbP x s ps := fun h => hw h.wg
            rw [wgbD_no hno, dcP_f hno, dcP_f hw, wghD_no hw]
            exact ⟨r, rfl, ent_e⟩
      · have hno : ¬ WgbP x s ps := fun h => hmk h.mm
        rw [wgbD_no hno, dcP_f hno]
        haveI hI : ∀ (Δ : List Atom) (va vp : Value) (a : List Int) (ps : List SPoly) [HasRd (List Int) repList Δ [va] a] [HasRd (List SPoly) repList Δ [vp] ps], CtrC Try.prog 71 [.agg #[va], vp] Δ (sigOk a = true ∧ ¬ MarkP a ps) Unit (fun _ => .bool false) (fun _ => Δ) := fun Δ va vp a ps _ _ => ⟨fun h w0 => by rw [← dcP_f h.2]; exact MarkedOk_spec h.1⟩
        refine cj_enter Try.func44 Try.ntmps44 ?_
        repeat' (first | refine red ?_ | (refine redc fun r => ?_; try have hr := Subtype.property r) | refine redv fun sv => ?_ | refine redn fun b => ?_ | ((refine wa_begin 2 [false, false, false, false, false, false, false, false, false, false, false, false, false, false, false, false, false, false, false, false, false, false, false, false, false, false, false] [] ?_ <;> refine wa_p 0 ?_ <;> (first | refine wa_p 1 ?_ | fail) <;> refine wa_p 2 ?_ <;> (first | (refine wa_if 17 (fun hc => ?_) (fun hc => ?_) <;> (try first | (exfalso; omega) | with_reducible first | exact absurd rfl hc | exact absurd hc Bool.false_ne_true | exact absurd hc Bool.false_ne_true.symm) <;> first | refine wa_pg 3 ?_ | refine wa_no 3 ?_) | fail) <;> (first | refine wa_pg 4 ?_ | refine wa_no 4 ?_ | fail) <;> (first | refine wa_pg 5 ?_ | refine wa_no 5 ?_ | fail) <;> (refine wa_do 6 ?_ <;> (repeat' (first | refine red ?_ | (refine redc fun r => ?_; try have hr := Subtype.property r) | fail))) <;> (first | refine wa_pg 7 ?_ | refine wa_no 7 ?_ | fail) <;> (first | refine wa_p 8 ?_ | fail) <;> refine wa_p 9 ?_ <;> (first | refine wa_no 10 ?_ | (refine wa_if 24 (fun hc => ?_) (fun hc => ?_) <;> (try first | (exfalso; omega) | with_reducible first | exact absurd rfl hc | exact absurd hc Bool.false_ne_true | exact absurd hc Bool.false_ne_true.symm) <;> first | refine wa_pg 10 ?_ | refine wa_no 10 ?_) | fail) <;> (first | refine wa_pg 11 ?_ | refine wa_no 11 ?_ | fail) <;> (first | refine wa_pg 12 ?_ | refine wa_no 12 ?_ | fail) <;> (refine wa_do 13 ?_ <;> (repeat' (first | refine red ?_ | (refine redc fun r => ?_; try have hr := Subtype.property r) | fail))) <;> (first | refine wa_pg 14 ?_ | refine wa_no 14 ?_ | fail) <;> (first | refine wa_p 15 ?_ | fail) <;> refine wa_p 16 ?_ <;> (first | refine wa_no 17 ?_ | (refine wa_if 31 (fun hc => ?_) (fun hc => ?_) <;> (try first | (exfalso; omega) | with_reducible first | exact absurd rfl hc | exact absurd hc Bool.false_ne_true | exact absurd hc Bool.false_ne_true.symm) <;> first | refine wa_pg 17 ?_ | refine wa_no 17 ?_) | fail) <;> (first | refine wa_no 18 ?_ | fail) <;> (first | refine wa_no 19 ?_ | fail) <;> (first | refine wa_no 20 ?_ | fail) <;> (first | refine wa_no 21 ?_ | fail) <;> (first | refine wa_no 22 ?_ | fail) <;> (refine wa_do 23 ?_ <;> (repeat' (first | refine red ?_ | fail))) <;> (refine wa_do 24 ?_ <;> (repeat' (first | refine red ?_ | fail))) <;> (first | refine wa_no 25 ?_ | fail) <;> (first | refine wa_p 26 ?_ | fail)) <;> (refine wa_end ?_)) | fail)
        all_goals first
          | exact ⟨sv, rfl, ent_e⟩
          | exact absurd hok (by assumption)
          | exact absurd hst (by assumption)
    · have hno : ¬ WgbP x s ps := fun h => hst h.st
      rw [wgbD_no hno, dcP_f hno]
      haveI hI : ∀ (Δ : List Atom) (v : Value) (s : List Int) (n : Nat) [HasRd (List Int) repList Δ [v] s], CtrC Try.prog 60 [v, .int .i64 (n : Int)] Δ (n ≤ 64 ∧ ¬ StC n s) Unit (fun _ => .bool false) (fun _ => Δ) := fun Δ v s n _ => ⟨fun h w0 => by rw [← dcP_f h.2]; exact l18Set_spec h.1⟩
      refine cj_enter Try.func44 Try.ntmps44 ?_
      repeat' (first | refine red ?_ | (refine redc fun r => ?_; try have hr := Subtype.property r) | refine redv fun sv => ?_ | refine redn fun b => ?_ | ((refine wa_begin 2 [false, false, false, false, false, false, false, false, false, false, false, false, false, false, false, false, false, false, false, false, false, false, false, false, false, false, false] [] ?_ <;> refine wa_p 0 ?_ <;> (first | refine wa_p 1 ?_ | fail) <;> refine wa_p 2 ?_ <;> (first | (refine wa_if 17 (fun hc => ?_) (fun hc => ?_) <;> (try first | (exfalso; omega) | with_reducible first | exact absurd rfl hc | exact absurd hc Bool.false_ne_true | exact absurd hc Bool.false_ne_true.symm) <;> first | refine wa_pg 3 ?_ | refine wa_no 3 ?_) | fail) <;> (first | refine wa_pg 4 ?_ | refine wa_no 4 ?_ | fail) <;> (first | refine wa_pg 5 ?_ | refine wa_no 5 ?_ | fail) <;> (refine wa_do 6 ?_ <;> (repeat' (first | refine red ?_ | (refine redc fun r => ?_; try have hr := Subtype.property r) | fail))) <;> (first | refine wa_pg 7 ?_ | refine wa_no 7 ?_ | fail) <;> (first | refine wa_p 8 ?_ | fail) <;> refine wa_p 9 ?_ <;> (first | refine wa_no 10 ?_ | (refine wa_if 24 (fun hc => ?_) (fun hc => ?_) <;> (try first | (exfalso; omega) | with_reducible first | exact absurd rfl hc | exact absurd hc Bool.false_ne_true | exact absurd hc Bool.false_ne_true.symm) <;> first | refine wa_pg 10 ?_ | refine wa_no 10 ?_) | fail) <;> (first | refine wa_no 11 ?_ | fail) <;> (first | refine wa_no 12 ?_ | fail) <;> (refine wa_do 13 ?_ <;> (repeat' (first | refine red ?_ | fail))) <;> (first | refine wa_no 14 ?_ | fail) <;> (first | refine wa_p 15 ?_ | fail) <;> refine wa_p 16 ?_ <;> (first | refine wa_no 17 ?_ | fail) <;> (first | refine wa_no 18 ?_ | fail) <;> (first | refine wa_no 19 ?_ | fail) <;> (first | refine wa_no 20 ?_ | fail) <;> (first | refine wa_no 21 ?_ | fail) <;> (first | refine wa_no 22 ?_ | fail) <;> (refine wa_do 23 ?_ <;> (repeat' (first | refine red ?_ | fail))) <;> (refine wa_do 24 ?_ <;> (repeat' (first | refine red ?_ | fail))) <;> (first | refine wa_no 25 ?_ | fail) <;> (first | refine wa_p 26 ?_ | fail)) <;> (refine wa_end ?_)) | fail)
      all_goals first
        | exact ⟨sv, rfl, ent_e⟩
        | exact absurd hok (by assumption)
  · have hno : ¬ WgbP x s ps := fun h => hok h.ok
    rw [wgbD_no hno, dcP_f hno]
    haveI hI : ∀ (Δ : List Atom) (v0 v1 : Value) (x : SSystem) [HasRd (List Int) repList Δ [v0] x.1] [HasRd (List SRule) repList Δ [v1] x.2], CtrC Try.prog 25 [.agg #[v0, v1]] Δ (¬ PairsP x) Value (fun q => .tuple #[q, .bool false]) (fun q => .ow [q] (pairsD x) :: Δ) := fun Δ v0 v1 x _ _ => ⟨fun h w0 => by rw [← dcP_f h]; exact PairsOf_spec⟩
    refine cj_enter Try.func44 Try.ntmps44 ?_
    repeat' (first | refine red ?_ | (refine redc fun r => ?_; try have hr := Subtype.property r) | refine redv fun sv => ?_ | refine redn fun b => ?_ | ((refine wa_begin 2 [false, false, false, false, false, false, false, false, false, false, false, false, false, false, false, false, false, false, false, false, false, false, false, false, false, false, false] [] ?_ <;> refine wa_p 0 ?_ <;> (first | refine wa_p 1 ?_ | fail) <;> refine wa_p 2 ?_ <;> (first | (refine wa_if 17 (fun hc => ?_) (fun hc => ?_) <;> (try first | (exfalso; omega) | with_reducible first | exact absurd rfl hc | exact absurd hc Bool.false_ne_true | exact absurd hc Bool.false_ne_true.symm) <;> first | refine wa_pg 3 ?_ | refine wa_no 3 ?_) | fail) <;> (first | refine wa_no 4 ?_ | fail) <;> (first | refine wa_no 5 ?_ | fail) <;> (refine wa_do 6 ?_ <;> (repeat' (first | refine red ?_ | fail))) <;> (first | refine wa_no 7 ?_ | fail) <;> (first | refine wa_p 8 ?_ | fail) <;> refine wa_p 9 ?_ <;> (first | refine wa_no 10 ?_ | fail) <;> (first | refine wa_no 11 ?_ | fail) <;> (first | refine wa_no 12 ?_ | fail) <;> (refine wa_do 13 ?_ <;> (repeat' (first | refine red ?_ | fail))) <;> (first | refine wa_no 14 ?_ | fail) <;> (first | refine wa_p 15 ?_ | fail) <;> refine wa_p 16 ?_ <;> (first | refine wa_no 17 ?_ | fail) <;> (first | refine wa_no 18 ?_ | fail) <;> (first | refine wa_no 19 ?_ | fail) <;> (first | refine wa_no 20 ?_ | fail) <;> (first | refine wa_no 21 ?_ | fail) <;> (first | refine wa_no 22 ?_ | fail) <;> (refine wa_do 23 ?_ <;> (repeat' (first | refine red ?_ | fail))) <;> (refine wa_do 24 ?_ <;> (repeat' (first | refine red ?_ | fail))) <;> (first | refine wa_no 25 ?_ | fail) <;> (first | refine wa_p 26 ?_ | fail)) <;> (refine wa_end ?_)) | fail)
    all_goals first
      | exact ⟨sv, rfl, ent_e⟩
instance WeighedBy_ctr {Γ : List Atom} {v0 v1 vs vp : Value} {x : SSystem} {s : List Int} {ps : List SPoly} [h0 : HasRd (List Int) repList Γ [v0] x.1] [h1 : HasRd (List SRule) repList Γ [v1] x.2] [h2 : HasRd (List Int) repList Γ [vs] s] [h3 : HasRd (List SPoly) repList Γ [vp] ps] :
    CtrC Try.prog 44 [.agg #[v0, v1], vs, vp] Γ (True) (Value) (fun q : Value => .tuple #[q, .bool (dcP (WgbP x s ps))]) (fun q => .ow [q] (wgbD x s ps) :: Γ) := ⟨fun s w0 => WeighedBy_spec⟩

end Go.Proofs.Ytjblieilblcdnaa
