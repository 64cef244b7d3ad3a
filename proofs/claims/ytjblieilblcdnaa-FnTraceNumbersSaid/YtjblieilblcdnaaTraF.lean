/- Pairs projected: the reference. -/
import Derived.Test.YtjblieilblcdnaaTraE
namespace Go.Proofs.Ytjblieilblcdnaa
open Go Go.Eng
set_option linter.unusedVariables false
set_option linter.unusedSimpArgs false
set_option synthInstance.maxHeartbeats 400000
set_option synthInstance.maxSize 1000
set_option maxHeartbeats 4000000
set_option maxRecDepth 20000

theorem argF_ok {a proj t : List Int} (h : ArC a proj t) (hl : 0 < (argF a proj t).length) : termOk a (argF a proj t) = true := by
  obtain ⟨⟨hsa, hpl, hpj⟩, ht, hd⟩ := h
  have hlt := termOk_len ht
  have hw := wtm_of ht
  have hg := termOk_get ht (k := 0) (by omega)
  have hp := hpj (t.getD 0 0).toNat (by omega)
  have hag := agN_le ht
  have hak : ar a (t.getD 0 0) = a.getD (t.getD 0 0).toNat 0 := by unfold ar; rw [if_neg (by omega)]
  have hpn := partsW_len a t (agN a t)
  by_cases hn : proj.getD (t.getD 0 0).toNat 0 < 0
  · have e : argF a proj t = [] := if_pos hn
    rw [e] at hl; simp at hl
  · have e : argF a proj t = ((partsW a t (agN a t)).getD (proj.getD (t.getD 0 0).toNat 0).toNat default).v := if_neg hn
    rw [e]
    have hm := getD_memD (xs := partsW a t (agN a t)) (k := (proj.getD (t.getD 0 0).toNat 0).toNat) (by omega)
    obtain ⟨i, hi, e2⟩ := partsW_mem hm
    rw [e2]
    have hN : agN a (sqL t) = agN a t := by unfold agN; rw [sqL_get (by omega), sqV_pos hd]
    have hlt2 := agP_lt hw.ok (i := i) (by rw [hN]; exact hi)
    rw [sqL_len] at hlt2
    show termOk a (subW a t (agP a (sqL t) i)) = true
    rw [subW_plain ht]
    exact subt_ok ht hlt2.1
theorem argF_len {a proj t : List Int} (h : ArC a proj t) : (argF a proj t).length ≤ 60 := by
  by_cases h0 : 0 < (argF a proj t).length
  · exact (termOk_len (argF_ok h h0)).2
  · omega
/-- The pairs are of right terms, headed by symbols. -/
def GoodD (x : SSystem) (d : SDep) : Prop := termOk x.1 d.1 = true ∧ termOk x.1 d.2.1 = true ∧ 0 ≤ d.1.getD 0 0 ∧ 0 ≤ d.2.1.getD 0 0
theorem depAt_good {x : SSystem} (hs : sysOk x = true) {r k : Nat} {d : SDep} (hr : r < x.2.length) (hk : k < (x.2.getD r default).2.length) (h : depAt x r k = some d) : GoodD x d := by
  by_cases hp : DepP x r k
  · rw [depAt_yes hp] at h
    obtain rfl := Option.some.inj h
    have hR := (rule_of hs hr).1
    refine ⟨hR.1, subt_ok hR.2.1 hk, hR.2.2, ?_⟩
    show 0 ≤ (subt x.1 (x.2.getD r default).2 k).getD 0 0
    rw [← subW_plain hR.2.1, subW_hd (wtm_of hR.2.1) hk]
    exact hp.1
  · rw [depAt_no hp] at h; cases h
theorem depRow_good {x : SSystem} (hs : sysOk x = true) {r : Nat} (hr : r < x.2.length) {out : List SDep} (ho : ∀ d ∈ out, GoodD x d) : ∀ k, k ≤ (x.2.getD r default).2.length → ∀ d ∈ depRow x r out k, GoodD x d
  | 0, _ => ho
  | k + 1, hk => fun d hd => by
    rcases List.mem_append.1 (show d ∈ depRow x r out k ++ (depAt x r k).toList from hd) with h | h
    · exact depRow_good hs hr ho k (by omega) d h
    · exact depAt_good hs hr (by omega) (Option.mem_toList.1 h)
theorem depAll_good {x : SSystem} (hs : sysOk x = true) : ∀ r, r ≤ x.2.length → ∀ d ∈ depAll x r, GoodD x d
  | 0, _ => fun d hd => absurd hd (by simp [depAll])
  | r + 1, hr => depRow_good hs (by omega) (depAll_good hs r (by omega)) _ (Nat.le_refl _)
theorem pairs_good {x : SSystem} (h : PairsP x) : PsH x (pairsD x) := by
  have hg := depAll_good h.1 x.2.length (Nat.le_refl _)
  rw [pairsD_yes h]
  exact ⟨⟨h.1, h.2, fun k hk => ⟨(hg _ (getD_memD hk)).1, (hg _ (getD_memD hk)).2.1⟩⟩, fun k hk => (hg _ (getD_memD hk)).2.2⟩
/-- The argument of a side falls. -/
def LessQ (x : SSystem) (proj : List Int) (d : SDep) : Prop := 0 < (argF x.1 proj d.1).length ∧ 0 < (argF x.1 proj d.2.1).length ∧ PartP x.1 (argF x.1 proj d.1) (argF x.1 proj d.2.1) (argF x.1 proj d.1).length
def FineQ (x : SSystem) (proj : List Int) (d : SDep) : Prop := LessQ x proj d ∨ (0 < (argF x.1 proj d.1).length ∧ argF x.1 proj d.1 = argF x.1 proj d.2.1)
structure PrjP (x : SSystem) (s proj : List Int) : Prop where
  ok : PairsP x
  st : StC (pairsD x).length s
  pj : ProjP x.1 proj
  fine : ∀ i, i < s.length → FineQ x proj ((pairsD x).getD (s.getD i 0).toNat default)
noncomputable def lessF (x : SSystem) (s proj : List Int) (k : Nat) : List Int := (s.take k).filter fun v => dcP (LessQ x proj ((pairsD x).getD v.toNat default))
noncomputable def prjD (x : SSystem) (s proj : List Int) : List Int := if dcP (PrjP x s proj) = true then lessF x s proj s.length else []
theorem prjD_yes {x : SSystem} {s proj : List Int} (h : PrjP x s proj) : prjD x s proj = lessF x s proj s.length := if_pos (dcP_t h)
theorem prjD_no {x : SSystem} {s proj : List Int} (h : ¬ PrjP x s proj) : prjD x s proj = [] := if_neg (by rw [dcP_f h]; decide)
theorem lessF_yes {x : SSystem} {s proj : List Int} {k : Nat} (hk : k < s.length) (h : LessQ x proj ((pairsD x).getD (s.getD k 0).toNat default)) : lessF x s proj (k + 1) = lessF x s proj k ++ [s.getD k 0] := by
  unfold lessF
  rw [take_getD hk, List.filter_append, List.filter_cons_of_pos (by exact dcP_t h), List.filter_nil]
theorem lessF_no {x : SSystem} {s proj : List Int} {k : Nat} (hk : k < s.length) (h : ¬ LessQ x proj ((pairsD x).getD (s.getD k 0).toNat default)) : lessF x s proj (k + 1) = lessF x s proj k := by
  unfold lessF
  rw [take_getD hk, List.filter_append, List.filter_cons_of_neg (by rw [dcP_f h]; decide), List.filter_nil, List.append_nil]
theorem lessF_len (x : SSystem) (s proj : List Int) (k : Nat) : (lessF x s proj k).length ≤ s.length := (List.filter_sublist.trans (List.take_sublist k s)).length_le
theorem prjD_sub (x : SSystem) (s proj : List Int) : (prjD x s proj).Sublist s := by
  unfold prjD
  split
  · exact List.filter_sublist.trans (List.take_sublist _ s)
  · exact List.nil_sublist s
theorem ProjectedBy_spec {w0 : World} {Γ : List Atom} {v0 v1 vs vp : Value} {x : SSystem} {s proj : List Int} [h0 : HasRd (List Int) repList Γ [v0] x.1] [h1 : HasRd (List SRule) repList Γ [v1] x.2] [h2 : HasRd (List Int) repList Γ [vs] s] [h3 : HasRd (List Int) repList Γ [vp] proj] :
    CJ Try.prog 42 [.agg #[v0, v1], vs, vp] w0 Γ (fun q : Value => .tuple #[q, .bool (dcP (PrjP x s proj))]) (fun q => .ow [q] (prjD x s proj) :: Γ) := by
  refine cj_lift (R := [.rd [v0] x.1, .rd [v1] x.2, .rd [vs] s, .rd [vp] proj]) (A := fun q : Value => [.ow [q] (prjD x s proj)]) (fun w1 => ?_) (reads_cons h0 (reads_cons h1 (reads_cons h2 (reads_cons h3 (inferInstance))))) (fun _ => inferInstance)
  simp only [List.cons_append, List.nil_append]
  by_cases hP : PairsP x ∧ StC (pairsD x).length s ∧ ProjP x.1 proj
  · obtain ⟨hok, hst, hpj⟩ := hP
    have hph := pairs_good hok
    have hpl := hph.c.len
    have hsl := hst.len
    refine cj_enter Try.func42 Try.ntmps42 ?_
    repeat' (first | refine red ?_ | (refine redc fun r => ?_; try have hr := Subtype.property r) | refine redv fun sv => ?_ | refine redn fun b => ?_ | (refine redi (fun hc => ?_) (fun hc => ?_) <;> try first | (exfalso; omega) | with_reducible first | exact absurd rfl hc | exact absurd hc Bool.false_ne_true | exact absurd hc Bool.false_ne_true.symm) | fail)
    · exact absurd hok hc
    · exact absurd hst hc
    · exact absurd hpj hc
    · rename_i pv _ _ _
      refine wc_share pv ?_
      refine wc_loop_p [10, 11] [38, 39, 40, 41, 44, 45, 46, 47, 48, 49, 50, 51, 52, 53, 54, 55, 12, 56, 57, 58, 59, 60, 61, 62, 63, 64, 65, 66, 67, 13, 68, 69, 70, 71, 72, 73, 74, 75, 76, 77, 78, 79, 80, 81, 82, 14, 83, 84, 85, 86, 87, 88, 89, 90, 91, 92, 93, 94, 95, 96, 6, 7, 97, 98, 99, 100, 101, 102, 103, 104, 42, 43] (ι := Value × Nat) (fun k => [k.1, .int .i64 k.2]) (fun k => [.ow [k.1] (lessF x s proj k.2)]) (fun k => k.2 ≤ s.length ∧ ∀ i, i < k.2 → FineQ x proj ((pairsD x).getD (s.getD i 0).toNat default)) (fun k => s.length - k.2) (sv, 0) [.ow [sv] ([] : List Int)] (by kernel_rfl) ⟨Nat.zero_le _, fun i hi => absurd hi (Nat.not_lt_zero i)⟩ rfl ?_
      intro ⟨so, i⟩ u l' hl' ⟨hi, hF⟩
      simp only [patch, List.map_cons, List.map_nil, List.set_cons_zero, List.set_cons_succ] at hl'
      subst hl'
      simp only [List.cons_append, List.nil_append] at hi hF ⊢
      have hfl := lessF_len x s proj i
      by_cases hil : i < s.length
      · have hm := hst.mem _ (getD_mem hil)
        have hk : (s.getD i 0).toNat < (pairsD x).length := by omega
        have hd := hph.hd _ hk
        have ht := hph.c.tm _ hk
        have haL : ArC x.1 proj ((pairsD x).getD (s.getD i 0).toNat default).1 := ⟨hpj, ht.1, hd.1⟩
        have haR : ArC x.1 proj ((pairsD x).getD (s.getD i 0).toNat default).2.1 := ⟨hpj, ht.2, hd.2⟩
        have hlL := argF_len haL
        have hlR := argF_len haR
        have hnx : FineQ x proj ((pairsD x).getD (s.getD i 0).toNat default) → ∀ j, j < i + 1 → FineQ x proj ((pairsD x).getD (s.getD j 0).toNat default) := fun h j hj => by
          by_cases e : j = i
          · subst e; exact h
          · exact hF j (by omega)
        by_cases hz : 0 < (argF x.1 proj ((pairsD x).getD (s.getD i 0).toNat default).1).length
        · have htL := argF_ok haL hz
          repeat' (first | refine red ?_ | refine redf fun hbi => ?_ | refine reds ?_ | (refine redc fun r => ?_; try have hr := Subtype.property r) | refine redv fun sv => ?_ | (refine redi (fun hc => ?_) (fun hc => ?_) <;> try first | (exfalso; omega) | with_reducible first | exact absurd rfl hc | exact absurd hc Bool.false_ne_true | exact absurd hc Bool.false_ne_true.symm) | ((refine wa_begin 8 [false, false, false, false, false, false, false, false, false, false, false, false, false] [] ?_ <;> (first | refine wa_p 0 ?_ | fail) <;> refine wa_p 1 ?_ <;> refine wa_p 2 ?_ <;> refine wa_p 3 ?_ <;> refine wa_p 4 ?_ <;> refine wa_p 5 ?_ <;> refine wa_p 6 ?_ <;> (first | refine wa_f 7 fun hbi => ?_ | fail) <;> (first | (refine wa_deep 8 fun p cs as_ asb_ hcs has hasb hf => ?_; simp only [Un.cells, Un.atoms, Un.fact, List.cons_append, List.nil_append] at hcs has hasb hf; subst hcs has hasb) | fail) <;> (first | refine wa_p 9 ?_ | fail) <;> (first | refine wa_p 10 ?_ | fail) <;> (refine wa_do 11 ?_ <;> (repeat' (first | refine red ?_ | (refine redc fun r => ?_; try have hr := Subtype.property r) | fail))) <;> refine wa_p 12 ?_) <;> (refine wa_end ?_)) | ((refine wa_begin 9 [false, false, false, false, false, false, false, false, false, false, false, false, false] [] ?_ <;> (first | refine wa_p 0 ?_ | fail) <;> refine wa_p 1 ?_ <;> refine wa_p 2 ?_ <;> refine wa_p 3 ?_ <;> refine wa_p 4 ?_ <;> refine wa_p 5 ?_ <;> refine wa_p 6 ?_ <;> (first | refine wa_f 7 fun hbi => ?_ | fail) <;> (first | refine wa_p 8 ?_ | fail) <;> (first | refine wa_p 9 ?_ | fail) <;> (first | refine wa_p 10 ?_ | fail) <;> (refine wa_do 11 ?_ <;> (repeat' (first | refine red ?_ | (refine redc fun r => ?_; try have hr := Subtype.property r) | fail))) <;> refine wa_p 12 ?_) <;> (refine wa_end ?_)) | fail)
          all_goals first
            | (exfalso; first | omega | contradiction)
            | (have hno : ¬ PrjP x s proj := fun h => by
                 rcases h.fine i hil with ⟨h1, h2, h3⟩ | ⟨h1, h2⟩
                 · first | contradiction | omega
                 · first | contradiction | omega
               rw [prjD_no hno, dcP_f hno]
               exact ⟨sv, rfl, ent_e⟩)
            | (have hq : LessQ x proj ((pairsD x).getD (s.getD i 0).toNat default) := ⟨hz, by omega, by assumption⟩
               exact wq_next (sv, i + 1) ⟨by simp only; omega, hnx (.inl hq)⟩ (by simp only; omega) (by kernel_rfl) (by simp only [lessF_yes hil hq]; exact ent_e))
            | (have hq : ¬ LessQ x proj ((pairsD x).getD (s.getD i 0).toNat default) := fun h => by
                 obtain ⟨h1, h2, h3⟩ := h
                 first | contradiction | omega
               exact wq_next (so, i + 1) ⟨by simp only; omega, hnx (.inr ⟨hz, by assumption⟩)⟩ (by simp only; omega) (by kernel_rfl) (by simp only [lessF_no hil hq]; exact ent_e))
        · have hno : ¬ PrjP x s proj := fun h => by
            rcases h.fine i hil with h | h
            · exact hz h.1
            · exact hz h.1
          repeat' (first | refine red ?_ | refine redv fun sv => ?_ | (refine redi (fun hc => ?_) (fun hc => ?_) <;> try first | (exfalso; omega) | with_reducible first | exact absurd rfl hc | exact absurd hc Bool.false_ne_true | exact absurd hc Bool.false_ne_true.symm) | ((refine wa_begin 8 [false, false, false, false, false, false, false, false, false, false, false, false, false] [] ?_ <;> (first | refine wa_p 0 ?_ | fail) <;> refine wa_p 1 ?_ <;> refine wa_p 2 ?_ <;> refine wa_p 3 ?_ <;> refine wa_p 4 ?_ <;> refine wa_p 5 ?_ <;> refine wa_p 6 ?_ <;> (first | refine wa_f 7 fun hbi => ?_ | fail) <;> (first | (refine wa_deep 8 fun p cs as_ asb_ hcs has hasb hf => ?_; simp only [Un.cells, Un.atoms, Un.fact, List.cons_append, List.nil_append] at hcs has hasb hf; subst hcs has hasb) | fail) <;> (first | refine wa_p 9 ?_ | fail) <;> (first | refine wa_p 10 ?_ | fail) <;> (refine wa_do 11 ?_ <;> (repeat' (first | refine red ?_ | (refine redc fun r => ?_; try have hr := Subtype.property r) | fail))) <;> refine wa_p 12 ?_) <;> (refine wa_end ?_)) | ((refine wa_begin 9 [false, false, false, false, false, false, false, false, false, false, false, false, false] [] ?_ <;> (first | refine wa_p 0 ?_ | fail) <;> refine wa_p 1 ?_ <;> refine wa_p 2 ?_ <;> refine wa_p 3 ?_ <;> refine wa_p 4 ?_ <;> refine wa_p 5 ?_ <;> refine wa_p 6 ?_ <;> (first | refine wa_f 7 fun hbi => ?_ | fail) <;> (first | refine wa_p 8 ?_ | fail) <;> (first | refine wa_p 9 ?_ | fail) <;> (first | refine wa_p 10 ?_ | fail) <;> (refine wa_do 11 ?_ <;> (repeat' (first | refine red ?_ | (refine redc fun r => ?_; try have hr := Subtype.property r) | fail))) <;> refine wa_p 12 ?_) <;> (refine wa_end ?_)) | fail)
          all_goals
            rw [prjD_no hno, dcP_f hno]
            exact ⟨sv, rfl, ent_e⟩
      · obtain rfl : i = s.length := by omega
        have hyes : PrjP x s proj := ⟨hok, hst, hpj, hF⟩
        repeat' (first | refine red ?_ | (refine redi (fun hc => ?_) (fun hc => ?_) <;> try first | (exfalso; omega) | with_reducible first | exact absurd rfl hc | exact absurd hc Bool.false_ne_true | exact absurd hc Bool.false_ne_true.symm) | fail)
        rw [prjD_yes hyes, dcP_t hyes]
        exact ⟨so, rfl, ent_e⟩
  · have hno : ¬ PrjP x s proj := fun h => hP ⟨h.ok, h.st, h.pj⟩
    have hpl := pairsD_len x
    rw [prjD_no hno, dcP_f hno]
    refine cj_enter Try.func42 Try.ntmps42 ?_
    repeat' (first | refine red ?_ | (refine redc fun r => ?_; try have hr := Subtype.property r) | refine redv fun sv => ?_ | refine redn fun b => ?_ | (refine redi (fun hc => ?_) (fun hc => ?_) <;> try first | (exfalso; omega) | with_reducible first | exact absurd rfl hc | exact absurd hc Bool.false_ne_true | exact absurd hc Bool.false_ne_true.symm) | fail)
    · exact ⟨sv, rfl, ent_e⟩
    · exact ⟨sv, rfl, ent_e⟩
    · exact ⟨sv, rfl, ent_e⟩
    · exact absurd ⟨by assumption, by assumption, by assumption⟩ hP
instance ProjectedBy_ctr {Γ : List Atom} {v0 v1 vs vp : Value} {x : SSystem} {s proj : List Int} [h0 : HasRd (List Int) repList Γ [v0] x.1] [h1 : HasRd (List SRule) repList Γ [v1] x.2] [h2 : HasRd (List Int) repList Γ [vs] s] [h3 : HasRd (List Int) repList Γ [vp] proj] :
    CtrC Try.prog 42 [.agg #[v0, v1], vs, vp] Γ (True) (Value) (fun q : Value => .tuple #[q, .bool (dcP (PrjP x s proj))]) (fun q => .ow [q] (prjD x s proj) :: Γ) := ⟨fun s w0 => ProjectedBy_spec⟩

end Go.Proofs.Ytjblieilblcdnaa
