/- Sets of numbers of pairs: the reference. -/
import Derived.Test.YtjblieilblcdnaaTraD
namespace Go.Proofs.Ytjblieilblcdnaa
open Go Go.Eng
set_option linter.unusedVariables false
set_option linter.unusedSimpArgs false
set_option synthInstance.maxHeartbeats 400000
set_option synthInstance.maxSize 1000
set_option maxHeartbeats 4000000
set_option maxRecDepth 20000

theorem l18Less_spec {w0 : World} {Γ : List Atom} {vs vg : Value} {s z : List Int} [h0 : HasRd (List Int) repList Γ [vs] s] [h1 : HasRd (List Int) repList Γ [vg] z] (hs : s.length ≤ 64) :
    CJ Try.prog 30 [vs, vg] w0 Γ (fun q : Value => q) (fun q => .ow [q] (s.filter fun v => dcP (v ∉ z)) :: Γ) := by
  refine cj_lift (R := [.rd [vs] s, .rd [vg] z]) (A := fun q : Value => [.ow [q] (s.filter fun v => dcP (v ∉ z))]) (fun w1 => ?_) (reads_cons h0 (reads_cons h1 (inferInstance))) (fun _ => inferInstance)
  simp only [List.cons_append, List.nil_append]
  refine cj_enter Try.func30 Try.ntmps30 ?_
  repeat' (first | refine red ?_ | refine redv fun sv => ?_ | fail)
  refine wc_loop_p [5, 6] [8, 9, 10, 11, 14, 15, 16, 17, 18, 19, 20, 21, 22, 23, 24, 25, 26, 27, 12, 13] (ι := Value × Nat) (fun k => [k.1, .int .i64 k.2]) (fun k => [.ow [k.1] ((s.take k.2).filter fun v => dcP (v ∉ z))]) (fun k => k.2 ≤ s.length) (fun k => s.length - k.2) (sv, 0) [.ow [sv] ([] : List Int)] (by kernel_rfl) (Nat.zero_le _) rfl ?_
  intro ⟨so, i⟩ u l' hl' hi
  simp only [patch, List.map_cons, List.map_nil, List.set_cons_zero, List.set_cons_succ] at hl'
  subst hl'
  simp only [List.cons_append, List.nil_append] at hi ⊢
  have hfl := (List.filter_sublist (l := s.take i) (p := fun v => dcP (v ∉ z))).length_le
  rw [List.length_take] at hfl
  by_cases hil : i < s.length
  · have hst : (s.take (i + 1)).filter (fun v => dcP (v ∉ z)) = (s.take i).filter (fun v => dcP (v ∉ z)) ++ (if s.getD i 0 ∈ z then [] else [s.getD i 0]) := by
      rw [take_getD hil, List.filter_append]
      congr 1
      by_cases h : s.getD i 0 ∈ z
      · rw [if_pos h, List.filter_cons_of_neg (by rw [dcP_f (fun hn => hn h)]; decide), List.filter_nil]
      · rw [if_neg h, List.filter_cons_of_pos (by exact dcP_t h), List.filter_nil]
    repeat' (first | refine red ?_ | refine redf fun hbi => ?_ | refine reds ?_ | (refine redc fun r => ?_; try have hr := Subtype.property r) | refine redv fun sv => ?_ | (refine redi (fun hc => ?_) (fun hc => ?_) <;> try first | (exfalso; omega) | with_reducible first | exact absurd rfl hc | exact absurd hc Bool.false_ne_true | exact absurd hc Bool.false_ne_true.symm) | fail)
    · exact wq_next (sv, i + 1) (by simp only; omega) (by simp only; omega) (by kernel_rfl) (by simp only [hst, if_neg hc]; exact ent_e)
    · exact wq_next (so, i + 1) (by simp only; omega) (by simp only; omega) (by kernel_rfl) (by simp only [hst, if_pos hc, List.append_nil]; exact ent_e)
  · obtain rfl : i = s.length := by omega
    repeat' (first | refine red ?_ | (refine redi (fun hc => ?_) (fun hc => ?_) <;> try first | (exfalso; omega) | with_reducible first | exact absurd rfl hc | exact absurd hc Bool.false_ne_true | exact absurd hc Bool.false_ne_true.symm) | fail)
    exact ⟨so, rfl, by rw [List.take_length]; exact ent_e⟩
instance l18Less_ctr {Γ : List Atom} {vs vg : Value} {s z : List Int} [h0 : HasRd (List Int) repList Γ [vs] s] [h1 : HasRd (List Int) repList Γ [vg] z] :
    CtrC Try.prog 30 [vs, vg] Γ (s.length ≤ 64) (Value) (fun q : Value => q) (fun q => .ow [q] (s.filter fun v => dcP (v ∉ z)) :: Γ) := ⟨fun s w0 => l18Less_spec s⟩

theorem l16First_spec {w0 : World} {Γ : List Atom} {n : Nat} (hs : n ≤ 64) :
    CJ Try.prog 40 [.int .i64 (n : Int)] w0 Γ (fun q : Value => q) (fun q => .ow [q] ((List.range n).map Int.ofNat) :: Γ) := by
  refine cj_lift (R := []) (A := fun q : Value => [.ow [q] ((List.range n).map Int.ofNat)]) (fun w1 => ?_) (inferInstance) (fun _ => inferInstance)
  simp only [List.cons_append, List.nil_append]
  refine cj_enter Try.func40 Try.ntmps40 ?_
  repeat' (first | refine red ?_ | refine redv fun sv => ?_ | fail)
  refine wc_loop_p [3, 4] [6, 7, 8, 11, 12, 13, 14, 9, 10] (ι := Value × Nat) (fun k => [k.1, .int .i64 k.2]) (fun k => [.ow [k.1] ((List.range k.2).map Int.ofNat)]) (fun k => k.2 ≤ n) (fun k => n - k.2) (sv, 0) [.ow [sv] ([] : List Int)] (by kernel_rfl) (Nat.zero_le _) rfl ?_
  intro ⟨so, i⟩ u l' hl' hi
  simp only [patch, List.map_cons, List.map_nil, List.set_cons_zero, List.set_cons_succ] at hl'
  subst hl'
  simp only [List.cons_append, List.nil_append] at hi ⊢
  have hll : ((List.range i).map Int.ofNat).length = i := by simp
  by_cases hil : i < n
  · repeat' (first | refine red ?_ | refine reds ?_ | refine redv fun sv => ?_ | (refine redi (fun hc => ?_) (fun hc => ?_) <;> try first | (exfalso; omega) | with_reducible first | exact absurd rfl hc | exact absurd hc Bool.false_ne_true | exact absurd hc Bool.false_ne_true.symm) | fail)
    exact wq_next (sv, i + 1) (by simp only; omega) (by simp only; omega) (by kernel_rfl) (by simp only [List.range_succ, List.map_append, List.map_cons, List.map_nil]; exact ent_e)
  · obtain rfl : i = n := by omega
    repeat' (first | refine red ?_ | (refine redi (fun hc => ?_) (fun hc => ?_) <;> try first | (exfalso; omega) | with_reducible first | exact absurd rfl hc | exact absurd hc Bool.false_ne_true | exact absurd hc Bool.false_ne_true.symm) | fail)
    exact ⟨so, rfl, ent_e⟩
instance l16First_ctr {Γ : List Atom} {n : Nat} :
    CtrC Try.prog 40 [.int .i64 (n : Int)] Γ (n ≤ 64) (Value) (fun q : Value => q) (fun q => .ow [q] ((List.range n).map Int.ofNat) :: Γ) := ⟨fun s w0 => l16First_spec s⟩

theorem l18All_spec {w0 : World} {Γ : List Atom} {vp : Value} {ps : List SDep} [h0 : HasRd (List SDep) repList Γ [vp] ps] (hs : ps.length ≤ 64) :
    CJ Try.prog 28 [vp] w0 Γ (fun q : Value => q) (fun q => .ow [q] ((List.range ps.length).map Int.ofNat) :: Γ) := by
  refine cj_lift (R := [.rd [vp] ps]) (A := fun q : Value => [.ow [q] ((List.range ps.length).map Int.ofNat)]) (fun w1 => ?_) (reads_cons h0 (inferInstance)) (fun _ => inferInstance)
  simp only [List.cons_append, List.nil_append]
  refine cj_enter Try.func28 Try.ntmps28 ?_
  repeat' (first | refine red ?_ | (refine redc fun r => ?_; try have hr := Subtype.property r) | fail)
  exact ⟨r, rfl, ent_e⟩
instance l18All_ctr {Γ : List Atom} {vp : Value} {ps : List SDep} [h0 : HasRd (List SDep) repList Γ [vp] ps] :
    CtrC Try.prog 28 [vp] Γ (ps.length ≤ 64) (Value) (fun q : Value => q) (fun q => .ow [q] ((List.range ps.length).map Int.ofNat) :: Γ) := ⟨fun s w0 => l18All_spec s⟩

theorem stC_all (n : Nat) : StC n ((List.range n).map Int.ofNat) := by
  refine ⟨List.Pairwise.map _ (fun i j h => ?_) List.pairwise_lt_range, fun q hq => ?_⟩
  · show (i : Int) < (j : Int)
    omega
  · obtain ⟨i, hi, rfl⟩ := List.mem_map.1 hq
    have := List.mem_range.1 hi
    show 0 ≤ (i : Int) ∧ (i : Int) < n
    omega
theorem stC_nil (n : Nat) : StC n [] := ⟨.nil, fun q hq => absurd hq (by simp)⟩
theorem stC_next {n : Nat} {s : List Int} {i : Nat} {b : Int} (hi : i < s.length) (h : StC n (s.take i)) (hb : (i = 0 ∧ b = -1) ∨ ∃ j, i = j + 1 ∧ b = s.getD j 0) (hg : b + 1 ≤ s.getD i 0 ∧ s.getD i 0 ≤ (n : Int) - 1) : StC n (s.take (i + 1)) := by
  have hlast : ∀ q ∈ s.take i, q ≤ b := by
    intro q hq
    rcases hb with ⟨rfl, _⟩ | ⟨j, rfl, rfl⟩
    · rw [List.take_zero] at hq; exact absurd hq (by simp)
    · have hso := h.so
      rw [take_getD (by omega)] at hq hso
      rcases List.mem_append.1 hq with hq | hq
      · exact Int.le_of_lt ((List.pairwise_append.1 hso).2.2 q hq _ (by simp))
      · rw [List.mem_singleton] at hq; omega
  have hbn : -1 ≤ b := by
    rcases hb with ⟨_, rfl⟩ | ⟨j, rfl, rfl⟩
    · omega
    · have := h.mem (s.getD j 0) (by rw [take_getD (by omega)]; simp)
      omega
  rw [take_getD hi]
  refine ⟨List.pairwise_append.2 ⟨h.so, by simp, fun q hq v hv => ?_⟩, fun q hq => ?_⟩
  · rw [List.mem_singleton] at hv
    have := hlast q hq
    omega
  · rcases List.mem_append.1 hq with hq | hq
    · exact h.mem q hq
    · rw [List.mem_singleton] at hq; omega
theorem stC_bad {n : Nat} {s : List Int} {i : Nat} {b : Int} (hi : i < s.length) (hb : (i = 0 ∧ b = -1) ∨ ∃ j, i = j + 1 ∧ b = s.getD j 0) (hg : ¬ (b + 1 ≤ s.getD i 0 ∧ s.getD i 0 ≤ (n : Int) - 1)) : ¬ StC n s := fun h => by
  have hm := h.mem _ (getD_mem hi)
  rcases hb with ⟨rfl, rfl⟩ | ⟨j, rfl, rfl⟩
  · omega
  · have h1 := List.pairwise_iff_getElem.1 h.so j (j + 1) (by omega) hi (by omega)
    have e1 : s.getD j 0 = s[j] := by rw [List.getD_eq_getElem?_getD, List.getElem?_eq_getElem (by omega)]; rfl
    have e2 : s.getD (j + 1) 0 = s[j + 1] := by rw [List.getD_eq_getElem?_getD, List.getElem?_eq_getElem hi]; rfl
    omega
theorem l18Set_spec {w0 : World} {Γ : List Atom} {vs : Value} {s : List Int} {n : Nat} [h0 : HasRd (List Int) repList Γ [vs] s] (hs : n ≤ 64) :
    CJ Try.prog 60 [vs, .int .i64 (n : Int)] w0 Γ (fun _ : Unit => .bool (dcP (StC n s))) (fun _ => Γ) := by
  refine cj_lift (R := [.rd [vs] s]) (A := fun _ => []) (fun w1 => ?_) (reads_cons h0 (inferInstance)) (fun _ => inferInstance)
  simp only [List.cons_append, List.nil_append]
  refine cj_len vs fun hsl => ?_
  refine cj_enter Try.func60 Try.ntmps60 ?_
  repeat' (first | refine red ?_ | fail)
  refine wc_loop_c [5, 6] [7, 8, 9, 10, 13, 14, 15, 16, 17, 18, 19, 20, 21, 22, 4, 23, 24, 25, 26, 11, 12] (ι := Int × Nat) (fun k => [.int .i64 k.1, .int .i64 k.2]) (fun k => k.2 ≤ s.length ∧ StC n (s.take k.2) ∧ ((k.2 = 0 ∧ k.1 = -1) ∨ ∃ j, k.2 = j + 1 ∧ k.1 = s.getD j 0) ∧ -1 ≤ k.1 ∧ k.1 < n) (fun k => s.length - k.2) (-1, 0) (by kernel_rfl) ⟨Nat.zero_le _, by rw [List.take_zero]; exact stC_nil n, .inl ⟨rfl, rfl⟩, by decide, by simp only; omega⟩ ?_
  intro ⟨b, i⟩ u l' hl' ⟨hi, hst, hb, hb0, hb1⟩
  simp only [patch, List.map_cons, List.map_nil, List.set_cons_zero, List.set_cons_succ] at hl'
  subst hl'
  simp only at hi hst hb hb0 hb1 ⊢
  by_cases hil : i < s.length
  · repeat' (first | refine red ?_ | refine redf fun hbi => ?_ | refine reds ?_ | (refine redc fun r => ?_; try have hr := Subtype.property r) | (refine redi (fun hc => ?_) (fun hc => ?_) <;> try first | (exfalso; omega) | with_reducible first | exact absurd rfl hc | exact absurd hc Bool.false_ne_true | exact absurd hc Bool.false_ne_true.symm) | fail)
    · exact ⟨(), ret_bool (dcP_f (stC_bad hil hb hc)), ent_e⟩
    · exact wq_next (s.getD i 0, i + 1) ⟨by simp only; omega, stC_next hil hst hb hc, .inr ⟨i, rfl, rfl⟩, by simp only; omega, by simp only; omega⟩ (by simp only; omega) (by kernel_rfl) ent_e
  · obtain rfl : i = s.length := by omega
    rw [List.take_length] at hst
    repeat' (first | refine red ?_ | (refine redi (fun hc => ?_) (fun hc => ?_) <;> try first | (exfalso; omega) | with_reducible first | exact absurd rfl hc | exact absurd hc Bool.false_ne_true | exact absurd hc Bool.false_ne_true.symm) | fail)
    exact ⟨(), ret_bool (dcP_t hst), ent_e⟩
instance l18Set_ctr {Γ : List Atom} {vs : Value} {s : List Int} {n : Nat} [h0 : HasRd (List Int) repList Γ [vs] s] :
    CtrC Try.prog 60 [vs, .int .i64 (n : Int)] Γ (n ≤ 64) (Unit) (fun _ : Unit => .bool (dcP (StC n s))) (fun _ => Γ) := ⟨fun s w0 => l18Set_spec s⟩

/-- A projection: for each symbol an argument, or -1. -/
def ProjP (a proj : List Int) : Prop := sigOk a = true ∧ proj.length = a.length ∧ ∀ f, f < proj.length → -1 ≤ proj.getD f 0 ∧ proj.getD f 0 ≤ a.getD f 0 - 1
theorem ProjOk_spec {w0 : World} {Γ : List Atom} {va vp : Value} {a proj : List Int} [h0 : HasRd (List Int) repList Γ [va] a] [h1 : HasRd (List Int) repList Γ [vp] proj] :
    CJ Try.prog 62 [.agg #[va], vp] w0 Γ (fun _ : Unit => .bool (dcP (ProjP a proj))) (fun _ => Γ) := by
  refine cj_lift (R := [.rd [va] a, .rd [vp] proj]) (A := fun _ => []) (fun w1 => ?_) (reads_cons h0 (reads_cons h1 (inferInstance))) (fun _ => inferInstance)
  simp only [List.cons_append, List.nil_append]
  by_cases hs : sigOk a = true ∧ proj.length = a.length
  · have hsg := sigOk_len hs.1
    obtain ⟨hsa, hpl⟩ := hs
    refine cj_enter Try.func62 Try.ntmps62 ?_
    repeat' (first | refine red ?_ | (refine redc fun r => ?_; try have hr := Subtype.property r) | refine redn fun b => ?_ | (refine redi (fun hc => ?_) (fun hc => ?_) <;> try first | (exfalso; omega) | with_reducible first | exact absurd rfl hc | exact absurd hc Bool.false_ne_true | exact absurd hc Bool.false_ne_true.symm) | fail)
    · rw [hsa] at hc; cases hc
    refine wc_loop_c [5] [17, 18, 19, 20, 23, 24, 25, 26, 27, 28, 29, 30, 31, 32, 33, 34, 4, 21, 22] (ι := Nat) (fun k => [.int .i64 k]) (fun k => k ≤ proj.length ∧ ∀ f, f < k → -1 ≤ proj.getD f 0 ∧ proj.getD f 0 ≤ a.getD f 0 - 1) (fun k => proj.length - k) 0 (by kernel_rfl) ⟨Nat.zero_le _, fun f hf => absurd hf (Nat.not_lt_zero f)⟩ ?_
    intro k u l' hl' ⟨hk, hI⟩
    simp only [patch, List.map_cons, List.map_nil, List.set_cons_zero, List.set_cons_succ] at hl'
    subst hl'
    by_cases hkl : k < proj.length
    · have hak := sigOk_get hsa (k := k) (by omega)
      repeat' (first | refine red ?_ | refine reds ?_ | (refine redi (fun hc => ?_) (fun hc => ?_) <;> try first | (exfalso; omega) | with_reducible first | exact absurd rfl hc | exact absurd hc Bool.false_ne_true | exact absurd hc Bool.false_ne_true.symm) | ((refine wa_begin 6 [false, false, false, false, false, false, false, false, false, false, false, false] [] ?_ <;> refine wa_p 0 ?_ <;> refine wa_p 1 ?_ <;> refine wa_p 2 ?_ <;> (first | refine wa_f 3 fun hbi => ?_ | fail) <;> (first | refine wa_p 4 ?_ | fail) <;> (first | refine wa_p 5 ?_ | fail) <;> refine wa_p 6 ?_ <;> refine wa_p 7 ?_ <;> (first | refine wa_f 8 fun hbi => ?_ | fail) <;> (first | refine wa_p 9 ?_ | fail) <;> (refine wa_do 10 ?_ <;> (repeat' (first | refine red ?_ | (refine redc fun r => ?_; try have hr := Subtype.property r) | fail))) <;> (first | refine wa_p 11 ?_ | fail)) <;> (refine wa_end ?_)) | fail)
      · exact ⟨(), ret_bool (dcP_f fun h => hc (h.2.2 k hkl)), ent_e⟩
      · exact wq_next (k + 1) ⟨by omega, fun f hf => by
          by_cases e : f = k
          · subst e; exact hc
          · exact hI f (by omega)⟩ (by omega) (by kernel_rfl) ent_e
    · obtain rfl : k = proj.length := by omega
      repeat' (first | refine red ?_ | (refine redi (fun hc => ?_) (fun hc => ?_) <;> try first | (exfalso; omega) | with_reducible first | exact absurd rfl hc | exact absurd hc Bool.false_ne_true | exact absurd hc Bool.false_ne_true.symm) | fail)
      exact ⟨(), ret_bool (dcP_t ⟨hsa, hpl, hI⟩), ent_e⟩
  · refine cj_enter Try.func62 Try.ntmps62 ?_
    repeat' (first | refine red ?_ | (refine redc fun r => ?_; try have hr := Subtype.property r) | refine redn fun b => ?_ | (refine redi (fun hc => ?_) (fun hc => ?_) <;> try first | (exfalso; omega) | with_reducible first | exact absurd rfl hc | exact absurd hc Bool.false_ne_true | exact absurd hc Bool.false_ne_true.symm) | fail)
    · exact ⟨(), ret_bool (dcP_f fun h => hs ⟨h.1, h.2.1⟩), ent_e⟩
    · exact ⟨(), ret_bool (dcP_f fun h => hs ⟨h.1, h.2.1⟩), ent_e⟩
    · exact absurd ⟨by assumption, by omega⟩ hs
instance ProjOk_ctr {Γ : List Atom} {va vp : Value} {a proj : List Int} [h0 : HasRd (List Int) repList Γ [va] a] [h1 : HasRd (List Int) repList Γ [vp] proj] :
    CtrC Try.prog 62 [.agg #[va], vp] Γ (True) (Unit) (fun _ : Unit => .bool (dcP (ProjP a proj))) (fun _ => Γ) := ⟨fun s w0 => ProjOk_spec⟩

/-- The argument that a projection tells. -/
def argF (a proj t : List Int) : List Int := if proj.getD (t.getD 0 0).toNat 0 < 0 then [] else ((partsW a t (agN a t)).getD (proj.getD (t.getD 0 0).toNat 0).toNat default).v
structure ArC (a proj t : List Int) : Prop where
  pj : ProjP a proj
  tm : termOk a t = true
  hd : 0 ≤ t.getD 0 0
theorem l18Arg_spec {w0 : World} {Γ : List Atom} {va vp vt : Value} {a proj t : List Int} [h0 : HasRd (List Int) repList Γ [va] a] [h1 : HasRd (List Int) repList Γ [vp] proj] [h2 : HasIm (List Int) repList Γ [vt] t] (hs : ArC a proj t) :
    CJ Try.prog 63 [.agg #[va], vp, vt] w0 Γ (fun q : Value => q) (fun q => .rd [q] (argF a proj t) :: Γ) := by
  obtain ⟨⟨hsa, hpl, hpj⟩, ht, hd⟩ := hs
  have hl := termOk_len ht
  have hw := wtm_of ht
  have hg := termOk_get ht (k := 0) (by omega)
  have hsg := sigOk_len hsa
  have hp := hpj (t.getD 0 0).toNat (by omega)
  have hag := agN_le ht
  have hak : ar a (t.getD 0 0) = a.getD (t.getD 0 0).toNat 0 := by unfold ar; rw [if_neg (by omega)]
  have hpn := partsW_len a t (agN a t)
  have hwt : WTm a t ∧ 0 ≤ t.getD 0 0 := ⟨hw, hd⟩
  refine cj_enter Try.func63 Try.ntmps63 ?_
  repeat' (first | refine red ?_ | refine redf fun hbi => ?_ | refine reds ?_ | refine redv fun sv => ?_ | refine redn fun b => ?_ | (refine redi (fun hc => ?_) (fun hc => ?_) <;> try first | (exfalso; omega) | with_reducible first | exact absurd rfl hc | exact absurd hc Bool.false_ne_true | exact absurd hc Bool.false_ne_true.symm) | fail)
  · refine ⟨sv, rfl, ?_⟩
    have e : argF a proj t = [] := if_pos hc
    rw [e]
    exact ent_rd sv ent_e
  · ((refine wa_begini 3 [false, false, false, false, false, false, false, false, false, false, false, false] [] ?_ <;> refine wa_p 0 ?_ <;> refine wa_p 1 ?_ <;> refine wa_p 3 ?_ <;> refine wa_p 4 ?_ <;> refine wa_p 5 ?_ <;> (first | refine wa_f 6 fun hbi => ?_ | fail) <;> refine wa_p 7 ?_ <;> (first | refine wa_f 8 fun hbi => ?_ | fail) <;> (refine wa_do 2 ?_ <;> (repeat' (first | refine red ?_ | (refine redc fun r => ?_; try have hr := Subtype.property r) | fail))) <;> (first | (refine wa_do 9 ?_ <;> (repeat' (first | refine red ?_ | refine reds ?_ | fail))) | fail) <;> (first | (refine wa_do 10 ?_ <;> (repeat' (first | refine red ?_ | refine redv fun sv => ?_ | fail))) | fail) <;> refine wa_p 11 ?_) <;> (refine wa_end ?_))
    repeat' (first | refine red ?_ | fail)
    refine ⟨sv, rfl, ?_⟩
    have e : argF a proj t = ((partsW a t (agN a t)).getD (proj.getD (t.getD 0 0).toNat 0).toNat default).v := if_neg (by omega)
    rw [e]
    exact ent_e
instance l18Arg_ctr {Γ : List Atom} {va vp vt : Value} {a proj t : List Int} [h0 : HasRd (List Int) repList Γ [va] a] [h1 : HasRd (List Int) repList Γ [vp] proj] [h2 : HasIm (List Int) repList Γ [vt] t] :
    CtrC Try.prog 63 [.agg #[va], vp, vt] Γ (ArC a proj t) (Value) (fun q : Value => q) (fun q => .rd [q] (argF a proj t) :: Γ) := ⟨fun s w0 => l18Arg_spec s⟩

/-- Pairs whose sides are headed by symbols. -/
structure PsH (x : SSystem) (ps : List SDep) : Prop where
  c : PsC x ps
  hd : ∀ k, k < ps.length → 0 ≤ (ps.getD k default).1.getD 0 0 ∧ 0 ≤ (ps.getD k default).2.1.getD 0 0
structure HdC (ps : List SDep) (s : List Int) : Prop where
  hl : ps.length ≤ 64
  st : StC ps.length s
  tl : ∀ k, k < ps.length → 0 < (ps.getD k default).1.length ∧ 0 < (ps.getD k default).2.1.length
theorem l18Heads_spec {w0 : World} {Γ : List Atom} {vp vs : Value} {ps : List SDep} {s : List Int} [h0 : HasRd (List SDep) repList Γ [vp] ps] [h1 : HasRd (List Int) repList Γ [vs] s] (hs : HdC ps s) :
    CJ Try.prog 61 [vp, vs] w0 Γ (fun q : Value × { ys : List Int // ys.length ≤ 128 } => q.1) (fun q => .ow [q.1] q.2.1 :: Γ) := by
  refine cj_lift (R := [.rd [vp] ps, .rd [vs] s]) (A := fun q : Value × { ys : List Int // ys.length ≤ 128 } => [.ow [q.1] q.2.1]) (fun w1 => ?_) (reads_cons h0 (reads_cons h1 (inferInstance))) (fun _ => inferInstance)
  simp only [List.cons_append, List.nil_append]
  obtain ⟨hpl, hst, htl⟩ := hs
  have hsl := hst.len
  refine cj_enter Try.func61 Try.ntmps61 ?_
  repeat' (first | refine red ?_ | refine redv fun sv => ?_ | fail)
  refine wc_loop_p [5, 6] [8, 9, 10, 11, 14, 15, 16, 17, 18, 19, 20, 21, 22, 23, 24, 25, 26, 27, 28, 29, 30, 31, 32, 33, 34, 35, 36, 12, 13] (ι := Value × List Int × Nat) (fun k => [k.1, .int .i64 k.2.2]) (fun k => [.ow [k.1] k.2.1]) (fun k => k.2.2 ≤ s.length ∧ k.2.1.Pairwise (· < ·) ∧ k.2.1.length ≤ 2 * k.2.2) (fun k => s.length - k.2.2) (sv, [], 0) [.ow [sv] ([] : List Int)] (by kernel_rfl) ⟨Nat.zero_le _, .nil, by simp⟩ rfl ?_
  intro ⟨so, ys, i⟩ u l' hl' ⟨hi, hp, hyl⟩
  simp only [patch, List.map_cons, List.map_nil, List.set_cons_zero, List.set_cons_succ] at hl'
  subst hl'
  simp only [List.cons_append, List.nil_append] at hi hp hyl ⊢
  by_cases hil : i < s.length
  · have hm := hst.mem _ (getD_mem hil)
    have htk := htl (s.getD i 0).toNat (by omega)
    repeat' (first | refine red ?_ | (refine redi (fun hc => ?_) (fun hc => ?_) <;> try first | (exfalso; omega) | with_reducible first | exact absurd rfl hc | exact absurd hc Bool.false_ne_true | exact absurd hc Bool.false_ne_true.symm) | fail)
    ((refine wa_begini 5 [false, false, false, false, false, false, false, false, false, false, false, false, false, false, false, false, false, false, false, false, false, false, false, false] [] ?_ <;> refine wa_p 0 ?_ <;> refine wa_p 1 ?_ <;> refine wa_p 2 ?_ <;> refine wa_p 3 ?_ <;> refine wa_p 4 ?_ <;> (first | refine wa_f 5 fun hbi => ?_ | fail) <;> (first | (refine wa_deep 6 fun p cs as_ asb_ hcs has hasb hf => ?_; simp only [Un.cells, Un.atoms, Un.fact, List.cons_append, List.nil_append] at hcs has hasb hf; subst hcs has hasb) | fail) <;> (first | refine wa_p 7 ?_ | fail) <;> (first | refine wa_p 8 ?_ | fail) <;> refine wa_p 9 ?_ <;> (first | refine wa_f 10 fun hbi => ?_ | fail) <;> refine wa_p 12 ?_ <;> refine wa_p 13 ?_ <;> refine wa_p 14 ?_ <;> refine wa_p 15 ?_ <;> (first | refine wa_f 16 fun hbi => ?_ | fail) <;> (first | refine wa_p 17 ?_ | fail) <;> (first | refine wa_p 18 ?_ | fail) <;> (first | refine wa_p 19 ?_ | fail) <;> refine wa_p 20 ?_ <;> (first | refine wa_f 21 fun hbi => ?_ | fail) <;> (refine wa_do 11 ?_ <;> (repeat' (first | refine red ?_ | (refine redc fun r => ?_; (try have hr := Subtype.property r); try (obtain ⟨hr1, hr2, hr3⟩ := r.2.2)) | fail))) <;> (refine wa_do 22 ?_ <;> (repeat' (first | refine red ?_ | (refine redc fun r => ?_; (try have hr := Subtype.property r); try (obtain ⟨hr1, hr2, hr3⟩ := r.2.2)) | fail))) <;> refine wa_p 23 ?_) <;> (refine wa_end ?_))
    repeat' (first | refine red ?_ | refine reds ?_ | fail)
    exact wq_next (r.1, r.2.1, i + 1) ⟨by simp only; omega, hr1, by simp only; omega⟩ (by simp only; omega) (by kernel_rfl) ent_e
  · obtain rfl : i = s.length := by omega
    repeat' (first | refine red ?_ | (refine redi (fun hc => ?_) (fun hc => ?_) <;> try first | (exfalso; omega) | with_reducible first | exact absurd rfl hc | exact absurd hc Bool.false_ne_true | exact absurd hc Bool.false_ne_true.symm) | fail)
    exact ⟨(so, ⟨ys, by omega⟩), rfl, ent_e⟩
instance l18Heads_ctr {Γ : List Atom} {vp vs : Value} {ps : List SDep} {s : List Int} [h0 : HasRd (List SDep) repList Γ [vp] ps] [h1 : HasRd (List Int) repList Γ [vs] s] :
    CtrC Try.prog 61 [vp, vs] Γ (HdC ps s) (Value × { ys : List Int // ys.length ≤ 128 }) (fun q : Value × { ys : List Int // ys.length ≤ 128 } => q.1) (fun q => .ow [q.1] q.2.1 :: Γ) := ⟨fun s w0 => l18Heads_spec s⟩

end Go.Proofs.Ytjblieilblcdnaa
