/- Parts of a set, numbers of pairs: the reference. -/
import Derived.Test.YtjblieilblcdnaaTraC
namespace Go.Proofs.Ytjblieilblcdnaa
open Go Go.Eng
set_option linter.unusedVariables false
set_option linter.unusedSimpArgs false
set_option synthInstance.maxHeartbeats 400000
set_option synthInstance.maxSize 1000
set_option maxHeartbeats 4000000
set_option maxRecDepth 20000

/-- Ways there and back. -/
def Both (g : List (List Int)) (s : List Int) (u v : Int) : Prop := Way g s u v ∧ Way g s v u
noncomputable def partF (g : List (List Int)) (s : List Int) (u : Int) (k : Nat) : List Int := (s.take k).filter fun v => dcP (Both g s u v)
theorem partF_zero (g : List (List Int)) (s : List Int) (u : Int) : partF g s u 0 = [] := by unfold partF; rw [List.take_zero, List.filter_nil]
theorem take_getD {s : List Int} {k : Nat} (hk : k < s.length) : s.take (k + 1) = s.take k ++ [s.getD k 0] := by
  rw [List.take_succ_eq_append_getElem hk, List.getD_eq_getElem?_getD, List.getElem?_eq_getElem hk]; rfl
theorem partF_yes {g : List (List Int)} {s : List Int} {u : Int} {k : Nat} (hk : k < s.length) (h : Both g s u (s.getD k 0)) : partF g s u (k + 1) = partF g s u k ++ [s.getD k 0] := by
  unfold partF
  rw [take_getD hk, List.filter_append, List.filter_cons_of_pos (by exact dcP_t h), List.filter_nil]
theorem partF_no {g : List (List Int)} {s : List Int} {u : Int} {k : Nat} (hk : k < s.length) (h : ¬ Both g s u (s.getD k 0)) : partF g s u (k + 1) = partF g s u k := by
  unfold partF
  rw [take_getD hk, List.filter_append, List.filter_cons_of_neg (by rw [dcP_f h]; decide), List.filter_nil, List.append_nil]
theorem partF_sub (g : List (List Int)) (s : List Int) (u : Int) (k : Nat) : (partF g s u k).Sublist s := List.filter_sublist.trans (List.take_sublist k s)
theorem partF_mem {g : List (List Int)} {s : List Int} {u v : Int} : v ∈ partF g s u s.length ↔ v ∈ s ∧ Both g s u v := by
  unfold partF; rw [List.take_length, List.mem_filter, dcP_iff]
/-- Parts made so far; their numbers. -/
structure PtI (g : List (List Int)) (s : List Int) (out : List (List Int)) (dn : List Int) : Prop where
  fl : dn = out.flatten
  sub : ∀ q ∈ out, q.Sublist s ∧ 0 < q.length
  nd : dn.Nodup
  mem : ∀ u ∈ dn, u ∈ s
  cl : ∀ u ∈ dn, ∀ v ∈ s, Both g s u v → v ∈ dn
theorem pt_start (g : List (List Int)) (s : List Int) : PtI g s [] [] := ⟨rfl, fun q hq => absurd hq (by simp), List.nodup_nil, fun u hu => absurd hu (by simp), fun u hu => absurd hu (by simp)⟩
theorem pt_len {g : List (List Int)} {s : List Int} {out : List (List Int)} {dn : List Int} (h : PtI g s out dn) : dn.length ≤ s.length := h.nd.length_le_of_subset h.mem
theorem flat_len : ∀ (out : List (List Int)), (∀ q ∈ out, 0 < q.length) → out.length ≤ out.flatten.length
  | [], _ => Nat.le_refl _
  | q :: out, h => by
    have h1 := flat_len out fun z hz => h z (by simp [hz])
    have h2 := h q (by simp)
    rw [List.flatten_cons, List.length_append, List.length_cons]; omega
theorem pt_step {g : List (List Int)} {s : List Int} {out : List (List Int)} {dn : List Int} {u : Int} (h : PtI g s out dn) (hs : s.Pairwise (· < ·)) (hu : u ∈ s) (hw : Way g s u u) (hn : u ∉ dn) : PtI g s (out ++ [partF g s u s.length]) (dn ++ partF g s u s.length) := by
  have hnd : s.Nodup := hs.imp fun h e => by rw [e] at h; omega
  refine ⟨by rw [h.fl, List.flatten_append]; simp, fun q hq => ?_, ?_, fun z hz => ?_, fun z hz v hv hb => ?_⟩
  · rcases List.mem_append.1 hq with hq | hq
    · exact h.sub q hq
    · rw [List.mem_singleton] at hq
      rw [hq]
      exact ⟨partF_sub g s u _, List.length_pos_of_mem (partF_mem.2 ⟨hu, hw, hw⟩)⟩
  · rw [List.nodup_append]
    refine ⟨h.nd, (partF_sub g s u _).nodup hnd, fun z hz v hv e => ?_⟩
    subst e
    have hp := partF_mem.1 hv
    exact hn (h.cl z hz u hu ⟨hp.2.2, hp.2.1⟩)
  · rcases List.mem_append.1 hz with hz | hz
    · exact h.mem z hz
    · exact (partF_mem.1 hz).1
  · rcases List.mem_append.1 hz with hz | hz
    · exact List.mem_append_left _ (h.cl z hz v hv hb)
    · have hp := partF_mem.1 hz
      exact List.mem_append_right _ (partF_mem.2 ⟨hv, hp.2.1.trans hb.1, hb.2.trans hp.2.2⟩)
/-- Lists that rise, of numbers below n. -/
structure StC (n : Nat) (s : List Int) : Prop where
  so : s.Pairwise (· < ·)
  mem : ∀ q ∈ s, 0 ≤ q ∧ q < n
theorem StC.len {n : Nat} {s : List Int} (h : StC n s) : s.length ≤ n := by
  have := len_in (n := n) s 0 h.so h.mem (by omega)
  omega
theorem StC.sub {n : Nat} {s z : List Int} (h : StC n s) (hz : z.Sublist s) : StC n z := ⟨h.so.sublist hz, fun q hq => h.mem q (hz.subset hq)⟩
/-- Parts: none is empty, together they are no more than the set. -/
structure PrtP (n : Nat) (s : List Int) (ps : List (List Int)) : Prop where
  pt : ∀ q ∈ ps, StC n q ∧ 0 < q.length
  sum : ps.flatten.length ≤ s.length
abbrev PrtT (n : Nat) (s : List Int) : Type := { ps : List (List Int) // PrtP n s ps }
structure AfsC (g : List (List Int)) (s : List Int) : Prop where
  hn : g.length ≤ 64
  hg : GrfP g g.length
  st : StC g.length s
theorem l18Parts_spec {w0 : World} {Γ : List Atom} {vg vs : Value} {g : List (List Int)} {s : List Int} [h0 : HasRd (List (List Int)) repList Γ [vg] g] [h1 : HasRd (List Int) repList Γ [vs] s] (hs : AfsC g s) :
    CJ Try.prog 27 [vg, vs] w0 Γ (fun q : Value × PrtT g.length s => q.1) (fun q => .ow [q.1] q.2.1 :: Γ) := by
  refine cj_lift (R := [.rd [vg] g, .rd [vs] s]) (A := fun q : Value × PrtT g.length s => [.ow [q.1] q.2.1]) (fun w1 => ?_) (reads_cons h0 (reads_cons h1 (inferInstance))) (fun _ => inferInstance)
  simp only [List.cons_append, List.nil_append]
  obtain ⟨hn, hg, hst⟩ := hs
  have hsl := hst.len
  refine cj_enter Try.func27 Try.ntmps27 ?_
  repeat' (first | refine red ?_ | refine redv fun sv => ?_ | fail)
  refine wc_loop_p [5, 6] [13, 14, 15, 16, 19, 20, 21, 22, 23, 24, 25, 26, 27, 28, 17, 18] (ι := Value × List (List Int) × Nat) (fun k => [k.1, .int .i64 k.2.2]) (fun k => [.ow [k.1] k.2.1]) (fun k => k.2.2 ≤ s.length ∧ k.2.1.length = k.2.2 ∧ ∀ i, i < k.2.2 → ∀ q, q ∈ k.2.1.getD i [] ↔ Way g s (s.getD i 0) q) (fun k => s.length - k.2.2) (sv, [], 0) [.ow [sv] ([] : List (List Int))] (by kernel_rfl) ⟨Nat.zero_le _, rfl, fun i hi => absurd hi (Nat.not_lt_zero i)⟩ rfl ?_
  intro ⟨sa, af, i⟩ u l' hl' ⟨hi, hal, haf⟩
  simp only [patch, List.map_cons, List.map_nil, List.set_cons_zero, List.set_cons_succ] at hl'
  subst hl'
  simp only [List.cons_append, List.nil_append] at hi hal haf ⊢
  by_cases hil : i < s.length
  · have hm := hst.mem _ (getD_mem hil)
    have hac : AfC g s (s.getD i 0) := ⟨⟨g.length, hn, hg, hm.1, hm.2⟩, by omega⟩
    repeat' (first | refine red ?_ | refine redf fun hbi => ?_ | refine reds ?_ | (refine redc fun r => ?_; try have hr := Subtype.property r) | refine redv fun sv => ?_ | (refine redi (fun hc => ?_) (fun hc => ?_) <;> try first | (exfalso; omega) | with_reducible first | exact absurd rfl hc | exact absurd hc Bool.false_ne_true | exact absurd hc Bool.false_ne_true.symm) | fail)
    exact wq_next (sv, af ++ [r.2.1], i + 1) ⟨by simp only; omega, by simp only [List.length_append, List.length_cons, List.length_nil]; omega, fun j hj q => by
      have h9 : j < i + 1 := hj
      by_cases e : j = i
      · subst e
        rw [List.getD_eq_getElem?_getD, List.getElem?_append_right (by omega), hal, Nat.sub_self]
        exact r.2.2.2 q
      · rw [List.getD_eq_getElem?_getD, List.getElem?_append_left (by omega), ← List.getD_eq_getElem?_getD]
        exact haf j (by omega) q⟩ (by simp only; omega) (by kernel_rfl) ent_e
  · obtain rfl : i = s.length := by omega
    refine wc_share sa ?_
    repeat' (first | refine red ?_ | refine redv fun sv => ?_ | (refine redi (fun hc => ?_) (fun hc => ?_) <;> try first | (exfalso; omega) | with_reducible first | exact absurd rfl hc | exact absurd hc Bool.false_ne_true | exact absurd hc Bool.false_ne_true.symm) | fail)
    rename_i sv1
    refine wc_loop_p [7, 8, 9] [31, 32, 33, 34, 37, 38, 39, 40, 41, 42, 43, 44, 45, 46, 47, 48, 49, 50, 51, 52, 53, 54, 55, 10, 11, 56, 57, 58, 59, 62, 63, 64, 65, 66, 67, 68, 69, 70, 71, 72, 73, 74, 75, 76, 77, 78, 79, 80, 81, 82, 83, 84, 85, 86, 87, 88, 89, 90, 91, 92, 93, 94, 95, 60, 61, 96, 97, 98, 99, 35, 36] (ι := Value × List (List Int) × Value × List Int × Nat) (fun k => [k.1, k.2.2.1, .int .i64 k.2.2.2.2]) (fun k => [.ow [k.1] k.2.1, .ow [k.2.2.1] k.2.2.2.1]) (fun k => k.2.2.2.2 ≤ s.length ∧ PtI g s k.2.1 k.2.2.2.1) (fun k => s.length - k.2.2.2.2) (sv1, [], sv, [], 0) [.ow [sv1] ([] : List (List Int)), .ow [sv] ([] : List Int)] (by kernel_rfl) ⟨Nat.zero_le _, pt_start g s⟩ rfl ?_
    intro ⟨so, out, sd, dn, i⟩ u l' hl' ⟨hi, hP⟩
    simp only [patch, List.map_cons, List.map_nil, List.set_cons_zero, List.set_cons_succ] at hl'
    subst hl'
    simp only [List.cons_append, List.nil_append] at hi hP ⊢
    have hdl := pt_len hP
    have hol := flat_len out fun q hq => (hP.sub q hq).2
    rw [← hP.fl] at hol
    by_cases hil : i < s.length
    · have hm := hst.mem _ (getD_mem hil)
      have hgi : ∀ q, q ∈ af.getD i default ↔ Way g s (s.getD i 0) q := haf i hil
      repeat' (first | refine red ?_ | refine reds ?_ | refine redv fun sv => ?_ | (refine redi (fun hc => ?_) (fun hc => ?_) <;> try first | (exfalso; omega) | with_reducible first | exact absurd rfl hc | exact absurd hc Bool.false_ne_true | exact absurd hc Bool.false_ne_true.symm) | ((refine wa_begin 11 [false, false, false, false, false, false, false, false, false, false, false, false, false, false, false, false, false, false] [] ?_ <;> refine wa_p 0 ?_ <;> refine wa_p 1 ?_ <;> (first | (refine wa_deep 2 fun p cs as_ asb_ hcs has hasb hf => ?_; simp only [Un.cells, Un.atoms, Un.fact, List.cons_append, List.nil_append] at hcs has hasb hf; subst hcs has hasb) | fail) <;> (first | refine wa_p 3 ?_ | fail) <;> refine wa_p 4 ?_ <;> refine wa_p 5 ?_ <;> refine wa_p 6 ?_ <;> (first | refine wa_f 7 fun hbi => ?_ | fail) <;> (refine wa_do 8 ?_ <;> (repeat' (first | refine red ?_ | (refine redc fun r => ?_; try have hr := Subtype.property r) | fail))) <;> (first | refine wa_p 9 ?_ | fail) <;> refine wa_p 10 ?_ <;> (first | (refine wa_if 47 (fun hc => ?_) (fun hc => ?_) <;> (try first | (exfalso; omega) | with_reducible first | exact absurd rfl hc | exact absurd hc Bool.false_ne_true | exact absurd hc Bool.false_ne_true.symm) <;> first | refine wa_pg 11 ?_ | refine wa_no 11 ?_) | fail) <;> (first | refine wa_pg 12 ?_ | refine wa_no 12 ?_ | fail) <;> (first | refine wa_pg 13 ?_ | refine wa_no 13 ?_ | fail) <;> (first | refine wa_pg 14 ?_ | refine wa_no 14 ?_ | fail) <;> (first | refine wa_pg 15 ?_ | refine wa_no 15 ?_ | fail) <;> (refine wa_do 16 ?_ <;> (repeat' (first | refine red ?_ | (refine redc fun r => ?_; try have hr := Subtype.property r) | fail))) <;> (first | refine wa_p 17 ?_ | fail)) <;> (refine wa_end ?_)) | fail)
      · exact wq_next (so, out, sd, dn, i + 1) ⟨by simp only; omega, hP⟩ (by simp only; omega) (by kernel_rfl) ent_e
      · exact wq_next (so, out, sd, dn, i + 1) ⟨by simp only; omega, hP⟩ (by simp only; omega) (by kernel_rfl) ent_e
      · have hmi := getD_mem hil
        have hwi := (hgi (s.getD i 0)).1 (by assumption)
        have hst2 := pt_step hP hst.so hmi hwi hc
        refine wc_loop_p [8, 10, 11] [56, 57, 58, 59, 62, 63, 64, 65, 66, 67, 68, 69, 70, 71, 72, 73, 74, 75, 76, 77, 78, 79, 80, 81, 82, 83, 84, 85, 86, 87, 88, 89, 90, 91, 92, 93, 94, 95, 60, 61] (ι := Value × Value × Nat) (fun k => [k.1, k.2.1, .int .i64 k.2.2]) (fun k => [.ow [k.1] (dn ++ partF g s (s.getD i 0) k.2.2), .ow [k.2.1] (partF g s (s.getD i 0) k.2.2)]) (fun k => k.2.2 ≤ s.length) (fun k => s.length - k.2.2) (sd, sv, 0) [.ow [sd] dn, .ow [sv] ([] : List Int)] (by kernel_rfl) (Nat.zero_le _) (by simp only [partF_zero, List.append_nil]) ?_
        intro ⟨sd2, sp, k⟩ u l' hl' hk
        simp only [patch, List.map_cons, List.map_nil, List.set_cons_zero, List.set_cons_succ] at hl'
        subst hl'
        simp only [List.cons_append, List.nil_append] at hk ⊢
        have hpl := (partF_sub g s (s.getD i 0) k).length_le
        by_cases hkl : k < s.length
        · have hgk : ∀ q, q ∈ af.getD k default ↔ Way g s (s.getD k 0) q := haf k hkl
          repeat' (first | refine red ?_ | (refine redi (fun hc => ?_) (fun hc => ?_) <;> try first | (exfalso; omega) | with_reducible first | exact absurd rfl hc | exact absurd hc Bool.false_ne_true | exact absurd hc Bool.false_ne_true.symm) | fail)
          refine wc_look sa k (by omega) fun p2 hf2 => ?_
          simp only [Un.atoms, Un.cells, List.cons_append, List.nil_append]
          ((refine wa_begini 16 [false, false, false, false, false, false, false, false, false, false, false, false, false, false, false, false, false, false, false, false] [] ?_ <;> refine wa_p 0 ?_ <;> refine wa_p 1 ?_ <;> (first | refine wa_p 2 ?_ | fail) <;> (first | refine wa_p 3 ?_ | fail) <;> refine wa_p 4 ?_ <;> refine wa_p 5 ?_ <;> refine wa_p 6 ?_ <;> (first | refine wa_f 7 fun hbi => ?_ | fail) <;> (refine wa_do 8 ?_ <;> (repeat' (first | refine red ?_ | (refine redc fun r => ?_; try have hr := Subtype.property r) | fail))) <;> refine wa_p 9 ?_ <;> (first | (refine wa_if 71 (fun hc => ?_) (fun hc => ?_) <;> (try first | (exfalso; omega) | with_reducible first | exact absurd rfl hc | exact absurd hc Bool.false_ne_true | exact absurd hc Bool.false_ne_true.symm) <;> first | refine wa_pg 10 ?_ | refine wa_no 10 ?_) | fail) <;> (first | refine wa_pg 11 ?_ | refine wa_no 11 ?_ | fail) <;> (first | refine wa_pg 12 ?_ | refine wa_no 12 ?_ | fail) <;> (first | refine wa_pg 13 ?_ | refine wa_no 13 ?_ | fail) <;> (first | refine wa_pg 14 ?_ | refine wa_no 14 ?_ | fail) <;> (first | refine wa_pg 15 ?_ | refine wa_no 15 ?_ | fail) <;> (first | refine wa_pg 16 ?_ | refine wa_no 16 ?_ | fail) <;> (first | refine wa_pg 17 ?_ | refine wa_no 17 ?_ | fail) <;> (refine wa_do 18 ?_ <;> (repeat' (first | refine red ?_ | (refine redc fun r => ?_; try have hr := Subtype.property r) | fail))) <;> (first | refine wa_p 19 ?_ | fail)) <;> (refine wa_end ?_))
          · repeat' (first | refine red ?_ | refine redf fun hbi => ?_ | refine reds ?_ | refine redv fun sv => ?_ | (refine redi (fun hc => ?_) (fun hc => ?_) <;> try first | (exfalso; omega) | with_reducible first | exact absurd rfl hc | exact absurd hc Bool.false_ne_true | exact absurd hc Bool.false_ne_true.symm) | fail)
            · rename_i sw _
              have hb : Both g s (s.getD i 0) (s.getD k 0) := ⟨(hgi _).1 (by assumption), (hgk _).1 (by assumption)⟩
              exact wq_next (sv, sw, k + 1) (by simp only; omega) (by simp only; omega) (by kernel_rfl) (by simp only [partF_yes hkl hb, ← List.append_assoc]; exact ent_e)
            · have hb : ¬ Both g s (s.getD i 0) (s.getD k 0) := fun h => hc ((hgk _).2 h.2)
              exact wq_next (sd2, sp, k + 1) (by simp only; omega) (by simp only; omega) (by kernel_rfl) (by simp only [partF_no hkl hb]; exact ent_e)
          · repeat' (first | refine red ?_ | refine reds ?_ | fail)
            have hb : ¬ Both g s (s.getD i 0) (s.getD k 0) := fun h => hc ((hgi _).2 h.1)
            exact wq_next (sd2, sp, k + 1) (by simp only; omega) (by simp only; omega) (by kernel_rfl) (by simp only [partF_no hkl hb]; exact ent_e)
        · obtain rfl : k = s.length := by omega
          repeat' (first | refine red ?_ | refine reds ?_ | refine redv fun sv => ?_ | (refine redi (fun hc => ?_) (fun hc => ?_) <;> try first | (exfalso; omega) | with_reducible first | exact absurd rfl hc | exact absurd hc Bool.false_ne_true | exact absurd hc Bool.false_ne_true.symm) | fail)
          exact wq_next (sv, out ++ [partF g s (s.getD i 0) s.length], sd2, dn ++ partF g s (s.getD i 0) s.length, i + 1) ⟨by simp only; omega, hst2⟩ (by simp only; omega) (by kernel_rfl) ent_e
    · repeat' (first | refine red ?_ | (refine redi (fun hc => ?_) (fun hc => ?_) <;> try first | (exfalso; omega) | with_reducible first | exact absurd rfl hc | exact absurd hc Bool.false_ne_true | exact absurd hc Bool.false_ne_true.symm) | fail)
      obtain rfl : i = s.length := by omega
      exact ⟨(so, ⟨out, fun q hq => ⟨hst.sub (hP.sub q hq).1, (hP.sub q hq).2⟩, by rw [← hP.fl]; exact hdl⟩), rfl, ent_e⟩
end Go.Proofs.Ytjblieilblcdnaa
