/- The law FnMatched: a match fills the pattern. -/
import Derived.Test.YtcpfcnjchlbapaaDraw4
import Derived.Test.YtcpfcnjchlbapaaMat3
import Derived.Test.YtcpfcnjchlbapaaGives
namespace Go.Proofs.Ytcpfcnjchlbapaa
open Go Go.Eng
set_option linter.unusedVariables false
set_option linter.unusedSimpArgs false
set_option synthInstance.maxHeartbeats 400000
set_option synthInstance.maxSize 1000
set_option maxHeartbeats 2000000

theorem SameSubst_spec {w0 : World} {Γ : List Atom} {va v v' : Value} {a : List Int} {ts : List (List Int)} [h : HasRd (List Int) repList Γ [va] a] [h2 : HasRd (List (List Int)) repList Γ [v] ts] [h3 : HasRd (List (List Int)) repList Γ [v'] ts] (hs : substOk a ts = true) :
    CJ Try.prog 21 [.agg #[va], .agg #[v], .agg #[v']] w0 Γ (fun _ : Unit => .bool true) (fun _ => Γ) := by
  refine cj_lift (R := [.rd [va] a, .rd [v] ts, .rd [v'] ts]) (A := fun _ => []) (fun w1 => ?_) (reads_cons h (reads_cons h2 (reads_cons h3 (inferInstance)))) (fun _ => inferInstance)
  simp only [List.cons_append, List.nil_append]
  have hl := subst_len hs
  refine cj_enter Try.func21 Try.ntmps21 ?_
  repeat' (first | refine red ?_ | refine redf fun hbi => ?_ | refine reds ?_ | (refine redc fun r => ?_; try have hr := Subtype.property r) | refine redp (fun r => ?_) (fun r => ?_) | refine redv fun sv => ?_ | refine redn fun b => ?_ | refine redz fun zs => ?_ | refine redq (fun hc => ?_) (fun hc => ?_) | with_reducible refine wq_blk_o rfl ?_ | (refine redi (fun hc => ?_) (fun hc => ?_) <;> try first | (exfalso; omega) | exact absurd rfl hc) | ((refine wa_begin 6 [false, false, false, false, false, false, false, false] [] ?_ <;> (first | refine wa_f 0 fun hbi => ?_ | refine wa_p 0 ?_ | fail) <;> (first | refine wa_p 1 ?_ | refine wa_p0 1 ?_) <;> (first | refine wa_f 3 fun hbi => ?_ | refine wa_p 3 ?_ | fail) <;> (first | refine wa_p 4 ?_ | refine wa_p0 4 ?_) <;> (refine wa_do 2 ?_ <;> (repeat' (first | refine red ?_ | (refine redc fun r => ?_; try have hr := Subtype.property r) | refine redv fun sv => ?_ | refine redf fun hbi => ?_ | refine redn fun b => ?_ | refine reds ?_ | refine redi (fun hc => ?_) (fun hc => ?_) | refine redq (fun hc => ?_) (fun hc => ?_) | refine redp (fun r => ?_) (fun r => ?_) | fail))) <;> (refine wa_do 5 ?_ <;> (repeat' (first | refine red ?_ | (refine redc fun r => ?_; try have hr := Subtype.property r) | refine redv fun sv => ?_ | refine redf fun hbi => ?_ | refine redn fun b => ?_ | refine reds ?_ | refine redi (fun hc => ?_) (fun hc => ?_) | refine redq (fun hc => ?_) (fun hc => ?_) | refine redp (fun r => ?_) (fun r => ?_) | fail))) <;> (refine wa_do 6 ?_ <;> (repeat' (first | refine red ?_ | (refine redc fun r => ?_; try have hr := Subtype.property r) | refine redv fun sv => ?_ | refine redf fun hbi => ?_ | refine redn fun b => ?_ | refine reds ?_ | refine redi (fun hc => ?_) (fun hc => ?_) | refine redq (fun hc => ?_) (fun hc => ?_) | refine redp (fun r => ?_) (fun r => ?_) | fail))) <;> (first | refine wa_p 7 ?_ | refine wa_p0 7 ?_ | (refine wa_do 7 ?_ <;> (repeat' (first | refine red ?_ | (refine redc fun r => ?_; try have hr := Subtype.property r) | refine redv fun sv => ?_ | refine redf fun hbi => ?_ | refine redn fun b => ?_ | refine reds ?_ | refine redi (fun hc => ?_) (fun hc => ?_) | refine redq (fun hc => ?_) (fun hc => ?_) | refine redp (fun r => ?_) (fun r => ?_) | fail))) | fail)) <;> (first | refine wa_end ?_ | with_reducible refine wq_keep ?_)) | fail)
  · rw [hs] at hc; cases hc
  · rw [hs] at hc; cases hc
  refine wc_loop_c [7] [18, 19, 22, 23, 24, 25, 26, 27, 28, 29, 6, 20, 21] (ι := Nat) (fun k => [.int .i64 k]) (fun k => k ≤ 24) (fun k => 24 - k) 0 (by kernel_rfl) (Nat.zero_le _) ?_
  intro k u l' hl' hk
  simp only [patch, List.map_cons, List.map_nil, List.set_cons_zero, List.set_cons_succ] at hl'
  subst hl'
  repeat' (first | refine red ?_ | refine redf fun hbi => ?_ | refine reds ?_ | (refine redc fun r => ?_; try have hr := Subtype.property r) | refine redp (fun r => ?_) (fun r => ?_) | refine redv fun sv => ?_ | refine redn fun b => ?_ | refine redz fun zs => ?_ | refine redq (fun hc => ?_) (fun hc => ?_) | with_reducible refine wq_blk_o rfl ?_ | (refine redi (fun hc => ?_) (fun hc => ?_) <;> try first | (exfalso; omega) | exact absurd rfl hc) | ((refine wa_begin 6 [false, false, false, false, false, false, false, false] [] ?_ <;> (first | refine wa_f 0 fun hbi => ?_ | refine wa_p 0 ?_ | fail) <;> (first | refine wa_p 1 ?_ | refine wa_p0 1 ?_) <;> (first | refine wa_f 3 fun hbi => ?_ | refine wa_p 3 ?_ | fail) <;> (first | refine wa_p 4 ?_ | refine wa_p0 4 ?_) <;> (refine wa_do 2 ?_ <;> (repeat' (first | refine red ?_ | (refine redc fun r => ?_; try have hr := Subtype.property r) | refine redv fun sv => ?_ | refine redf fun hbi => ?_ | refine redn fun b => ?_ | refine reds ?_ | refine redi (fun hc => ?_) (fun hc => ?_) | refine redq (fun hc => ?_) (fun hc => ?_) | refine redp (fun r => ?_) (fun r => ?_) | fail))) <;> (refine wa_do 5 ?_ <;> (repeat' (first | refine red ?_ | (refine redc fun r => ?_; try have hr := Subtype.property r) | refine redv fun sv => ?_ | refine redf fun hbi => ?_ | refine redn fun b => ?_ | refine reds ?_ | refine redi (fun hc => ?_) (fun hc => ?_) | refine redq (fun hc => ?_) (fun hc => ?_) | refine redp (fun r => ?_) (fun r => ?_) | fail))) <;> (refine wa_do 6 ?_ <;> (repeat' (first | refine red ?_ | (refine redc fun r => ?_; try have hr := Subtype.property r) | refine redv fun sv => ?_ | refine redf fun hbi => ?_ | refine redn fun b => ?_ | refine reds ?_ | refine redi (fun hc => ?_) (fun hc => ?_) | refine redq (fun hc => ?_) (fun hc => ?_) | refine redp (fun r => ?_) (fun r => ?_) | fail))) <;> (first | refine wa_p 7 ?_ | refine wa_p0 7 ?_ | (refine wa_do 7 ?_ <;> (repeat' (first | refine red ?_ | (refine redc fun r => ?_; try have hr := Subtype.property r) | refine redv fun sv => ?_ | refine redf fun hbi => ?_ | refine redn fun b => ?_ | refine reds ?_ | refine redi (fun hc => ?_) (fun hc => ?_) | refine redq (fun hc => ?_) (fun hc => ?_) | refine redp (fun r => ?_) (fun r => ?_) | fail))) | fail)) <;> (first | refine wa_end ?_ | with_reducible refine wq_keep ?_)) | fail)
  · exact wq_next (k + 1) (by omega) (by omega) (by kernel_rfl) ent_e
  · exact ⟨(), rfl, ent_e⟩
instance SameSubst_ctr {Γ : List Atom} {va v v' : Value} {a : List Int} {ts : List (List Int)} [h : HasRd (List Int) repList Γ [va] a] [h2 : HasRd (List (List Int)) repList Γ [v] ts] [h3 : HasRd (List (List Int)) repList Γ [v'] ts] :
    CtrC Try.prog 21 [.agg #[va], .agg #[v], .agg #[v']] Γ (substOk a ts = true) (Unit) (fun _ : Unit => .bool true) (fun _ => Γ) := ⟨fun s w0 => SameSubst_spec s⟩

theorem impl_SubstOk_spec {w0 : World} {Γ : List Atom} {va v : Value} {a : List Int} {ts : List (List Int)} [h : HasRd (List Int) repList Γ [va] a] [h2 : HasRd (List (List Int)) repList Γ [v] ts] :
    CJ Try.prog 77 [.agg #[va], .agg #[v]] w0 Γ (fun _ : Unit => .bool (substOk a ts)) (fun _ => Γ) := by
  refine cj_lift (R := [.rd [va] a, .rd [v] ts]) (A := fun _ => []) (fun w1 => ?_) (reads_cons h (reads_cons h2 (inferInstance))) (fun _ => inferInstance)
  simp only [List.cons_append, List.nil_append]
  refine cj_len v fun hlx => ?_
  refine cj_enter Try.func77 Try.ntmps77 ?_
  repeat' (first | refine red ?_ | refine redf fun hbi => ?_ | refine reds ?_ | (refine redc fun r => ?_; try have hr := Subtype.property r) | refine redp (fun r => ?_) (fun r => ?_) | refine redv fun sv => ?_ | refine redn fun b => ?_ | refine redz fun zs => ?_ | refine redq (fun hc => ?_) (fun hc => ?_) | with_reducible refine wq_blk_o rfl ?_ | (refine redd fun p cs as_ hcs has hf => ?_; simp only [Un.cells, Un.atoms, Un.fact, List.cons_append, List.nil_append] at hcs has hf; subst hcs has) | (refine redi (fun hc => ?_) (fun hc => ?_) <;> try first | (exfalso; omega) | exact absurd rfl hc) | fail)
  · exact ⟨(), ret_bool (subst_no1 hc), ent_e⟩
  · exact ⟨(), ret_bool (subst_no2 (by omega)), ent_e⟩
  refine wc_loop_c [19] [20, 21, 22, 6, 23, 24, 25, 26, 27, 28, 29, 30, 31, 4, 32] (ι := Nat) (fun k => [.int .i64 k]) (fun k => k ≤ ts.length ∧ (ts.take k).all (tOk a) = true) (fun k => ts.length - k) 0 (by kernel_rfl) ⟨Nat.zero_le _, rfl⟩ ?_
  intro k u l' hl' ⟨hk, hkk⟩
  simp only [patch, List.map_cons, List.map_nil, List.set_cons_zero, List.set_cons_succ] at hl'
  subst hl'
  repeat' (first | refine red ?_ | refine redf fun hbi => ?_ | refine reds ?_ | (refine redc fun r => ?_; try have hr := Subtype.property r) | refine redp (fun r => ?_) (fun r => ?_) | refine redv fun sv => ?_ | refine redn fun b => ?_ | refine redz fun zs => ?_ | refine redq (fun hc => ?_) (fun hc => ?_) | with_reducible refine wq_blk_o rfl ?_ | (refine redd fun p cs as_ hcs has hf => ?_; simp only [Un.cells, Un.atoms, Un.fact, List.cons_append, List.nil_append] at hcs has hf; subst hcs has) | (refine redi (fun hc => ?_) (fun hc => ?_) <;> try first | (exfalso; omega) | exact absurd rfl hc) | fail)
  · exact ⟨(), ret_bool (subst_no3 (k := k) (by omega) (by omega) hc), ent_e⟩
  · exact wq_next (k + 1) ⟨by omega, subst_step (by omega) hkk (by unfold tOk; rw [hc]; simp)⟩ (by omega) (by kernel_rfl) ent_e
  · exact wq_next (k + 1) ⟨by omega, subst_step (by omega) hkk (by unfold tOk; rw [decide_eq_true (by omega)]; rfl)⟩ (by omega) (by kernel_rfl) ent_e
  · rw [List.take_of_length_le (by omega)] at hkk
    exact ⟨(), ret_bool (subst_yes ‹_› (by omega) hkk), ent_e⟩
instance impl_SubstOk_ctr {Γ : List Atom} {va v : Value} {a : List Int} {ts : List (List Int)} [h : HasRd (List Int) repList Γ [va] a] [h2 : HasRd (List (List Int)) repList Γ [v] ts] :
    CtrC Try.prog 77 [.agg #[va], .agg #[v]] Γ (True) (Unit) (fun _ : Unit => .bool (substOk a ts)) (fun _ => Γ) := ⟨fun s w0 => impl_SubstOk_spec⟩

theorem impl_Filled_spec {w0 : World} {Γ : List Atom} {va v vt : Value} {a t : List Int} {ts : List (List Int)} [h : HasRd (List Int) repList Γ [va] a] [h2 : HasRd (List (List Int)) repList Γ [v] ts] [h3 : HasRd (List Int) repList Γ [vt] t] :
    CJ Try.prog 24 [.agg #[va], .agg #[v], vt] w0 Γ (fun q : Value => .tuple #[q, .bool (if substOk a ts = true ∧ termOk a t = true then fillOf ts t else none).isSome]) (fun q => .ow [q] ((if substOk a ts = true ∧ termOk a t = true then fillOf ts t else none).getD []) :: Γ) := by
  refine cj_enter Try.func24 Try.ntmps24 ?_
  repeat' (first | refine red ?_ | refine redf fun hbi => ?_ | refine reds ?_ | (refine redc fun r => ?_; try have hr := Subtype.property r) | refine redp (fun r => ?_) (fun r => ?_) | refine redv fun sv => ?_ | refine redn fun b => ?_ | refine redz fun zs => ?_ | refine redq (fun hc => ?_) (fun hc => ?_) | with_reducible refine wq_blk_o rfl ?_ | (refine redi (fun hc => ?_) (fun hc => ?_) <;> try first | (exfalso; omega) | exact absurd rfl hc) | fail)
  · rw [if_neg (fun h => by rw [hc] at h; cases h.1)]
    simp only [Option.getD_none, Option.isSome_none]
    exact ⟨_, rfl, ent_e⟩
  · rw [if_neg (fun h => by rw [hc] at h; cases h.2)]
    simp only [Option.getD_none, Option.isSome_none]
    exact ⟨_, rfl, ent_e⟩
  · have hc1 := (‹substOk a ts = true›)
    have htl := (termOk_len hc).2
    have hl := subst_len hc1
    rw [if_pos ⟨hc1, hc⟩]
    refine redc (fun r => ?_) ⟨hl, htl⟩
    repeat' (first | refine red ?_ | refine redf fun hbi => ?_ | refine reds ?_ | (refine redc fun r => ?_; try have hr := Subtype.property r) | refine redp (fun r => ?_) (fun r => ?_) | refine redv fun sv => ?_ | refine redn fun b => ?_ | refine redz fun zs => ?_ | refine redq (fun hc => ?_) (fun hc => ?_) | with_reducible refine wq_blk_o rfl ?_ | (refine redi (fun hc => ?_) (fun hc => ?_) <;> try first | (exfalso; omega) | exact absurd rfl hc) | fail)
    exact ⟨_, rfl, ent_e⟩
instance impl_Filled_ctr {Γ : List Atom} {va v vt : Value} {a t : List Int} {ts : List (List Int)} [h : HasRd (List Int) repList Γ [va] a] [h2 : HasRd (List (List Int)) repList Γ [v] ts] [h3 : HasRd (List Int) repList Γ [vt] t] :
    CtrC Try.prog 24 [.agg #[va], .agg #[v], vt] Γ (True) (Value) (fun q : Value => .tuple #[q, .bool (if substOk a ts = true ∧ termOk a t = true then fillOf ts t else none).isSome]) (fun q => .ow [q] ((if substOk a ts = true ∧ termOk a t = true then fillOf ts t else none).getD []) :: Γ) := ⟨fun s w0 => impl_Filled_spec⟩

theorem impl_SameTerm_spec {w0 : World} {Γ : List Atom} {av bv : Value} {xs ys : List Int} [h : HasRd (List Int) repList Γ [av] xs] [h' : HasRd (List Int) repList Γ [bv] ys] :
    CJ Try.prog 25 [av, bv] w0 Γ (fun _ : Unit => .bool (decide (xs = ys))) (fun _ => Γ) := by
  refine cj_enter Try.func25 Try.ntmps25 ?_
  repeat' (first | refine red ?_ | refine redf fun hbi => ?_ | refine reds ?_ | (refine redc fun r => ?_; try have hr := Subtype.property r) | refine redp (fun r => ?_) (fun r => ?_) | refine redv fun sv => ?_ | refine redn fun b => ?_ | refine redz fun zs => ?_ | refine redq (fun hc => ?_) (fun hc => ?_) | with_reducible refine wq_blk_o rfl ?_ | (refine redi (fun hc => ?_) (fun hc => ?_) <;> try first | (exfalso; omega) | exact absurd rfl hc) | fail)
  exact ⟨(), rfl, ent_e⟩
instance impl_SameTerm_ctr {Γ : List Atom} {av bv : Value} {xs ys : List Int} [h : HasRd (List Int) repList Γ [av] xs] [h' : HasRd (List Int) repList Γ [bv] ys] :
    CtrC Try.prog 25 [av, bv] Γ (True) (Unit) (fun _ : Unit => .bool (decide (xs = ys))) (fun _ => Γ) := ⟨fun s w0 => impl_SameTerm_spec⟩

theorem matched_sub {a p t : List Int} (h : (matchedOf a p t).isSome = true) : substOk a ((matchedOf a p t).getD []) = true ∧ (if substOk a ((matchedOf a p t).getD []) = true ∧ termOk a p = true then fillOf ((matchedOf a p t).getD []) p else none) = some t := by
  unfold matchedOf at h ⊢
  by_cases hpt : termOk a p = true ∧ termOk a t = true
  · rw [if_pos hpt] at h ⊢
    cases hm : matchOf a p t with
    | none => rw [hm] at h; cases h
    | some ts =>
      rw [Option.getD_some]
      obtain ⟨h1, h2⟩ := match_ok hpt.1 hpt.2 hm
      have hs : substOk a ts = true := subst_yes (termOk_sig hpt.1) h1 (List.all_eq_true.2 fun x hx => by
        unfold tOk
        rcases h2 x hx with e | e
        · rw [e]; rfl
        · rw [e]; simp)
      refine ⟨hs, ?_⟩
      rw [if_pos ⟨hs, hpt.1⟩]
      obtain ⟨b, hb, rfl, hf, _⟩ := match_some hpt.1 hpt.2 hm
      have key : fillTo (plainOf b) p p.length = t := by
        unfold fillTo
        rw [List.take_of_length_le (Nat.le_refl _), ← hf]
        unfold fm
        congr 1
        refine List.map_congr_left fun n hn => ?_
        have hnr := termOk_mem hpt.1 hn
        unfold fe bF
        by_cases h0 : n < 0
        · rw [if_pos h0, gives_plain, gives_getD]
          by_cases h3 : b.getD (-1 - n).toNat [] = []
          · rw [if_pos h3, if_neg (fun hh => hh.2 h3), show -1 - (((-1 - n).toNat : Nat) : Int) = n by omega]
          · rw [if_neg h3, if_pos ⟨h0, h3⟩]
        · rw [if_neg h0, if_neg (fun hh => h0 hh.1)]
      unfold fillOf
      rw [key, if_pos (termOk_len hpt.2).2]
  · rw [if_neg hpt] at h; cases h
theorem inst_fill {a p : List Int} {ts : List (List Int)} (h : (if substOk a ts = true ∧ termOk a p = true then fillOf ts p else none).isSome = true) (hi : instanceIn a p ((if substOk a ts = true ∧ termOk a p = true then fillOf ts p else none).getD []) = false) : False := by
  by_cases hc : substOk a ts = true ∧ termOk a p = true
  · rw [if_pos hc] at h hi
    have hsig := termOk_sig hc.2
    have hsb : Sb a (fe ts) := ⟨fun n hn => by unfold fe; rw [if_neg (by omega)], fun n h1 h2 => by
      unfold fe
      rw [if_pos h2, gives_getD]
      by_cases h3 : ts.getD (-1 - n).toNat [] = []
      · rw [if_pos h3, show -1 - (((-1 - n).toNat : Nat) : Int) = n by omega]
        exact tm_var ⟨h1, h2⟩
      · rw [if_neg h3]
        have hl : (-1 - n).toNat < ts.length := by
          by_cases hl : (-1 - n).toNat < ts.length
          · exact hl
          · rw [List.getD_eq_getElem?_getD, List.getElem?_eq_none (by omega)] at h3
            exact absurd rfl h3
        have hs := hc.1
        unfold substOk at hs
        rw [Bool.and_eq_true, Bool.and_eq_true, List.all_eq_true] at hs
        have h4 := hs.2.2 _ (mem_getD hl)
        have e : ts.getD (-1 - n).toNat default = ts.getD (-1 - n).toNat [] := rfl
        unfold tOk at h4
        rw [Bool.or_eq_true, decide_eq_true_eq, e] at h4
        rcases h4 with h5 | h5
        · exact absurd (List.length_eq_zero_iff.1 h5) h3
        · exact tm_ok h5⟩
    have key : fillTo ts p p.length = fm (fe ts) p := by
      unfold fillTo fm
      rw [List.take_of_length_le (Nat.le_refl _)]
    unfold fillOf at h hi
    by_cases hl : (fillTo ts p p.length).length ≤ 60
    · rw [if_pos hl, Option.getD_some] at hi
      have := (instanceIn_iff (a := a) (p := p) (t := fillTo ts p p.length)).2 ⟨hc.2, by
        rw [key]
        exact ok_tm hsig (hsb.fm (tm_ok hc.2)) (by rw [← key]; exact hl), _, hsb, key.symm⟩
      rw [this] at hi
      cases hi
    · rw [if_neg hl] at h; cases h
  · rw [if_neg hc] at h; cases h
end Go.Proofs.Ytcpfcnjchlbapaa
