/- Capped terms, connected pairs, the graph: the reference. -/
import Derived.Test.YtjblieilblcdnaaTraA
namespace Go.Proofs.Ytjblieilblcdnaa
open Go Go.Eng
set_option linter.unusedVariables false
set_option linter.unusedSimpArgs false
set_option synthInstance.maxHeartbeats 400000
set_option synthInstance.maxSize 1000
set_option maxHeartbeats 4000000
set_option maxRecDepth 20000

/-- What the capped term is while it is made: m terms are still to come; n variables were taken. -/
structure CapI (a t : List Int) (at_ : Nat) (out : List Int) (m n : Nat) : Prop where
  le : at_ ≤ t.length
  ol : out.length ≤ at_ ∧ 1 ≤ out.length
  rest : skp a (badS a) (t.drop at_) m = (true, t.length - at_)
  sq : ∀ r : List Int, skp a (badS a) (sqL out ++ r) 1 = ((skp a (badS a) r m).1, out.length + (skp a (badS a) r m).2)
  vars : ∀ x ∈ out, x < 0 → -(n : Int) ≤ x
  cov : ∀ i : Nat, 1 ≤ i → i ≤ n → -(i : Int) ∈ out
  cnt : n ≤ out.length
theorem bad_m1 {a : List Int} (h : sigOk a = true) : badS a (-1) = false := by
  have := sigOk_len h
  unfold badS; exact decide_eq_false (by omega)
theorem sqL_app (s t : List Int) : sqL (s ++ t) = sqL s ++ sqL t := by unfold sqL; rw [List.map_append]
theorem cap_start {a t : List Int} (h : termOk a t = true) (h0 : 0 ≤ t.getD 0 0) : CapI a t 1 [t.getD 0 0] (agN a t) 0 := by
  have hl := termOk_len h
  have hg := termOk_get h (k := 0) (by omega)
  refine ⟨hl.1, ⟨Nat.le_refl _, Nat.le_refl _⟩, ?_, fun r => ?_, fun x hx h1 => ?_, fun i h1 h2 => by omega, Nat.zero_le _⟩
  · have := (agP_skp h 0 (Nat.zero_le _)).2
    rw [Nat.sub_zero] at this
    exact this
  · have e : sqL [t.getD 0 0] ++ r = t.getD 0 0 :: r := by
      show sqV (t.getD 0 0) :: ([] ++ r) = _
      rw [sqV_pos h0]; rfl
    have hb : badS a (t.getD 0 0) = false := by unfold badS; exact decide_eq_false (by omega)
    rw [e]
    simp only [skp, hb, Bool.false_eq_true, if_false, Nat.zero_add, List.length_singleton]
    exact Prod.ext rfl (Nat.add_comm _ _)
  · rw [List.mem_singleton] at hx; omega
theorem cap_more {a t : List Int} {at_ m n : Nat} {out : List Int} (h : CapI a t at_ out m n) (hl : at_ < t.length) : ∃ m', m = m' + 1 := by
  cases m with
  | zero =>
    have := congrArg Prod.snd h.rest
    simp only [skp] at this
    omega
  | succ m => exact ⟨m, rfl⟩
theorem cap_var {a t : List Int} {at_ m n : Nat} {out : List Int} (ht : termOk a t = true) (h : CapI a t at_ out (m + 1) n) (hl : at_ < t.length) : CapI a t (at_ + szW a t at_) (out ++ [-(n : Int) - 1]) m (n + 1) := by
  have hs := term_at ht hl
  have e : szW a t at_ = sz a t at_ := sz_sq ht at_
  have hsp := skp_split a (badS a) (t.drop at_) 1 m
  rw [if_pos hs.1, Nat.add_comm 1 m, h.rest, List.drop_drop] at hsp
  rw [e]
  refine ⟨hs.2.2, ⟨by simp only [List.length_append, List.length_singleton]; have := h.ol; omega, by simp⟩, ?_, fun r => ?_, fun x hx h1 => ?_, fun i h1 h2 => ?_, by simp only [List.length_append, List.length_singleton]; have := h.cnt; omega⟩
  · have h1 := congrArg Prod.fst hsp
    have h2 := congrArg Prod.snd hsp
    refine Prod.ext h1.symm ?_
    simp only at h2 ⊢
    have : sz a t at_ = (skp a (badS a) (t.drop at_) 1).2 := rfl
    rw [this]
    omega
  · have e2 : sqL (out ++ [-(n : Int) - 1]) ++ r = sqL out ++ (-1 :: r) := by
      rw [sqL_app, List.append_assoc]
      congr 1
      show sqV (-(n : Int) - 1) :: ([] ++ r) = _
      unfold sqV; rw [if_pos (by omega)]; rfl
    rw [e2, h.sq]
    have ha : ar a (-1) = 0 := if_pos (by decide)
    simp only [skp, bad_m1 (termOk_sig ht), Bool.false_eq_true, if_false, ha, Int.toNat_zero, Nat.add_zero, List.length_append, List.length_singleton]
    exact Prod.ext rfl (by simp only; omega)
  · rcases List.mem_append.1 hx with hx | hx
    · have := h.vars x hx h1; omega
    · rw [List.mem_singleton] at hx; omega
  · by_cases e3 : i ≤ n
    · exact List.mem_append_left _ (h.cov i h1 e3)
    · exact List.mem_append_right _ (by rw [List.mem_singleton]; omega)
theorem cap_keep {a t : List Int} {at_ m n : Nat} {out : List Int} (ht : termOk a t = true) (h : CapI a t at_ out (m + 1) n) (hl : at_ < t.length) (h0 : 0 ≤ t.getD at_ 0) : CapI a t (at_ + 1) (out ++ [t.getD at_ 0]) (m + (ar a (t.getD at_ 0)).toNat) n := by
  have hg := termOk_get ht hl
  have hb : badS a (t.getD at_ 0) = false := by unfold badS; exact decide_eq_false (by omega)
  have hr := h.rest
  rw [drop_get hl] at hr
  simp only [skp, hb, Bool.false_eq_true, if_false] at hr
  refine ⟨hl, ⟨by simp only [List.length_append, List.length_singleton]; have := h.ol; omega, by simp⟩, ?_, fun r => ?_, fun x hx h1 => ?_, fun i h1 h2 => List.mem_append_left _ (h.cov i h1 h2), by simp only [List.length_append, List.length_singleton]; have := h.cnt; omega⟩
  · have h1 := congrArg Prod.fst hr
    have h2 := congrArg Prod.snd hr
    refine Prod.ext h1 ?_
    simp only at h2 ⊢
    omega
  · have e2 : sqL (out ++ [t.getD at_ 0]) ++ r = sqL out ++ (t.getD at_ 0 :: r) := by
      rw [sqL_app, List.append_assoc]
      congr 1
      show sqV (t.getD at_ 0) :: ([] ++ r) = _
      rw [sqV_pos h0]; rfl
    rw [e2, h.sq]
    simp only [skp, hb, Bool.false_eq_true, if_false, List.length_append, List.length_singleton]
    exact Prod.ext rfl (by simp only; omega)
  · rcases List.mem_append.1 hx with hx | hx
    · exact h.vars x hx h1
    · rw [List.mem_singleton] at hx; omega
/-- A capped term with n variables. -/
structure CapR (a out : List Int) (n : Nat) : Prop where
  ok : termOk a (sqL out) = true
  vars : ∀ x ∈ out, x < 0 → -(n : Int) ≤ x
  cov : ∀ i : Nat, 1 ≤ i → i ≤ n → -(i : Int) ∈ out
  le : n ≤ 60
theorem cap_end {a t : List Int} {m n : Nat} {out : List Int} (ht : termOk a t = true) (h : CapI a t t.length out m n) : CapR a out n := by
  have hl := termOk_len ht
  have h1 := h.rest
  rw [List.drop_length] at h1
  have hm : m = 0 := by
    cases m with
    | zero => rfl
    | succ m => simp [skp] at h1
  subst hm
  have h2 := h.sq []
  rw [List.append_nil] at h2
  have ho := h.ol
  refine ⟨termOk_iff.2 ⟨termOk_sig ht, by rw [sqL_len]; exact ho.2, by rw [sqL_len]; omega, ?_⟩, h.vars, h.cov, by have := h.cnt; omega⟩
  rw [h2, sqL_len]
  simp [skp]
theorem CapR.wtm {a out : List Int} {n : Nat} (h : CapR a out n) (hn : n ≤ 24) : WTm a out := ⟨h.ok, fun x hx => by
  by_cases h0 : x < 0
  · have := h.vars x hx h0; omega
  · omega⟩
theorem cap_one {a t : List Int} (h : termOk a t = true) : CapR a [-1] 1 := by
  have hs := termOk_sig h
  refine ⟨termOk_iff.2 ⟨hs, by decide, by decide, ?_⟩, fun x hx _ => by rw [List.mem_singleton] at hx; rw [hx]; decide, fun i h1 h2 => by rw [List.mem_singleton]; omega, by decide⟩
  have ha : ar a (-1) = 0 := if_pos (by decide)
  show skp a (badS a) [-1] 1 = _
  simp only [skp, bad_m1 hs, Bool.false_eq_true, if_false, ha, Int.toNat_zero]
  rfl
abbrev CapT (a : List Int) : Type := { q : List Int // ∃ n, CapR a q n }
theorem l17Capped_spec {w0 : World} {Γ : List Atom} {v0 v1 vt : Value} {x : SSystem} {t : List Int} [h0 : HasRd (List Int) repList Γ [v0] x.1] [h1 : HasRd (List SRule) repList Γ [v1] x.2] [h2 : HasRd (List Int) repList Γ [vt] t] (hs : sysOk x = true ∧ termOk x.1 t = true) :
    CJ Try.prog 77 [.agg #[v0, v1], vt] w0 Γ (fun q : Value × CapT x.1 => q.1) (fun q => .ow [q.1] q.2.1 :: Γ) := by
  refine cj_lift (R := [.rd [v0] x.1, .rd [v1] x.2, .rd [vt] t]) (A := fun q : Value × CapT x.1 => [.ow [q.1] q.2.1]) (fun w1 => ?_) (reads_cons h0 (reads_cons h1 (reads_cons h2 (inferInstance)))) (fun _ => inferInstance)
  simp only [List.cons_append, List.nil_append]
  obtain ⟨hok, ht⟩ := hs
  have hl := termOk_len ht
  have hw := wtm_of ht
  have hg0 := termOk_get ht (k := 0) (by omega)
  have hsg := sigOk_len (termOk_sig ht)
  by_cases hv : t.getD 0 0 < 0
  · refine cj_enter Try.func77 Try.ntmps77 ?_
    repeat' (first | refine red ?_ | refine redf fun hbi => ?_ | refine reds ?_ | refine redv fun sv => ?_ | refine redn fun b => ?_ | (refine redi (fun hc => ?_) (fun hc => ?_) <;> try first | (exfalso; omega) | with_reducible first | exact absurd rfl hc | exact absurd hc Bool.false_ne_true | exact absurd hc Bool.false_ne_true.symm) | fail)
    exact ⟨(sv, ⟨[-1], 1, cap_one ht⟩), rfl, ent_e⟩
  · refine cj_enter Try.func77 Try.ntmps77 ?_
    repeat' (first | refine red ?_ | refine redf fun hbi => ?_ | refine reds ?_ | (refine redc fun r => ?_; try have hr := Subtype.property r) | refine redv fun sv => ?_ | refine redn fun b => ?_ | (refine redi (fun hc => ?_) (fun hc => ?_) <;> try first | (exfalso; omega) | with_reducible first | exact absurd rfl hc | exact absurd hc Bool.false_ne_true | exact absurd hc Bool.false_ne_true.symm) | fail)
    rename Value × DefT x => df
    refine wc_loop_p [6, 7, 8] [20, 21, 22, 23, 24, 25, 26, 27, 28, 29, 30, 31, 32, 33, 34, 35, 36, 37, 38, 39, 40, 41, 42, 43, 44, 45, 46, 47, 48, 49, 50, 51, 52, 53, 54, 55, 56] (ι := Value × List Int × Nat × Nat × Nat) (fun k => [k.1, .int .i64 (-(k.2.2.1 : Int) - 1), .int .i64 k.2.2.2.1]) (fun k => [.ow [k.1] k.2.1]) (fun k => CapI x.1 t k.2.2.2.1 k.2.1 k.2.2.2.2 k.2.2.1) (fun k => t.length - k.2.2.2.1) (sv, [t.getD 0 0], 0, 1, agN x.1 t) [.ow [sv] [t.getD 0 0]] (by kernel_rfl) (cap_start ht (by omega)) rfl ?_
    intro ⟨sw, out, n, k, m⟩ u l' hl' hI
    simp only [patch, List.map_cons, List.map_nil, List.set_cons_zero, List.set_cons_succ] at hl'
    subst hl'
    simp only [List.cons_append, List.nil_append] at hI ⊢
    have hle := hI.le
    have hol := hI.ol
    have hcn := hI.cnt
    by_cases hkl : k < t.length
    · obtain ⟨m', rfl⟩ := cap_more hI hkl
      have hat := hw.at hkl
      have hgk := termOk_get ht hkl
      repeat' (first | refine red ?_ | refine redf fun hbi => ?_ | refine reds ?_ | (refine redc fun r => ?_; try have hr := Subtype.property r) | refine redv fun sv => ?_ | (refine redi (fun hc => ?_) (fun hc => ?_) <;> try first | (exfalso; omega) | with_reducible first | exact absurd rfl hc | exact absurd hc Bool.false_ne_true | exact absurd hc Bool.false_ne_true.symm) | fail)
      · rw [show -(n : Int) - 1 - 1 = -((n + 1 : Nat) : Int) - 1 by omega]
        exact wq_next (sv, out ++ [-(n : Int) - 1], n + 1, k + szW x.1 t k, m') (cap_var ht hI hkl) (by simp only; omega) (by kernel_rfl) ent_e
      · rw [show -(n : Int) - 1 - 1 = -((n + 1 : Nat) : Int) - 1 by omega]
        exact wq_next (sv, out ++ [-(n : Int) - 1], n + 1, k + szW x.1 t k, m') (cap_var ht hI hkl) (by simp only; omega) (by kernel_rfl) ent_e
      · exact wq_next (sv, out ++ [t.getD k 0], n, k + 1, m' + (ar x.1 (t.getD k 0)).toNat) (cap_keep ht hI hkl (by omega)) (by simp only; omega) (by kernel_rfl) ent_e
    · obtain rfl : k = t.length := by omega
      repeat' (first | refine red ?_ | (refine redi (fun hc => ?_) (fun hc => ?_) <;> try first | (exfalso; omega) | with_reducible first | exact absurd rfl hc | exact absurd hc Bool.false_ne_true | exact absurd hc Bool.false_ne_true.symm) | fail)
      exact ⟨(sw, ⟨out, n, cap_end ht hI⟩), rfl, ent_e⟩
instance l17Capped_ctr {Γ : List Atom} {v0 v1 vt : Value} {x : SSystem} {t : List Int} [h0 : HasRd (List Int) repList Γ [v0] x.1] [h1 : HasRd (List SRule) repList Γ [v1] x.2] [h2 : HasRd (List Int) repList Γ [vt] t] :
    CtrC Try.prog 77 [.agg #[v0, v1], vt] Γ (sysOk x = true ∧ termOk x.1 t = true) (Value × CapT x.1) (fun q : Value × CapT x.1 => q.1) (fun q => .ow [q.1] q.2.1 :: Γ) := ⟨fun s w0 => l17Capped_spec s⟩

theorem len_upTo {ys : List Int} {n : Nat} (hp : ys.Pairwise (· < ·)) (hm : ∀ q, q ∈ ys ↔ 0 ≤ q ∧ q < (n : Int)) : ys.length = n := by
  have hn : ys.Nodup := hp.imp fun h e => by rw [e] at h; omega
  have h2 : ((List.range n).map Int.ofNat).Nodup := by
    rw [List.nodup_iff_pairwise_ne]
    refine List.Pairwise.map _ (fun a b h e => h (Int.ofNat.inj e)) (List.nodup_iff_pairwise_ne.1 List.nodup_range)
  have h3 := (List.perm_ext_iff_of_nodup hn h2).2 fun q => by
    rw [hm, List.mem_map]
    constructor
    · intro h
      exact ⟨q.toNat, List.mem_range.2 (by omega), by show ((q.toNat : Nat) : Int) = q; omega⟩
    · rintro ⟨i, hi, rfl⟩
      have := List.mem_range.1 hi
      show 0 ≤ (i : Int) ∧ (i : Int) < n
      omega
  rw [h3.length_eq]; simp
abbrev VarT (t : List Int) : Type := { ys : List Int // ys.Pairwise (· < ·) ∧ ∀ q, q ∈ ys ↔ ∃ i, i < t.length ∧ t.getD i 0 < 0 ∧ q = -1 - t.getD i 0 }
theorem l2VarsW_spec {w0 : World} {Γ : List Atom} {v : Value} {t : List Int} [h : HasRd (List Int) repList Γ [v] t] (hl : t.length ≤ 60 ∧ ∀ x ∈ t, -60 ≤ x) : CJ Try.prog 78 [v] w0 Γ (fun p : Value × VarT t => p.1) (fun p => .ow [p.1] p.2.1 :: Γ) := by
  refine cj_lift (R := [.rd [v] t]) (A := fun p : Value × VarT t => [.ow [p.1] p.2.1]) (fun w1 => ?_) (reads_cons h (inferInstance)) (fun _ => inferInstance)
  simp only [List.cons_append, List.nil_append]
  obtain ⟨hl, ht⟩ := hl
  refine cj_enter Try.func78 Try.ntmps78 ?_
  repeat' (first | refine red ?_ | refine redv fun sv => ?_ | fail)
  refine wc_loop_p [3, 4] [6, 7, 8, 9, 12, 13, 14, 15, 16, 17, 18, 19, 20, 21, 22, 23, 10, 11] (ι := List Int × Value × Nat) (fun k => [k.2.1, .int .i64 k.2.2]) (fun k => [.ow [k.2.1] k.1]) (fun k => k.2.2 ≤ t.length ∧ k.1.Pairwise (· < ·) ∧ k.1.length ≤ k.2.2 ∧ ∀ q, q ∈ k.1 ↔ ∃ i, i < k.2.2 ∧ t.getD i 0 < 0 ∧ q = -1 - t.getD i 0) (fun k => t.length - k.2.2) ([], sv, 0) [.ow [sv] ([] : List Int)] (by kernel_rfl) ⟨Nat.zero_le _, List.Pairwise.nil, by simp, fun q => ⟨fun h => absurd h (by simp), fun ⟨i, hi, _⟩ => absurd hi (Nat.not_lt_zero i)⟩⟩ rfl ?_
  intro ⟨ys, sy, k⟩ u l' hl' ⟨hk, hp, hyl, hm⟩
  simp only [patch, List.map_cons, List.map_nil, List.set_cons_zero, List.set_cons_succ] at hl'
  subst hl'
  simp only [List.cons_append, List.nil_append] at hk hp hyl hm ⊢
  by_cases hkl : k < t.length
  · have htk := ht _ (getD_mem hkl)
    have hstep : ∀ q, (∃ i, i < k + 1 ∧ t.getD i 0 < 0 ∧ q = -1 - t.getD i 0) ↔ (t.getD k 0 < 0 ∧ q = -1 - t.getD k 0) ∨ ∃ i, i < k ∧ t.getD i 0 < 0 ∧ q = -1 - t.getD i 0 := fun q => by
      constructor
      · rintro ⟨i, hi, h1, h2⟩
        by_cases e : i = k
        · subst e; exact .inl ⟨h1, h2⟩
        · exact .inr ⟨i, by omega, h1, h2⟩
      · rintro (⟨h1, h2⟩ | ⟨i, hi, h1, h2⟩)
        · exact ⟨k, by omega, h1, h2⟩
        · exact ⟨i, by omega, h1, h2⟩
    repeat' (first | refine red ?_ | refine redf fun hbi => ?_ | refine reds ?_ | (refine redc fun r => ?_; try have hr := Subtype.property r) | (refine redi (fun hc => ?_) (fun hc => ?_) <;> try first | (exfalso; omega) | with_reducible first | exact absurd rfl hc | exact absurd hc Bool.false_ne_true | exact absurd hc Bool.false_ne_true.symm) | fail)
    · exact wq_next (r.2.1, r.1, k + 1) ⟨by simp only; omega, r.2.2.1, by have := r.2.2.2.2; simp only; omega, fun q => by
        simp only
        rw [r.2.2.2.1 q, hstep, hm]
        exact or_congr ⟨fun h => ⟨hc, h⟩, fun h => h.2⟩ Iff.rfl⟩ (by simp only; omega) (by kernel_rfl) ent_e
    · exact wq_next (ys, sy, k + 1) ⟨by simp only; omega, hp, by simp only; omega, fun q => by
        simp only
        rw [hstep, hm]
        exact ⟨fun h => .inr h, fun h => h.resolve_left fun h => by omega⟩⟩ (by simp only; omega) (by kernel_rfl) ent_e
  · obtain rfl : k = t.length := by omega
    repeat' (first | refine red ?_ | (refine redi (fun hc => ?_) (fun hc => ?_) <;> try first | (exfalso; omega) | with_reducible first | exact absurd rfl hc | exact absurd hc Bool.false_ne_true | exact absurd hc Bool.false_ne_true.symm) | fail)
    exact ⟨(sy, ⟨ys, hp, hm⟩), rfl, ent_e⟩
instance l2VarsW_ctr {Γ : List Atom} {v : Value} {t : List Int} [h : HasRd (List Int) repList Γ [v] t] :
    CtrC Try.prog 78 [v] Γ (t.length ≤ 60 ∧ ∀ x ∈ t, -60 ≤ x) (Value × VarT t) (fun p : Value × VarT t => p.1) (fun p => .ow [p.1] p.2.1 :: Γ) := ⟨fun s w0 => l2VarsW_spec s⟩

theorem cap_vars {a t : List Int} {n : Nat} (h : CapR a t n) (ys : VarT t) : ys.1.length = n := by
  refine len_upTo ys.2.1 fun q => (ys.2.2 q).trans ?_
  constructor
  · rintro ⟨i, hi, h1, rfl⟩
    have := h.vars _ (getD_mem hi) h1
    omega
  · rintro ⟨h1, h2⟩
    have hm := h.cov (q + 1).toNat (by omega) (by omega)
    rw [show -(((q + 1).toNat : Nat) : Int) = -1 - q by omega] at hm
    obtain ⟨i, hi, e⟩ := List.getElem_of_mem hm
    have e2 : t.getD i 0 = -1 - q := by rw [List.getD_eq_getElem?_getD, List.getElem?_eq_getElem hi]; exact e
    exact ⟨i, hi, by omega, by omega⟩
abbrev CpoT (a : List Int) : Type := { q : List Int × Bool // q.2 = true → WTm a q.1 }
theorem CappedOf_spec {w0 : World} {Γ : List Atom} {v0 v1 vt : Value} {x : SSystem} {t : List Int} [h0 : HasRd (List Int) repList Γ [v0] x.1] [h1 : HasRd (List SRule) repList Γ [v1] x.2] [h2 : HasRd (List Int) repList Γ [vt] t] :
    CJ Try.prog 56 [.agg #[v0, v1], vt] w0 Γ (fun q : Value × CpoT x.1 => .tuple #[q.1, .bool q.2.1.2]) (fun q => .ow [q.1] q.2.1.1 :: Γ) := by
  refine cj_lift (R := [.rd [v0] x.1, .rd [v1] x.2, .rd [vt] t]) (A := fun q : Value × CpoT x.1 => [.ow [q.1] q.2.1.1]) (fun w1 => ?_) (reads_cons h0 (reads_cons h1 (reads_cons h2 (inferInstance)))) (fun _ => inferInstance)
  simp only [List.cons_append, List.nil_append]
  refine cj_enter Try.func56 Try.ntmps56 ?_
  repeat' (first | refine red ?_ | (refine redc fun r => ?_; try have hr := Subtype.property r) | refine redv fun sv => ?_ | refine redn fun b => ?_ | (refine redi (fun hc => ?_) (fun hc => ?_) <;> try first | (exfalso; omega) | with_reducible first | exact absurd rfl hc | exact absurd hc Bool.false_ne_true | exact absurd hc Bool.false_ne_true.symm) | fail)
  · exact ⟨(sv, ⟨([], false), fun h => by cases h⟩), rfl, ent_e⟩
  · exact ⟨(sv, ⟨([], false), fun h => by cases h⟩), rfl, ent_e⟩
  · obtain ⟨vc, out, n, hcap⟩ := r
    have hlo : ∀ y ∈ out, -60 ≤ y := fun y hy => by
      by_cases h0 : y < 0
      · have := hcap.vars y hy h0
        have := hcap.le
        omega
      · omega
    have hol : out.length ≤ 60 := by
      have := termOk_len hcap.ok
      rw [sqL_len] at this; omega
    simp only
    repeat' (first | refine red ?_ | (refine redc fun r => ?_; try have hr := Subtype.property r) | refine redv fun sv => ?_ | (refine redi (fun hc => ?_) (fun hc => ?_) <;> try first | (exfalso; omega) | with_reducible first | exact absurd rfl hc | exact absurd hc Bool.false_ne_true | exact absurd hc Bool.false_ne_true.symm) | fail)
    · exact ⟨(sv, ⟨([], false), fun h => by cases h⟩), rfl, ent_e⟩
    · have hn := cap_vars hcap r.2
      exact ⟨(vc, ⟨(out, true), fun _ => hcap.wtm (by omega)⟩), rfl, ent_e⟩
instance CappedOf_ctr {Γ : List Atom} {v0 v1 vt : Value} {x : SSystem} {t : List Int} [h0 : HasRd (List Int) repList Γ [v0] x.1] [h1 : HasRd (List SRule) repList Γ [v1] x.2] [h2 : HasRd (List Int) repList Γ [vt] t] :
    CtrC Try.prog 56 [.agg #[v0, v1], vt] Γ (True) (Value × CpoT x.1) (fun q : Value × CpoT x.1 => .tuple #[q.1, .bool q.2.1.2]) (fun q => .ow [q.1] q.2.1.1 :: Γ) := ⟨fun s w0 => CappedOf_spec⟩

theorem wc_entT {P : Program} {Q : Exit → Act → World → Prop} {w0 : World} {l : List Value} {Γ Δ : List Atom} {c : Code} (he : Go.Eng.Ent w0 Γ Δ) (h : WC P Q w0 c l Δ) : WC P Q w0 c l Γ := fun w hs => h w (he w hs)
theorem bsw_zero (a : List Int) : BsW a (List.replicate 48 (⟨[]⟩ : Sh (List Int))) (fun c => [c]) (fun _ => 0) := by
  have e : bsV (List.replicate 48 (⟨[]⟩ : Sh (List Int))) = List.replicate 48 [] := by unfold bsV; rw [List.map_replicate]
  refine ⟨by rw [e]; exact ex_zero, fun t ht => ?_⟩
  rw [e] at ht
  exact .inl (List.eq_of_mem_replicate ht)
theorem l11AwayR_spec {w0 : World} {Γ : List Atom} {v : Value} {t : List Int} [h : HasIm (List Int) repList Γ [v] t] (hs : t.length ≤ 60 ∧ ∀ x ∈ t, -48 ≤ x) : CJ Try.prog 58 [v, .int .i64 24] w0 Γ (fun q : Value => q) (fun q => .rd [q] (awayL t 24) :: Γ) := by
  exact cj_mono (l11Away_spec hs) (fun q => ⟨q, rfl, ent_rd q ent_e⟩)
instance l11AwayR_ctr {Γ : List Atom} {v : Value} {t : List Int} [h : HasIm (List Int) repList Γ [v] t] :
    CtrC Try.prog 58 [v, .int .i64 24] Γ (t.length ≤ 60 ∧ ∀ x ∈ t, -48 ≤ x) (Value) (fun q : Value => q) (fun q => .rd [q] (awayL t 24) :: Γ) := ⟨fun s w0 => l11AwayR_spec s⟩

attribute [local instance 2000] l11AwayR_ctr
theorem l17Connected_spec {w0 : World} {Γ : List Atom} {v0 v1 a1 a2 b1 b2 : Value} {x : SSystem} {pl pr ql qr : List Int} {i1 i2 j1 j2 : Int} [h0 : HasRd (List Int) repList Γ [v0] x.1] [h1 : HasRd (List SRule) repList Γ [v1] x.2] [h4 : HasRd (List Int) repList Γ [a1] pl] [h2 : HasRd (List Int) repList Γ [a2] pr] [h3 : HasRd (List Int) repList Γ [b1] ql] [h5 : HasRd (List Int) repList Γ [b2] qr] (hs : sysOk x = true ∧ termOk x.1 pr = true ∧ termOk x.1 ql = true) :
    CJ Try.prog 37 [.agg #[v0, v1], .agg #[a1, a2, .int .i64 i1, .int .i64 i2], .agg #[b1, b2, .int .i64 j1, .int .i64 j2]] w0 Γ (fun q : Bool => .bool q) (fun _ => Γ) := by
  refine cj_lift (R := [.rd [v0] x.1, .rd [v1] x.2, .rd [a1] pl, .rd [a2] pr, .rd [b1] ql, .rd [b2] qr]) (A := fun _ => []) (fun w1 => ?_) (reads_cons h0 (reads_cons h1 (reads_cons h4 (reads_cons h2 (reads_cons h3 (reads_cons h5 (inferInstance))))))) (fun _ => inferInstance)
  simp only [List.cons_append, List.nil_append]
  obtain ⟨hok, hp, hq⟩ := hs
  have hpl := termOk_len hp
  have hql := termOk_len hq
  have hq48 : ql.length ≤ 60 ∧ ∀ y ∈ ql, -48 ≤ y := ⟨hql.2, fun y hy => by have := termOk_mem hq hy; omega⟩
  refine cj_enter Try.func37 Try.ntmps37 ?_
  repeat' (first | refine red ?_ | (refine redc fun r => ?_; try have hr := Subtype.property r) | refine redv fun sv => ?_ | refine redn fun b => ?_ | (refine redi (fun hc => ?_) (fun hc => ?_) <;> try first | (exfalso; omega) | with_reducible first | exact absurd rfl hc | exact absurd hc Bool.false_ne_true | exact absurd hc Bool.false_ne_true.symm) | ((refine wa_begin 2 [false, false, false, false, false, false, false, false, false] [] ?_ <;> (first | refine wa_p 0 ?_ | fail) <;> (first | refine wa_p 1 ?_ | fail) <;> refine wa_p 2 ?_ <;> (first | refine wa_f 3 fun hbi => ?_ | fail) <;> (first | refine wa_p 4 ?_ | fail) <;> (first | refine wa_p 5 ?_ | fail) <;> refine wa_p 6 ?_ <;> (first | refine wa_f 7 fun hbi => ?_ | fail) <;> (first | refine wa_p 8 ?_ | fail)) <;> (refine wa_end ?_)) | fail)
  · exact ⟨false, rfl, ent_e⟩
  · exact ⟨true, rfl, ent_e⟩
  · obtain ⟨vr, ⟨cp, ok⟩, hcp⟩ := r
    simp only at hc hcp ⊢
    refine wc_share vr ?_
    refine wc_entT (ent_toSh sv) ?_
    simp only [List.map_replicate]
    have hMt : MtC x.1 (List.replicate 48 (Sh.mk [])) cp (awayL ql 24) := ⟨⟨_, _, bsw_zero x.1⟩, hcp hc, wtm_away hq⟩
    haveI hkp : ∀ (Γ1 Δ1 : List Atom) [KeepI Γ1 Δ1], KeepI (.ow [sv] (List.replicate 48 (Sh.mk ([] : List Int))) :: Γ1) Δ1 := fun _ _ h => ⟨sub_skip h.sub⟩
    ((refine wa_begini 7 [false, false, false, false, false, false, false, false, false] [] ?_ <;> (first | refine wa_p 0 ?_ | fail) <;> refine wa_p 1 ?_ <;> refine wa_p 2 ?_ <;> refine wa_p 3 ?_ <;> (first | refine wa_p 4 ?_ | fail) <;> (first | refine wa_p 5 ?_ | fail) <;> (refine wa_do 6 ?_ <;> (repeat' (first | refine red ?_ | (refine redc fun r => ?_; try have hr := Subtype.property r) | fail))) <;> (refine wa_do 7 ?_ <;> (repeat' (first | refine red ?_ | (refine redc fun r => ?_; try have hr := Subtype.property r) | fail))) <;> refine wa_p 8 ?_) <;> (refine wa_end ?_))
    repeat' (first | refine red ?_ | fail)
    exact ⟨r.1.1, rfl, ent_e⟩
instance l17Connected_ctr {Γ : List Atom} {v0 v1 a1 a2 b1 b2 : Value} {x : SSystem} {pl pr ql qr : List Int} {i1 i2 j1 j2 : Int} [h0 : HasRd (List Int) repList Γ [v0] x.1] [h1 : HasRd (List SRule) repList Γ [v1] x.2] [h4 : HasRd (List Int) repList Γ [a1] pl] [h2 : HasRd (List Int) repList Γ [a2] pr] [h3 : HasRd (List Int) repList Γ [b1] ql] [h5 : HasRd (List Int) repList Γ [b2] qr] :
    CtrC Try.prog 37 [.agg #[v0, v1], .agg #[a1, a2, .int .i64 i1, .int .i64 i2], .agg #[b1, b2, .int .i64 j1, .int .i64 j2]] Γ (sysOk x = true ∧ termOk x.1 pr = true ∧ termOk x.1 ql = true) (Bool) (fun q : Bool => .bool q) (fun _ => Γ) := ⟨fun s w0 => l17Connected_spec s⟩

/-- Pairs of right terms, not too many. -/
structure PsC (x : SSystem) (ps : List SDep) : Prop where
  ok : sysOk x = true
  len : ps.length ≤ 64
  tm : ∀ k, k < ps.length → termOk x.1 (ps.getD k default).1 = true ∧ termOk x.1 (ps.getD k default).2.1 = true
/-- Numbers below n, at most n in each row. -/
structure GrfP (g : List (List Int)) (n : Nat) : Prop where
  len : g.length = n
  row : ∀ r ∈ g, r.length ≤ n ∧ ∀ q ∈ r, 0 ≤ q ∧ q < n
abbrev GrfT (n : Nat) : Type := { g : List (List Int) // GrfP g n }
theorem l18Graph_spec {w0 : World} {Γ : List Atom} {v0 v1 vp : Value} {x : SSystem} {ps : List SDep} [h0 : HasRd (List Int) repList Γ [v0] x.1] [h1 : HasRd (List SRule) repList Γ [v1] x.2] [h2 : HasRd (List SDep) repList Γ [vp] ps] (hs : PsC x ps) :
    CJ Try.prog 26 [.agg #[v0, v1], vp] w0 Γ (fun q : Value × GrfT ps.length => q.1) (fun q => .ow [q.1] q.2.1 :: Γ) := by
  refine cj_lift (R := [.rd [v0] x.1, .rd [v1] x.2, .rd [vp] ps]) (A := fun q : Value × GrfT ps.length => [.ow [q.1] q.2.1]) (fun w1 => ?_) (reads_cons h0 (reads_cons h1 (reads_cons h2 (inferInstance)))) (fun _ => inferInstance)
  simp only [List.cons_append, List.nil_append]
  obtain ⟨hok, hl, htm⟩ := hs
  refine cj_enter Try.func26 Try.ntmps26 ?_
  repeat' (first | refine red ?_ | refine redv fun sv => ?_ | refine redn fun b => ?_ | fail)
  refine wc_loop_p [5, 6] [10, 11, 12, 13, 16, 7, 8, 17, 18, 19, 20, 23, 24, 25, 26, 27, 28, 29, 30, 31, 32, 33, 34, 35, 36, 21, 22, 37, 38, 39, 40, 14, 15] (ι := Value × List (List Int) × Nat) (fun k => [k.1, .int .i64 k.2.2]) (fun k => [.ow [k.1] k.2.1]) (fun k => k.2.2 ≤ ps.length ∧ k.2.1.length = k.2.2 ∧ ∀ r ∈ k.2.1, r.length ≤ ps.length ∧ ∀ q ∈ r, 0 ≤ q ∧ q < ps.length) (fun k => ps.length - k.2.2) (sv, [], 0) [.ow [sv] ([] : List (List Int))] (by kernel_rfl) ⟨Nat.zero_le _, rfl, fun r hr => absurd hr (by simp)⟩ rfl ?_
  intro ⟨so, g, i⟩ u l' hl' ⟨hi, hgl, hg⟩
  simp only [patch, List.map_cons, List.map_nil, List.set_cons_zero, List.set_cons_succ] at hl'
  subst hl'
  simp only [List.cons_append, List.nil_append] at hi hgl hg ⊢
  by_cases hil : i < ps.length
  · repeat' (first | refine red ?_ | refine redv fun sv => ?_ | (refine redi (fun hc => ?_) (fun hc => ?_) <;> try first | (exfalso; omega) | with_reducible first | exact absurd rfl hc | exact absurd hc Bool.false_ne_true | exact absurd hc Bool.false_ne_true.symm) | fail)
    refine wc_loop_p [7, 8] [17, 18, 19, 20, 23, 24, 25, 26, 27, 28, 29, 30, 31, 32, 33, 34, 35, 36, 21, 22] (ι := Value × List Int × Nat) (fun k => [k.1, .int .i64 k.2.2]) (fun k => [.ow [k.1] k.2.1]) (fun k => k.2.2 ≤ ps.length ∧ k.2.1.length ≤ k.2.2 ∧ ∀ q ∈ k.2.1, 0 ≤ q ∧ q < ps.length) (fun k => ps.length - k.2.2) (sv, [], 0) [.ow [sv] ([] : List Int)] (by kernel_rfl) ⟨Nat.zero_le _, Nat.le_refl _, fun r hr => absurd hr (by simp)⟩ rfl ?_
    intro ⟨sn, nx, j⟩ u2 l2 hl2 ⟨hj, hnl, hn⟩
    simp only [patch, List.map_cons, List.map_nil, List.set_cons_zero, List.set_cons_succ] at hl2
    subst hl2
    simp only [List.cons_append, List.nil_append] at hj hnl hn ⊢
    by_cases hjl : j < ps.length
    · have hcn : sysOk x = true ∧ termOk x.1 (ps.getD i default).2.1 = true ∧ termOk x.1 (ps.getD j default).1 = true := ⟨hok, (htm i hil).2, (htm j hjl).1⟩
      repeat' (first | refine red ?_ | refine reds ?_ | refine redv fun sv => ?_ | (refine redi (fun hc => ?_) (fun hc => ?_) <;> try first | (exfalso; omega) | with_reducible first | exact absurd rfl hc | exact absurd hc Bool.false_ne_true | exact absurd hc Bool.false_ne_true.symm) | ((refine wa_begin 9 [false, false, false, false, false, false, false, false, false, false] [] ?_ <;> (first | refine wa_p 0 ?_ | fail) <;> refine wa_p 1 ?_ <;> refine wa_p 2 ?_ <;> (first | (refine wa_deep 3 fun p cs as_ asb_ hcs has hasb hf => ?_; simp only [Un.cells, Un.atoms, Un.fact, List.cons_append, List.nil_append] at hcs has hasb hf; subst hcs has hasb) | fail) <;> (first | refine wa_p 4 ?_ | fail) <;> refine wa_p 5 ?_ <;> refine wa_p 6 ?_ <;> (first | (refine wa_deep 7 fun p cs as_ asb_ hcs has hasb hf => ?_; simp only [Un.cells, Un.atoms, Un.fact, List.cons_append, List.nil_append] at hcs has hasb hf; subst hcs has hasb) | fail) <;> (first | refine wa_p 8 ?_ | fail) <;> (refine wa_do 9 ?_ <;> (repeat' (first | refine red ?_ | (refine redc fun r => ?_; try have hr := Subtype.property r) | fail)))) <;> (refine wa_end ?_)) | fail)
      · exact wq_next (sv, nx ++ [(j : Int)], j + 1) ⟨by simp only; omega, by simp only [List.length_append, List.length_cons, List.length_nil]; omega, fun q hq => by
          rcases List.mem_append.1 hq with h | h
          · exact hn q h
          · rw [List.mem_singleton] at h; omega⟩ (by simp only; omega) (by kernel_rfl) ent_e
      · exact wq_next (sn, nx, j + 1) ⟨by simp only; omega, by simp only; omega, hn⟩ (by simp only; omega) (by kernel_rfl) ent_e
    · repeat' (first | refine red ?_ | refine reds ?_ | refine redv fun sv => ?_ | (refine redi (fun hc => ?_) (fun hc => ?_) <;> try first | (exfalso; omega) | with_reducible first | exact absurd rfl hc | exact absurd hc Bool.false_ne_true | exact absurd hc Bool.false_ne_true.symm) | fail)
      exact wq_next (sv, g ++ [nx], i + 1) ⟨by simp only; omega, by simp only [List.length_append, List.length_cons, List.length_nil]; omega, fun r hr => by
        rcases List.mem_append.1 hr with h | h
        · exact hg r h
        · rw [List.mem_singleton] at h; rw [h]; exact ⟨by omega, hn⟩⟩ (by simp only; omega) (by kernel_rfl) ent_e
  · repeat' (first | refine red ?_ | (refine redi (fun hc => ?_) (fun hc => ?_) <;> try first | (exfalso; omega) | with_reducible first | exact absurd rfl hc | exact absurd hc Bool.false_ne_true | exact absurd hc Bool.false_ne_true.symm) | fail)
    obtain rfl : i = ps.length := by omega
    exact ⟨(so, ⟨g, hgl, hg⟩), rfl, ent_e⟩
instance l18Graph_ctr {Γ : List Atom} {v0 v1 vp : Value} {x : SSystem} {ps : List SDep} [h0 : HasRd (List Int) repList Γ [v0] x.1] [h1 : HasRd (List SRule) repList Γ [v1] x.2] [h2 : HasRd (List SDep) repList Γ [vp] ps] :
    CtrC Try.prog 26 [.agg #[v0, v1], vp] Γ (PsC x ps) (Value × GrfT ps.length) (fun q : Value × GrfT ps.length => q.1) (fun q => .ow [q.1] q.2.1 :: Γ) := ⟨fun s w0 => l18Graph_spec s⟩

end Go.Proofs.Ytjblieilblcdnaa
