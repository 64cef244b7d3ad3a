/- Chapter 1: signatures, where a term ends, terms that are right; the library's functions on lists of numbers. -/
import Derived.Test.YtbbdjjlnachnlaaGreatDoorTerm
namespace Go.Proofs.YtbbdjjlnachnlaaGreatDoor
open Go Go.Eng
set_option linter.unusedVariables false
set_option linter.unusedSimpArgs false

theorem sigOk_step {a : List Int} {k : Nat} (hk : k < a.length) (h : (a.take k).all (fun n => decide (0 ≤ n ∧ n ≤ 3)) = true) (hn : 0 ≤ a.getD k 0 ∧ a.getD k 0 ≤ 3) : (a.take (k + 1)).all (fun n => decide (0 ≤ n ∧ n ≤ 3)) = true := by
  rw [List.take_succ_eq_append_getElem hk, List.all_append, h]
  rw [List.getD_eq_getElem?_getD, List.getElem?_eq_getElem hk] at hn
  simpa using hn
theorem sigOk_no {a : List Int} {k : Nat} (hk : k < a.length) (hn : ¬ (0 ≤ a.getD k 0 ∧ a.getD k 0 ≤ 3)) : sigOk a = false := by
  cases h : sigOk a with
  | false => rfl
  | true => exact absurd (sigOk_get h hk) hn

theorem sigOk_len_no {a : List Int} (h : ¬ (1 ≤ a.length ∧ a.length ≤ 8)) : sigOk a = false := by simp only [sigOk, h, decide_false, Bool.false_and]
theorem spec_SigOk_spec {w0 : World} {Γ : List Atom} {v : Value} {a : List Int} [h : HasRd (List Int) repList Γ [v] a] : CJ Tryz.prog 42 [.agg #[v]] w0 Γ (fun _ : Unit => .bool (sigOk a)) (fun _ => Γ) := by
  refine cj_len v fun hlx => ?_
  refine cj_enter Tryz.func42 Tryz.ntmps42 ?_
  repeat' (first | refine red ?_ | refine redc fun r => ?_ | refine redn fun b => ?_ | (refine redi (fun hc => ?_) (fun hc => ?_) <;> try first | (exfalso; omega) | exact absurd rfl hc) | fail)
  · exact ⟨(), ret_bool (sigOk_len_no (by omega)), ent_e⟩
  refine wc_loop_c [3] [9, 10, 11, 12, 13, 16, 17, 18, 19, 20, 21, 22, 2, 14, 15] (ι := Nat) (fun k => [.int .i64 k]) (fun k => k ≤ a.length ∧ (a.take k).all (fun n => decide (0 ≤ n ∧ n ≤ 3)) = true) (fun k => a.length - k) 0 (by kernel_rfl) ⟨Nat.zero_le _, rfl⟩ ?_
  intro k u l' hl' ⟨hk, hkk⟩
  simp only [patch, List.map_cons, List.map_nil, List.set_cons_zero, List.set_cons_succ] at hl'
  subst hl'
  repeat' (first | refine red ?_ | refine redf fun hbi => ?_ | refine reds ?_ | refine redc fun r => ?_ | (refine redi (fun hc => ?_) (fun hc => ?_) <;> try first | (exfalso; omega) | exact absurd rfl hc) | fail)
  · exact ⟨(), ret_bool (sigOk_no (by omega) hc), ent_e⟩
  · exact wq_next (k + 1) ⟨by omega, sigOk_step (by omega) hkk hc⟩ (by omega) (by kernel_rfl) ent_e
  · exact ⟨(), ret_bool (by rw [List.take_of_length_le (by omega)] at hkk; simp only [sigOk, hkk, Bool.and_true, decide_eq_true_eq]; omega), ent_e⟩

instance spec_SigOk_ctr {Γ : List Atom} {v : Value} {a : List Int} [h : HasRd (List Int) repList Γ [v] a] :
    CtrC Tryz.prog 42 [.agg #[v]] Γ (True) (Unit) (fun _ : Unit => .bool (sigOk a)) (fun _ => Γ) := ⟨fun s w0 => spec_SigOk_spec⟩

theorem impl_SigOk_spec {w0 : World} {Γ : List Atom} {v : Value} {a : List Int} [h : HasRd (List Int) repList Γ [v] a] : CJ Tryz.prog 106 [.agg #[v]] w0 Γ (fun _ : Unit => .bool (sigOk a)) (fun _ => Γ) := by
  refine cj_len v fun hlx => ?_
  refine cj_enter Tryz.func106 Tryz.ntmps106 ?_
  repeat' (first | refine red ?_ | refine redn fun b => ?_ | (refine redi (fun hc => ?_) (fun hc => ?_) <;> try first | (exfalso; omega) | exact absurd rfl hc) | fail)
  · exact ⟨(), ret_bool (sigOk_len_no (by omega)), ent_e⟩
  · exact ⟨(), ret_bool (sigOk_len_no (by omega)), ent_e⟩
  refine wc_loop_c [18] [19, 20, 21, 4, 22, 23, 24, 25, 26, 27, 2, 28] (ι := Nat) (fun k => [.int .i64 k]) (fun k => k ≤ a.length ∧ (a.take k).all (fun n => decide (0 ≤ n ∧ n ≤ 3)) = true) (fun k => a.length - k) 0 (by kernel_rfl) ⟨Nat.zero_le _, rfl⟩ ?_
  intro k u l' hl' ⟨hk, hkk⟩
  simp only [patch, List.map_cons, List.map_nil, List.set_cons_zero, List.set_cons_succ] at hl'
  subst hl'
  repeat' (first | refine red ?_ | refine redf fun hbi => ?_ | refine reds ?_ | (refine redi (fun hc => ?_) (fun hc => ?_) <;> try first | (exfalso; omega) | exact absurd rfl hc) | fail)
  · exact ⟨(), ret_bool (sigOk_no (k := k) (by omega) (by omega)), ent_e⟩
  · exact ⟨(), ret_bool (sigOk_no (k := k) (by omega) (by omega)), ent_e⟩
  · exact wq_next (k + 1) ⟨by omega, sigOk_step (by omega) hkk ⟨by omega, by omega⟩⟩ (by omega) (by kernel_rfl) ent_e
  · exact ⟨(), ret_bool (by rw [List.take_of_length_le (by omega)] at hkk; simp only [sigOk, hkk, Bool.and_true, decide_eq_true_eq]; omega), ent_e⟩

instance impl_SigOk_ctr {Γ : List Atom} {v : Value} {a : List Int} [h : HasRd (List Int) repList Γ [v] a] :
    CtrC Tryz.prog 106 [.agg #[v]] Γ (True) (Unit) (fun _ : Unit => .bool (sigOk a)) (fun _ => Γ) := ⟨fun s w0 => impl_SigOk_spec⟩

def ar1 (a : List Int) (n : Int) : Int := if badS a n then -1 else ar a n
theorem ar1_neg {a : List Int} (h : sigOk a = true) {n : Int} : ar1 a n < 0 ↔ badS a n = true := by
  unfold ar1
  split
  · rename_i hb; simp [hb]
  · rename_i hb
    have : n < a.length := by simp only [badS, decide_eq_true_eq] at hb; omega
    have := ar_bounds h this
    simp [hb]; omega
theorem l1Arity_spec {w0 : World} {Γ : List Atom} {v : Value} {a : List Int} {n : Int} [h : HasRd (List Int) repList Γ [v] a] : CJ Tryz.prog 151 [.agg #[v], .int .i64 n] w0 Γ (fun _ : Unit => .int .i64 (ar1 a n)) (fun _ => Γ) := by
  refine cj_len v fun hlx => ?_
  refine cj_enter Tryz.func151 Tryz.ntmps151 ?_
  repeat' (first | refine red ?_ | refine redf fun hbi => ?_ | refine reds ?_ | refine redc fun r => ?_ | refine redn fun b => ?_ | (refine redi (fun hc => ?_) (fun hc => ?_) <;> try first | (exfalso; omega) | exact absurd rfl hc) | fail)
  · exact ⟨(), ret_int (by unfold ar1 badS ar; rw [if_neg (by simp; omega), if_pos (by omega)]), ent_e⟩
  · exact ⟨(), ret_int (by unfold ar1 badS ar; rw [if_neg (by simp; omega), if_neg (by omega)]), ent_e⟩
  · exact ⟨(), ret_int (by unfold ar1 badS; rw [if_pos (by simp; omega)]), ent_e⟩

instance l1Arity_ctr {Γ : List Atom} {v : Value} {a : List Int} {n : Int} [h : HasRd (List Int) repList Γ [v] a] :
    CtrC Tryz.prog 151 [.agg #[v], .int .i64 n] Γ (True) (Unit) (fun _ : Unit => .int .i64 (ar1 a n)) (fun _ => Γ) := ⟨fun s w0 => l1Arity_spec⟩

theorem l1End_spec {w0 : World} {Γ : List Atom} {v v' : Value} {a t : List Int} {at_ : Int} {k0 : Nat} [hm : ToN at_ k0] [h : HasRd (List Int) repList Γ [v] a] [h' : HasRd (List Int) repList Γ [v'] t] (hs : sigOk a = true) (hat : 0 ≤ at_) (hat' : at_ ≤ t.length) (hl : t.length ≤ 1048576) :
    CJ Tryz.prog 103 [.agg #[v], v', .int .i64 at_] w0 Γ (fun _ : Unit => .int .i64 (endOf a (badS a) t k0)) (fun _ => Γ) := by
  obtain rfl : at_ = (k0 : Int) := by have := hm.eq; omega
  refine cj_enter Tryz.func103 Tryz.ntmps103 ?_
  repeat' (first | refine red ?_ | refine redn fun b => ?_ | fail)
  refine wc_loop_c [7, 8] [11, 12, 13, 14, 17, 18, 19, 20, 21, 22, 9, 23, 24, 6, 25, 26, 27, 28, 29, 30, 31, 32, 15, 16] (ι := Nat × Nat) (fun k => [.int .i64 (k.2 + 1 : Nat), .int .i64 k.1]) (fun k => k0 ≤ k.1 ∧ k.1 ≤ t.length ∧ k.2 ≤ 3 * k.1 ∧ (skp a (badS a) (t.drop k0) 1).1 = (skp a (badS a) (t.drop k.1) (k.2 + 1)).1 ∧ k0 + (skp a (badS a) (t.drop k0) 1).2 = k.1 + (skp a (badS a) (t.drop k.1) (k.2 + 1)).2) (fun k => t.length - k.1) (k0, 0) (by kernel_rfl) ⟨Nat.le_refl _, by omega, by omega, rfl, rfl⟩ ?_
  intro ⟨k, m⟩ u l' hl' ⟨hk0, hk, hm, h1, h2⟩
  simp only [patch, List.map_cons, List.map_nil, List.set_cons_zero, List.set_cons_succ] at hl'
  subst hl'
  simp only at hk0 hk hm h1 h2
  by_cases hlt : k < t.length
  · have hb := ar1_neg hs (n := t.getD k 0)
    rw [drop_get hlt] at h1 h2
    simp only [skp] at h1 h2
    by_cases hbad : badS a (t.getD k 0) = true
    · have : ar1 a (t.getD k 0) < 0 := hb.2 hbad
      rw [if_pos hbad] at h1 h2
      repeat' (first | refine red ?_ | (refine redi (fun hc => ?_) (fun hc => ?_) <;> try first | (exfalso; omega) | exact absurd rfl hc) | ((refine wa_begin 5 [false, false, false, false, false, false, false] [] ?_ <;> refine wa_p 0 ?_ <;> refine wa_p 1 ?_ <;> refine wa_p 2 ?_ <;> refine wa_p 3 ?_ <;> (first | refine wa_f 4 fun hbi => ?_ | fail) <;> (refine wa_do 5 ?_ <;> (repeat' (first | refine red ?_ | refine redc fun r => ?_ | fail))) <;> refine wa_p 6 ?_) <;> (refine wa_end ?_)) | fail)
      exact ⟨(), ret_int (by unfold endOf; rw [if_neg (by rw [h1]; simp)]), ent_e⟩
    · have hn : ¬ ar1 a (t.getD k 0) < 0 := fun h => hbad (hb.1 h)
      have e : ar1 a (t.getD k 0) = ar a (t.getD k 0) := by unfold ar1; rw [if_neg hbad]
      have hxa : t.getD k 0 < a.length := by simp only [badS, decide_eq_true_eq] at hbad; omega
      have hab := ar_bounds hs hxa
      rw [if_neg hbad] at h1 h2
      repeat' (first | refine red ?_ | refine reds ?_ | (refine redi (fun hc => ?_) (fun hc => ?_) <;> try first | (exfalso; omega) | exact absurd rfl hc) | ((refine wa_begin 5 [false, false, false, false, false, false, false] [] ?_ <;> refine wa_p 0 ?_ <;> refine wa_p 1 ?_ <;> refine wa_p 2 ?_ <;> refine wa_p 3 ?_ <;> (first | refine wa_f 4 fun hbi => ?_ | fail) <;> (refine wa_do 5 ?_ <;> (repeat' (first | refine red ?_ | refine redc fun r => ?_ | fail))) <;> refine wa_p 6 ?_) <;> (refine wa_end ?_)) | fail)
      · have hz : m + (ar a (t.getD k 0)).toNat = 0 := by omega
        rw [hz] at h1 h2
        simp only [skp] at h1 h2
        exact ⟨(), ret_int (by unfold endOf; rw [if_pos h1]; omega), ent_e⟩
      · have hz : ∃ m', m + (ar a (t.getD k 0)).toNat = m' + 1 := ⟨m + (ar a (t.getD k 0)).toNat - 1, by omega⟩
        obtain ⟨m', hm'⟩ := hz
        rw [hm'] at h1 h2
        rw [show (((m + 1 : Nat) : Int) + ar1 a (t.getD k 0) - 1) = ((m' + 1 : Nat) : Int) by omega]
        exact wq_next (k + 1, m') ⟨by omega, by simp only; omega, by simp only; omega, h1, by simp only; omega⟩ (by simp only; omega) (by kernel_rfl) ent_e
  · have hk2 : t.drop k = [] := List.drop_of_length_le (by omega)
    rw [hk2] at h1 h2
    simp only [skp] at h1 h2
    repeat' (first | refine red ?_ | (refine redi (fun hc => ?_) (fun hc => ?_) <;> try first | (exfalso; omega) | exact absurd rfl hc) | fail)
    exact ⟨(), ret_int (by unfold endOf; rw [if_neg (by rw [h1]; simp)]), ent_e⟩

instance l1End_ctr {Γ : List Atom} {v v' : Value} {a t : List Int} {at_ : Int} {k0 : Nat} [hm : ToN at_ k0] [h : HasRd (List Int) repList Γ [v] a] [h' : HasRd (List Int) repList Γ [v'] t] :
    CtrC Tryz.prog 103 [.agg #[v], v', .int .i64 at_] Γ ((sigOk a = true) ∧ (0 ≤ at_) ∧ (at_ ≤ t.length) ∧ (t.length ≤ 1048576)) (Unit) (fun _ : Unit => .int .i64 (endOf a (badS a) t k0)) (fun _ => Γ) := ⟨fun s w0 => l1End_spec s.1 s.2.1 s.2.2.1 s.2.2.2⟩

theorem termOk_no_sig {a t : List Int} (h : sigOk a = false) : termOk a t = false := by simp [termOk, h]
theorem termOk_no_len {a t : List Int} (h : ¬ (1 ≤ t.length ∧ t.length ≤ 60)) : termOk a t = false := by simp only [termOk, h, decide_false, Bool.and_false, Bool.false_and]
theorem termOk_end {a t : List Int} (h : sigOk a = true) (h' : 1 ≤ t.length ∧ t.length ≤ 60) : termOk a t = decide (endOf a (badS a) t 0 = t.length) := by simp only [termOk, h, h', decide_true, Bool.true_and, and_self]

theorem spec_TermOk_spec {w0 : World} {Γ : List Atom} {v v' : Value} {a t : List Int} [h : HasRd (List Int) repList Γ [v] a] [h' : HasRd (List Int) repList Γ [v'] t] :
    CJ Tryz.prog 47 [.agg #[v], v'] w0 Γ (fun _ : Unit => .bool (termOk a t)) (fun _ => Γ) := by
  refine cj_len v' fun hlx => ?_
  refine cj_enter Tryz.func47 Tryz.ntmps47 ?_
  repeat' (first | refine red ?_ | refine redc fun r => ?_ | refine redn fun b => ?_ | (refine redi (fun hc => ?_) (fun hc => ?_) <;> try first | (exfalso; omega) | exact absurd rfl hc) | fail)
  · exact ⟨(), ret_bool (termOk_end ‹_› (by omega)), ent_e⟩
  · exact ⟨(), ret_bool (termOk_no_len (by omega)), ent_e⟩
  · exact ⟨(), ret_bool (termOk_no_sig ‹_›), ent_e⟩

instance spec_TermOk_ctr {Γ : List Atom} {v v' : Value} {a t : List Int} [h : HasRd (List Int) repList Γ [v] a] [h' : HasRd (List Int) repList Γ [v'] t] :
    CtrC Tryz.prog 47 [.agg #[v], v'] Γ (True) (Unit) (fun _ : Unit => .bool (termOk a t)) (fun _ => Γ) := ⟨fun s w0 => spec_TermOk_spec⟩

/-! the library -/
theorem Equal_spec {w0 : World} {Γ : List Atom} {av bv : Value} {xs ys : List Int} [h : HasRd (List Int) repList Γ [av] xs] [h' : HasRd (List Int) repList Γ [bv] ys] :
    CJ Tryz.prog 135 [av, bv] w0 Γ (fun _ : Unit => .bool (decide (xs = ys))) (fun _ => Γ) := by
  refine cj_len av fun hlx => ?_
  refine cj_enter Tryz.func135 Tryz.ntmps135 ?_
  repeat' (first | refine red ?_ | (refine redi (fun hc => ?_) (fun hc => ?_) <;> try first | (exfalso; omega) | exact absurd rfl hc) | fail)
  · exact ⟨(), ret_bool (by exact decide_eq_false (fun h : xs = ys => hc (by rw [h]))), ent_e⟩
  refine wc_loop_c [13] [14, 15, 5, 16, 17, 18, 19, 20, 21, 22, 23, 24, 4, 25] (ι := Nat) (fun k => [.int .i64 k]) (fun k => k ≤ xs.length ∧ xs.take k = ys.take k) (fun k => xs.length - k) 0 (by kernel_rfl) ⟨Nat.zero_le _, rfl⟩ ?_
  intro k u l' hl' ⟨hk, hkk⟩
  simp only [patch, List.map_cons, List.map_nil, List.set_cons_zero, List.set_cons_succ] at hl'
  subst hl'
  repeat' (first | refine red ?_ | refine reds ?_ | (refine redi (fun hc => ?_) (fun hc => ?_) <;> try first | (exfalso; omega) | exact absurd rfl hc) | ((refine wa_begin 6 [false, false, false, false, false, false, false, false, false] [] ?_ <;> refine wa_p 0 ?_ <;> refine wa_p 1 ?_ <;> refine wa_p 2 ?_ <;> (first | refine wa_f 3 fun hbi => ?_ | fail) <;> refine wa_p 4 ?_ <;> refine wa_p 5 ?_ <;> refine wa_p 6 ?_ <;> (first | refine wa_f 7 fun hbi => ?_ | fail) <;> (first | refine wa_p 8 ?_ | fail)) <;> (refine wa_end ?_)) | fail)
  · exact ⟨(), ret_bool (by exact decide_eq_false (ne_getD hc)), ent_e⟩
  · exact wq_next (k + 1) ⟨by omega, take_next hkk (by omega) (by omega) hc⟩ (by omega) (by kernel_rfl) ent_e
  · exact ⟨(), ret_bool (by exact decide_eq_true (take_end hkk (by omega) (by omega))), ent_e⟩

instance Equal_ctr {Γ : List Atom} {av bv : Value} {xs ys : List Int} [h : HasRd (List Int) repList Γ [av] xs] [h' : HasRd (List Int) repList Γ [bv] ys] :
    CtrC Tryz.prog 135 [av, bv] Γ (True) (Unit) (fun _ : Unit => .bool (decide (xs = ys))) (fun _ => Γ) := ⟨fun s w0 => Equal_spec⟩

theorem SameTerm_spec {w0 : World} {Γ : List Atom} {av bv : Value} {xs ys : List Int} [h : HasRd (List Int) repList Γ [av] xs] [h' : HasRd (List Int) repList Γ [bv] ys] :
    CJ Tryz.prog 102 [av, bv] w0 Γ (fun _ : Unit => .bool (decide (xs = ys))) (fun _ => Γ) := by
  refine cj_len av fun hlx => ?_
  refine cj_enter Tryz.func102 Tryz.ntmps102 ?_
  repeat' (first | refine red ?_ | (refine redi (fun hc => ?_) (fun hc => ?_) <;> try first | (exfalso; omega) | exact absurd rfl hc) | fail)
  · exact ⟨(), ret_bool (by exact decide_eq_false (fun h : xs = ys => hc (by rw [h]))), ent_e⟩
  refine wc_loop_c [5] [11, 12, 13, 14, 17, 18, 19, 20, 21, 22, 23, 24, 25, 4, 15, 16] (ι := Nat) (fun k => [.int .i64 k]) (fun k => k ≤ xs.length ∧ xs.take k = ys.take k) (fun k => xs.length - k) 0 (by kernel_rfl) ⟨Nat.zero_le _, rfl⟩ ?_
  intro k u l' hl' ⟨hk, hkk⟩
  simp only [patch, List.map_cons, List.map_nil, List.set_cons_zero, List.set_cons_succ] at hl'
  subst hl'
  repeat' (first | refine red ?_ | refine reds ?_ | (refine redi (fun hc => ?_) (fun hc => ?_) <;> try first | (exfalso; omega) | exact absurd rfl hc) | ((refine wa_begin 6 [false, false, false, false, false, false, false, false, false] [] ?_ <;> refine wa_p 0 ?_ <;> refine wa_p 1 ?_ <;> refine wa_p 2 ?_ <;> (first | refine wa_f 3 fun hbi => ?_ | fail) <;> refine wa_p 4 ?_ <;> refine wa_p 5 ?_ <;> refine wa_p 6 ?_ <;> (first | refine wa_f 7 fun hbi => ?_ | fail) <;> (first | refine wa_p 8 ?_ | fail)) <;> (refine wa_end ?_)) | fail)
  · exact ⟨(), ret_bool (by exact decide_eq_false (ne_getD hc)), ent_e⟩
  · exact wq_next (k + 1) ⟨by omega, take_next hkk (by omega) (by omega) hc⟩ (by omega) (by kernel_rfl) ent_e
  · exact ⟨(), ret_bool (by exact decide_eq_true (take_end hkk (by omega) (by omega))), ent_e⟩

instance SameTerm_ctr {Γ : List Atom} {av bv : Value} {xs ys : List Int} [h : HasRd (List Int) repList Γ [av] xs] [h' : HasRd (List Int) repList Γ [bv] ys] :
    CtrC Tryz.prog 102 [av, bv] Γ (True) (Unit) (fun _ : Unit => .bool (decide (xs = ys))) (fun _ => Γ) := ⟨fun s w0 => SameTerm_spec⟩

def minTo (xs : List Int) : Nat → Int
  | 0 => xs.getD 0 0
  | k + 1 => min (minTo xs k) (xs.getD k 0)
def minL (xs : List Int) : Int := minTo xs xs.length
theorem minTo_le (xs : List Int) (c : Int) : ∀ k, k ≤ xs.length → (c ≤ minTo xs k ↔ c ≤ xs.getD 0 0 ∧ ∀ i, i < k → c ≤ xs.getD i 0)
  | 0, _ => by simp [minTo]
  | k + 1, hk => by
    have ih := minTo_le xs c k (by omega)
    simp only [minTo]
    rw [show c ≤ min (minTo xs k) (xs.getD k 0) ↔ c ≤ minTo xs k ∧ c ≤ xs.getD k 0 by omega, ih]
    constructor
    · rintro ⟨⟨h1, h2⟩, h3⟩
      refine ⟨h1, fun i hi => ?_⟩
      by_cases h : i = k
      · subst h; exact h3
      · exact h2 i (by omega)
    · rintro ⟨h1, h2⟩
      exact ⟨⟨h1, fun i hi => h2 i (by omega)⟩, h2 k (by omega)⟩
theorem minL_le {xs : List Int} (h : 1 ≤ xs.length) (c : Int) : c ≤ minL xs ↔ ∀ x ∈ xs, c ≤ x := by
  unfold minL
  rw [minTo_le xs c _ (Nat.le_refl _)]
  constructor
  · rintro ⟨_, h2⟩ x hx
    obtain ⟨i, hi, rfl⟩ := List.getElem_of_mem hx
    have := h2 i hi
    rw [List.getD_eq_getElem?_getD, List.getElem?_eq_getElem hi] at this
    exact this
  · intro h'
    exact ⟨h' _ (getD_mem (by omega)), fun i hi => h' _ (getD_mem hi)⟩
theorem minTo_one (xs : List Int) : minTo xs 1 = xs.getD 0 0 := by simp only [minTo]; omega
theorem Min_spec {w0 : World} {Γ : List Atom} {av : Value} {xs : List Int} [h : HasRd (List Int) repList Γ [av] xs] (hl : 1 ≤ xs.length) :
    CJ Tryz.prog 145 [av] w0 Γ (fun _ : Unit => .int .i64 (minL xs)) (fun _ => Γ) := by
  refine cj_len av fun hlx => ?_
  refine cj_enter Tryz.func145 Tryz.ntmps145 ?_
  repeat' (first | refine red ?_ | refine redf fun hbi => ?_ | refine reds ?_ | (refine redi (fun hc => ?_) (fun hc => ?_) <;> try first | (exfalso; omega) | exact absurd rfl hc) | fail)
  refine wc_loop_c [3, 4] [12, 13, 14, 15, 18, 19, 20, 21, 22, 23, 16, 17] (ι := Nat) (fun k => [.int .i64 (minTo xs k), .int .i64 k]) (fun k => 1 ≤ k ∧ k ≤ xs.length) (fun k => xs.length - k) 1 (by rw [minTo_one]; kernel_rfl) ⟨by omega, by omega⟩ ?_
  intro k u l' hl' ⟨hk0, hk⟩
  simp only [patch, List.map_cons, List.map_nil, List.set_cons_zero, List.set_cons_succ] at hl'
  subst hl'
  repeat' (first | refine red ?_ | refine redf fun hbi => ?_ | refine reds ?_ | (refine redi (fun hc => ?_) (fun hc => ?_) <;> try first | (exfalso; omega) | exact absurd rfl hc) | fail)
  · exact wq_next (k + 1) ⟨by omega, by omega⟩ (by omega) (by kernel_rfl) ent_e
  · exact ⟨(), ret_int (by unfold minL; rw [show k = xs.length by omega]), ent_e⟩

instance Min_ctr {Γ : List Atom} {av : Value} {xs : List Int} [h : HasRd (List Int) repList Γ [av] xs] :
    CtrC Tryz.prog 145 [av] Γ (1 ≤ xs.length) (Unit) (fun _ : Unit => .int .i64 (minL xs)) (fun _ => Γ) := ⟨fun s w0 => Min_spec s⟩

/-! the program's cursor -/
theorem arityAt_spec {w0 : World} {Γ : List Atom} {v : Value} {a : List Int} {n : Int} [h : HasRd (List Int) repList Γ [v] a] (hn : n < a.length) : CJ Tryz.prog 148 [.agg #[v], .int .i64 n] w0 Γ (fun _ : Unit => .int .i64 (ar a n)) (fun _ => Γ) := by
  refine cj_len v fun hlx => ?_
  refine cj_enter Tryz.func148 Tryz.ntmps148 ?_
  repeat' (first | refine red ?_ | refine redf fun hbi => ?_ | refine reds ?_ | refine redn fun b => ?_ | (refine redi (fun hc => ?_) (fun hc => ?_) <;> try first | (exfalso; omega) | exact absurd rfl hc) | fail)
  · exact ⟨(), ret_int (by unfold ar; rw [if_pos hc]), ent_e⟩
  · exact ⟨(), ret_int (by unfold ar; rw [if_neg (by omega)]), ent_e⟩
instance arityAt_ctr {Γ : List Atom} {v : Value} {a : List Int} {n : Int} [h : HasRd (List Int) repList Γ [v] a] :
    CtrC Tryz.prog 148 [.agg #[v], .int .i64 n] Γ (n < a.length) (Unit) (fun _ : Unit => .int .i64 (ar a n)) (fun _ => Γ) := ⟨fun s w0 => arityAt_spec s⟩

def nxV (a t : List Int) (k : Int) : Int := if k < t.length ∧ t.getD k.toNat 0 < a.length then ar a (t.getD k.toNat 0) else -1
def nxK (a t : List Int) (k : Int) : Int := if k < t.length ∧ t.getD k.toNat 0 < a.length then k + 1 else k
theorem next_spec {w0 : World} {Γ Δ : List Atom} {v v' : Value} {a t : List Int} {k : Int} {b : Nat} [hb : PullBk Γ b [v, v', .int .i64 k] Δ] [h : HasRd (List Int) repList Δ [v] a] [h' : HasRd (List Int) repList Δ [v'] t] (hk : 0 ≤ k) (hl : t.length ≤ 1048576) :
    CJ Tryz.prog 189 [.pointer (some ⟨b, 0, none⟩)] w0 Γ (fun _ : Unit => .int .i64 (nxV a t k)) (fun _ => .bk b [v, v', .int .i64 (nxK a t k)] :: Δ) := by
  refine cj_perm hb.perm ?_
  refine cj_len v fun hlx => ?_
  refine cj_len v' fun hlx' => ?_
  unfold nxV nxK
  obtain ⟨k, rfl⟩ : ∃ k0 : Nat, k = k0 := ⟨k.toNat, by omega⟩
  rw [Int.toNat_natCast]
  refine cj_enter Tryz.func189 Tryz.ntmps189 ?_
  by_cases h1 : k < t.length
  · by_cases h2 : t.getD k 0 < a.length
    · rw [if_pos ⟨by omega, h2⟩, if_pos ⟨by omega, h2⟩]
      repeat' (first | refine red ?_ | refine reds ?_ | (refine redi (fun hc => ?_) (fun hc => ?_) <;> try first | (exfalso; omega) | exact absurd rfl hc) | ((refine wa_begin 1 [false, false, false, false, false, false, false, false, false, false, false, false, false, false, false, false, false, false, false, false, false, false, false, false, false, false, false, false, false] [] ?_ <;> refine wa_p 0 ?_ <;> (first | refine wa_p 1 ?_ | fail) <;> (first | refine wa_p 2 ?_ | fail) <;> (first | refine wa_p 3 ?_ | fail) <;> refine wa_p 4 ?_ <;> (first | refine wa_p 5 ?_ | fail) <;> (first | refine wa_p 6 ?_ | fail) <;> (first | refine wa_p 7 ?_ | fail) <;> (first | refine wa_p 8 ?_ | fail) <;> refine wa_p 9 ?_ <;> refine wa_p 10 ?_ <;> (first | (refine wa_if 13 (fun hc => ?_) (fun hc => ?_) <;> (try first | (exfalso; omega) | exact absurd rfl hc) <;> first | refine wa_pg 11 ?_ | refine wa_no 11 ?_) | fail) <;> (first | refine wa_pg 12 ?_ | fail) <;> (first | refine wa_pg 13 ?_ | fail) <;> (first | refine wa_pg 14 ?_ | fail) <;> (first | refine wa_pg 15 ?_ | fail) <;> (first | refine wa_pg 16 ?_ | fail) <;> (first | refine wa_pg 17 ?_ | fail) <;> (first | refine wa_pg 18 ?_ | fail) <;> (first | refine wa_pg 19 ?_ | fail) <;> (first | refine wa_pg 20 ?_ | fail) <;> (first | refine wa_pg 21 ?_ | fail) <;> (first | refine wa_pg 22 ?_ | fail) <;> (first | refine wa_pg 23 ?_ | fail) <;> (first | refine wa_pg 24 ?_ | fail) <;> (first | refine wa_pg 25 ?_ | fail) <;> (first | refine wa_pg 26 ?_ | fail) <;> (first | refine wa_pg 27 ?_ | fail) <;> (first | refine wa_p 28 ?_ | fail)) <;> (refine wa_end ?_)) | ((refine wa_begin 4 [false, false, false, false, false, false, false, false, false, false, false, false, false, false, false, false, false] [] ?_ <;> refine wa_p 0 ?_ <;> (first | refine wa_p 1 ?_ | fail) <;> (first | refine wa_p 2 ?_ | fail) <;> refine wa_p 3 ?_ <;> refine wa_p 4 ?_ <;> (first | refine wa_p 5 ?_ | fail) <;> (first | refine wa_p 6 ?_ | fail) <;> (first | refine wa_p 7 ?_ | fail) <;> refine wa_p 8 ?_ <;> (first | refine wa_p 9 ?_ | fail) <;> (first | refine wa_p 10 ?_ | fail) <;> (first | refine wa_p 11 ?_ | fail) <;> (first | refine wa_p 12 ?_ | fail) <;> refine wa_p 13 ?_ <;> (first | refine wa_f 14 fun hbi => ?_ | fail) <;> (refine wa_do 15 ?_ <;> (repeat' (first | refine red ?_ | refine redc fun r => ?_ | fail))) <;> refine wa_p 16 ?_) <;> (refine wa_end ?_)) | fail)
      exact ⟨(), rfl, ent_e⟩
    · rw [if_neg (by omega), if_neg (by omega)]
      repeat' (first | refine red ?_ | (refine redi (fun hc => ?_) (fun hc => ?_) <;> try first | (exfalso; omega) | exact absurd rfl hc) | ((refine wa_begin 1 [false, false, false, false, false, false, false, false, false, false, false, false, false, false, false, false, false, false, false, false, false, false, false, false, false, false, false, false, false] [] ?_ <;> refine wa_p 0 ?_ <;> (first | refine wa_p 1 ?_ | fail) <;> (first | refine wa_p 2 ?_ | fail) <;> (first | refine wa_p 3 ?_ | fail) <;> refine wa_p 4 ?_ <;> (first | refine wa_p 5 ?_ | fail) <;> (first | refine wa_p 6 ?_ | fail) <;> (first | refine wa_p 7 ?_ | fail) <;> (first | refine wa_p 8 ?_ | fail) <;> refine wa_p 9 ?_ <;> refine wa_p 10 ?_ <;> (first | (refine wa_if 13 (fun hc => ?_) (fun hc => ?_) <;> (try first | (exfalso; omega) | exact absurd rfl hc) <;> first | refine wa_pg 11 ?_ | refine wa_no 11 ?_) | fail) <;> (first | refine wa_pg 12 ?_ | fail) <;> (first | refine wa_pg 13 ?_ | fail) <;> (first | refine wa_pg 14 ?_ | fail) <;> (first | refine wa_pg 15 ?_ | fail) <;> (first | refine wa_pg 16 ?_ | fail) <;> (first | refine wa_pg 17 ?_ | fail) <;> (first | refine wa_pg 18 ?_ | fail) <;> (first | refine wa_pg 19 ?_ | fail) <;> (first | refine wa_pg 20 ?_ | fail) <;> (first | refine wa_pg 21 ?_ | fail) <;> (first | refine wa_pg 22 ?_ | fail) <;> (first | refine wa_pg 23 ?_ | fail) <;> (first | refine wa_pg 24 ?_ | fail) <;> (first | refine wa_pg 25 ?_ | fail) <;> (first | refine wa_pg 26 ?_ | fail) <;> (first | refine wa_pg 27 ?_ | fail) <;> (first | refine wa_p 28 ?_ | fail)) <;> (refine wa_end ?_)) | fail)
      exact ⟨(), rfl, ent_e⟩
  · rw [if_neg (by omega), if_neg (by omega)]
    repeat' (first | refine red ?_ | ((refine wa_begin 1 [false, false, false, false, false, false, false, false, false, false, false, false, false, false, false, false, false, false, false, false, false, false, false, false, false, false, false, false, false] [] ?_ <;> refine wa_p 0 ?_ <;> (first | refine wa_p 1 ?_ | fail) <;> (first | refine wa_p 2 ?_ | fail) <;> (first | refine wa_p 3 ?_ | fail) <;> refine wa_p 4 ?_ <;> (first | refine wa_p 5 ?_ | fail) <;> (first | refine wa_p 6 ?_ | fail) <;> (first | refine wa_p 7 ?_ | fail) <;> (first | refine wa_p 8 ?_ | fail) <;> refine wa_p 9 ?_ <;> refine wa_p 10 ?_ <;> (first | (refine wa_if 13 (fun hc => ?_) (fun hc => ?_) <;> (try first | (exfalso; omega) | exact absurd rfl hc) <;> first | refine wa_pg 11 ?_ | refine wa_no 11 ?_) | fail) <;> (first | refine wa_no 12 ?_ | fail) <;> (first | refine wa_no 13 ?_ | fail) <;> (first | refine wa_no 14 ?_ | fail) <;> (first | refine wa_no 15 ?_ | fail) <;> (first | refine wa_no 16 ?_ | fail) <;> (first | refine wa_no 17 ?_ | fail) <;> (first | refine wa_no 18 ?_ | fail) <;> (first | refine wa_no 19 ?_ | fail) <;> (first | refine wa_no 20 ?_ | fail) <;> (first | refine wa_no 21 ?_ | fail) <;> (first | refine wa_no 22 ?_ | fail) <;> (first | refine wa_no 23 ?_ | fail) <;> (first | refine wa_no 24 ?_ | fail) <;> (first | refine wa_no 25 ?_ | fail) <;> (first | refine wa_no 26 ?_ | fail) <;> (first | refine wa_no 27 ?_ | fail) <;> (first | refine wa_p 28 ?_ | fail)) <;> (refine wa_end ?_)) | fail)
    exact ⟨(), rfl, ent_e⟩

instance next_ctr {Γ Δ : List Atom} {v v' : Value} {a t : List Int} {k : Int} {b : Nat} [hb : PullBk Γ b [v, v', .int .i64 k] Δ] [h : HasRd (List Int) repList Δ [v] a] [h' : HasRd (List Int) repList Δ [v'] t] :
    CtrC Tryz.prog 189 [.pointer (some ⟨b, 0, none⟩)] Γ ((0 ≤ k) ∧ (t.length ≤ 1048576)) (Unit) (fun _ : Unit => .int .i64 (nxV a t k)) (fun _ => .bk b [v, v', .int .i64 (nxK a t k)] :: Δ) := ⟨fun s w0 => next_spec s.1 s.2⟩

theorem skip_spec {w0 : World} {Γ Δ : List Atom} {v v' : Value} {a t : List Int} {k00 : Int} {k0 : Nat} {b : Nat} [hm : ToN k00 k0] [hb : PullBk Γ b [v, v', .int .i64 k00] Δ] [h : HasRd (List Int) repList Δ [v] a] [h' : HasRd (List Int) repList Δ [v'] t] (hs : sigOk a = true) (hk : 0 ≤ k00) (hk' : k00 ≤ t.length) (hl : t.length ≤ 1048576) :
    CJ Tryz.prog 171 [.pointer (some ⟨b, 0, none⟩)] w0 Γ (fun _ : Unit => .bool (skp a (badI a) (t.drop k0) 1).1) (fun _ => .bk b [v, v', .int .i64 (k00 + (skp a (badI a) (t.drop k0) 1).2)] :: Δ) := by
  refine cj_perm hb.perm ?_
  obtain rfl : k00 = (k0 : Int) := by have := hm.eq; omega
  refine cj_enter Tryz.func171 Tryz.ntmps171 ?_
  repeat' (first | refine red ?_ | fail)
  refine wc_loop_p [3] [5, 6, 9, 10, 4, 11, 12, 2, 13, 14, 15, 7, 8] (ι := Nat × Nat) (fun k => [.int .i64 k.2]) (fun k => [.bk b [v, v', .int .i64 k.1]]) (fun k => k0 ≤ k.1 ∧ k.1 ≤ t.length ∧ k.2 ≤ 3 * k.1 + 1 ∧ (skp a (badI a) (t.drop k0) 1).1 = (skp a (badI a) (t.drop k.1) k.2).1 ∧ k0 + (skp a (badI a) (t.drop k0) 1).2 = k.1 + (skp a (badI a) (t.drop k.1) k.2).2) (fun k => t.length - k.1 + (if k.2 = 0 then 0 else 1)) (k0, 1) [.bk b [v, v', .int .i64 k0]] (by kernel_rfl) ⟨Nat.le_refl _, by omega, by omega, rfl, rfl⟩ rfl ?_
  intro ⟨k, m⟩ u l' hl' ⟨hk0, hk, hm, h1, h2⟩
  simp only [patch, List.map_cons, List.map_nil, List.set_cons_zero, List.set_cons_succ] at hl'
  subst hl'
  simp only [List.cons_append, List.nil_append] at hk0 hk hm h1 h2 ⊢
  cases m with
  | zero =>
    simp only [skp] at h1 h2
    repeat' (first | refine red ?_ | (refine redi (fun hc => ?_) (fun hc => ?_) <;> try first | (exfalso; omega) | exact absurd rfl hc) | fail)
    exact ⟨(), ret_bool h1, by rw [show ((k0 : Int) + ((skp a (badI a) (t.drop k0) 1).2 : Nat)) = k by omega]; exact ent_e⟩
  | succ m =>
    by_cases hlt : k < t.length
    · rw [drop_get hlt] at h1 h2
      simp only [skp] at h1 h2
      by_cases hbad : badI a (t.getD k 0) = true
      · have hx : ¬ t.getD k 0 < a.length := by simp only [badI, decide_eq_true_eq] at hbad; omega
        have e1 : nxV a t k = -1 := by unfold nxV; rw [Int.toNat_natCast, if_neg (by omega)]
        have e2 : nxK a t k = k := by unfold nxK; rw [Int.toNat_natCast, if_neg (by omega)]
        rw [if_pos hbad] at h1 h2
        repeat' (first | refine red ?_ | refine redc fun r => ?_ | (refine redi (fun hc => ?_) (fun hc => ?_) <;> try first | (exfalso; omega) | exact absurd rfl hc) | fail)
        exact ⟨(), ret_bool h1, by rw [e2, show ((k0 : Int) + ((skp a (badI a) (t.drop k0) 1).2 : Nat)) = k by omega]; exact ent_e⟩
      · have hx : t.getD k 0 < a.length := by simp only [badI, decide_eq_true_eq] at hbad; omega
        have hab := ar_bounds hs hx
        have e1 : nxV a t k = ar a (t.getD k 0) := by unfold nxV; rw [Int.toNat_natCast, if_pos (by omega)]
        have e2 : nxK a t k = k + 1 := by unfold nxK; rw [Int.toNat_natCast, if_pos (by omega)]
        rw [if_neg hbad] at h1 h2
        repeat' (first | refine red ?_ | refine reds ?_ | refine redc fun r => ?_ | (refine redi (fun hc => ?_) (fun hc => ?_) <;> try first | (exfalso; omega) | exact absurd rfl hc) | fail)
        rw [e2, show (((m + 1 : Nat) : Int) + nxV a t k - 1) = ((m + (ar a (t.getD k 0)).toNat : Nat) : Int) by omega]
        exact wq_next (k + 1, m + (ar a (t.getD k 0)).toNat) ⟨by omega, by simp only; omega, by simp only; omega, h1, by simp only; omega⟩ (by simp only; split <;> simp <;> omega) (by kernel_rfl) (by show Ent _ _ (.bk b [v, v', .int .i64 ((k : Int) + 1)] :: Δ); exact ent_e)
    · have hk2 : t.drop k = [] := List.drop_of_length_le (by omega)
      rw [hk2] at h1 h2
      simp only [skp] at h1 h2
      have e1 : nxV a t k = -1 := by unfold nxV; rw [Int.toNat_natCast, if_neg (by omega)]
      have e2 : nxK a t k = k := by unfold nxK; rw [Int.toNat_natCast, if_neg (by omega)]
      repeat' (first | refine red ?_ | refine redc fun r => ?_ | (refine redi (fun hc => ?_) (fun hc => ?_) <;> try first | (exfalso; omega) | exact absurd rfl hc) | fail)
      exact ⟨(), ret_bool h1, by rw [e2, show ((k0 : Int) + ((skp a (badI a) (t.drop k0) 1).2 : Nat)) = k by omega]; exact ent_e⟩

instance skip_ctr {Γ Δ : List Atom} {v v' : Value} {a t : List Int} {k00 : Int} {k0 : Nat} {b : Nat} [hm : ToN k00 k0] [hb : PullBk Γ b [v, v', .int .i64 k00] Δ] [h : HasRd (List Int) repList Δ [v] a] [h' : HasRd (List Int) repList Δ [v'] t] :
    CtrC Tryz.prog 171 [.pointer (some ⟨b, 0, none⟩)] Γ ((sigOk a = true) ∧ (0 ≤ k00) ∧ (k00 ≤ t.length) ∧ (t.length ≤ 1048576)) (Unit) (fun _ : Unit => .bool (skp a (badI a) (t.drop k0) 1).1) (fun _ => .bk b [v, v', .int .i64 (k00 + (skp a (badI a) (t.drop k0) 1).2)] :: Δ) := ⟨fun s w0 => skip_spec s.1 s.2.1 s.2.2.1 s.2.2.2⟩

theorem endAt_spec {w0 : World} {Γ : List Atom} {v v' : Value} {a t : List Int} {at_ : Int} {k0 : Nat} [hm : ToN at_ k0] [h : HasRd (List Int) repList Γ [v] a] [h' : HasRd (List Int) repList Γ [v'] t] (hs : sigOk a = true) (hat : 0 ≤ at_) (hat' : at_ ≤ t.length) (hl : t.length ≤ 1048576) :
    CJ Tryz.prog 146 [.agg #[v], v', .int .i64 at_] w0 Γ (fun _ : Unit => .int .i64 (endOf a (badI a) t k0)) (fun _ => Γ) := by
  obtain rfl : at_ = (k0 : Int) := by have := hm.eq; omega
  refine cj_enter Tryz.func146 Tryz.ntmps146 ?_
  repeat' (first | refine red ?_ | refine redc fun r => ?_ | refine redn fun b => ?_ | (refine redi (fun hc => ?_) (fun hc => ?_) <;> try first | (exfalso; omega) | exact absurd rfl hc) | fail)
  · exact ⟨(), ret_int (by unfold endOf; rw [if_neg (by rw [hc]; simp)]), ent_e⟩
  · exact ⟨(), ret_int (by unfold endOf; rw [if_pos hc]; omega), ent_e⟩

instance endAt_ctr {Γ : List Atom} {v v' : Value} {a t : List Int} {at_ : Int} {k0 : Nat} [hm : ToN at_ k0] [h : HasRd (List Int) repList Γ [v] a] [h' : HasRd (List Int) repList Γ [v'] t] :
    CtrC Tryz.prog 146 [.agg #[v], v', .int .i64 at_] Γ ((sigOk a = true) ∧ (0 ≤ at_) ∧ (at_ ≤ t.length) ∧ (t.length ≤ 1048576)) (Unit) (fun _ : Unit => .int .i64 (endOf a (badI a) t k0)) (fun _ => Γ) := ⟨fun s w0 => endAt_spec s.1 s.2.1 s.2.2.1 s.2.2.2⟩

theorem impl_TermOk_spec {w0 : World} {Γ : List Atom} {v v' : Value} {a t : List Int} [h : HasRd (List Int) repList Γ [v] a] [h' : HasRd (List Int) repList Γ [v'] t] :
    CJ Tryz.prog 96 [.agg #[v], v'] w0 Γ (fun _ : Unit => .bool (termOk a t)) (fun _ => Γ) := by
  refine cj_len v' fun hlx => ?_
  rw [termOk_min]
  have hm : 0 < t.length → (-24 ≤ minL t ↔ ∀ x ∈ t, -24 ≤ x) := fun h => minL_le h _
  refine cj_enter Tryz.func96 Tryz.ntmps96 ?_
  repeat' (first | refine red ?_ | refine redc fun r => ?_ | refine redn fun b => ?_ | (refine redi (fun hc => ?_) (fun hc => ?_) <;> try first | (exfalso; omega) | exact absurd rfl hc) | fail)
  · have h1 := (hm (by omega)).1 ‹_›
    exact ⟨(), ret_bool (by rw [‹sigOk a = true›, decide_eq_true h1, decide_eq_true (by omega : 0 < t.length), decide_eq_true (by omega : t.length ≤ 60)]; rfl), ent_e⟩
  · have h1 : ¬ ∀ x ∈ t, -24 ≤ x := fun h => by have := (hm (by omega)).2 h; omega
    exact ⟨(), ret_bool (by rw [decide_eq_false h1]; simp), ent_e⟩
  · exact ⟨(), ret_bool (by rw [decide_eq_false (by omega : ¬ t.length ≤ 60)]; simp), ent_e⟩
  · exact ⟨(), ret_bool (by rw [decide_eq_false (by omega : ¬ 0 < t.length)]; simp), ent_e⟩
  · exact ⟨(), ret_bool (by rw [‹sigOk a = false›]; rfl), ent_e⟩

instance impl_TermOk_ctr {Γ : List Atom} {v v' : Value} {a t : List Int} [h : HasRd (List Int) repList Γ [v] a] [h' : HasRd (List Int) repList Γ [v'] t] :
    CtrC Tryz.prog 96 [.agg #[v], v'] Γ (True) (Unit) (fun _ : Unit => .bool (termOk a t)) (fun _ => Γ) := ⟨fun s w0 => impl_TermOk_spec⟩

/-! subterms -/
theorem subAt_spec {w0 : World} {Γ : List Atom} {v v' : Value} {a t : List Int} {at_ : Int} {k0 : Nat} [hm : ToN at_ k0] [h : HasRd (List Int) repList Γ [v] a] [h' : HasIm (List Int) repList Γ [v'] t] (hs : termOk a t = true) (hat : 0 ≤ at_) (hat' : at_ < t.length) :
    CJ Tryz.prog 132 [.agg #[v], v', .int .i64 at_] w0 Γ (fun p : Value => p) (fun p => .rd [p] (subt a t k0) :: Γ) := by
  obtain rfl : at_ = (k0 : Int) := by have := hm.eq; omega
  have h1 := termOk_sig hs
  have h2 := termOk_len hs
  have h3 := end_I hs (k := k0) (by omega)
  have h4 := term_at hs (k := k0) (by omega)
  have e : (t.take (k0 + sz a t k0)).drop k0 = subt a t k0 := by
    unfold subt; rw [List.drop_take]; congr 1; omega
  refine cj_enter Tryz.func132 Tryz.ntmps132 ?_
  repeat' (first | refine red ?_ | refine redc fun r => ?_ | refine redv fun sv => ?_ | refine redn fun b => ?_ | fail)
  rw [h3, Int.toNat_natCast, e]
  exact ⟨_, rfl, ent_e⟩
instance subAt_ctr {Γ : List Atom} {v v' : Value} {a t : List Int} {at_ : Int} {k0 : Nat} [hm : ToN at_ k0] [h : HasRd (List Int) repList Γ [v] a] [h' : HasIm (List Int) repList Γ [v'] t] :
    CtrC Tryz.prog 132 [.agg #[v], v', .int .i64 at_] Γ ((termOk a t = true) ∧ (0 ≤ at_) ∧ (at_ < t.length)) (Value) (fun p : Value => p) (fun p => .rd [p] (subt a t k0) :: Γ) := ⟨fun s w0 => subAt_spec s.1 s.2.1 s.2.2⟩

theorem l1Sub_spec {w0 : World} {Γ : List Atom} {v v' : Value} {a t : List Int} {at_ : Int} {k0 : Nat} [hm : ToN at_ k0] [h : HasRd (List Int) repList Γ [v] a] [h' : HasIm (List Int) repList Γ [v'] t] (hs : termOk a t = true) (hat : 0 ≤ at_) (hat' : at_ < t.length) :
    CJ Tryz.prog 92 [.agg #[v], v', .int .i64 at_] w0 Γ (fun p : Value => p) (fun p => .ow [p] (subt a t k0) :: Γ) := by
  obtain rfl : at_ = (k0 : Int) := by have := hm.eq; omega
  have h1 := termOk_sig hs
  have h2 := termOk_len hs
  have h3 := end_S hs (k := k0) (by omega)
  have h4 := term_at hs (k := k0) (by omega)
  have e : (t.take (k0 + sz a t k0)).drop k0 = subt a t k0 := by
    unfold subt; rw [List.drop_take]; congr 1; omega
  refine cj_enter Tryz.func92 Tryz.ntmps92 ?_
  repeat' (first | refine red ?_ | refine redc fun r => ?_ | refine redv fun sv => ?_ | refine redn fun b => ?_ | fail)
  rw [h3, Int.toNat_natCast, e]
  exact ⟨_, rfl, ent_e⟩
instance l1Sub_ctr {Γ : List Atom} {v v' : Value} {a t : List Int} {at_ : Int} {k0 : Nat} [hm : ToN at_ k0] [h : HasRd (List Int) repList Γ [v] a] [h' : HasIm (List Int) repList Γ [v'] t] :
    CtrC Tryz.prog 92 [.agg #[v], v', .int .i64 at_] Γ ((termOk a t = true) ∧ (0 ≤ at_) ∧ (at_ < t.length)) (Value) (fun p : Value => p) (fun p => .ow [p] (subt a t k0) :: Γ) := ⟨fun s w0 => l1Sub_spec s.1 s.2.1 s.2.2⟩

end Go.Proofs.YtbbdjjlnachnlaaGreatDoor
