/- The laws' own helpers for []int64. -/
import Derived.Test.YtjblieilblcdnaaInst
import Derived.Test.YtjblieilblcdnaaMee1
namespace Go.Proofs.Ytjblieilblcdnaa
open Go Go.Eng
set_option linter.unusedVariables false
set_option linter.unusedSimpArgs false

end Go.Proofs.Ytjblieilblcdnaa
namespace Go.Proofs.Ytjblieilblcdnaa
open Go Go.Eng
set_option linter.unusedVariables false
set_option linter.unusedSimpArgs false

abbrev SSig := List Int
abbrev SRule := List Int × List Int
abbrev SSystem := SSig × List SRule
abbrev SPoly := Int × List Int
abbrev SPairStep := List Int × List Int × List SPoly × List Int
abbrev SNode := Int × List Int × List (List Int) × List Int
end Go.Proofs.Ytjblieilblcdnaa
namespace Go.Proofs.Ytjblieilblcdnaa
open Go Go.Eng
set_option linter.unusedVariables false
set_option linter.unusedSimpArgs false

theorem l1In_spec {w0 : World} {Γ : List Atom} {x lo hi : Int} : CJ Try.prog 75 [.int .i64 x, .int .i64 lo, .int .i64 hi] w0 Γ (fun _ : Unit => .bool (decide (lo ≤ x ∧ x ≤ hi))) (fun _ => Γ) := by
  refine cj_enter Try.func75 Try.ntmps75 ?_
  repeat' (first | refine red ?_ | (refine redi (fun hc => ?_) (fun hc => ?_) <;> try first | (exfalso; omega) | exact absurd rfl hc) | fail)
  all_goals exact ⟨(), ret_bool (by first | (refine decide_eq_decide.2 ?_; omega) | (refine (decide_eq_false ?_).symm; omega) | (simp; omega)), ent_e⟩

instance l1In_ctr {Γ : List Atom} {x lo hi : Int} :
    CtrC Try.prog 75 [.int .i64 x, .int .i64 lo, .int .i64 hi] Γ (True) (Unit) (fun _ : Unit => .bool (decide (lo ≤ x ∧ x ≤ hi))) (fun _ => Γ) := ⟨fun s w0 => l1In_spec⟩

theorem l1Copy_spec {w0 : World} {Γ : List Atom} {av : Value} {xs : List Int} [h : HasRd (List Int) repList Γ [av] xs] (hl : xs.length ≤ 1048576) :
    CJ Try.prog 53 [av] w0 Γ (fun p : Value => p) (fun p => .ow [p] xs :: Γ) := by
  refine cj_enter Try.func53 Try.ntmps53 ?_
  repeat' (first | refine red ?_ | refine redv fun sv => ?_ | fail)
  exact ⟨_, rfl, ent_e⟩

instance l1Copy_ctr {Γ : List Atom} {av : Value} {xs : List Int} [h : HasRd (List Int) repList Γ [av] xs] :
    CtrC Try.prog 53 [av] Γ (xs.length ≤ 1048576) (Value) (fun p : Value => p) (fun p => .ow [p] xs :: Γ) := ⟨fun s w0 => l1Copy_spec s⟩

theorem Clone_spec {w0 : World} {Γ : List Atom} {av : Value} {xs : List Int} [h : HasRd (List Int) repList Γ [av] xs] (hl : xs.length ≤ 1048576) :
    CJ Try.prog 24 [av] w0 Γ (fun p : Value => p) (fun p => .ow [p] xs :: Γ) := by
  refine cj_enter Try.func24 Try.ntmps24 ?_
  repeat' (first | refine red ?_ | refine redv fun sv => ?_ | refine redq (fun hc => ?_) (fun hc => ?_) | fail)
  · subst hc
    exact ⟨_, rfl, ent_e⟩
  · exact ⟨_, rfl, ent_e⟩

instance Clone_ctr {Γ : List Atom} {av : Value} {xs : List Int} [h : HasRd (List Int) repList Γ [av] xs] :
    CtrC Try.prog 24 [av] Γ (xs.length ≤ 1048576) (Value) (fun p : Value => p) (fun p => .ow [p] xs :: Γ) := ⟨fun s w0 => Clone_spec s⟩

end Go.Proofs.Ytjblieilblcdnaa
namespace Go.Proofs.Ytjblieilblcdnaa
open Go Go.Eng
set_option linter.unusedVariables false
set_option linter.unusedSimpArgs false

theorem sigOk_step {a : List Int} {k : Nat} (hk : k < a.length) (h : (a.take k).all (fun n => decide (0 ≤ n ∧ n ≤ 3)) = true) (hn : 0 ≤ a.getD k 0 ∧ a.getD k 0 ≤ 3) : (a.take (k + 1)).all (fun n => decide (0 ≤ n ∧ n ≤ 3)) = true := by
  rw [List.take_succ_eq_append_getElem hk, List.all_append, h]
  rw [List.getD_eq_getElem?_getD, List.getElem?_eq_getElem hk] at hn
  simpa using hn
theorem sigOk_no {a : List Int} {k : Nat} (hk : k < a.length) (hn : ¬ (0 ≤ a.getD k 0 ∧ a.getD k 0 ≤ 3)) : sigOk a = false := by
  cases h : sigOk a with
  | false => rfl
  | true => exact absurd (sigOk_get h hk) hn

theorem sigOk_len_no {a : List Int} (h : ¬ (1 ≤ a.length ∧ a.length ≤ 8)) : sigOk a = false := by simp only [sigOk, h, decide_false, Bool.false_and]
theorem spec_SigOk_spec {w0 : World} {Γ : List Atom} {v : Value} {a : List Int} [h : HasRd (List Int) repList Γ [v] a] : CJ Try.prog 48 [.agg #[v]] w0 Γ (fun _ : Unit => .bool (sigOk a)) (fun _ => Γ) := by
  refine cj_len v fun hlx => ?_
  refine cj_enter Try.func48 Try.ntmps48 ?_
  repeat' (first | refine red ?_ | refine redc fun r => ?_ | refine redn fun b => ?_ | (refine redi (fun hc => ?_) (fun hc => ?_) <;> try first | (exfalso; omega) | exact absurd rfl hc) | fail)
  · exact ⟨(), ret_bool (sigOk_len_no (by omega)), ent_e⟩
  refine wc_loop_c [3] [9, 10, 11, 12, 13, 16, 17, 18, 19, 20, 21, 22, 2, 14, 15] (ι := Nat) (fun k => [.int .i64 k]) (fun k => k ≤ a.length ∧ (a.take k).all (fun n => decide (0 ≤ n ∧ n ≤ 3)) = true) (fun k => a.length - k) 0 (by kernel_rfl) ⟨Nat.zero_le _, rfl⟩ ?_
  intro k u l' hl' ⟨hk, hkk⟩
  simp only [patch, List.map_cons, List.map_nil, List.set_cons_zero, List.set_cons_succ] at hl'
  subst hl'
  repeat' (first | refine red ?_ | refine redf fun hbi => ?_ | refine reds ?_ | refine redc fun r => ?_ | (refine redi (fun hc => ?_) (fun hc => ?_) <;> try first | (exfalso; omega) | exact absurd rfl hc) | fail)
  · exact ⟨(), ret_bool (sigOk_no (by omega) hc), ent_e⟩
  · exact wq_next (k + 1) ⟨by omega, sigOk_step (by omega) hkk hc⟩ (by omega) (by kernel_rfl) ent_e
  · exact ⟨(), ret_bool (by rw [List.take_of_length_le (by omega)] at hkk; simp only [sigOk, hkk, Bool.and_true, decide_eq_true_eq]; omega), ent_e⟩

instance spec_SigOk_ctr {Γ : List Atom} {v : Value} {a : List Int} [h : HasRd (List Int) repList Γ [v] a] :
    CtrC Try.prog 48 [.agg #[v]] Γ (True) (Unit) (fun _ : Unit => .bool (sigOk a)) (fun _ => Γ) := ⟨fun s w0 => spec_SigOk_spec⟩

def ar1 (a : List Int) (n : Int) : Int := if badS a n then -1 else ar a n
theorem ar1_neg {a : List Int} (h : sigOk a = true) {n : Int} : ar1 a n < 0 ↔ badS a n = true := by
  unfold ar1
  split
  · rename_i hb; simp [hb]
  · rename_i hb
    have : n < a.length := by simp only [badS, decide_eq_true_eq] at hb; omega
    have := ar_bounds h this
    simp [hb]; omega
theorem l1Arity_spec {w0 : World} {Γ : List Atom} {v : Value} {a : List Int} {n : Int} [h : HasRd (List Int) repList Γ [v] a] : CJ Try.prog 92 [.agg #[v], .int .i64 n] w0 Γ (fun _ : Unit => .int .i64 (ar1 a n)) (fun _ => Γ) := by
  refine cj_len v fun hlx => ?_
  refine cj_enter Try.func92 Try.ntmps92 ?_
  repeat' (first | refine red ?_ | refine redf fun hbi => ?_ | refine reds ?_ | refine redc fun r => ?_ | refine redn fun b => ?_ | (refine redi (fun hc => ?_) (fun hc => ?_) <;> try first | (exfalso; omega) | exact absurd rfl hc) | fail)
  · exact ⟨(), ret_int (by unfold ar1 badS ar; rw [if_neg (by simp; omega), if_pos (by omega)]), ent_e⟩
  · exact ⟨(), ret_int (by unfold ar1 badS ar; rw [if_neg (by simp; omega), if_neg (by omega)]), ent_e⟩
  · exact ⟨(), ret_int (by unfold ar1 badS; rw [if_pos (by simp; omega)]), ent_e⟩

instance l1Arity_ctr {Γ : List Atom} {v : Value} {a : List Int} {n : Int} [h : HasRd (List Int) repList Γ [v] a] :
    CtrC Try.prog 92 [.agg #[v], .int .i64 n] Γ (True) (Unit) (fun _ : Unit => .int .i64 (ar1 a n)) (fun _ => Γ) := ⟨fun s w0 => l1Arity_spec⟩

theorem l1End_spec {w0 : World} {Γ : List Atom} {v v' : Value} {a t : List Int} {at_ : Int} {k0 : Nat} [hm : ToN at_ k0] [h : HasRd (List Int) repList Γ [v] a] [h' : HasRd (List Int) repList Γ [v'] t] (hs : sigOk a = true) (hat : 0 ≤ at_) (hat' : at_ ≤ t.length) (hl : t.length ≤ 1048576) :
    CJ Try.prog 87 [.agg #[v], v', .int .i64 at_] w0 Γ (fun _ : Unit => .int .i64 (endOf a (badS a) t k0)) (fun _ => Γ) := by
  obtain rfl : at_ = (k0 : Int) := by have := hm.eq; omega
  refine cj_enter Try.func87 Try.ntmps87 ?_
  repeat' (first | refine red ?_ | refine redn fun b => ?_ | fail)
  refine wc_loop_c [7, 8] [11, 12, 13, 14, 17, 18, 19, 20, 21, 22, 9, 23, 24, 6, 25, 26, 27, 28, 29, 30, 31, 32, 15, 16] (ι := Nat × Nat) (fun k => [.int .i64 (k.2 + 1 : Nat), .int .i64 k.1]) (fun k => k0 ≤ k.1 ∧ k.1 ≤ t.length ∧ k.2 ≤ 3 * k.1 ∧ (skp a (badS a) (t.drop k0) 1).1 = (skp a (badS a) (t.drop k.1) (k.2 + 1)).1 ∧ k0 + (skp a (badS a) (t.drop k0) 1).2 = k.1 + (skp a (badS a) (t.drop k.1) (k.2 + 1)).2) (fun k => t.length - k.1) (k0, 0) (by kernel_rfl) ⟨Nat.le_refl _, by omega, by omega, rfl, rfl⟩ ?_
  intro ⟨k, m⟩ u l' hl' ⟨hk0, hk, hm, h1, h2⟩
  simp only [patch, List.map_cons, List.map_nil, List.set_cons_zero, List.set_cons_succ] at hl'
  subst hl'
  simp only at hk0 hk hm h1 h2
  by_cases hlt : k < t.length
  · have hb := ar1_neg hs (n := t.getD k 0)
    rw [drop_get hlt] at h1 h2
    simp only [skp] at h1 h2
    by_cases hbad : badS a (t.getD k 0) = true
    · have : ar1 a (t.getD k 0) < 0 := hb.2 hbad
      rw [if_pos hbad] at h1 h2
      repeat' (first | refine red ?_ | (refine redi (fun hc => ?_) (fun hc => ?_) <;> try first | (exfalso; omega) | exact absurd rfl hc) | ((refine wa_begin 5 [false, false, false, false, false, false, false] [] ?_ <;> refine wa_p 0 ?_ <;> refine wa_p 1 ?_ <;> refine wa_p 2 ?_ <;> refine wa_p 3 ?_ <;> (first | refine wa_f 4 fun hbi => ?_ | fail) <;> (refine wa_do 5 ?_ <;> (repeat' (first | refine red ?_ | refine redc fun r => ?_ | fail))) <;> refine wa_p 6 ?_) <;> (refine wa_end ?_)) | fail)
      exact ⟨(), ret_int (by unfold endOf; rw [if_neg (by rw [h1]; simp)]), ent_e⟩
    · have hn : ¬ ar1 a (t.getD k 0) < 0 := fun h => hbad (hb.1 h)
      have e : ar1 a (t.getD k 0) = ar a (t.getD k 0) := by unfold ar1; rw [if_neg hbad]
      have hxa : t.getD k 0 < a.length := by simp only [badS, decide_eq_true_eq] at hbad; omega
      have hab := ar_bounds hs hxa
      rw [if_neg hbad] at h1 h2
      repeat' (first | refine red ?_ | refine reds ?_ | (refine redi (fun hc => ?_) (fun hc => ?_) <;> try first | (exfalso; omega) | exact absurd rfl hc) | ((refine wa_begin 5 [false, false, false, false, false, false, false] [] ?_ <;> refine wa_p 0 ?_ <;> refine wa_p 1 ?_ <;> refine wa_p 2 ?_ <;> refine wa_p 3 ?_ <;> (first | refine wa_f 4 fun hbi => ?_ | fail) <;> (refine wa_do 5 ?_ <;> (repeat' (first | refine red ?_ | refine redc fun r => ?_ | fail))) <;> refine wa_p 6 ?_) <;> (refine wa_end ?_)) | fail)
      · have hz : m + (ar a (t.getD k 0)).toNat = 0 := by omega
        rw [hz] at h1 h2
        simp only [skp] at h1 h2
        exact ⟨(), ret_int (by unfold endOf; rw [if_pos h1]; omega), ent_e⟩
      · have hz : ∃ m', m + (ar a (t.getD k 0)).toNat = m' + 1 := ⟨m + (ar a (t.getD k 0)).toNat - 1, by omega⟩
        obtain ⟨m', hm'⟩ := hz
        rw [hm'] at h1 h2
        rw [show (((m + 1 : Nat) : Int) + ar1 a (t.getD k 0) - 1) = ((m' + 1 : Nat) : Int) by omega]
        exact wq_next (k + 1, m') ⟨by omega, by simp only; omega, by simp only; omega, h1, by simp only; omega⟩ (by simp only; omega) (by kernel_rfl) ent_e
  · have hk2 : t.drop k = [] := List.drop_of_length_le (by omega)
    rw [hk2] at h1 h2
    simp only [skp] at h1 h2
    repeat' (first | refine red ?_ | (refine redi (fun hc => ?_) (fun hc => ?_) <;> try first | (exfalso; omega) | exact absurd rfl hc) | fail)
    exact ⟨(), ret_int (by unfold endOf; rw [if_neg (by rw [h1]; simp)]), ent_e⟩

instance l1End_ctr {Γ : List Atom} {v v' : Value} {a t : List Int} {at_ : Int} {k0 : Nat} [hm : ToN at_ k0] [h : HasRd (List Int) repList Γ [v] a] [h' : HasRd (List Int) repList Γ [v'] t] :
    CtrC Try.prog 87 [.agg #[v], v', .int .i64 at_] Γ ((sigOk a = true) ∧ (0 ≤ at_) ∧ (at_ ≤ t.length) ∧ (t.length ≤ 1048576)) (Unit) (fun _ : Unit => .int .i64 (endOf a (badS a) t k0)) (fun _ => Γ) := ⟨fun s w0 => l1End_spec s.1 s.2.1 s.2.2.1 s.2.2.2⟩

theorem termOk_no_sig {a t : List Int} (h : sigOk a = false) : termOk a t = false := by simp [termOk, h]
theorem termOk_no_len {a t : List Int} (h : ¬ (1 ≤ t.length ∧ t.length ≤ 60)) : termOk a t = false := by simp only [termOk, h, decide_false, Bool.and_false, Bool.false_and]
theorem termOk_end {a t : List Int} (h : sigOk a = true) (h' : 1 ≤ t.length ∧ t.length ≤ 60) : termOk a t = decide (endOf a (badS a) t 0 = t.length) := by simp only [termOk, h, h', decide_true, Bool.true_and, and_self]

theorem spec_TermOk_spec {w0 : World} {Γ : List Atom} {v v' : Value} {a t : List Int} [h : HasRd (List Int) repList Γ [v] a] [h' : HasRd (List Int) repList Γ [v'] t] :
    CJ Try.prog 76 [.agg #[v], v'] w0 Γ (fun _ : Unit => .bool (termOk a t)) (fun _ => Γ) := by
  refine cj_len v' fun hlx => ?_
  refine cj_enter Try.func76 Try.ntmps76 ?_
  repeat' (first | refine red ?_ | refine redc fun r => ?_ | refine redn fun b => ?_ | (refine redi (fun hc => ?_) (fun hc => ?_) <;> try first | (exfalso; omega) | exact absurd rfl hc) | fail)
  · exact ⟨(), ret_bool (termOk_end ‹_› (by omega)), ent_e⟩
  · exact ⟨(), ret_bool (termOk_no_len (by omega)), ent_e⟩
  · exact ⟨(), ret_bool (termOk_no_sig ‹_›), ent_e⟩

instance spec_TermOk_ctr {Γ : List Atom} {v v' : Value} {a t : List Int} [h : HasRd (List Int) repList Γ [v] a] [h' : HasRd (List Int) repList Γ [v'] t] :
    CtrC Try.prog 76 [.agg #[v], v'] Γ (True) (Unit) (fun _ : Unit => .bool (termOk a t)) (fun _ => Γ) := ⟨fun s w0 => spec_TermOk_spec⟩

/-! the library -/
theorem SameTerm_spec {w0 : World} {Γ : List Atom} {av bv : Value} {xs ys : List Int} [h : HasRd (List Int) repList Γ [av] xs] [h' : HasRd (List Int) repList Γ [bv] ys] :
    CJ Try.prog 64 [av, bv] w0 Γ (fun _ : Unit => .bool (decide (xs = ys))) (fun _ => Γ) := by
  refine cj_len av fun hlx => ?_
  refine cj_enter Try.func64 Try.ntmps64 ?_
  repeat' (first | refine red ?_ | (refine redi (fun hc => ?_) (fun hc => ?_) <;> try first | (exfalso; omega) | exact absurd rfl hc) | fail)
  · exact ⟨(), ret_bool (by exact decide_eq_false (fun h : xs = ys => hc (by rw [h]))), ent_e⟩
  refine wc_loop_c [5] [11, 12, 13, 14, 17, 18, 19, 20, 21, 22, 23, 24, 25, 4, 15, 16] (ι := Nat) (fun k => [.int .i64 k]) (fun k => k ≤ xs.length ∧ xs.take k = ys.take k) (fun k => xs.length - k) 0 (by kernel_rfl) ⟨Nat.zero_le _, rfl⟩ ?_
  intro k u l' hl' ⟨hk, hkk⟩
  simp only [patch, List.map_cons, List.map_nil, List.set_cons_zero, List.set_cons_succ] at hl'
  subst hl'
  repeat' (first | refine red ?_ | refine reds ?_ | (refine redi (fun hc => ?_) (fun hc => ?_) <;> try first | (exfalso; omega) | exact absurd rfl hc) | ((refine wa_begin 6 [false, false, false, false, false, false, false, false, false] [] ?_ <;> refine wa_p 0 ?_ <;> refine wa_p 1 ?_ <;> refine wa_p 2 ?_ <;> (first | refine wa_f 3 fun hbi => ?_ | fail) <;> refine wa_p 4 ?_ <;> refine wa_p 5 ?_ <;> refine wa_p 6 ?_ <;> (first | refine wa_f 7 fun hbi => ?_ | fail) <;> (first | refine wa_p 8 ?_ | fail)) <;> (refine wa_end ?_)) | fail)
  · exact ⟨(), ret_bool (by exact decide_eq_false (ne_getD hc)), ent_e⟩
  · exact wq_next (k + 1) ⟨by omega, take_next hkk (by omega) (by omega) hc⟩ (by omega) (by kernel_rfl) ent_e
  · exact ⟨(), ret_bool (by exact decide_eq_true (take_end hkk (by omega) (by omega))), ent_e⟩

instance SameTerm_ctr {Γ : List Atom} {av bv : Value} {xs ys : List Int} [h : HasRd (List Int) repList Γ [av] xs] [h' : HasRd (List Int) repList Γ [bv] ys] :
    CtrC Try.prog 64 [av, bv] Γ (True) (Unit) (fun _ : Unit => .bool (decide (xs = ys))) (fun _ => Γ) := ⟨fun s w0 => SameTerm_spec⟩

/-! the program's cursor -/
/-! subterms -/
end Go.Proofs.Ytjblieilblcdnaa
namespace Go.Proofs.Ytjblieilblcdnaa
open Go Go.Eng
set_option linter.unusedVariables false
set_option linter.unusedSimpArgs false

def gives (ts : List (List Int)) (i : Nat) : List Int := if i < ts.length ∧ 0 < (ts.getD i default).length then ts.getD i default else [-1 - (i : Int)]
end Go.Proofs.Ytjblieilblcdnaa
namespace Go.Proofs.Ytjblieilblcdnaa
open Go Go.Eng
set_option linter.unusedVariables false
set_option linter.unusedSimpArgs false

/-! lists of terms -/
end Go.Proofs.Ytjblieilblcdnaa
namespace Go.Proofs.Ytjblieilblcdnaa
open Go Go.Eng
set_option linter.unusedVariables false
set_option linter.unusedSimpArgs false

theorem mem_take_succ {xs : List Int} {k : Nat} {v : Int} (h : k < xs.length) : v ∈ xs.take (k + 1) ↔ v ∈ xs.take k ∨ v = xs.getD k 0 := by
  rw [List.take_succ_eq_append_getElem h, List.mem_append, List.getD_eq_getElem?_getD, List.getElem?_eq_getElem h]
  simp
theorem l1Has_spec {w0 : World} {Γ : List Atom} {sv : Value} {xs : List Int} {n : Int} [h : HasRd (List Int) repList Γ [sv] xs] : CJ Try.prog 39 [sv, .int .i64 n] w0 Γ (fun _ : Unit => .bool (decide (n ∈ xs))) (fun _ => Γ) := by
  refine cj_len sv fun hlx => ?_
  refine cj_enter Try.func39 Try.ntmps39 ?_
  repeat' (first | refine red ?_ | fail)
  refine wc_loop_c [5] [6, 7, 8, 9, 12, 13, 14, 15, 16, 17, 4, 10, 11] (ι := Nat) (fun k => [.int .i64 k]) (fun k => k ≤ xs.length ∧ n ∉ xs.take k) (fun k => xs.length - k) 0 (by kernel_rfl) ⟨Nat.zero_le _, by simp⟩ ?_
  intro k u l' hl' ⟨hk, hkk⟩
  simp only [patch, List.map_cons, List.map_nil, List.set_cons_zero, List.set_cons_succ] at hl'
  subst hl'
  repeat' (first | refine red ?_ | refine redf fun hbi => ?_ | refine reds ?_ | (refine redi (fun hc => ?_) (fun hc => ?_) <;> try first | (exfalso; omega) | exact absurd rfl hc) | fail)
  · exact ⟨(), ret_bool (decide_eq_true (by have := (mem_take_succ (xs := xs) (k := k) (v := n) (by omega)).2 (.inr hc.symm); exact List.mem_of_mem_take this)), ent_e⟩
  · exact wq_next (k + 1) ⟨by omega, fun hm => by rcases (mem_take_succ (by omega)).1 hm with h | h; exact hkk h; exact hc h.symm⟩ (by omega) (by kernel_rfl) ent_e
  · exact ⟨(), ret_bool (decide_eq_false (by rw [List.take_of_length_le (by omega)] at hkk; exact hkk)), ent_e⟩
instance l1Has_ctr {Γ : List Atom} {sv : Value} {xs : List Int} {n : Int} [h : HasRd (List Int) repList Γ [sv] xs] :
    CtrC Try.prog 39 [sv, .int .i64 n] Γ (True) (Unit) (fun _ : Unit => .bool (decide (n ∈ xs))) (fun _ => Γ) := ⟨fun s w0 => l1Has_spec⟩

def RuleP (a : List Int) (r : SRule) : Prop := (termOk a r.1 = true ∧ termOk a r.2 = true ∧ 0 ≤ r.1.getD 0 0) ∧ ∀ n ∈ r.2, 0 ≤ n ∨ n ∈ r.1
instance {a : List Int} {r : SRule} : Decidable (RuleP a r) := by unfold RuleP; infer_instance
def ruleOk (a : List Int) (r : SRule) : Bool := decide (RuleP a r)
theorem rule_step {r : SRule} {k : Nat} (hk : k < r.2.length) (h : ∀ n ∈ r.2.take k, 0 ≤ n ∨ n ∈ r.1) (hn : 0 ≤ r.2.getD k 0 ∨ r.2.getD k 0 ∈ r.1) : ∀ n ∈ r.2.take (k + 1), 0 ≤ n ∨ n ∈ r.1 := by
  intro n hm
  rcases (mem_take_succ hk).1 hm with h1 | h1
  · exact h n h1
  · subst h1; exact hn
theorem rule_no {a : List Int} {r : SRule} {k : Nat} (hk : k < r.2.length) (h1 : r.2.getD k 0 < 0) (h2 : ¬ r.2.getD k 0 ∈ r.1) : ruleOk a r = false := decide_eq_false fun ⟨_, h⟩ => by
  rcases h _ (getD_mem hk) with h | h
  · omega
  · exact h2 h
theorem spec_RuleOk_spec {w0 : World} {Γ : List Atom} {v v0 v1 : Value} {a : List Int} {x : SRule} [h : HasRd (List Int) repList Γ [v] a] [h0 : HasRd (List Int) repList Γ [v0] x.1] [h1 : HasRd (List Int) repList Γ [v1] x.2] : CJ Try.prog 51 [.agg #[v], .agg #[v0, v1]] w0 Γ (fun _ : Unit => .bool (ruleOk a x)) (fun _ => Γ) := by
  refine cj_lift (R := [.rd [v] a, .rd [v0] x.1, .rd [v1] x.2]) (A := fun _ => []) (fun w1 => ?_) (reads_cons h (reads_cons h0 (reads_cons h1 (inferInstance)))) (fun _ => inferInstance)
  simp only [List.cons_append, List.nil_append]
  refine cj_len v1 fun hlx => ?_
  have hpos : termOk a x.1 = true → 1 ≤ x.1.length := fun h => (termOk_len h).1
  refine cj_enter Try.func51 Try.ntmps51 ?_
  repeat' (first | refine red ?_ | refine redc fun r => ?_ | refine redn fun b => ?_ | (refine redi (fun hc => ?_) (fun hc => ?_) <;> try first | (exfalso; omega) | exact absurd rfl hc) | fail)
  · exact ⟨(), ret_bool (decide_eq_false fun h => by rw [h.1.1] at hc; cases hc), ent_e⟩
  · exact ⟨(), ret_bool (decide_eq_false fun h => by rw [h.1.2.1] at hc; cases hc), ent_e⟩
  rename_i hL _
  have hp1 := hpos ‹termOk a x.1 = true›
  repeat' (first | refine red ?_ | refine redf fun hbi => ?_ | refine reds ?_ | (refine redi (fun hc => ?_) (fun hc => ?_) <;> try first | (exfalso; omega) | exact absurd rfl hc) | fail)
  · exact ⟨(), ret_bool (decide_eq_false fun h => by have := h.1.2.2; omega), ent_e⟩
  refine wc_loop_c [5] [25, 26, 27, 28, 29, 32, 33, 34, 35, 36, 37, 38, 39, 40, 41, 42, 43, 44, 45, 46, 47, 48, 4, 30, 31] (ι := Nat) (fun k => [.int .i64 k]) (fun k => k ≤ x.2.length ∧ ∀ n ∈ x.2.take k, 0 ≤ n ∨ n ∈ x.1) (fun k => x.2.length - k) 0 (by kernel_rfl) ⟨Nat.zero_le _, by simp⟩ ?_
  intro k u l' hl' ⟨hk, hkk⟩
  simp only [patch, List.map_cons, List.map_nil, List.set_cons_zero, List.set_cons_succ] at hl'
  subst hl'
  repeat' (first | refine red ?_ | refine reds ?_ | (refine redi (fun hc => ?_) (fun hc => ?_) <;> try first | (exfalso; omega) | exact absurd rfl hc) | ((refine wa_begin 6 [false, false, false, false, false, false, false, false, false, false, false, false, false, false, false, false, false] [] ?_ <;> (first | refine wa_p 0 ?_ | fail) <;> (first | refine wa_p 1 ?_ | fail) <;> refine wa_p 2 ?_ <;> refine wa_p 3 ?_ <;> (first | refine wa_f 4 fun hbi => ?_ | fail) <;> refine wa_p 5 ?_ <;> refine wa_p 6 ?_ <;> (first | (refine wa_if 38 (fun hc => ?_) (fun hc => ?_) <;> (try first | (exfalso; omega) | exact absurd rfl hc) <;> first | refine wa_pg 7 ?_ | refine wa_no 7 ?_) | fail) <;> (first | refine wa_pg 8 ?_ | refine wa_no 8 ?_ | fail) <;> (first | refine wa_pg 9 ?_ | refine wa_no 9 ?_ | fail) <;> (first | refine wa_pg 10 ?_ | refine wa_no 10 ?_ | fail) <;> (first | refine wa_pg 11 ?_ | refine wa_no 11 ?_ | fail) <;> (first | refine wa_pg 12 ?_ | refine wa_no 12 ?_ | fail) <;> (first | refine wa_pg 13 ?_ | refine wa_no 13 ?_ | fail) <;> (refine wa_do 14 ?_ <;> (repeat' (first | refine red ?_ | refine redc fun r => ?_ | fail))) <;> (first | refine wa_pg 15 ?_ | refine wa_no 15 ?_ | fail) <;> (first | refine wa_p 16 ?_ | fail)) <;> (refine wa_end ?_)) | fail)
  · exact ⟨(), ret_bool (rule_no (k := k) (by omega) (by omega) (by assumption)), ent_e⟩
  · exact wq_next (k + 1) ⟨by omega, rule_step (by omega) hkk (.inr hc)⟩ (by omega) (by kernel_rfl) ent_e
  · exact wq_next (k + 1) ⟨by omega, rule_step (by omega) hkk (.inl hc)⟩ (by omega) (by kernel_rfl) ent_e
  · exact ⟨(), ret_bool (decide_eq_true ⟨⟨by assumption, by assumption, by omega⟩, by rw [List.take_of_length_le (by omega)] at hkk; exact hkk⟩), ent_e⟩
instance spec_RuleOk_ctr {Γ : List Atom} {v v0 v1 : Value} {a : List Int} {x : SRule} [h : HasRd (List Int) repList Γ [v] a] [h0 : HasRd (List Int) repList Γ [v0] x.1] [h1 : HasRd (List Int) repList Γ [v1] x.2] :
    CtrC Try.prog 51 [.agg #[v], .agg #[v0, v1]] Γ (True) (Unit) (fun _ : Unit => .bool (ruleOk a x)) (fun _ => Γ) := ⟨fun s w0 => spec_RuleOk_spec⟩

theorem all_take_step {α : Type} [Inhabited α] {xs : List α} {k : Nat} {p : α → Prop} (hk : k < xs.length) (h : ∀ r ∈ xs.take k, p r) (hn : p (xs.getD k default)) : ∀ r ∈ xs.take (k + 1), p r := by
  intro r hr
  rw [List.take_succ_eq_append_getElem hk, List.mem_append] at hr
  rw [List.getD_eq_getElem?_getD, List.getElem?_eq_getElem hk] at hn
  rcases hr with hr | hr
  · exact h r hr
  · simp only [List.mem_singleton] at hr
    subst hr; exact hn
theorem getD_memD {α : Type} [Inhabited α] {xs : List α} {k : Nat} (hk : k < xs.length) : xs.getD k default ∈ xs := by
  rw [List.getD_eq_getElem?_getD, List.getElem?_eq_getElem hk]; exact List.getElem_mem hk
def SysP (x : SSystem) : Prop := (sigOk x.1 = true ∧ x.2.length ≤ 12) ∧ ∀ r ∈ x.2, ruleOk x.1 r = true
instance {x : SSystem} : Decidable (SysP x) := by unfold SysP; infer_instance
def sysOk (x : SSystem) : Bool := decide (SysP x)
theorem sysOk_iff {x : SSystem} : sysOk x = true ↔ SysP x := decide_eq_true_iff
theorem sys_no {x : SSystem} {k : Nat} (hk : k < x.2.length) (h : ruleOk x.1 (x.2.getD k default) = false) : sysOk x = false := decide_eq_false fun ⟨_, h'⟩ => by
  rw [h' _ (getD_memD hk)] at h; cases h
theorem spec_SystemOk_spec {w0 : World} {Γ : List Atom} {v0 v1 : Value} {x : SSystem} [h0 : HasRd (List Int) repList Γ [v0] x.1] [h1 : HasRd (List SRule) repList Γ [v1] x.2] : CJ Try.prog 35 [.agg #[v0, v1]] w0 Γ (fun _ : Unit => .bool (sysOk x)) (fun _ => Γ) := by
  refine cj_lift (R := [.rd [v0] x.1, .rd [v1] x.2]) (A := fun _ => []) (fun w1 => ?_) (reads_cons h0 (reads_cons h1 (inferInstance))) (fun _ => inferInstance)
  simp only [List.cons_append, List.nil_append]
  refine cj_len v1 fun hlx => ?_
  refine cj_enter Try.func35 Try.ntmps35 ?_
  repeat' (first | refine red ?_ | refine redc fun r => ?_ | refine redn fun b => ?_ | (refine redi (fun hc => ?_) (fun hc => ?_) <;> try first | (exfalso; omega) | exact absurd rfl hc) | fail)
  · exact ⟨(), ret_bool (decide_eq_false fun h => by rw [h.1.1] at hc; cases hc), ent_e⟩
  · exact ⟨(), ret_bool (decide_eq_false fun h => by have := h.1.2; omega), ent_e⟩
  refine wc_loop_c [3] [14, 15, 16, 17, 18, 21, 22, 23, 24, 25, 26, 27, 28, 29, 2, 19, 20] (ι := Nat) (fun k => [.int .i64 k]) (fun k => k ≤ x.2.length ∧ ∀ r ∈ x.2.take k, ruleOk x.1 r = true) (fun k => x.2.length - k) 0 (by kernel_rfl) ⟨Nat.zero_le _, by simp⟩ ?_
  intro k u l' hl' ⟨hk, hkk⟩
  simp only [patch, List.map_cons, List.map_nil, List.set_cons_zero, List.set_cons_succ] at hl'
  subst hl'
  repeat' (first | refine red ?_ | refine reds ?_ | (refine redi (fun hc => ?_) (fun hc => ?_) <;> try first | (exfalso; omega) | exact absurd rfl hc) | ((refine wa_begin 6 [false, false, false, false, false, false, false, false, false] [] ?_ <;> (first | refine wa_p 0 ?_ | fail) <;> refine wa_p 1 ?_ <;> (first | refine wa_p 2 ?_ | fail) <;> (first | refine wa_p 3 ?_ | fail) <;> refine wa_p 4 ?_ <;> (first | (refine wa_deep 5 fun p cs as_ asb_ hcs has hasb hf => ?_; simp only [Un.cells, Un.atoms, Un.fact, List.cons_append, List.nil_append] at hcs has hasb hf; subst hcs has hasb) | fail) <;> (first | refine wa_p 6 ?_ | fail) <;> (refine wa_do 7 ?_ <;> (repeat' (first | refine red ?_ | refine redc fun r => ?_ | fail))) <;> (first | refine wa_p 8 ?_ | fail)) <;> (refine wa_end ?_)) | fail)
  · exact ⟨(), ret_bool (sys_no (k := k) (by omega) hc), ent_e⟩
  · exact wq_next (k + 1) ⟨by omega, all_take_step (by omega) hkk hc⟩ (by omega) (by kernel_rfl) ent_e
  · exact ⟨(), ret_bool (decide_eq_true ⟨⟨by assumption, by omega⟩, by rw [List.take_of_length_le (by omega)] at hkk; exact hkk⟩), ent_e⟩
instance spec_SystemOk_ctr {Γ : List Atom} {v0 v1 : Value} {x : SSystem} [h0 : HasRd (List Int) repList Γ [v0] x.1] [h1 : HasRd (List SRule) repList Γ [v1] x.2] :
    CtrC Try.prog 35 [.agg #[v0, v1]] Γ (True) (Unit) (fun _ : Unit => .bool (sysOk x)) (fun _ => Γ) := ⟨fun s w0 => spec_SystemOk_spec⟩

end Go.Proofs.Ytjblieilblcdnaa
