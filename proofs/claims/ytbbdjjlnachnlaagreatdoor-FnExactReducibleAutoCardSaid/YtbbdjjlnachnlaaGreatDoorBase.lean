/- The laws' own helpers for []int64. -/
import Derived.Test.YtbbdjjlnachnlaaGreatDoorInst
namespace Go.Proofs.YtbbdjjlnachnlaaGreatDoor
open Go Go.Eng
set_option linter.unusedVariables false
set_option linter.unusedSimpArgs false

theorem toInt64S_spec {w0 : World} {Γ : List Atom} {av : Value} {xs : List Int} [h : HasRd (List Int) repList Γ [av] xs] (hl0 : Siz.size xs ≤ 1048576) :
    CJ Tryz.prog 19 [av] w0 Γ (fun p : Value => p) (fun p => .ow [p] xs :: Γ) := by
  have hl : xs.length ≤ 1048576 := by rw [siz_ints] at hl0; exact hl0
  refine cj_enter Tryz.func19 Tryz.ntmps19 ?_
  repeat' (first | refine red ?_ | refine redv fun sv => ?_ | fail)
  refine wc_loop [4] [8, 9, 10, 11, 14, 15, 16, 17, 18, 19, 20, 12, 13] (ι := Nat) (fun k => [.int .i64 k]) (fun k => .ow [sv] (xs.take k ++ List.replicate (xs.length - k) 0) :: Γ) (fun k => k ≤ xs.length) (fun k => xs.length - k) 0 (by kernel_rfl) (Nat.zero_le _) ?_ ?_
  · simp only [List.take_zero, List.nil_append, Nat.sub_zero]
    exact ent_e
  intro k u l' hl' hk
  simp only [patch, List.map_cons, List.map_nil, List.set_cons_zero, List.set_cons_succ] at hl'
  subst hl'
  repeat' (first | refine red ?_ | refine redf fun hbi => ?_ | refine reds ?_ | (refine redi (fun hc => ?_) (fun hc => ?_) <;> try first | (exfalso; omega) | exact absurd rfl hc) | fail)
  · rw [rep_set_int (by omega)]
    exact wq_next (k + 1) (by omega) (by omega) (by kernel_rfl) ent_e
  · rw [rep_end (by omega)]
    exact ⟨_, rfl, ent_e⟩

instance toInt64S_ctr {Γ : List Atom} {av : Value} {xs : List Int} [h : HasRd (List Int) repList Γ [av] xs] :
    CtrC Tryz.prog 19 [av] Γ (Siz.size xs ≤ 1048576) (Value) (fun p : Value => p) (fun p => .ow [p] xs :: Γ) := ⟨fun s w0 => toInt64S_spec s⟩

theorem eqInt64S_spec {w0 : World} {Γ : List Atom} {av bv : Value} {xs ys : List Int} [h : HasRd (List Int) repList Γ [av] xs] [h' : HasRd (List Int) repList Γ [bv] ys] :
    CJ Tryz.prog 21 [av, bv] w0 Γ (fun _ : Unit => .bool (decide (xs = ys))) (fun _ => Γ) := by
  refine cj_len av fun hlx => ?_
  refine cj_enter Tryz.func21 Tryz.ntmps21 ?_
  repeat' (first | refine red ?_ | (refine redi (fun hc => ?_) (fun hc => ?_) <;> try first | (exfalso; omega) | exact absurd rfl hc) | fail)
  · exact ⟨(), ret_bool (by exact decide_eq_false (fun h : xs = ys => hc (by rw [h]))), ent_e⟩
  refine wc_loop [5] [11, 12, 13, 14, 17, 18, 19, 20, 21, 22, 23, 24, 25, 4, 15, 16] (ι := Nat) (fun k => [.int .i64 k]) (fun _ => Γ) (fun k => k ≤ xs.length ∧ xs.take k = ys.take k) (fun k => xs.length - k) 0 (by kernel_rfl) ⟨Nat.zero_le _, rfl⟩ ent_e ?_
  intro k u l' hl' ⟨hk, hkk⟩
  simp only [patch, List.map_cons, List.map_nil, List.set_cons_zero, List.set_cons_succ] at hl'
  subst hl'
  repeat' (first | refine red ?_ | refine reds ?_ | (refine redi (fun hc => ?_) (fun hc => ?_) <;> try first | (exfalso; omega) | exact absurd rfl hc) | ((refine wa_begin 6 [false, false, false, false, false, false, false, false, false] [] ?_ <;> refine wa_p 0 ?_ <;> refine wa_p 1 ?_ <;> refine wa_p 2 ?_ <;> (first | refine wa_f 3 fun hbi => ?_ | fail) <;> refine wa_p 4 ?_ <;> refine wa_p 5 ?_ <;> refine wa_p 6 ?_ <;> (first | refine wa_f 7 fun hbi => ?_ | fail) <;> (first | refine wa_p 8 ?_ | fail)) <;> (refine wa_end ?_)) | fail)
  · exact ⟨(), ret_bool (by exact decide_eq_false (ne_getD hc)), ent_e⟩
  · exact wq_next (k + 1) ⟨by omega, take_next hkk (by omega) (by omega) hc⟩ (by omega) (by kernel_rfl) ent_e
  · exact ⟨(), ret_bool (by exact decide_eq_true (take_end hkk (by omega) (by omega))), ent_e⟩

instance eqInt64S_ctr {Γ : List Atom} {av bv : Value} {xs ys : List Int} [h : HasRd (List Int) repList Γ [av] xs] [h' : HasRd (List Int) repList Γ [bv] ys] :
    CtrC Tryz.prog 21 [av, bv] Γ (True) (Unit) (fun _ : Unit => .bool (decide (xs = ys))) (fun _ => Γ) := ⟨fun s w0 => eqInt64S_spec⟩

theorem szInt64S_spec {w0 : World} {Γ : List Atom} {av : Value} {xs : List Int} {left : Int} [h : HasRd (List Int) repList Γ [av] xs] (hl : 0 ≤ left ∧ left ≤ 1048576) :
    CJ Tryz.prog 111 [av, .int .i64 left] w0 Γ (fun _ : Unit => .int .i64 (lft left (Siz.size xs))) (fun _ => Γ) := by
  rw [siz_ints]
  have hh := lft_spec left xs.length
  refine cj_len av fun hx => ?_
  refine cj_enter Tryz.func111 Tryz.ntmps111 ?_
  repeat' (first | refine red ?_ | refine reds ?_ | (refine redi (fun hc => ?_) (fun hc => ?_) <;> try first | (exfalso; omega) | exact absurd rfl hc) | fail)
  all_goals exact ⟨(), ret_int (by omega), ent_e⟩

instance szInt64S_ctr {Γ : List Atom} {av : Value} {xs : List Int} {left : Int} [h : HasRd (List Int) repList Γ [av] xs] :
    CtrC Tryz.prog 111 [av, .int .i64 left] Γ (0 ≤ left ∧ left ≤ 1048576) (Unit) (fun _ : Unit => .int .i64 (lft left (Siz.size xs))) (fun _ => Γ) := ⟨fun s w0 => szInt64S_spec s⟩

theorem markInt64S_spec {w0 : World} {Γ Δ : List Atom} {av : Value} {xs : List Int} {m : Int} [h : PullOw (List Int) repList Γ [av] xs Δ] (hm0 : 0 ≤ m ∧ m + cntL xs ≤ 4611686018427387904) :
    CJ Tryz.prog 64 [av, .int .i64 m] w0 Γ (fun _ : Unit => .int .i64 (m + cntL xs)) (fun _ => .ow [av] (mkL xs m) :: Δ) := by
  rw [cntL_ints] at hm0 ⊢
  have hm := hm0
  refine cj_perm h.perm ?_
  refine cj_enter Tryz.func64 Tryz.ntmps64 ?_
  repeat' (first | refine red ?_ | fail)
  refine wc_loop [1, 5] [6, 7, 8, 9, 12, 13, 14, 15, 16, 17, 10, 11] (ι := Nat × Int) (fun k => [.int .i64 k.2, .int .i64 k.1]) (fun k => .ow [av] (mkTo xs m k.1) :: Δ) (fun k => k.1 ≤ xs.length ∧ k.2 = m + k.1) (fun k => xs.length - k.1) (0, m) (by kernel_rfl) ⟨Nat.zero_le _, by simp⟩ ?_ ?_
  · rw [mkTo_zero]
    exact ent_e
  intro ⟨k, r0⟩ u l' hl' ⟨hk, hkk⟩
  simp only [patch, List.map_cons, List.map_nil, List.set_cons_zero, List.set_cons_succ] at hl'
  subst hl'
  simp only at hk hkk ⊢
  have hlen := mkTo_length xs m k
  repeat' (first | refine red ?_ | refine reds ?_ | (refine redi (fun hc => ?_) (fun hc => ?_) <;> try first | (exfalso; omega) | exact absurd rfl hc) | fail)
  · rw [hkk, mkTo_set_int (by omega)]
    exact wq_next (k + 1, m + k + 1) ⟨by simp only; omega, by simp only; omega⟩ (by simp only; omega) (by kernel_rfl) ent_e
  · rw [mkTo_end (by omega)]
    exact ⟨(), ret_int (by omega), ent_e⟩

instance markInt64S_ctr {Γ Δ : List Atom} {av : Value} {xs : List Int} {m : Int} [h : PullOw (List Int) repList Γ [av] xs Δ] :
    CtrC Tryz.prog 64 [av, .int .i64 m] Γ (0 ≤ m ∧ m + cntL xs ≤ 4611686018427387904) (Unit) (fun _ : Unit => .int .i64 (m + cntL xs)) (fun _ => .ow [av] (mkL xs m) :: Δ) := ⟨fun s w0 => markInt64S_spec s⟩

theorem heldInt64S_spec {w0 : World} {Γ : List Atom} {av : Value} {xs : List Int} {m : Int} [h : HasRd (List Int) repList Γ [av] (mkL xs m)] (hm0 : 0 ≤ m ∧ m + cntL xs ≤ 4611686018427387904) :
    CJ Tryz.prog 66 [av, .int .i64 m] w0 Γ (fun _ : Unit => .int .i64 (m + cntL xs)) (fun _ => Γ) := by
  rw [cntL_ints] at hm0 ⊢
  have hm := hm0
  have hlen := mkL_length xs m
  refine cj_enter Tryz.func66 Tryz.ntmps66 ?_
  repeat' (first | refine red ?_ | fail)
  refine wc_loop [1, 5] [6, 7, 8, 9, 12, 13, 14, 15, 16, 17, 4, 18, 19, 10, 11] (ι := Nat × Int) (fun k => [.int .i64 k.2, .int .i64 k.1]) (fun k => Γ) (fun k => k.1 ≤ xs.length ∧ k.2 = m + k.1) (fun k => xs.length - k.1) (0, m) (by kernel_rfl) ⟨Nat.zero_le _, by simp⟩ ent_e ?_
  intro ⟨k, r0⟩ u l' hl' ⟨hk, hkk⟩
  simp only [patch, List.map_cons, List.map_nil, List.set_cons_zero, List.set_cons_succ] at hl'
  subst hl'
  simp only at hk hkk ⊢
  have hg : k < xs.length → (mkL xs m).getD k 0 = m + k := mkL_get_int
  repeat' (first | refine red ?_ | refine redf fun hbi => ?_ | refine reds ?_ | (refine redi (fun hc => ?_) (fun hc => ?_) <;> try first | (exfalso; omega) | exact absurd rfl hc) | fail)
  · exact wq_next (k + 1, r0 + 1) ⟨by simp only; omega, by simp only; omega⟩ (by simp only; omega) (by kernel_rfl) ent_e
  · exact ⟨(), ret_int (by omega), ent_e⟩

instance heldInt64S_ctr {Γ : List Atom} {av : Value} {xs : List Int} {m : Int} [h : HasRd (List Int) repList Γ [av] (mkL xs m)] :
    CtrC Tryz.prog 66 [av, .int .i64 m] Γ (0 ≤ m ∧ m + cntL xs ≤ 4611686018427387904) (Unit) (fun _ : Unit => .int .i64 (m + cntL xs)) (fun _ => Γ) := ⟨fun s w0 => heldInt64S_spec s⟩

end Go.Proofs.YtbbdjjlnachnlaaGreatDoor
