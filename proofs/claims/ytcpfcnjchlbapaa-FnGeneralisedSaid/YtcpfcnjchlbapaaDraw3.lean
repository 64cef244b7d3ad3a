/- Draws: pairs of terms, and what the laws ask of them. -/
import Derived.Test.YtcpfcnjchlbapaaDraw2
import Derived.Test.YtcpfcnjchlbapaaL07c
namespace Go.Proofs.Ytcpfcnjchlbapaa
open Go Go.Eng
set_option linter.unusedVariables false
set_option linter.unusedSimpArgs false
set_option synthInstance.maxHeartbeats 400000
set_option synthInstance.maxSize 1000


theorem take_eq {xs ys : List Int} {k : Nat} (hk : k < xs.length) (hl : xs.length = ys.length) (h : xs.take k = ys.take k) (e : xs.getD k 0 = ys.getD k 0) : xs.take (k + 1) = ys.take (k + 1) := by
  have hk2 : k < ys.length := by omega
  have e2 : xs[k] = ys[k] := by
    rw [List.getD_eq_getElem?_getD, List.getElem?_eq_getElem hk, List.getD_eq_getElem?_getD, List.getElem?_eq_getElem hk2] at e
    simpa using e
  exact (List.take_succ_eq_append_getElem hk).trans (by rw [h, e2]; exact (List.take_succ_eq_append_getElem hk2).symm)
theorem likeInts_spec {w0 : World} {Γ : List Atom} {av bv : Value} {xs ys : List Int} [h : HasRd (List Int) repList Γ [av] xs] [h' : HasRd (List Int) repList Γ [bv] ys] :
    CJ Try.prog 13 [av, bv] w0 Γ (fun _ : Unit => .bool (decide (xs = ys))) (fun _ => Γ) := by
  refine cj_len av fun hlx => ?_
  refine cj_len bv fun hly => ?_
  refine cj_enter Try.func13 Try.ntmps13 ?_
  repeat' (first | refine red ?_ | refine redf fun hbi => ?_ | refine reds ?_ | (refine redc fun r => ?_; try have hr := Subtype.property r) | refine redp (fun r => ?_) (fun r => ?_) | refine redv fun sv => ?_ | refine redn fun b => ?_ | refine redz fun zs => ?_ | refine redq (fun hc => ?_) (fun hc => ?_) | with_reducible refine wq_blk_o rfl ?_ | (refine redi (fun hc => ?_) (fun hc => ?_) <;> try first | (exfalso; omega) | exact absurd rfl hc) | ((refine wa_beginc 6 [false, false, false, false, false, false, false, false, false] [] ?_ <;> (first | refine wa_p 0 ?_ | refine wa_p0 0 ?_) <;> (first | refine wa_p 1 ?_ | refine wa_p0 1 ?_) <;> refine wa_p 2 ?_ <;> (first | refine wa_f 3 fun hbi => ?_ | refine wa_p 3 ?_ | fail) <;> (first | refine wa_p 4 ?_ | refine wa_p0 4 ?_) <;> (first | refine wa_p 5 ?_ | refine wa_p0 5 ?_) <;> refine wa_p 6 ?_ <;> (first | refine wa_f 7 fun hbi => ?_ | refine wa_p 7 ?_ | (refine wa_do 7 ?_ <;> (repeat' (first | refine red ?_ | (refine redc fun r => ?_; try have hr := Subtype.property r) | refine redv fun sv => ?_ | refine redf fun hbi => ?_ | refine redn fun b => ?_ | refine reds ?_ | refine redi (fun hc => ?_) (fun hc => ?_) | refine redq (fun hc => ?_) (fun hc => ?_) | refine redp (fun r => ?_) (fun r => ?_) | refine wl_share sv ?_ | fail))) | fail) <;> (first | refine wa_p 8 ?_ | refine wa_p0 8 ?_ | (refine wa_do 8 ?_ <;> (repeat' (first | refine red ?_ | (refine redc fun r => ?_; try have hr := Subtype.property r) | refine redv fun sv => ?_ | refine redf fun hbi => ?_ | refine redn fun b => ?_ | refine reds ?_ | refine redi (fun hc => ?_) (fun hc => ?_) | refine redq (fun hc => ?_) (fun hc => ?_) | refine redp (fun r => ?_) (fun r => ?_) | refine wl_share sv ?_ | fail))) | fail)) <;> (first | refine wa_end ?_ | with_reducible refine wq_keep ?_)) | fail)
  · exact ⟨(), ret_bool (decide_eq_false (fun e => hc (by rw [e]))), ent_e⟩
  refine wc_loop_c [5] [11, 12, 13, 14, 17, 18, 19, 20, 21, 22, 23, 24, 25, 4, 15, 16] (ι := Nat) (fun k => [.int .i64 k]) (fun k => k ≤ xs.length ∧ xs.take k = ys.take k) (fun k => xs.length - k) 0 (by kernel_rfl) ⟨Nat.zero_le _, rfl⟩ ?_
  intro k u l' hl' ⟨hk, hkk⟩
  simp only [patch, List.map_cons, List.map_nil, List.set_cons_zero, List.set_cons_succ] at hl'
  subst hl'
  repeat' (first | refine red ?_ | refine redf fun hbi => ?_ | refine reds ?_ | (refine redc fun r => ?_; try have hr := Subtype.property r) | refine redp (fun r => ?_) (fun r => ?_) | refine redv fun sv => ?_ | refine redn fun b => ?_ | refine redz fun zs => ?_ | refine redq (fun hc => ?_) (fun hc => ?_) | with_reducible refine wq_blk_o rfl ?_ | (refine redi (fun hc => ?_) (fun hc => ?_) <;> try first | (exfalso; omega) | exact absurd rfl hc) | ((refine wa_beginc 6 [false, false, false, false, false, false, false, false, false] [] ?_ <;> (first | refine wa_p 0 ?_ | refine wa_p0 0 ?_) <;> (first | refine wa_p 1 ?_ | refine wa_p0 1 ?_) <;> refine wa_p 2 ?_ <;> (first | refine wa_f 3 fun hbi => ?_ | refine wa_p 3 ?_ | fail) <;> (first | refine wa_p 4 ?_ | refine wa_p0 4 ?_) <;> (first | refine wa_p 5 ?_ | refine wa_p0 5 ?_) <;> refine wa_p 6 ?_ <;> (first | refine wa_f 7 fun hbi => ?_ | refine wa_p 7 ?_ | (refine wa_do 7 ?_ <;> (repeat' (first | refine red ?_ | (refine redc fun r => ?_; try have hr := Subtype.property r) | refine redv fun sv => ?_ | refine redf fun hbi => ?_ | refine redn fun b => ?_ | refine reds ?_ | refine redi (fun hc => ?_) (fun hc => ?_) | refine redq (fun hc => ?_) (fun hc => ?_) | refine redp (fun r => ?_) (fun r => ?_) | refine wl_share sv ?_ | fail))) | fail) <;> (first | refine wa_p 8 ?_ | refine wa_p0 8 ?_ | (refine wa_do 8 ?_ <;> (repeat' (first | refine red ?_ | (refine redc fun r => ?_; try have hr := Subtype.property r) | refine redv fun sv => ?_ | refine redf fun hbi => ?_ | refine redn fun b => ?_ | refine reds ?_ | refine redi (fun hc => ?_) (fun hc => ?_) | refine redq (fun hc => ?_) (fun hc => ?_) | refine redp (fun r => ?_) (fun r => ?_) | refine wl_share sv ?_ | fail))) | fail)) <;> (first | refine wa_end ?_ | with_reducible refine wq_keep ?_)) | fail)
  · exact ⟨(), ret_bool (decide_eq_false (fun e => hc (by rw [e]))), ent_e⟩
  · exact wq_next (k + 1) ⟨by omega, take_eq (by omega) (by omega) hkk hc⟩ (by omega) (by kernel_rfl) ent_e
  · rw [List.take_of_length_le (by omega), List.take_of_length_le (by omega)] at hkk
    exact ⟨(), ret_bool (decide_eq_true hkk), ent_e⟩
instance likeInts_ctr {Γ : List Atom} {av bv : Value} {xs ys : List Int} [h : HasRd (List Int) repList Γ [av] xs] [h' : HasRd (List Int) repList Γ [bv] ys] :
    CtrC Try.prog 13 [av, bv] Γ (True) (Unit) (fun _ : Unit => .bool (decide (xs = ys))) (fun _ => Γ) := ⟨fun s w0 => likeInts_spec⟩

def tOk (a t : List Int) : Bool := decide (t.length = 0) || termOk a t
def substOk (a : List Int) (ts : List (List Int)) : Bool := sigOk a && (decide (ts.length ≤ 24) && ts.all (tOk a))
theorem subst_no1 {a : List Int} {ts : List (List Int)} (h : sigOk a = false) : substOk a ts = false := by unfold substOk; rw [h]; rfl
theorem subst_no2 {a : List Int} {ts : List (List Int)} (h : 24 < ts.length) : substOk a ts = false := by unfold substOk; rw [decide_eq_false (by omega)]; simp
theorem subst_step {a : List Int} {ts : List (List Int)} {k : Nat} (hk : k < ts.length) (h : (ts.take k).all (tOk a) = true) (hn : tOk a (ts.getD k default) = true) : (ts.take (k + 1)).all (tOk a) = true := by
  rw [List.take_succ_eq_append_getElem hk, List.all_append, h]
  rw [List.getD_eq_getElem?_getD, List.getElem?_eq_getElem hk] at hn
  simpa using hn
theorem subst_no3 {a : List Int} {ts : List (List Int)} {k : Nat} (hk : k < ts.length) (h0 : ¬ (ts.getD k default).length = 0) (hn : termOk a (ts.getD k default) = false) : substOk a ts = false := by
  have : ts.all (tOk a) = false := by
    rw [List.all_eq_false]
    refine ⟨ts.getD k default, mem_getD hk, ?_⟩
    unfold tOk
    rw [hn, decide_eq_false h0]
    simp
  unfold substOk
  rw [this]
  simp
theorem subst_yes {a : List Int} {ts : List (List Int)} (h : sigOk a = true) (hl : ts.length ≤ 24) (ha : ts.all (tOk a) = true) : substOk a ts = true := by
  unfold substOk
  rw [h, decide_eq_true hl, ha]; rfl
theorem subst_len {a : List Int} {ts : List (List Int)} (h : substOk a ts = true) : ∀ x ∈ ts, x.length ≤ 60 := fun x hx => by
  unfold substOk at h
  rw [Bool.and_eq_true, Bool.and_eq_true, List.all_eq_true] at h
  have := h.2.2 x hx
  unfold tOk at this
  rw [Bool.or_eq_true, decide_eq_true_eq] at this
  rcases this with h1 | h1
  · omega
  · exact (termOk_len h1).2
theorem spec_SubstOk_spec {w0 : World} {Γ : List Atom} {va v : Value} {a : List Int} {ts : List (List Int)} [h : HasRd (List Int) repList Γ [va] a] [h2 : HasRd (List (List Int)) repList Γ [v] ts] :
    CJ Try.prog 71 [.agg #[va], .agg #[v]] w0 Γ (fun _ : Unit => .bool (substOk a ts)) (fun _ => Γ) := by
  refine cj_lift (R := [.rd [va] a, .rd [v] ts]) (A := fun _ => []) (fun w1 => ?_) (reads_cons h (reads_cons h2 (inferInstance))) (fun _ => inferInstance)
  simp only [List.cons_append, List.nil_append]
  refine cj_len v fun hlx => ?_
  refine cj_enter Try.func71 Try.ntmps71 ?_
  repeat' (first | refine red ?_ | refine redf fun hbi => ?_ | refine reds ?_ | (refine redc fun r => ?_; try have hr := Subtype.property r) | refine redp (fun r => ?_) (fun r => ?_) | refine redv fun sv => ?_ | refine redn fun b => ?_ | refine redz fun zs => ?_ | refine redq (fun hc => ?_) (fun hc => ?_) | with_reducible refine wq_blk_o rfl ?_ | (refine redd fun p cs as_ hcs has hf => ?_; simp only [Un.cells, Un.atoms, Un.fact, List.cons_append, List.nil_append] at hcs has hf; subst hcs has) | (refine redi (fun hc => ?_) (fun hc => ?_) <;> try first | (exfalso; omega) | exact absurd rfl hc) | ((refine wa_beginc 6 [false, false, false, false, false, false, false, false, false, false, false, false, false, false, false, false, false] [] ?_ <;> (first | refine wa_p 0 ?_ | refine wa_p0 0 ?_ | fail) <;> (first | refine wa_f 1 fun hbi => ?_ | refine wa_p 1 ?_ | fail) <;> (first | refine wa_p 2 ?_ | refine wa_p0 2 ?_) <;> (first | refine wa_p 3 ?_ | (refine wa_deep 3 fun p cs as_ asb_ hcs has hasb hf => ?_; simp only [Un.cells, Un.atoms, Un.fact, List.cons_append, List.nil_append] at hcs has hasb hf; subst hcs has hasb) | fail) <;> (first | refine wa_f 4 fun hbi => ?_ | refine wa_p 4 ?_ | (refine wa_do 4 ?_ <;> (repeat' (first | refine red ?_ | (refine redc fun r => ?_; try have hr := Subtype.property r) | refine redv fun sv => ?_ | refine redf fun hbi => ?_ | refine redn fun b => ?_ | refine reds ?_ | refine redi (fun hc => ?_) (fun hc => ?_) | refine redq (fun hc => ?_) (fun hc => ?_) | refine redp (fun r => ?_) (fun r => ?_) | refine wl_share sv ?_ | fail))) | fail) <;> (first | refine wa_p 5 ?_ | refine wa_p0 5 ?_ | (refine wa_do 5 ?_ <;> (repeat' (first | refine red ?_ | (refine redc fun r => ?_; try have hr := Subtype.property r) | refine redv fun sv => ?_ | refine redf fun hbi => ?_ | refine redn fun b => ?_ | refine reds ?_ | refine redi (fun hc => ?_) (fun hc => ?_) | refine redq (fun hc => ?_) (fun hc => ?_) | refine redp (fun r => ?_) (fun r => ?_) | refine wl_share sv ?_ | fail))) | fail) <;> refine wa_p 6 ?_ <;> (first | refine wa_p 7 ?_ | refine wa_p0 7 ?_) <;> (first | refine wa_pg 8 ?_ | refine wa_no 8 ?_ | (refine wa_if 29 (fun hc => ?_) (fun hc => ?_) <;> (try first | (exfalso; omega) | exact absurd rfl hc) <;> first | refine wa_pg 8 ?_ | refine wa_no 8 ?_) | fail) <;> (first | refine wa_pg 9 ?_ | refine wa_no 9 ?_ | fail) <;> (first | refine wa_pg 10 ?_ | refine wa_no 10 ?_ | fail) <;> (first | refine wa_pg 11 ?_ | refine wa_no 11 ?_ | (refine wa_do 11 ?_ <;> (repeat' (first | refine red ?_ | (refine redc fun r => ?_; try have hr := Subtype.property r) | refine redv fun sv => ?_ | refine redf fun hbi => ?_ | refine redn fun b => ?_ | refine reds ?_ | refine redi (fun hc => ?_) (fun hc => ?_) | refine redq (fun hc => ?_) (fun hc => ?_) | refine redp (fun r => ?_) (fun r => ?_) | refine wl_share sv ?_ | fail))) | fail) <;> (first | refine wa_pg 12 ?_ | refine wa_no 12 ?_ | (refine wa_do 12 ?_ <;> (repeat' (first | refine red ?_ | (refine redc fun r => ?_; try have hr := Subtype.property r) | refine redv fun sv => ?_ | refine redf fun hbi => ?_ | refine redn fun b => ?_ | refine reds ?_ | refine redi (fun hc => ?_) (fun hc => ?_) | refine redq (fun hc => ?_) (fun hc => ?_) | refine redp (fun r => ?_) (fun r => ?_) | refine wl_share sv ?_ | fail))) | fail) <;> (first | refine wa_pg 13 ?_ | refine wa_no 13 ?_ | (refine wa_do 13 ?_ <;> (repeat' (first | refine red ?_ | (refine redc fun r => ?_; try have hr := Subtype.property r) | refine redv fun sv => ?_ | refine redf fun hbi => ?_ | refine redn fun b => ?_ | refine reds ?_ | refine redi (fun hc => ?_) (fun hc => ?_) | refine redq (fun hc => ?_) (fun hc => ?_) | refine redp (fun r => ?_) (fun r => ?_) | refine wl_share sv ?_ | fail))) | fail) <;> (refine wa_do 14 ?_ <;> (repeat' (first | refine red ?_ | (refine redc fun r => ?_; try have hr := Subtype.property r) | refine redv fun sv => ?_ | refine redf fun hbi => ?_ | refine redn fun b => ?_ | refine reds ?_ | refine redi (fun hc => ?_) (fun hc => ?_) | refine redq (fun hc => ?_) (fun hc => ?_) | refine redp (fun r => ?_) (fun r => ?_) | refine wl_share sv ?_ | fail))) <;> (first | refine wa_pg 15 ?_ | refine wa_no 15 ?_ | (refine wa_do 15 ?_ <;> (repeat' (first | refine red ?_ | (refine redc fun r => ?_; try have hr := Subtype.property r) | refine redv fun sv => ?_ | refine redf fun hbi => ?_ | refine redn fun b => ?_ | refine reds ?_ | refine redi (fun hc => ?_) (fun hc => ?_) | refine redq (fun hc => ?_) (fun hc => ?_) | refine redp (fun r => ?_) (fun r => ?_) | refine wl_share sv ?_ | fail))) | fail) <;> (first | refine wa_p 16 ?_ | refine wa_p0 16 ?_ | (refine wa_do 16 ?_ <;> (repeat' (first | refine red ?_ | (refine redc fun r => ?_; try have hr := Subtype.property r) | refine redv fun sv => ?_ | refine redf fun hbi => ?_ | refine redn fun b => ?_ | refine reds ?_ | refine redi (fun hc => ?_) (fun hc => ?_) | refine redq (fun hc => ?_) (fun hc => ?_) | refine redp (fun r => ?_) (fun r => ?_) | refine wl_share sv ?_ | fail))) | fail)) <;> (first | refine wa_end ?_ | with_reducible refine wq_keep ?_)) | fail)
  · exact ⟨(), ret_bool (subst_no1 hc), ent_e⟩
  · exact ⟨(), ret_bool (subst_no2 (by omega)), ent_e⟩
  refine wc_loop_c [5] [15, 16, 17, 18, 19, 22, 23, 24, 25, 26, 27, 28, 29, 30, 31, 32, 33, 34, 35, 36, 37, 38, 4, 20, 21] (ι := Nat) (fun k => [.int .i64 k]) (fun k => k ≤ ts.length ∧ (ts.take k).all (tOk a) = true) (fun k => ts.length - k) 0 (by kernel_rfl) ⟨Nat.zero_le _, rfl⟩ ?_
  intro k u l' hl' ⟨hk, hkk⟩
  simp only [patch, List.map_cons, List.map_nil, List.set_cons_zero, List.set_cons_succ] at hl'
  subst hl'
  repeat' (first | refine red ?_ | refine redf fun hbi => ?_ | refine reds ?_ | (refine redc fun r => ?_; try have hr := Subtype.property r) | refine redp (fun r => ?_) (fun r => ?_) | refine redv fun sv => ?_ | refine redn fun b => ?_ | refine redz fun zs => ?_ | refine redq (fun hc => ?_) (fun hc => ?_) | with_reducible refine wq_blk_o rfl ?_ | (refine redd fun p cs as_ hcs has hf => ?_; simp only [Un.cells, Un.atoms, Un.fact, List.cons_append, List.nil_append] at hcs has hf; subst hcs has) | (refine redi (fun hc => ?_) (fun hc => ?_) <;> try first | (exfalso; omega) | exact absurd rfl hc) | ((refine wa_beginc 6 [false, false, false, false, false, false, false, false, false, false, false, false, false, false, false, false, false] [] ?_ <;> (first | refine wa_p 0 ?_ | refine wa_p0 0 ?_ | fail) <;> (first | refine wa_f 1 fun hbi => ?_ | refine wa_p 1 ?_ | fail) <;> (first | refine wa_p 2 ?_ | refine wa_p0 2 ?_) <;> (first | refine wa_p 3 ?_ | (refine wa_deep 3 fun p cs as_ asb_ hcs has hasb hf => ?_; simp only [Un.cells, Un.atoms, Un.fact, List.cons_append, List.nil_append] at hcs has hasb hf; subst hcs has hasb) | fail) <;> (first | refine wa_f 4 fun hbi => ?_ | refine wa_p 4 ?_ | (refine wa_do 4 ?_ <;> (repeat' (first | refine red ?_ | (refine redc fun r => ?_; try have hr := Subtype.property r) | refine redv fun sv => ?_ | refine redf fun hbi => ?_ | refine redn fun b => ?_ | refine reds ?_ | refine redi (fun hc => ?_) (fun hc => ?_) | refine redq (fun hc => ?_) (fun hc => ?_) | refine redp (fun r => ?_) (fun r => ?_) | refine wl_share sv ?_ | fail))) | fail) <;> (first | refine wa_p 5 ?_ | refine wa_p0 5 ?_ | (refine wa_do 5 ?_ <;> (repeat' (first | refine red ?_ | (refine redc fun r => ?_; try have hr := Subtype.property r) | refine redv fun sv => ?_ | refine redf fun hbi => ?_ | refine redn fun b => ?_ | refine reds ?_ | refine redi (fun hc => ?_) (fun hc => ?_) | refine redq (fun hc => ?_) (fun hc => ?_) | refine redp (fun r => ?_) (fun r => ?_) | refine wl_share sv ?_ | fail))) | fail) <;> refine wa_p 6 ?_ <;> (first | refine wa_p 7 ?_ | refine wa_p0 7 ?_) <;> (first | refine wa_pg 8 ?_ | refine wa_no 8 ?_ | (refine wa_if 29 (fun hc => ?_) (fun hc => ?_) <;> (try first | (exfalso; omega) | exact absurd rfl hc) <;> first | refine wa_pg 8 ?_ | refine wa_no 8 ?_) | fail) <;> (first | refine wa_pg 9 ?_ | refine wa_no 9 ?_ | fail) <;> (first | refine wa_pg 10 ?_ | refine wa_no 10 ?_ | fail) <;> (first | refine wa_pg 11 ?_ | refine wa_no 11 ?_ | (refine wa_do 11 ?_ <;> (repeat' (first | refine red ?_ | (refine redc fun r => ?_; try have hr := Subtype.property r) | refine redv fun sv => ?_ | refine redf fun hbi => ?_ | refine redn fun b => ?_ | refine reds ?_ | refine redi (fun hc => ?_) (fun hc => ?_) | refine redq (fun hc => ?_) (fun hc => ?_) | refine redp (fun r => ?_) (fun r => ?_) | refine wl_share sv ?_ | fail))) | fail) <;> (first | refine wa_pg 12 ?_ | refine wa_no 12 ?_ | (refine wa_do 12 ?_ <;> (repeat' (first | refine red ?_ | (refine redc fun r => ?_; try have hr := Subtype.property r) | refine redv fun sv => ?_ | refine redf fun hbi => ?_ | refine redn fun b => ?_ | refine reds ?_ | refine redi (fun hc => ?_) (fun hc => ?_) | refine redq (fun hc => ?_) (fun hc => ?_) | refine redp (fun r => ?_) (fun r => ?_) | refine wl_share sv ?_ | fail))) | fail) <;> (first | refine wa_pg 13 ?_ | refine wa_no 13 ?_ | (refine wa_do 13 ?_ <;> (repeat' (first | refine red ?_ | (refine redc fun r => ?_; try have hr := Subtype.property r) | refine redv fun sv => ?_ | refine redf fun hbi => ?_ | refine redn fun b => ?_ | refine reds ?_ | refine redi (fun hc => ?_) (fun hc => ?_) | refine redq (fun hc => ?_) (fun hc => ?_) | refine redp (fun r => ?_) (fun r => ?_) | refine wl_share sv ?_ | fail))) | fail) <;> (refine wa_do 14 ?_ <;> (repeat' (first | refine red ?_ | (refine redc fun r => ?_; try have hr := Subtype.property r) | refine redv fun sv => ?_ | refine redf fun hbi => ?_ | refine redn fun b => ?_ | refine reds ?_ | refine redi (fun hc => ?_) (fun hc => ?_) | refine redq (fun hc => ?_) (fun hc => ?_) | refine redp (fun r => ?_) (fun r => ?_) | refine wl_share sv ?_ | fail))) <;> (first | refine wa_pg 15 ?_ | refine wa_no 15 ?_ | (refine wa_do 15 ?_ <;> (repeat' (first | refine red ?_ | (refine redc fun r => ?_; try have hr := Subtype.property r) | refine redv fun sv => ?_ | refine redf fun hbi => ?_ | refine redn fun b => ?_ | refine reds ?_ | refine redi (fun hc => ?_) (fun hc => ?_) | refine redq (fun hc => ?_) (fun hc => ?_) | refine redp (fun r => ?_) (fun r => ?_) | refine wl_share sv ?_ | fail))) | fail) <;> (first | refine wa_p 16 ?_ | refine wa_p0 16 ?_ | (refine wa_do 16 ?_ <;> (repeat' (first | refine red ?_ | (refine redc fun r => ?_; try have hr := Subtype.property r) | refine redv fun sv => ?_ | refine redf fun hbi => ?_ | refine redn fun b => ?_ | refine reds ?_ | refine redi (fun hc => ?_) (fun hc => ?_) | refine redq (fun hc => ?_) (fun hc => ?_) | refine redp (fun r => ?_) (fun r => ?_) | refine wl_share sv ?_ | fail))) | fail)) <;> (first | refine wa_end ?_ | with_reducible refine wq_keep ?_)) | fail)
  · exact ⟨(), ret_bool (subst_no3 (k := k) (by omega) (by omega) hc), ent_e⟩
  · exact wq_next (k + 1) ⟨by omega, subst_step (by omega) hkk (by unfold tOk; rw [hc]; simp)⟩ (by omega) (by kernel_rfl) ent_e
  · exact wq_next (k + 1) ⟨by omega, subst_step (by omega) hkk (by unfold tOk; rw [decide_eq_true (by omega)]; rfl)⟩ (by omega) (by kernel_rfl) ent_e
  · rw [List.take_of_length_le (by omega)] at hkk
    exact ⟨(), ret_bool (subst_yes ‹_› (by omega) hkk), ent_e⟩
instance spec_SubstOk_ctr {Γ : List Atom} {va v : Value} {a : List Int} {ts : List (List Int)} [h : HasRd (List Int) repList Γ [va] a] [h2 : HasRd (List (List Int)) repList Γ [v] ts] :
    CtrC Try.prog 71 [.agg #[va], .agg #[v]] Γ (True) (Unit) (fun _ : Unit => .bool (substOk a ts)) (fun _ => Γ) := ⟨fun s w0 => spec_SubstOk_spec⟩

theorem SubAt_spec {w0 : World} {Γ : List Atom} {va vt : Value} {a t : List Int} {at_ : Int} {m : Nat} [hm : ToN at_ m] [h0 : HasRd (List Int) repList Γ [va] a] [h1 : HasIm (List Int) repList Γ [vt] t] (hs : termOk a t = true ∧ 0 ≤ at_ ∧ at_ < t.length) :
    CJ Try.prog 17 [.agg #[va], vt, .int .i64 at_] w0 Γ (fun q : Value => q) (fun q => .ow [q] (subt a t m) :: Γ) := by
  obtain ⟨hs1, hs2, hs3⟩ := hs
  refine cj_enter Try.func17 Try.ntmps17 ?_
  repeat' (first | refine red ?_ | refine redf fun hbi => ?_ | refine reds ?_ | (refine redc fun r => ?_; try have hr := Subtype.property r) | refine redp (fun r => ?_) (fun r => ?_) | refine redv fun sv => ?_ | refine redn fun b => ?_ | refine redz fun zs => ?_ | refine redq (fun hc => ?_) (fun hc => ?_) | with_reducible refine wq_blk_o rfl ?_ | (refine redi (fun hc => ?_) (fun hc => ?_) <;> try first | (exfalso; omega) | exact absurd rfl hc) | fail)
  · rw [hs1] at hc; cases hc
  · exact ⟨_, rfl, ent_e⟩
instance SubAt_ctr {Γ : List Atom} {va vt : Value} {a t : List Int} {at_ : Int} {m : Nat} [hm : ToN at_ m] [h0 : HasRd (List Int) repList Γ [va] a] [h1 : HasIm (List Int) repList Γ [vt] t] :
    CtrC Try.prog 17 [.agg #[va], vt, .int .i64 at_] Γ (termOk a t = true ∧ 0 ≤ at_ ∧ at_ < t.length) (Value) (fun q : Value => q) (fun q => .ow [q] (subt a t m) :: Γ) := ⟨fun s w0 => SubAt_spec s⟩

theorem l3Right_spec {w0 : World} {Γ : List Atom} {va vt : Value} {a t : List Int} {at_ : Int} [h0 : HasRd (List Int) repList Γ [va] a] [h1 : HasRd (List Int) repList Γ [vt] t] :
    CJ Try.prog 117 [.agg #[va], vt, .int .i64 at_] w0 Γ (fun _ : Unit => .bool (termOk a t && decide (0 ≤ at_ ∧ at_ < t.length))) (fun q => Γ) := by
  refine cj_enter Try.func117 Try.ntmps117 ?_
  repeat' (first | refine red ?_ | refine redf fun hbi => ?_ | refine reds ?_ | (refine redc fun r => ?_; try have hr := Subtype.property r) | refine redp (fun r => ?_) (fun r => ?_) | refine redv fun sv => ?_ | refine redn fun b => ?_ | refine redz fun zs => ?_ | refine redq (fun hc => ?_) (fun hc => ?_) | with_reducible refine wq_blk_o rfl ?_ | (refine redi (fun hc => ?_) (fun hc => ?_) <;> try first | (exfalso; omega) | exact absurd rfl hc) | fail)
  · exact ⟨(), ret_bool (by rw [hc]; rfl), ent_e⟩
  · exact ⟨(), ret_bool (by rw [hc]; rfl), ent_e⟩
instance l3Right_ctr {Γ : List Atom} {va vt : Value} {a t : List Int} {at_ : Int} [h0 : HasRd (List Int) repList Γ [va] a] [h1 : HasRd (List Int) repList Γ [vt] t] :
    CtrC Try.prog 117 [.agg #[va], vt, .int .i64 at_] Γ (True) (Unit) (fun _ : Unit => .bool (termOk a t && decide (0 ≤ at_ ∧ at_ < t.length))) (fun q => Γ) := ⟨fun s w0 => l3Right_spec⟩

/-- A term, and whether it is one. -/
abbrev TermB : Type := { q : Value × List Int × Bool // q.2.2 = true → q.2.1.length ≤ 60 }
theorem put_lenX {a t u : List Int} {k : Nat} (h : (putOf a t k u).isSome = true) : ((putOf a t k u).getD []).length ≤ 60 := by
  unfold putOf at h ⊢
  split
  · rename_i h1; simpa using h1
  · simp
theorem PutAt_spec {w0 : World} {Γ : List Atom} {va vt vu : Value} {a t u : List Int} {at_ : Int} [h0 : HasRd (List Int) repList Γ [va] a] [h1 : HasRd (List Int) repList Γ [vt] t] [h2 : HasRd (List Int) repList Γ [vu] u] :
    CJ Try.prog 59 [.agg #[va], vt, .int .i64 at_, vu] w0 Γ (fun q : TermB => .tuple #[q.1.1, .bool q.1.2.2]) (fun q => .ow [q.1.1] q.1.2.1 :: Γ) := by
  refine cj_enter Try.func59 Try.ntmps59 ?_
  repeat' (first | refine red ?_ | refine redf fun hbi => ?_ | refine reds ?_ | (refine redc fun r => ?_; try have hr := Subtype.property r) | refine redp (fun r => ?_) (fun r => ?_) | refine redv fun sv => ?_ | refine redn fun b => ?_ | refine redz fun zs => ?_ | refine redq (fun hc => ?_) (fun hc => ?_) | with_reducible refine wq_blk_o rfl ?_ | (refine redi (fun hc => ?_) (fun hc => ?_) <;> try first | (exfalso; omega) | exact absurd rfl hc) | fail)
  · exact ⟨⟨(sv, [], false), fun h => by cases h⟩, rfl, ent_e⟩
  · exact ⟨⟨(sv, [], false), fun h => by cases h⟩, rfl, ent_e⟩
  · obtain ⟨hc1, hc2, hc3⟩ := (‹termOk a t = true ∧ 0 ≤ at_ ∧ at_ < t.length›)
    have hul := termOk_len hc
    have hul2 := hul.2
    repeat' (first | refine red ?_ | refine redf fun hbi => ?_ | refine reds ?_ | (refine redc fun r => ?_; try have hr := Subtype.property r) | refine redp (fun r => ?_) (fun r => ?_) | refine redv fun sv => ?_ | refine redn fun b => ?_ | refine redz fun zs => ?_ | refine redq (fun hc => ?_) (fun hc => ?_) | with_reducible refine wq_blk_o rfl ?_ | (refine redi (fun hc => ?_) (fun hc => ?_) <;> try first | (exfalso; omega) | exact absurd rfl hc) | fail)
    exact ⟨⟨(r, (putOf a t at_.toNat u).getD [], (putOf a t at_.toNat u).isSome), fun h => put_lenX h⟩, rfl, ent_e⟩
instance PutAt_ctr {Γ : List Atom} {va vt vu : Value} {a t u : List Int} {at_ : Int} [h0 : HasRd (List Int) repList Γ [va] a] [h1 : HasRd (List Int) repList Γ [vt] t] [h2 : HasRd (List Int) repList Γ [vu] u] :
    CtrC Try.prog 59 [.agg #[va], vt, .int .i64 at_, vu] Γ (True) (TermB) (fun q : TermB => .tuple #[q.1.1, .bool q.1.2.2]) (fun q => .ow [q.1.1] q.1.2.1 :: Γ) := ⟨fun s w0 => PutAt_spec⟩

theorem spec_Filled_spec {w0 : World} {Γ : List Atom} {va v vt : Value} {a t : List Int} {ts : List (List Int)} [h : HasRd (List Int) repList Γ [va] a] [h2 : HasRd (List (List Int)) repList Γ [v] ts] [h3 : HasRd (List Int) repList Γ [vt] t] :
    CJ Try.prog 23 [.agg #[va], .agg #[v], vt] w0 Γ (fun q : Value => .tuple #[q, .bool (if substOk a ts = true ∧ termOk a t = true then fillOf ts t else none).isSome]) (fun q => .ow [q] ((if substOk a ts = true ∧ termOk a t = true then fillOf ts t else none).getD []) :: Γ) := by
  refine cj_enter Try.func23 Try.ntmps23 ?_
  repeat' (first | refine red ?_ | refine redf fun hbi => ?_ | refine reds ?_ | (refine redc fun r => ?_; try have hr := Subtype.property r) | refine redp (fun r => ?_) (fun r => ?_) | refine redv fun sv => ?_ | refine redn fun b => ?_ | refine redz fun zs => ?_ | refine redq (fun hc => ?_) (fun hc => ?_) | with_reducible refine wq_blk_o rfl ?_ | (refine redi (fun hc => ?_) (fun hc => ?_) <;> try first | (exfalso; omega) | exact absurd rfl hc) | fail)
  · rw [if_neg (fun h => by rw [hc] at h; cases h.1)]
    simp only [Option.getD_none, Option.isSome_none]
    exact ⟨_, rfl, ent_e⟩
  · rw [if_neg (fun h => by rw [hc] at h; cases h.2)]
    simp only [Option.getD_none, Option.isSome_none]
    exact ⟨_, rfl, ent_e⟩
  · have hc1 := (‹substOk a ts = true›)
    have htl := (termOk_len hc).2
    have hv : ∀ n ∈ t, -24 ≤ n := fun n hn => (termOk_mem hc hn).1
    have hl := subst_len hc1
    rw [if_pos ⟨hc1, hc⟩]
    refine redc (fun r => ?_) ⟨hl, htl, hv⟩
    repeat' (first | refine red ?_ | refine redf fun hbi => ?_ | refine reds ?_ | (refine redc fun r => ?_; try have hr := Subtype.property r) | refine redp (fun r => ?_) (fun r => ?_) | refine redv fun sv => ?_ | refine redn fun b => ?_ | refine redz fun zs => ?_ | refine redq (fun hc => ?_) (fun hc => ?_) | with_reducible refine wq_blk_o rfl ?_ | (refine redi (fun hc => ?_) (fun hc => ?_) <;> try first | (exfalso; omega) | exact absurd rfl hc) | fail)
    exact ⟨_, rfl, ent_e⟩
instance spec_Filled_ctr {Γ : List Atom} {va v vt : Value} {a t : List Int} {ts : List (List Int)} [h : HasRd (List Int) repList Γ [va] a] [h2 : HasRd (List (List Int)) repList Γ [v] ts] [h3 : HasRd (List Int) repList Γ [vt] t] :
    CtrC Try.prog 23 [.agg #[va], .agg #[v], vt] Γ (True) (Value) (fun q : Value => .tuple #[q, .bool (if substOk a ts = true ∧ termOk a t = true then fillOf ts t else none).isSome]) (fun q => .ow [q] ((if substOk a ts = true ∧ termOk a t = true then fillOf ts t else none).getD []) :: Γ) := ⟨fun s w0 => spec_Filled_spec⟩

theorem fill_len {a : List Int} {ts : List (List Int)} {t : List Int} : ((if substOk a ts = true ∧ termOk a t = true then fillOf ts t else none).getD []).length ≤ 60 := by
  split
  · unfold fillOf
    split
    · rename_i h; simpa using h
    · simp
  · simp

/-! ### Pairs -/
abbrev L4 (code : List UInt8) : Type := { q : (Value × List Int) × (Value × List Int) × (Value × List Int) × CurS code // q.1.2.length ≤ 9 ∧ q.2.1.2.length ≤ 60 ∧ q.2.2.1.2.length ≤ 60 }
theorem l4Draw_spec {w0 : World} {Γ Δ : List Atom} {bc : Nat} {vb : Value} {code : List UInt8} {p : CurS code} [hb : PullBk Γ bc (cur vb p) Δ] [hv : HasRd (List UInt8) repList Δ [vb] code] :
    CJ Try.prog 56 [.pointer (some ⟨bc, 0, none⟩)] w0 Γ (fun q : L4 code => .tuple #[.agg #[q.1.1.1], q.1.2.1.1, q.1.2.2.1.1]) (fun q => .rd [q.1.1.1] q.1.1.2 :: .rd [q.1.2.1.1] q.1.2.1.2 :: .rd [q.1.2.2.1.1] q.1.2.2.1.2 :: .bk bc (cur vb q.1.2.2.2) :: Δ) := by
  refine cj_perm hb.perm ?_
  refine cj_enter Try.func56 Try.ntmps56 ?_
  repeat' (first | refine red ?_ | refine redf fun hbi => ?_ | refine reds ?_ | (refine redc fun r => ?_; try have hr := Subtype.property r) | refine redp (fun r => ?_) (fun r => ?_) | refine redv fun sv => ?_ | refine redn fun b => ?_ | refine redz fun zs => ?_ | refine redq (fun hc => ?_) (fun hc => ?_) | with_reducible refine wq_blk_o rfl ?_ | (refine redi (fun hc => ?_) (fun hc => ?_) <;> try first | (exfalso; omega) | exact absurd rfl hc) | ((refine wa_beginc 3 [false, false, false, false, false, false, false, false, false, false, false] [] ?_ <;> refine wa_p 0 ?_ <;> (first | refine wa_p 1 ?_ | refine wa_p0 1 ?_) <;> refine wa_p 2 ?_ <;> (first | refine wa_p 4 ?_ | refine wa_p0 4 ?_) <;> (refine wa_do 3 ?_ <;> (repeat' (first | refine red ?_ | (refine redc fun r => ?_; try have hr := Subtype.property r) | refine redv fun sv => ?_ | refine redf fun hbi => ?_ | refine redn fun b => ?_ | refine reds ?_ | refine redi (fun hc => ?_) (fun hc => ?_) | refine redq (fun hc => ?_) (fun hc => ?_) | refine redp (fun r => ?_) (fun r => ?_) | refine wl_share sv ?_ | fail))) <;> (refine wa_do 5 ?_ <;> (repeat' (first | refine red ?_ | (refine redc fun r => ?_; try have hr := Subtype.property r) | refine redv fun sv => ?_ | refine redf fun hbi => ?_ | refine redn fun b => ?_ | refine reds ?_ | refine redi (fun hc => ?_) (fun hc => ?_) | refine redq (fun hc => ?_) (fun hc => ?_) | refine redp (fun r => ?_) (fun r => ?_) | refine wl_share sv ?_ | fail))) <;> (first | refine wa_p 6 ?_ | refine wa_p0 6 ?_) <;> (first | refine wa_p 7 ?_ | refine wa_p0 7 ?_) <;> (first | refine wa_p 8 ?_ | refine wa_p0 8 ?_) <;> (first | refine wa_p 9 ?_ | refine wa_p0 9 ?_) <;> (first | refine wa_p 10 ?_ | refine wa_p0 10 ?_)) <;> (first | refine wa_end ?_ | with_reducible refine wq_keep ?_)) | fail)
  · rename_i r1 h1 r2 h2 _ _ _
    exact ⟨⟨((r1.1.1, r1.1.2.1), (r2.1.1, r2.1.2.1), (r.1.1, r.1.2.1), r.1.2.2), by simp only; omega⟩, rfl, ent_rd r1.1.1 ent_e⟩
  · rename_i r1 h1 r2 h2 _ _ _ _ _
    exact ⟨⟨((r1.1.1, r1.1.2.1), (r2.1.1, r2.1.2.1), (r.1.1, r.1.2.1), r.1.2.2), by simp only; omega⟩, rfl, ent_rd r1.1.1 ent_e⟩
  · rename_i r1 h1 r2 h2 r3 v3 _
    exact ⟨⟨((r1.1.1, r1.1.2.1), (r2.1.1, r2.1.2.1), (v3, (if substOk r1.1.2.1 r3.1.2.1 = true ∧ termOk r1.1.2.1 r2.1.2.1 = true then fillOf r3.1.2.1 r2.1.2.1 else none).getD []), r.2), ⟨h1, by simp only; omega, fill_len⟩⟩, rfl, ent_rd r1.1.1 (ent_rd v3 ent_e)⟩
instance l4Draw_ctr {Γ Δ : List Atom} {bc : Nat} {vb : Value} {code : List UInt8} {p : CurS code} [hb : PullBk Γ bc (cur vb p) Δ] [hv : HasRd (List UInt8) repList Δ [vb] code] :
    CtrC Try.prog 56 [.pointer (some ⟨bc, 0, none⟩)] Γ (True) (L4 code) (fun q : L4 code => .tuple #[.agg #[q.1.1.1], q.1.2.1.1, q.1.2.2.1.1]) (fun q => .rd [q.1.1.1] q.1.1.2 :: .rd [q.1.2.1.1] q.1.2.1.2 :: .rd [q.1.2.2.1.1] q.1.2.2.1.2 :: .bk bc (cur vb q.1.2.2.2) :: Δ) := ⟨fun s w0 => l4Draw_spec⟩

abbrev L3 : Type := { q : (Value × List Int) × (Value × List Int) × (Value × List Int) // q.1.2.length ≤ 9 ∧ q.2.1.2.length ≤ 60 ∧ q.2.2.2.length ≤ 60 }
theorem DrawMatched_spec {w0 : World} {Γ : List Atom} {v : Value} {code : List UInt8} [hv : HasRd (List UInt8) repList Γ [v] code] :
    CJ Try.prog 18 [v] w0 Γ (fun q : L3 => .tuple #[.agg #[q.1.1.1], q.1.2.1.1, q.1.2.2.1]) (fun q => .rd [q.1.1.1] q.1.1.2 :: .rd [q.1.2.1.1] q.1.2.1.2 :: .rd [q.1.2.2.1] q.1.2.2.2 :: Γ) := by
  refine cj_enter Try.func18 Try.ntmps18 ?_
  repeat' (first | refine red ?_ | refine redf fun hbi => ?_ | refine reds ?_ | (refine redc fun r => ?_; try have hr := Subtype.property r) | refine redp (fun r => ?_) (fun r => ?_) | refine redv fun sv => ?_ | refine redn fun b => ?_ | refine redz fun zs => ?_ | refine redq (fun hc => ?_) (fun hc => ?_) | with_reducible refine wq_blk_o rfl ?_ | (refine redi (fun hc => ?_) (fun hc => ?_) <;> try first | (exfalso; omega) | exact absurd rfl hc) | fail)
  exact ⟨⟨(r.1.1, r.1.2.1, r.1.2.2.1), r.2⟩, rfl, ent_e⟩
instance DrawMatched_ctr {Γ : List Atom} {v : Value} {code : List UInt8} [hv : HasRd (List UInt8) repList Γ [v] code] :
    CtrC Try.prog 18 [v] Γ (True) (L3) (fun q : L3 => .tuple #[.agg #[q.1.1.1], q.1.2.1.1, q.1.2.2.1]) (fun q => .rd [q.1.1.1] q.1.1.2 :: .rd [q.1.2.1.1] q.1.2.1.2 :: .rd [q.1.2.2.1] q.1.2.2.2 :: Γ) := ⟨fun s w0 => DrawMatched_spec⟩

end Go.Proofs.Ytcpfcnjchlbapaa
