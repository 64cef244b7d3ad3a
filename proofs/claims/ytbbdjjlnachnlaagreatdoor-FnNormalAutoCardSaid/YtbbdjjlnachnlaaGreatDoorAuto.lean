/- Automata that are well formed. -/
import Derived.Test.YtbbdjjlnachnlaaGreatDoorEngZ
import Derived.Test.YtbbdjjlnachnlaaGreatDoorL06
namespace Go.Proofs.YtbbdjjlnachnlaaGreatDoor
open Go Go.Eng
set_option linter.unusedVariables false
set_option linter.unusedSimpArgs false

instance : U64T Tryz.prog 122 := ⟨Tryz.underlying122⟩
/-- A sentence as a truth value. -/
noncomputable def decC (p : Prop) : Bool := @decide p (Classical.propDecidable p)
theorem decC_iff {p : Prop} : decC p = true ↔ p := by unfold decC; exact @decide_eq_true_iff p (Classical.propDecidable p)
theorem decC_t {p : Prop} (h : p) : decC p = true := decC_iff.2 h
theorem decC_f {p : Prop} (h : ¬ p) : decC p = false := by
  cases e : decC p
  · rfl
  · exact absurd (decC_iff.1 e) h
theorem decC_of {p q : Prop} {i : Decidable q} (h : q ↔ p) : @decide q i = decC p := by
  by_cases hq : q
  · rw [decide_eq_true hq, decC_t (h.1 hq)]
  · rw [decide_eq_false hq, decC_f (fun hp => hq (h.2 hp))]
instance {p : Prop} : BoolP (decC p) p := ⟨decC_iff⟩
instance {p : Prop} : BoolN (decC p) (¬ p) := ⟨⟨fun h hp => (by rw [decC_t hp] at h; cases h), decC_f⟩⟩

theorem getK {xs : List Int} {k : Nat} (h : k < xs.length) : xs.getD k 0 ∈ xs := by
  rw [List.getD_eq_getElem?_getD, List.getElem?_eq_getElem h]; exact List.getElem_mem h
/-- A set of states, in order. -/
def SetP (n : Int) (xs : List Int) (m : Nat) : Prop := ∀ i, i < m → (0 ≤ xs.getD i 0 ∧ xs.getD i 0 < n) ∧ (0 < i → xs.getD (i - 1) 0 < xs.getD i 0)
theorem setP_next {n : Int} {xs : List Int} {m : Nat} (h : SetP n xs m) (h1 : 0 ≤ xs.getD m 0 ∧ xs.getD m 0 < n) (h2 : 0 < m → xs.getD (m - 1) 0 < xs.getD m 0) : SetP n xs (m + 1) := by
  intro i hi
  by_cases he : i = m
  · rw [he]; exact ⟨h1, h2⟩
  · exact h i (by omega)
theorem setP_ge {n : Int} {xs : List Int} {m : Nat} (h : SetP n xs m) : ∀ i, i < m → (i : Int) ≤ xs.getD i 0 := by
  intro i
  induction i with
  | zero => intro hi; exact (h 0 hi).1.1
  | succ i ih =>
    intro hi
    have h1 := ih (by omega)
    have h2 := (h (i + 1) hi).2 (by omega)
    rw [show i + 1 - 1 = i by omega] at h2
    omega
theorem setP_len {n : Int} {xs : List Int} (h : SetP n xs xs.length) (hn : 0 ≤ n) : (xs.length : Int) ≤ n := by
  by_cases h0 : xs.length = 0
  · omega
  · have h1 := setP_ge h (xs.length - 1) (by omega)
    have h2 := (h (xs.length - 1) (by omega)).1.2
    omega
/-- All are states. -/
def AllS (n : Int) (xs : List Int) (m : Nat) : Prop := ∀ i, i < m → 0 ≤ xs.getD i 0 ∧ xs.getD i 0 < n
theorem allS_next {n : Int} {xs : List Int} {m : Nat} (h : AllS n xs m) (h1 : 0 ≤ xs.getD m 0 ∧ xs.getD m 0 < n) : AllS n xs (m + 1) := by
  intro i hi
  by_cases he : i = m
  · rw [he]; exact h1
  · exact h i (by omega)
theorem allS_mem {n : Int} {xs : List Int} (h : AllS n xs xs.length) : ∀ q ∈ xs, 0 ≤ q ∧ q < n := by
  intro q hq
  obtain ⟨i, hi, rfl⟩ := List.getElem_of_mem hq
  have := h i hi
  rw [List.getD_eq_getElem?_getD, List.getElem?_eq_getElem hi] at this
  exact this
def TransP (ar : List Int) (n : Int) (r : STrans) : Prop := (0 ≤ r.1 ∧ r.1 < ar.length) ∧ (r.2.1.length : Int) = ar.getD r.1.toNat 0 ∧ AllS n r.2.1 r.2.1.length ∧ 0 ≤ r.2.2 ∧ r.2.2 < n
def RulesP (ar : List Int) (n : Int) (rs : List STrans) (m : Nat) : Prop := ∀ i, i < m → TransP ar n (rs.getD i default) ∧ ∀ k, k < i → rs.getD k default ≠ rs.getD i default
theorem rulesP_next {ar : List Int} {n : Int} {rs : List STrans} {m : Nat} (h : RulesP ar n rs m) (h1 : TransP ar n (rs.getD m default)) (h2 : ∀ k, k < m → rs.getD k default ≠ rs.getD m default) : RulesP ar n rs (m + 1) := by
  intro i hi
  by_cases he : i = m
  · rw [he]; exact ⟨h1, h2⟩
  · exact h i (by omega)
def AutoP (ar : List Int) (x : SAuto) : Prop := sigOk ar = true ∧ (1 ≤ x.1 ∧ x.1 ≤ 16) ∧ x.2.1.length ≤ 300 ∧ SetP x.1 x.2.2 x.2.2.length ∧ RulesP ar x.1 x.2.1 x.2.1.length
noncomputable def autoOk (ar : List Int) (x : SAuto) : Bool := decC (AutoP ar x)
instance {ar : List Int} {x : SAuto} : BoolP (autoOk ar x) (AutoP ar x) := ⟨decC_iff⟩
instance {ar : List Int} {x : SAuto} : BoolN (autoOk ar x) (¬ AutoP ar x) := ⟨⟨fun h hp => (by unfold autoOk at h; rw [decC_t hp] at h; cases h), decC_f⟩⟩

theorem l23Set_spec {w0 : World} {Γ : List Atom} {v : Value} {xs : List Int} {n : Int} [h : HasRd (List Int) repList Γ [v] xs] (hn : 1 ≤ n ∧ n ≤ 16) : CJ Tryz.prog 44 [v, .int .i64 n] w0 Γ (fun _ : Unit => .bool (decC (SetP n xs xs.length))) (fun _ => Γ) := by
  refine cj_lift (R := [.rd [v] xs]) (A := fun _ => []) (fun w1 => ?_) (reads_cons h (inferInstance)) (fun _ => inferInstance)
  simp only [List.cons_append, List.nil_append]
  refine cj_len v fun hlx => ?_
  refine cj_enter Tryz.func44 Tryz.ntmps44 ?_
  repeat' (first | refine red ?_ | fail)
  refine wc_loop_c [5] [6, 7, 8, 9, 12, 13, 14, 15, 16, 17, 18, 19, 20, 21, 22, 23, 24, 25, 26, 27, 28, 29, 30, 31, 32, 33, 34, 35, 4, 10, 11] (ι := Nat) (fun k => [.int .i64 k]) (fun k => k ≤ xs.length ∧ SetP n xs k) (fun k => xs.length - k) 0 (by kernel_rfl) ⟨Nat.zero_le _, fun i hi => by omega⟩ ?_
  intro k u l' hl' ⟨hk, hkk⟩
  simp only [patch, List.map_cons, List.map_nil, List.set_cons_zero, List.set_cons_succ] at hl'
  subst hl'
  repeat' (first | refine red ?_ | refine reds ?_ | (refine redi (fun hc => ?_) (fun hc => ?_) <;> try first | (exfalso; omega) | exact absurd rfl hc) | ((refine wa_begin 4 [false, false, false, false, false, false, false, false, false, false, false, false, false, false, false, false, false, false, false, false, false, false, false, false] [] ?_ <;> refine wa_p 0 ?_ <;> refine wa_p 1 ?_ <;> refine wa_p 2 ?_ <;> (first | refine wa_f 3 fun hbi => ?_ | fail) <;> refine wa_p 4 ?_ <;> (first | refine wa_p 5 ?_ | fail) <;> (refine wa_do 6 ?_ <;> (repeat' (first | refine red ?_ | refine redc fun r => ?_ | fail))) <;> (first | refine wa_p 7 ?_ | fail) <;> refine wa_p 8 ?_ <;> (first | (refine wa_if 20 (fun hc => ?_) (fun hc => ?_) <;> (try first | (exfalso; omega) | exact absurd rfl hc) <;> first | refine wa_pg 9 ?_ | refine wa_no 9 ?_) | fail) <;> (first | refine wa_pg 10 ?_ | refine wa_no 10 ?_ | fail) <;> (first | refine wa_pg 11 ?_ | refine wa_no 11 ?_ | fail) <;> (first | refine wa_no 12 ?_ | (refine wa_if 23 (fun hc => ?_) (fun hc => ?_) <;> (try first | (exfalso; omega) | exact absurd rfl hc) <;> first | refine wa_pg 12 ?_ | refine wa_no 12 ?_) | fail) <;> (first | refine wa_pg 13 ?_ | refine wa_no 13 ?_ | fail) <;> (first | refine wa_pg 14 ?_ | refine wa_no 14 ?_ | fail) <;> (first | refine wa_pg 15 ?_ | refine wa_no 15 ?_ | fail) <;> (first | refine wa_pg 16 ?_ | refine wa_no 16 ?_ | fail) <;> (first | refine wa_pg 17 ?_ | refine wa_no 17 ?_ | fail) <;> (first | refine wa_pg 18 ?_ | refine wa_no 18 ?_ | fail) <;> (first | refine wa_pg 19 ?_ | refine wa_no 19 ?_ | fail) <;> (first | refine wa_pg 20 ?_ | refine wa_no 20 ?_ | fail) <;> (first | refine wa_pg 21 ?_ | refine wa_no 21 ?_ | fail) <;> (first | refine wa_pg 22 ?_ | refine wa_no 22 ?_ | fail) <;> (first | refine wa_p 23 ?_ | fail)) <;> (refine wa_end ?_)) | fail)
  · exact ⟨(), ret_bool (decC_f fun h => hc (by have := (h k (by omega)).1; omega)), ent_e⟩
  · exact ⟨(), ret_bool (decC_f fun h => by have := (h k (by omega)).2 (by omega); omega), ent_e⟩
  · exact wq_next (k + 1) ⟨by omega, setP_next hkk (by omega) (fun _ => by omega)⟩ (by omega) (by kernel_rfl) ent_e
  · exact wq_next (k + 1) ⟨by omega, setP_next hkk (by omega) (fun _ => by omega)⟩ (by omega) (by kernel_rfl) ent_e
  · exact ⟨(), ret_bool (decC_t (by rw [show xs.length = k by omega]; exact hkk)), ent_e⟩
instance l23Set_ctr {Γ : List Atom} {v : Value} {xs : List Int} {n : Int} [h : HasRd (List Int) repList Γ [v] xs] :
    CtrC Tryz.prog 44 [v, .int .i64 n] Γ (1 ≤ n ∧ n ≤ 16) (Unit) (fun _ : Unit => .bool (decC (SetP n xs xs.length))) (fun _ => Γ) := ⟨fun s w0 => l23Set_spec s⟩

theorem l23Trans_spec {w0 : World} {Γ : List Atom} {v v1 : Value} {ar : List Int} {n : Int} {tr : STrans} [h : HasRd (List Int) repList Γ [v] ar] [h1 : HasRd (List Int) repList Γ [v1] tr.2.1] (hn : 1 ≤ n ∧ n ≤ 16) : CJ Tryz.prog 45 [.agg #[v], .int .i64 n, .agg #[.int .i64 tr.1, v1, .int .i64 tr.2.2]] w0 Γ (fun _ : Unit => .bool (decC (TransP ar n tr))) (fun _ => Γ) := by
  refine cj_lift (R := [.rd [v] ar, .rd [v1] tr.2.1]) (A := fun _ => []) (fun w1 => ?_) (reads_cons h (reads_cons h1 (inferInstance))) (fun _ => inferInstance)
  simp only [List.cons_append, List.nil_append]
  refine cj_len v fun hlx => ?_
  refine cj_len v1 fun hly => ?_
  refine cj_enter Tryz.func45 Tryz.ntmps45 ?_
  repeat' (first | refine red ?_ | refine redn fun b => ?_ | (refine redi (fun hc => ?_) (fun hc => ?_) <;> try first | (exfalso; omega) | exact absurd rfl hc) | ((refine wa_begin 1 [false, false, false, false, false, false, false, false, false, false, false, false, false, false, false, false, false, false, false, false, false, false, false, false, false, false, false, false] [] ?_ <;> (first | refine wa_p 0 ?_ | fail) <;> (first | refine wa_p 1 ?_ | fail) <;> (first | refine wa_p 2 ?_ | fail) <;> (first | refine wa_p 3 ?_ | fail) <;> (first | refine wa_p 4 ?_ | fail) <;> (first | refine wa_p 5 ?_ | fail) <;> (refine wa_do 6 ?_ <;> (repeat' (first | refine red ?_ | refine redc fun r => ?_ | fail))) <;> (first | refine wa_p 7 ?_ | fail) <;> refine wa_p 8 ?_ <;> (first | (refine wa_if 16 (fun hc => ?_) (fun hc => ?_) <;> (try first | (exfalso; omega) | exact absurd rfl hc) <;> first | refine wa_pg 9 ?_ | refine wa_no 9 ?_) | fail) <;> (first | refine wa_pg 10 ?_ | refine wa_no 10 ?_ | fail) <;> (first | refine wa_pg 11 ?_ | refine wa_no 11 ?_ | fail) <;> (first | refine wa_pg 12 ?_ | refine wa_no 12 ?_ | fail) <;> (first | refine wa_pg 13 ?_ | refine wa_no 13 ?_ | fail) <;> (first | refine wa_pg 14 ?_ | refine wa_no 14 ?_ | fail) <;> (first | refine wa_pg 15 ?_ | refine wa_no 15 ?_ | fail) <;> (first | refine wa_pg 16 ?_ | refine wa_no 16 ?_ | fail) <;> (first | refine wa_pg 17 ?_ | refine wa_no 17 ?_ | fail) <;> (first | refine wa_pg 18 ?_ | refine wa_no 18 ?_ | fail) <;> (first | refine wa_p 19 ?_ | fail) <;> refine wa_p 20 ?_ <;> (first | refine wa_no 21 ?_ | (refine wa_if 28 (fun hc => ?_) (fun hc => ?_) <;> (try first | (exfalso; omega) | exact absurd rfl hc) <;> first | refine wa_pg 21 ?_ | refine wa_no 21 ?_) | fail) <;> (first | refine wa_pg 22 ?_ | refine wa_no 22 ?_ | fail) <;> (first | refine wa_pg 23 ?_ | refine wa_no 23 ?_ | fail) <;> (first | refine wa_pg 24 ?_ | refine wa_no 24 ?_ | fail) <;> (refine wa_do 25 ?_ <;> (repeat' (first | refine red ?_ | refine redc fun r => ?_ | fail))) <;> (first | refine wa_pg 26 ?_ | refine wa_no 26 ?_ | fail) <;> (first | refine wa_p 27 ?_ | fail)) <;> (refine wa_end ?_)) | fail)
  · exact ⟨(), ret_bool (decC_f fun h => hc (by have := h.1; omega)), ent_e⟩
  · exact ⟨(), ret_bool (decC_f fun h => hc (by have := h.2.1; omega)), ent_e⟩
  · exact ⟨(), ret_bool (decC_f fun h => hc (by have := h.2.2.2; omega)), ent_e⟩
  refine wc_loop_c [7] [36, 37, 38, 39, 40, 43, 44, 45, 46, 47, 48, 49, 50, 51, 6, 41, 42] (ι := Nat) (fun k => [.int .i64 k]) (fun k => k ≤ tr.2.1.length ∧ AllS n tr.2.1 k) (fun k => tr.2.1.length - k) 0 (by kernel_rfl) ⟨Nat.zero_le _, fun i hi => by omega⟩ ?_
  intro k u l' hl' ⟨hk, hkk⟩
  simp only [patch, List.map_cons, List.map_nil, List.set_cons_zero, List.set_cons_succ] at hl'
  subst hl'
  repeat' (first | refine red ?_ | refine redf fun hbi => ?_ | refine reds ?_ | refine redc fun r => ?_ | (refine redi (fun hc => ?_) (fun hc => ?_) <;> try first | (exfalso; omega) | exact absurd rfl hc) | fail)
  · exact ⟨(), ret_bool (decC_f fun h => hc (by have := h.2.2.1 k (by omega); omega)), ent_e⟩
  · exact wq_next (k + 1) ⟨by omega, allS_next hkk (by omega)⟩ (by omega) (by kernel_rfl) ent_e
  · exact ⟨(), ret_bool (decC_t ⟨by omega, by omega, by rw [show tr.2.1.length = k by omega]; exact hkk, by omega⟩), ent_e⟩
instance l23Trans_ctr {Γ : List Atom} {v v1 : Value} {ar : List Int} {n : Int} {tr : STrans} [h : HasRd (List Int) repList Γ [v] ar] [h1 : HasRd (List Int) repList Γ [v1] tr.2.1] :
    CtrC Tryz.prog 45 [.agg #[v], .int .i64 n, .agg #[.int .i64 tr.1, v1, .int .i64 tr.2.2]] Γ (1 ≤ n ∧ n ≤ 16) (Unit) (fun _ : Unit => .bool (decC (TransP ar n tr))) (fun _ => Γ) := ⟨fun s w0 => l23Trans_spec s⟩

theorem l23From_spec {w0 : World} {Γ : List Atom} {v v1 : Value} {tr ts : STrans} [h : HasRd (List Int) repList Γ [v] tr.2.1] [h1 : HasRd (List Int) repList Γ [v1] ts.2.1] : CJ Tryz.prog 46 [.agg #[.int .i64 tr.1, v, .int .i64 tr.2.2], .agg #[.int .i64 ts.1, v1, .int .i64 ts.2.2]] w0 Γ (fun _ : Unit => .bool (decide (tr.1 = ts.1 ∧ tr.2.1 = ts.2.1))) (fun _ => Γ) := by
  refine cj_lift (R := [.rd [v] tr.2.1, .rd [v1] ts.2.1]) (A := fun _ => []) (fun w1 => ?_) (reads_cons h (reads_cons h1 (inferInstance))) (fun _ => inferInstance)
  simp only [List.cons_append, List.nil_append]
  refine cj_enter Tryz.func46 Tryz.ntmps46 ?_
  repeat' (first | refine red ?_ | refine redc fun r => ?_ | refine redn fun b => ?_ | (refine redi (fun hc => ?_) (fun hc => ?_) <;> try first | (exfalso; omega) | exact absurd rfl hc) | fail)
  · exact ⟨(), ret_bool (decide_eq_decide.2 ⟨fun h => h.2, fun h => ⟨hc, h⟩⟩), ent_e⟩
  · exact ⟨(), ret_bool (decide_eq_false fun h => hc h.1), ent_e⟩
instance l23From_ctr {Γ : List Atom} {v v1 : Value} {tr ts : STrans} [h : HasRd (List Int) repList Γ [v] tr.2.1] [h1 : HasRd (List Int) repList Γ [v1] ts.2.1] :
    CtrC Tryz.prog 46 [.agg #[.int .i64 tr.1, v, .int .i64 tr.2.2], .agg #[.int .i64 ts.1, v1, .int .i64 ts.2.2]] Γ (True) (Unit) (fun _ : Unit => .bool (decide (tr.1 = ts.1 ∧ tr.2.1 = ts.2.1))) (fun _ => Γ) := ⟨fun s w0 => l23From_spec⟩

theorem pairsP_next {rs : List STrans} {i m : Nat} (h : ∀ k, k < m → rs.getD k default ≠ rs.getD i default) (h1 : rs.getD m default ≠ rs.getD i default) : ∀ k, k < m + 1 → rs.getD k default ≠ rs.getD i default := by
  intro k hk
  by_cases he : k = m
  · rw [he]; exact h1
  · exact h k (by omega)
theorem trans_eq {a b : STrans} : a = b ↔ (a.1 = b.1 ∧ a.2.1 = b.2.1) ∧ a.2.2 = b.2.2 := by
  constructor
  · intro h; rw [h]; exact ⟨⟨rfl, rfl⟩, rfl⟩
  · rintro ⟨⟨h1, h2⟩, h3⟩; exact Prod.ext h1 (Prod.ext h2 h3)
set_option maxHeartbeats 1000000 in
theorem spec_AutoOk_spec {w0 : World} {Γ : List Atom} {v v0 v1 : Value} {ar : List Int} {x : SAuto} [h : HasRd (List Int) repList Γ [v] ar] [h0 : HasRd (List STrans) repList Γ [v0] x.2.1] [h1 : HasRd (List Int) repList Γ [v1] x.2.2] : CJ Tryz.prog 13 [.agg #[v], .agg #[.int .i64 x.1, v0, v1]] w0 Γ (fun _ : Unit => .bool (autoOk ar x)) (fun _ => Γ) := by
  refine cj_lift (R := [.rd [v] ar, .rd [v0] x.2.1, .rd [v1] x.2.2]) (A := fun _ => []) (fun w1 => ?_) (reads_cons h (reads_cons h0 (reads_cons h1 (inferInstance)))) (fun _ => inferInstance)
  simp only [List.cons_append, List.nil_append]
  refine cj_len v fun hlx => ?_
  refine cj_len v0 fun hly => ?_
  refine cj_len v1 fun hlz => ?_
  refine cj_enter Tryz.func13 Tryz.ntmps13 ?_
  repeat' (first | refine red ?_ | refine redc fun r => ?_ | refine redn fun b => ?_ | (refine redi (fun hc => ?_) (fun hc => ?_) <;> try first | (exfalso; omega) | exact absurd rfl hc) | fail)
  · exact ⟨(), ret_bool (decC_f fun h => by rw [h.1] at hc; cases hc), ent_e⟩
  · exact ⟨(), ret_bool (decC_f fun h => hc h.2.1), ent_e⟩
  · exact ⟨(), ret_bool (decC_f fun h => by have := h.2.2.1; omega), ent_e⟩
  · exact ⟨(), ret_bool (decC_f fun h => by have := setP_len h.2.2.2.1 (by omega); omega), ent_e⟩
  · exact ⟨(), ret_bool (decC_f fun h => hc h.2.2.2.1), ent_e⟩
  refine wc_loop_c [5] [38, 39, 40, 41, 42, 45, 46, 47, 48, 49, 50, 51, 52, 53, 54, 4, 6, 55, 56, 57, 60, 61, 62, 63, 64, 65, 66, 67, 68, 69, 70, 71, 72, 73, 74, 75, 76, 77, 78, 79, 80, 81, 82, 83, 84, 85, 58, 59, 43, 44] (ι := Nat) (fun k => [.int .i64 k]) (fun k => k ≤ x.2.1.length ∧ RulesP ar x.1 x.2.1 k) (fun k => x.2.1.length - k) 0 (by kernel_rfl) ⟨Nat.zero_le _, fun i hi => by omega⟩ ?_
  intro k u l' hl' ⟨hk, hkk⟩
  simp only [patch, List.map_cons, List.map_nil, List.set_cons_zero, List.set_cons_succ] at hl'
  subst hl'
  repeat' (first | refine red ?_ | (refine redi (fun hc => ?_) (fun hc => ?_) <;> try first | (exfalso; omega) | exact absurd rfl hc) | ((refine wa_begin 6 [false, false, false, false, false, false, false, false, false, false] [] ?_ <;> refine wa_p 0 ?_ <;> (first | refine wa_p 1 ?_ | fail) <;> (first | refine wa_p 2 ?_ | fail) <;> (first | refine wa_p 3 ?_ | fail) <;> (first | refine wa_p 4 ?_ | fail) <;> refine wa_p 5 ?_ <;> (first | (refine wa_deep 6 fun p cs as_ asb_ hcs has hasb hf => ?_; simp only [Un.cells, Un.atoms, Un.fact, List.cons_append, List.nil_append] at hcs has hasb hf; subst hcs has hasb) | fail) <;> (first | refine wa_p 7 ?_ | fail) <;> (refine wa_do 8 ?_ <;> (repeat' (first | refine red ?_ | refine redc fun r => ?_ | fail))) <;> (first | refine wa_p 9 ?_ | fail)) <;> (refine wa_end ?_)) | fail)
  · exact ⟨(), ret_bool (decC_f fun h => hc (h.2.2.2.2 k (by omega)).1), ent_e⟩
  · refine wc_loop_c [6] [55, 56, 57, 60, 61, 62, 63, 64, 65, 66, 67, 68, 69, 70, 71, 72, 73, 74, 75, 76, 77, 78, 79, 80, 81, 82, 83, 84, 85, 4, 58, 59] (ι := Nat) (fun j => [.int .i64 j]) (fun j => j ≤ k ∧ ∀ i, i < j → x.2.1.getD i default ≠ x.2.1.getD k default) (fun j => k - j) 0 (by kernel_rfl) ⟨Nat.zero_le _, fun i hi => by omega⟩ ?_
    intro j u l' hl' ⟨hj, hjj⟩
    simp only [patch, List.map_cons, List.map_nil, List.set_cons_zero, List.set_cons_succ] at hl'
    subst hl'
    repeat' (first | refine red ?_ | refine reds ?_ | (refine redi (fun hc => ?_) (fun hc => ?_) <;> try first | (exfalso; omega) | exact absurd rfl hc) | ((refine wa_begin 11 [false, false, false, false, false, false, false, false, false, false, false, false, false, false, false, false, false, false, false, false, false, false, false, false, false, false] [] ?_ <;> (first | refine wa_p 0 ?_ | fail) <;> (first | refine wa_p 1 ?_ | fail) <;> refine wa_p 2 ?_ <;> (first | (refine wa_deep 3 fun p cs as_ asb_ hcs has hasb hf => ?_; simp only [Un.cells, Un.atoms, Un.fact, List.cons_append, List.nil_append] at hcs has hasb hf; subst hcs has hasb) | fail) <;> (first | refine wa_p 4 ?_ | fail) <;> (first | refine wa_p 5 ?_ | fail) <;> (first | refine wa_p 6 ?_ | fail) <;> refine wa_p 7 ?_ <;> (first | refine wa_p 8 ?_ | fail) <;> (first | refine wa_p 9 ?_ | fail) <;> (refine wa_do 10 ?_ <;> (repeat' (first | refine red ?_ | refine redc fun r => ?_ | fail))) <;> refine wa_p 11 ?_ <;> (first | (refine wa_if 71 (fun hc => ?_) (fun hc => ?_) <;> (try first | (exfalso; omega) | exact absurd rfl hc) <;> first | refine wa_pg 12 ?_ | refine wa_no 12 ?_) | fail) <;> (first | refine wa_pg 13 ?_ | refine wa_no 13 ?_ | fail) <;> (first | refine wa_pg 14 ?_ | refine wa_no 14 ?_ | fail) <;> (first | refine wa_pg 15 ?_ | refine wa_no 15 ?_ | fail) <;> (first | refine wa_pg 16 ?_ | refine wa_no 16 ?_ | fail) <;> (first | refine wa_pg 17 ?_ | refine wa_no 17 ?_ | fail) <;> (first | refine wa_pg 18 ?_ | refine wa_no 18 ?_ | fail) <;> (first | refine wa_pg 19 ?_ | refine wa_no 19 ?_ | fail) <;> (first | refine wa_pg 20 ?_ | refine wa_no 20 ?_ | fail) <;> (first | refine wa_pg 21 ?_ | refine wa_no 21 ?_ | fail) <;> (first | refine wa_pg 22 ?_ | refine wa_no 22 ?_ | fail) <;> (first | refine wa_pg 23 ?_ | refine wa_no 23 ?_ | fail) <;> (first | refine wa_pg 24 ?_ | refine wa_no 24 ?_ | fail) <;> (first | refine wa_p 25 ?_ | fail)) <;> (refine wa_end ?_)) | fail)
    · exact ⟨(), ret_bool (decC_f fun h => (h.2.2.2.2 k (by omega)).2 j (by omega) (trans_eq.2 ⟨by assumption, by assumption⟩)), ent_e⟩
    · exact wq_next (j + 1) ⟨by omega, pairsP_next hjj (fun he => hc (trans_eq.1 he).2)⟩ (by omega) (by kernel_rfl) ent_e
    · exact wq_next (j + 1) ⟨by omega, pairsP_next hjj (fun he => hc (trans_eq.1 he).1)⟩ (by omega) (by kernel_rfl) ent_e
    · exact wq_next (k + 1) ⟨by omega, rulesP_next hkk (by assumption) (by rw [show k = j by omega] at hjj ⊢; exact hjj)⟩ (by omega) (by kernel_rfl) ent_e
  · exact ⟨(), ret_bool (decC_t ⟨by assumption, by assumption, by omega, by assumption, by rw [show x.2.1.length = k by omega]; exact hkk⟩), ent_e⟩

instance spec_AutoOk_ctr {Γ : List Atom} {v v0 v1 : Value} {ar : List Int} {x : SAuto} [h : HasRd (List Int) repList Γ [v] ar] [h0 : HasRd (List STrans) repList Γ [v0] x.2.1] [h1 : HasRd (List Int) repList Γ [v1] x.2.2] :
    CtrC Tryz.prog 13 [.agg #[v], .agg #[.int .i64 x.1, v0, v1]] Γ (True) (Unit) (fun _ : Unit => .bool (autoOk ar x)) (fun _ => Γ) := ⟨fun s w0 => spec_AutoOk_spec⟩

end Go.Proofs.YtbbdjjlnachnlaaGreatDoor
