/- Functional programs: their lines; the reference's side. -/
import Derived.Test.YtimniaojfchoiaaKids
import Derived.Test.YtimniaojfchoiaaCat2
namespace Go.Proofs.Ytimniaojfchoiaa
open Go Go.Eng
set_option linter.unusedVariables false
set_option linter.unusedSimpArgs false
set_option synthInstance.maxHeartbeats 400000
set_option synthInstance.maxSize 1000

def leftL (x : SLine) : List Int := x.1 :: x.2.1.flatten
def WoP (t syms : List Int) (k : Nat) : Prop := ∀ i, i < k → t.getD i 0 ∉ syms
def LinP (t : List Int) (k : Nat) : Prop := ∀ i, i < k → t.getD i 0 < 0 → t.getD i 0 ∉ t.take i
def PatP (f : SFront) (x : SLine) (k : Nat) : Prop := ∀ i, i < k → termOk f.1 (x.2.1.getD i default) = true ∧ WoP (x.2.1.getD i default) f.2.1 (x.2.1.getD i default).length
def LineP (f : SFront) (x : SLine) : Prop := x.1 ∈ f.2.1 ∧ (x.2.1.length : Int) = f.1.getD x.1.toNat 0 ∧ PatP f x x.2.1.length ∧ ruleOk f.1 (leftL x, x.2.2) = true ∧ LinP (leftL x) (leftL x).length
def LinesP (f : SFront) (k : Nat) : Prop := ∀ i, i < k → LineP f (f.2.2.getD i default)
def FrontP (f : SFront) : Prop := sigOk f.1 = true ∧ SetP f.1.length f.2.1 f.2.1.length ∧ f.2.2.length ≤ 8 ∧ LinesP f f.2.2.length
structure Fr0 (f : SFront) : Prop where
  sig : sigOk f.1 = true
  set : SetP f.1.length f.2.1 f.2.1.length
theorem fr_in {f : SFront} (h : Fr0 f) {n : Int} (hn : n ∈ f.2.1) : 0 ≤ n ∧ n < f.1.length := by
  obtain ⟨i, hi, rfl⟩ := List.getElem_of_mem hn
  have := (h.set i hi).1
  rw [List.getD_eq_getElem?_getD, List.getElem?_eq_getElem hi] at this
  exact this
theorem fr_ar {f : SFront} (h : Fr0 f) {n : Int} (hn : n ∈ f.2.1) : 0 ≤ f.1.getD n.toNat 0 ∧ f.1.getD n.toNat 0 ≤ 3 := by
  have := fr_in h hn
  exact sigOk_get h.sig (by omega)
theorem wo_next {t syms : List Int} {k : Nat} (h : WoP t syms k) (h1 : t.getD k 0 ∉ syms) : WoP t syms (k + 1) := fun i hi => by
  by_cases e : i = k
  · rw [e]; exact h1
  · exact h i (by omega)
theorem lin_next {t : List Int} {k : Nat} (h : LinP t k) (h1 : t.getD k 0 < 0 → t.getD k 0 ∉ t.take k) : LinP t (k + 1) := fun i hi => by
  by_cases e : i = k
  · rw [e]; exact h1
  · exact h i (by omega)
theorem pat_next {f : SFront} {x : SLine} {k : Nat} (h : PatP f x k) (h1 : termOk f.1 (x.2.1.getD k default) = true) (h2 : WoP (x.2.1.getD k default) f.2.1 (x.2.1.getD k default).length) : PatP f x (k + 1) := fun i hi => by
  by_cases e : i = k
  · rw [e]; exact ⟨h1, h2⟩
  · exact h i (by omega)
theorem lines_next {f : SFront} {k : Nat} (h : LinesP f k) (h1 : LineP f (f.2.2.getD k default)) : LinesP f (k + 1) := fun i hi => by
  by_cases e : i = k
  · rw [e]; exact h1
  · exact h i (by omega)
/-! the number of times that a number stands in a list -/
def cntT (t : List Int) (n : Int) : Nat → Nat
  | 0 => 0
  | k + 1 => cntT t n k + if t.getD k 0 = n then 1 else 0
theorem cntT_le (t : List Int) (n : Int) : ∀ k, cntT t n k ≤ k
  | 0 => Nat.le_refl _
  | k + 1 => by
    have := cntT_le t n k
    unfold cntT
    split <;> omega
theorem cntT_pos {t : List Int} {n : Int} : ∀ {k : Nat}, k ≤ t.length → (1 ≤ cntT t n k ↔ n ∈ t.take k)
  | 0, _ => by simp [cntT]
  | k + 1, h => by
    rw [mem_take_succ (by omega), ← cntT_pos (by omega)]
    show 1 ≤ cntT t n k + (if t.getD k 0 = n then 1 else 0) ↔ _
    split
    · rename_i e; exact ⟨fun _ => .inr e.symm, fun _ => by omega⟩
    · rename_i e; exact ⟨fun h => .inl (by omega), fun h => h.elim (fun h => by omega) (fun h => absurd h.symm e)⟩
theorem lin_cnt {t : List Int} : LinP t t.length ↔ ∀ i, i < t.length → t.getD i 0 < 0 → cntT t (t.getD i 0) t.length ≤ 1 := by
  constructor
  · intro h i hi h0
    have key : ∀ k, k ≤ t.length → cntT t (t.getD i 0) k ≤ 1 := fun k => by
      induction k with
      | zero => intro _; exact Nat.zero_le _
      | succ k ih =>
        intro hk
        have h1 := ih (by omega)
        show cntT t (t.getD i 0) k + (if t.getD k 0 = t.getD i 0 then 1 else 0) ≤ 1
        split
        · rename_i e
          have h2 := h k (by omega) (by rw [e]; exact h0)
          rw [e] at h2
          have h3 : ¬ 1 ≤ cntT t (t.getD i 0) k := fun h4 => h2 ((cntT_pos (t := t) (n := t.getD i 0) (k := k) (by omega)).1 h4)
          omega
        · omega
    exact key _ (Nat.le_refl _)
  · intro h i hi h0 hm
    have h1 := h i hi h0
    have h2 := (cntT_pos (t := t) (n := t.getD i 0) (k := i) (by omega)).2 hm
    have key : ∀ j, i + 1 + j ≤ t.length → 2 ≤ cntT t (t.getD i 0) (i + 1 + j) := fun j => by
      induction j with
      | zero =>
        intro _
        show 2 ≤ cntT t (t.getD i 0) i + _
        rw [if_pos rfl]; omega
      | succ j ih =>
        intro hj
        have := ih (by omega)
        show 2 ≤ cntT t (t.getD i 0) (i + 1 + j) + _
        split <;> omega
    have := key (t.length - (i + 1)) (by omega)
    rw [show i + 1 + (t.length - (i + 1)) = t.length by omega] at this
    omega
theorem l1Count_spec {w0 : World} {Γ : List Atom} {v : Value} {t : List Int} {n : Int} [h : HasRd (List Int) repList Γ [v] t] (hl : t.length ≤ 1048576) : CJ Try.prog 187 [v, .int .i64 n] w0 Γ (fun _ : Unit => .int .i64 (cntT t n t.length : Nat)) (fun _ => Γ) := by
  refine cj_lift (R := [.rd [v] t]) (A := fun _ => []) (fun w1 => ?_) (reads_cons h (inferInstance)) (fun _ => inferInstance)
  simp only [List.cons_append, List.nil_append]
  refine cj_enter Try.func187 Try.ntmps187 ?_
  repeat' (first
    | refine red ?_
    | refine redf fun hbi => ?_
    | refine reds ?_
    | refine redc fun r => ?_
    | refine redp (fun r => ?_) (fun r => ?_)
    | refine redv fun sv => ?_
    | refine redn fun b => ?_
    | refine redz fun zs => ?_
    | refine redq (fun hc => ?_) (fun hc => ?_)
    | with_reducible refine wq_blk_o rfl ?_
    | (refine redd fun p cs as_ hcs has hf => ?_; simp only [Un.cells, Un.atoms, Un.fact, List.cons_append, List.nil_append] at hcs has hf; subst hcs has)
    | (refine redi (fun hc => ?_) (fun hc => ?_) <;> try first | (exfalso; omega) | exact absurd rfl hc)
    | fail)
  refine wc_loop_c [5, 6] [7, 8, 9, 10, 13, 14, 15, 16, 17, 18, 19, 20, 11, 12] (ι := Nat) (fun k => [.int .i64 (cntT t n k : Nat), .int .i64 k]) (fun k => k ≤ t.length) (fun k => t.length - k) 0 (by kernel_rfl) (Nat.zero_le _) ?_
  intro k u l' hl' hk
  simp only [patch, List.map_cons, List.map_nil, List.set_cons_zero, List.set_cons_succ] at hl'
  subst hl'
  have hle := cntT_le t n k
  repeat' (first
    | refine red ?_
    | refine redf fun hbi => ?_
    | refine reds ?_
    | refine redc fun r => ?_
    | refine redp (fun r => ?_) (fun r => ?_)
    | refine redv fun sv => ?_
    | refine redn fun b => ?_
    | refine redz fun zs => ?_
    | refine redq (fun hc => ?_) (fun hc => ?_)
    | with_reducible refine wq_blk_o rfl ?_
    | (refine redd fun p cs as_ hcs has hf => ?_; simp only [Un.cells, Un.atoms, Un.fact, List.cons_append, List.nil_append] at hcs has hf; subst hcs has)
    | (refine redi (fun hc => ?_) (fun hc => ?_) <;> try first | (exfalso; omega) | exact absurd rfl hc)
    | fail)
  · have e : cntT t n (k + 1) = cntT t n k + 1 := by show _ + _ = _; rw [if_pos hc]
    refine wq_next (k + 1) (by omega) (by omega) ?_ ent_e
    rw [e]
    kernel_rfl
  · have e : cntT t n (k + 1) = cntT t n k := by show _ + _ = _; rw [if_neg hc]; rfl
    refine wq_next (k + 1) (by omega) (by omega) ?_ ent_e
    rw [e]
    kernel_rfl
  · exact ⟨(), ret_int (by rw [show k = t.length by omega]), ent_e⟩
instance l1Count_ctr {Γ : List Atom} {v : Value} {t : List Int} {n : Int} [h : HasRd (List Int) repList Γ [v] t] :
    CtrC Try.prog 187 [v, .int .i64 n] Γ (t.length ≤ 1048576) (Unit) (fun _ : Unit => .int .i64 (cntT t n t.length : Nat)) (fun _ => Γ) := ⟨fun s w0 => l1Count_spec s⟩

theorem l2Linear_spec {w0 : World} {Γ : List Atom} {v : Value} {t : List Int} [h : HasRd (List Int) repList Γ [v] t] (hl : t.length ≤ 1048576) : CJ Try.prog 179 [v] w0 Γ (fun _ : Unit => .bool (decC (LinP t t.length))) (fun _ => Γ) := by
  refine cj_lift (R := [.rd [v] t]) (A := fun _ => []) (fun w1 => ?_) (reads_cons h (inferInstance)) (fun _ => inferInstance)
  simp only [List.cons_append, List.nil_append]
  refine cj_enter Try.func179 Try.ntmps179 ?_
  repeat' (first
    | refine red ?_
    | refine redf fun hbi => ?_
    | refine reds ?_
    | refine redc fun r => ?_
    | refine redp (fun r => ?_) (fun r => ?_)
    | refine redv fun sv => ?_
    | refine redn fun b => ?_
    | refine redz fun zs => ?_
    | refine redq (fun hc => ?_) (fun hc => ?_)
    | with_reducible refine wq_blk_o rfl ?_
    | (refine redd fun p cs as_ hcs has hf => ?_; simp only [Un.cells, Un.atoms, Un.fact, List.cons_append, List.nil_append] at hcs has hf; subst hcs has)
    | (refine redi (fun hc => ?_) (fun hc => ?_) <;> try first | (exfalso; omega) | exact absurd rfl hc)
    | fail)
  refine wc_loop_c [3] [4, 5, 6, 7, 10, 11, 12, 13, 14, 15, 16, 17, 18, 19, 20, 21, 22, 23, 2, 8, 9] (ι := Nat) (fun k => [.int .i64 k]) (fun k => k ≤ t.length ∧ ∀ i, i < k → t.getD i 0 < 0 → cntT t (t.getD i 0) t.length ≤ 1) (fun k => t.length - k) 0 (by kernel_rfl) ⟨Nat.zero_le _, fun i hi => by omega⟩ ?_
  intro k u l' hl' ⟨hk, hkk⟩
  simp only [patch, List.map_cons, List.map_nil, List.set_cons_zero, List.set_cons_succ] at hl'
  subst hl'
  repeat' (first
    | refine red ?_
    | refine redf fun hbi => ?_
    | refine reds ?_
    | refine redc fun r => ?_
    | refine redp (fun r => ?_) (fun r => ?_)
    | refine redv fun sv => ?_
    | refine redn fun b => ?_
    | refine redz fun zs => ?_
    | refine redq (fun hc => ?_) (fun hc => ?_)
    | with_reducible refine wq_blk_o rfl ?_
    | (refine redd fun p cs as_ hcs has hf => ?_; simp only [Un.cells, Un.atoms, Un.fact, List.cons_append, List.nil_append] at hcs has hf; subst hcs has)
    | (refine redi (fun hc => ?_) (fun hc => ?_) <;> try first | (exfalso; omega) | exact absurd rfl hc)
    | fail)
  · exact ⟨(), ret_bool (decC_f fun h => by have := lin_cnt.1 h k (by omega) (by omega); omega), ent_e⟩
  · refine wq_next (k + 1) ⟨by omega, fun i hi h0 => ?_⟩ (by omega) (by kernel_rfl) ent_e
    by_cases e : i = k
    · rw [e]; omega
    · exact hkk i (by omega) h0
  · refine wq_next (k + 1) ⟨by omega, fun i hi h0 => ?_⟩ (by omega) (by kernel_rfl) ent_e
    by_cases e : i = k
    · rw [e] at h0; omega
    · exact hkk i (by omega) h0
  · exact ⟨(), ret_bool (decC_t (lin_cnt.2 (by rw [show t.length = k by omega] at hkk ⊢; exact hkk))), ent_e⟩
instance l2Linear_ctr {Γ : List Atom} {v : Value} {t : List Int} [h : HasRd (List Int) repList Γ [v] t] :
    CtrC Try.prog 179 [v] Γ (t.length ≤ 1048576) (Unit) (fun _ : Unit => .bool (decC (LinP t t.length))) (fun _ => Γ) := ⟨fun s w0 => l2Linear_spec s⟩

theorem LinearIn_spec {w0 : World} {Γ : List Atom} {v v1 : Value} {a t : List Int} [h : HasRd (List Int) repList Γ [v] a] [h1 : HasRd (List Int) repList Γ [v1] t] (hl : t.length ≤ 1048576) : CJ Try.prog 162 [.agg #[v], v1] w0 Γ (fun _ : Unit => .bool (termOk a t && decC (LinP t t.length))) (fun _ => Γ) := by
  refine cj_lift (R := [.rd [v] a, .rd [v1] t]) (A := fun _ => []) (fun w1 => ?_) (reads_cons h (reads_cons h1 (inferInstance))) (fun _ => inferInstance)
  simp only [List.cons_append, List.nil_append]
  refine cj_enter Try.func162 Try.ntmps162 ?_
  repeat' (first
    | refine red ?_
    | refine redf fun hbi => ?_
    | refine reds ?_
    | refine redc fun r => ?_
    | refine redp (fun r => ?_) (fun r => ?_)
    | refine redv fun sv => ?_
    | refine redn fun b => ?_
    | refine redz fun zs => ?_
    | refine redq (fun hc => ?_) (fun hc => ?_)
    | with_reducible refine wq_blk_o rfl ?_
    | (refine redd fun p cs as_ hcs has hf => ?_; simp only [Un.cells, Un.atoms, Un.fact, List.cons_append, List.nil_append] at hcs has hf; subst hcs has)
    | (refine redi (fun hc => ?_) (fun hc => ?_) <;> try first | (exfalso; omega) | exact absurd rfl hc)
    | fail)
  · exact ⟨(), ret_bool (by rw [hc, Bool.true_and]), ent_e⟩
  · exact ⟨(), ret_bool (by rw [hc, Bool.false_and]), ent_e⟩
instance LinearIn_ctr {Γ : List Atom} {v v1 : Value} {a t : List Int} [h : HasRd (List Int) repList Γ [v] a] [h1 : HasRd (List Int) repList Γ [v1] t] :
    CtrC Try.prog 162 [.agg #[v], v1] Γ (t.length ≤ 1048576) (Unit) (fun _ : Unit => .bool (termOk a t && decC (LinP t t.length))) (fun _ => Γ) := ⟨fun s w0 => LinearIn_spec s⟩

theorem l26Without_spec {w0 : World} {Γ : List Atom} {v v1 : Value} {t s : List Int} [h : HasRd (List Int) repList Γ [v] t] [h1 : HasRd (List Int) repList Γ [v1] s] : CJ Try.prog 122 [v, v1] w0 Γ (fun _ : Unit => .bool (decC (WoP t s t.length))) (fun _ => Γ) := by
  refine cj_lift (R := [.rd [v] t, .rd [v1] s]) (A := fun _ => []) (fun w1 => ?_) (reads_cons h (reads_cons h1 (inferInstance))) (fun _ => inferInstance)
  simp only [List.cons_append, List.nil_append]
  refine cj_len v fun hlx => ?_
  refine cj_enter Try.func122 Try.ntmps122 ?_
  repeat' (first
    | refine red ?_
    | refine redf fun hbi => ?_
    | refine reds ?_
    | refine redc fun r => ?_
    | refine redp (fun r => ?_) (fun r => ?_)
    | refine redv fun sv => ?_
    | refine redn fun b => ?_
    | refine redz fun zs => ?_
    | refine redq (fun hc => ?_) (fun hc => ?_)
    | with_reducible refine wq_blk_o rfl ?_
    | (refine redd fun p cs as_ hcs has hf => ?_; simp only [Un.cells, Un.atoms, Un.fact, List.cons_append, List.nil_append] at hcs has hf; subst hcs has)
    | (refine redi (fun hc => ?_) (fun hc => ?_) <;> try first | (exfalso; omega) | exact absurd rfl hc)
    | fail)
  refine wc_loop_c [5] [6, 7, 8, 9, 12, 13, 14, 15, 16, 17, 4, 10, 11] (ι := Nat) (fun k => [.int .i64 k]) (fun k => k ≤ t.length ∧ WoP t s k) (fun k => t.length - k) 0 (by kernel_rfl) ⟨Nat.zero_le _, fun i hi => by omega⟩ ?_
  intro k u l' hl' ⟨hk, hkk⟩
  simp only [patch, List.map_cons, List.map_nil, List.set_cons_zero, List.set_cons_succ] at hl'
  subst hl'
  repeat' (first
    | refine red ?_
    | refine redf fun hbi => ?_
    | refine reds ?_
    | refine redc fun r => ?_
    | refine redp (fun r => ?_) (fun r => ?_)
    | refine redv fun sv => ?_
    | refine redn fun b => ?_
    | refine redz fun zs => ?_
    | refine redq (fun hc => ?_) (fun hc => ?_)
    | with_reducible refine wq_blk_o rfl ?_
    | (refine redd fun p cs as_ hcs has hf => ?_; simp only [Un.cells, Un.atoms, Un.fact, List.cons_append, List.nil_append] at hcs has hf; subst hcs has)
    | (refine redi (fun hc => ?_) (fun hc => ?_) <;> try first | (exfalso; omega) | exact absurd rfl hc)
    | fail)
  · exact ⟨(), ret_bool (decC_f fun h => h k (by omega) hc), ent_e⟩
  · exact wq_next (k + 1) ⟨by omega, wo_next hkk hc⟩ (by omega) (by kernel_rfl) ent_e
  · exact ⟨(), ret_bool (decC_t (by rw [show t.length = k by omega]; exact hkk)), ent_e⟩
instance l26Without_ctr {Γ : List Atom} {v v1 : Value} {t s : List Int} [h : HasRd (List Int) repList Γ [v] t] [h1 : HasRd (List Int) repList Γ [v1] s] :
    CtrC Try.prog 122 [v, v1] Γ (True) (Unit) (fun _ : Unit => .bool (decC (WoP t s t.length))) (fun _ => Γ) := ⟨fun s w0 => l26Without_spec⟩

structure ShortL (x : SLine) : Prop where
  n : x.2.1.length ≤ 3
  l : ∀ p ∈ x.2.1, p.length ≤ 60
  v : -9223372036854775808 ≤ x.1 ∧ x.1 ≤ 9223372036854775807
theorem flat_len {ps : List (List Int)} (h : ∀ p ∈ ps, p.length ≤ 60) : ∀ k, (ps.take k).flatten.length ≤ 60 * k
  | 0 => by simp
  | k + 1 => by
    have ih := flat_len h k
    by_cases hk : k < ps.length
    · rw [List.take_succ_eq_append_getElem hk, List.flatten_append, List.length_append]
      have := h _ (List.getElem_mem hk)
      simp only [List.flatten_cons, List.flatten_nil, List.append_nil]
      omega
    · rw [List.take_of_length_le (by omega)] at ih ⊢
      omega
theorem leftL_len {x : SLine} (h : ShortL x) : (leftL x).length ≤ 181 := by
  have h1 := flat_len h.l x.2.1.length
  have h2 := h.n
  rw [List.take_length] at h1
  unfold leftL
  rw [List.length_cons]
  omega
theorem flat_succ {ps : List (List Int)} {k : Nat} (h : k < ps.length) : (ps.take (k + 1)).flatten = (ps.take k).flatten ++ ps.getD k default := by
  rw [List.take_succ_eq_append_getElem h, List.flatten_append, List.getD_eq_getElem?_getD, List.getElem?_eq_getElem h]
  simp
theorem l26Left_spec {w0 : World} {Γ : List Atom} {v0 v1 : Value} {x : SLine} [h0 : HasRd (List (List Int)) repList Γ [v0] x.2.1] [h1 : HasRd (List Int) repList Γ [v1] x.2.2] (hx : ShortL x) : CJ Try.prog 124 [.agg #[.int .i64 x.1, v0, v1]] w0 Γ (fun q : Value => q) (fun q => .ow [q] (leftL x) :: Γ) := by
  refine cj_lift (R := [.rd [v0] x.2.1, .rd [v1] x.2.2]) (A := fun q => [.ow [q] (leftL x)]) (fun w1 => ?_) (reads_cons h0 (reads_cons h1 (inferInstance))) (fun _ => inferInstance)
  simp only [List.cons_append, List.nil_append]
  have hn := hx.n
  have hv := hx.v
  refine cj_enter Try.func124 Try.ntmps124 ?_
  repeat' (first
    | refine red ?_
    | refine redf fun hbi => ?_
    | refine reds ?_
    | refine redc fun r => ?_
    | refine redp (fun r => ?_) (fun r => ?_)
    | refine redv fun sv => ?_
    | refine redn fun b => ?_
    | refine redz fun zs => ?_
    | refine redq (fun hc => ?_) (fun hc => ?_)
    | with_reducible refine wq_blk_o rfl ?_
    | (refine redd fun p cs as_ hcs has hf => ?_; simp only [Un.cells, Un.atoms, Un.fact, List.cons_append, List.nil_append] at hcs has hf; subst hcs has)
    | (refine redi (fun hc => ?_) (fun hc => ?_) <;> try first | (exfalso; omega) | exact absurd rfl hc)
    | fail)
  refine wc_loop_p [3, 4] [8, 9, 10, 11, 12, 15, 16, 17, 18, 19, 20, 21, 13, 14] (ι := Value × Nat) (fun k => [k.1, .int .i64 k.2]) (fun k => [.ow [k.1] (x.1 :: (x.2.1.take k.2).flatten)]) (fun k => k.2 ≤ x.2.1.length) (fun k => x.2.1.length - k.2) (sv, 0) [.ow [sv] [x.1]] (by kernel_rfl) (Nat.zero_le _) rfl ?_
  intro ⟨sw, k⟩ u l' hl' hk
  simp only [patch, List.map_cons, List.map_nil, List.set_cons_zero, List.set_cons_succ] at hl'
  subst hl'
  simp only [List.cons_append, List.nil_append] at hk ⊢
  have hfl := flat_len hx.l k
  have hlk : k < x.2.1.length → (x.2.1.getD k default).length ≤ 60 := fun h => hx.l _ (by rw [List.getD_eq_getElem?_getD, List.getElem?_eq_getElem h]; exact List.getElem_mem h)
  have hsu : k < x.2.1.length → (x.1 :: (x.2.1.take k).flatten) ++ x.2.1.getD k default = x.1 :: (x.2.1.take (k + 1)).flatten := fun h => by rw [flat_succ h]; rfl
  have hll : (x.1 :: (x.2.1.take k).flatten).length = (x.2.1.take k).flatten.length + 1 := rfl
  repeat' (first
    | refine red ?_
    | refine redf fun hbi => ?_
    | refine reds ?_
    | refine redc fun r => ?_
    | refine redp (fun r => ?_) (fun r => ?_)
    | refine redv fun sv => ?_
    | refine redn fun b => ?_
    | refine redz fun zs => ?_
    | refine redq (fun hc => ?_) (fun hc => ?_)
    | with_reducible refine wq_blk_o rfl ?_
    | (refine redd fun p cs as_ hcs has hf => ?_; simp only [Un.cells, Un.atoms, Un.fact, List.cons_append, List.nil_append] at hcs has hf; subst hcs has)
    | (refine redi (fun hc => ?_) (fun hc => ?_) <;> try first | (exfalso; omega) | exact absurd rfl hc)
    | fail)
  · rw [hsu (by omega)]
    exact wq_next (sv, k + 1) (by simp only; omega) (by simp only; omega) (by kernel_rfl) ent_e
  · rw [List.take_of_length_le (by omega), show leftL x = x.1 :: x.2.1.flatten from rfl]
    exact ⟨_, rfl, ent_e⟩
instance l26Left_ctr {Γ : List Atom} {v0 v1 : Value} {x : SLine} [h0 : HasRd (List (List Int)) repList Γ [v0] x.2.1] [h1 : HasRd (List Int) repList Γ [v1] x.2.2] :
    CtrC Try.prog 124 [.agg #[.int .i64 x.1, v0, v1]] Γ (ShortL x) (Value) (fun q : Value => q) (fun q => .ow [q] (leftL x) :: Γ) := ⟨fun s w0 => l26Left_spec s⟩

theorem spec_RuleOk2_spec {w0 : World} {Γ : List Atom} {v v0 v1 : Value} {a l r : List Int} [h : HasRd (List Int) repList Γ [v] a] [h0 : HasRd (List Int) repList Γ [v0] l] [h1 : HasRd (List Int) repList Γ [v1] r] : CJ Try.prog 163 [.agg #[v], .agg #[v0, v1]] w0 Γ (fun _ : Unit => .bool (ruleOk a (l, r))) (fun _ => Γ) := by
  exact spec_RuleOk_spec (x := (l, r))
instance spec_RuleOk2_ctr {Γ : List Atom} {v v0 v1 : Value} {a l r : List Int} [h : HasRd (List Int) repList Γ [v] a] [h0 : HasRd (List Int) repList Γ [v0] l] [h1 : HasRd (List Int) repList Γ [v1] r] :
    CtrC Try.prog 163 [.agg #[v], .agg #[v0, v1]] Γ (True) (Unit) (fun _ : Unit => .bool (ruleOk a (l, r))) (fun _ => Γ) := ⟨fun s w0 => spec_RuleOk2_spec⟩

theorem decC_of' {b : Bool} {p : Prop} (h : p ↔ b = true) : decC p = b := by
  cases b
  · exact decC_f fun hp => by cases h.1 hp
  · exact decC_t (h.2 rfl)
theorem ruleOk_left {a l r : List Int} (h : ruleOk a (l, r) = true) : termOk a l = true := by
  have : RuleP a (l, r) := of_decide_eq_true h
  exact this.1.1
theorem line_short {f : SFront} {x : SLine} (hf : Fr0 f) (h : LineP f x) : ShortL x := by
  have h1 := fr_in hf h.1
  have h2 := (fr_ar hf h.1).2
  have h3 := h.2.1
  have h4 := sigOk_len hf.sig
  refine ⟨by rw [← h3] at h2; omega, fun p hp => ?_, by omega⟩
  obtain ⟨i, hi, rfl⟩ := List.getElem_of_mem hp
  have := (h.2.2.1 i hi).1
  rw [List.getD_eq_getElem?_getD, List.getElem?_eq_getElem hi] at this
  exact (termOk_len this).2
theorem l26Line_spec {w0 : World} {Γ : List Atom} {va vf vl v0 v1 : Value} {f : SFront} {x : SLine} [ha : HasRd (List Int) repList Γ [va] f.1] [hf : HasRd (List Int) repList Γ [vf] f.2.1] [hl : HasRd (List SLine) repList Γ [vl] f.2.2] [h0 : HasRd (List (List Int)) repList Γ [v0] x.2.1] [h1 : HasRd (List Int) repList Γ [v1] x.2.2] (hs : Fr0 f) : CJ Try.prog 121 [.agg #[va, vf, vl], .agg #[.int .i64 x.1, v0, v1]] w0 Γ (fun _ : Unit => .bool (decC (LineP f x))) (fun _ => Γ) := by
  refine cj_lift (R := [.rd [va] f.1, .rd [vf] f.2.1, .rd [vl] f.2.2, .rd [v0] x.2.1, .rd [v1] x.2.2]) (A := fun _ => []) (fun w1 => ?_) (reads_cons ha (reads_cons hf (reads_cons hl (reads_cons h0 (reads_cons h1 (inferInstance)))))) (fun _ => inferInstance)
  simp only [List.cons_append, List.nil_append]
  refine cj_len v0 fun hlx => ?_
  by_cases hfun : x.1 ∈ f.2.1
  · have hin := fr_in hs hfun
    have har := fr_ar hs hfun
    have hsl8 := sigOk_len hs.sig
    refine cj_enter Try.func121 Try.ntmps121 ?_
    repeat' (first
      | refine red ?_
      | refine redf fun hbi => ?_
      | refine reds ?_
      | refine redc fun r => ?_
      | refine redp (fun r => ?_) (fun r => ?_)
      | refine redv fun sv => ?_
      | refine redn fun b => ?_
      | refine redz fun zs => ?_
      | refine redq (fun hc => ?_) (fun hc => ?_)
      | with_reducible refine wq_blk_o rfl ?_
      | (refine redd fun p cs as_ hcs has hf => ?_; simp only [Un.cells, Un.atoms, Un.fact, List.cons_append, List.nil_append] at hcs has hf; subst hcs has)
      | (refine redi (fun hc => ?_) (fun hc => ?_) <;> try first | (exfalso; omega) | exact absurd rfl hc)
      | ((refine wa_begin 1 [false, false, false, false, false, false, false, false, false, false, false, false, false, false, false, false, false, false, false] [] ?_ <;> (first | refine wa_p 0 ?_ | refine wa_p0 0 ?_ | fail) <;> (first | refine wa_f 1 fun hbi => ?_ | refine wa_p 1 ?_ | fail) <;> (first | refine wa_p 2 ?_ | refine wa_p0 2 ?_ | (refine wa_do 2 ?_ <;> (repeat' (first | refine red ?_ | refine redc fun r => ?_ | refine redv fun sv => ?_ | refine redf fun hbi => ?_ | refine redn fun b => ?_ | refine reds ?_ | refine redi (fun hc => ?_) (fun hc => ?_) | refine redq (fun hc => ?_) (fun hc => ?_) | refine redp (fun r => ?_) (fun r => ?_) | fail))) | fail) <;> (first | refine wa_f 3 fun hbi => ?_ | refine wa_p 3 ?_ | (refine wa_do 3 ?_ <;> (repeat' (first | refine red ?_ | refine redc fun r => ?_ | refine redv fun sv => ?_ | refine redf fun hbi => ?_ | refine redn fun b => ?_ | refine reds ?_ | refine redi (fun hc => ?_) (fun hc => ?_) | refine redq (fun hc => ?_) (fun hc => ?_) | refine redp (fun r => ?_) (fun r => ?_) | fail))) | fail) <;> (refine wa_do 4 ?_ <;> (repeat' (first | refine red ?_ | refine redc fun r => ?_ | refine redv fun sv => ?_ | refine redf fun hbi => ?_ | refine redn fun b => ?_ | refine reds ?_ | refine redi (fun hc => ?_) (fun hc => ?_) | refine redq (fun hc => ?_) (fun hc => ?_) | refine redp (fun r => ?_) (fun r => ?_) | fail))) <;> (first | refine wa_p 5 ?_ | refine wa_p0 5 ?_ | (refine wa_do 5 ?_ <;> (repeat' (first | refine red ?_ | refine redc fun r => ?_ | refine redv fun sv => ?_ | refine redf fun hbi => ?_ | refine redn fun b => ?_ | refine reds ?_ | refine redi (fun hc => ?_) (fun hc => ?_) | refine redq (fun hc => ?_) (fun hc => ?_) | refine redp (fun r => ?_) (fun r => ?_) | fail))) | fail) <;> (first | refine wa_p 6 ?_ | refine wa_p0 6 ?_ | (refine wa_do 6 ?_ <;> (repeat' (first | refine red ?_ | refine redc fun r => ?_ | refine redv fun sv => ?_ | refine redf fun hbi => ?_ | refine redn fun b => ?_ | refine reds ?_ | refine redi (fun hc => ?_) (fun hc => ?_) | refine redq (fun hc => ?_) (fun hc => ?_) | refine redp (fun r => ?_) (fun r => ?_) | fail))) | fail) <;> (first | refine wa_pg 7 ?_ | refine wa_no 7 ?_ | (refine wa_if 13 (fun hc => ?_) (fun hc => ?_) <;> (try first | (exfalso; omega) | exact absurd rfl hc) <;> first | refine wa_pg 7 ?_ | refine wa_no 7 ?_) | fail) <;> (first | refine wa_pg 8 ?_ | refine wa_no 8 ?_ | fail) <;> (first | refine wa_pg 9 ?_ | refine wa_no 9 ?_ | fail) <;> (first | refine wa_pg 10 ?_ | refine wa_no 10 ?_ | fail) <;> (first | refine wa_pg 11 ?_ | refine wa_no 11 ?_ | fail) <;> (first | refine wa_pg 12 ?_ | refine wa_no 12 ?_ | fail) <;> (first | refine wa_pg 13 ?_ | refine wa_no 13 ?_ | (refine wa_do 13 ?_ <;> (repeat' (first | refine red ?_ | refine redc fun r => ?_ | refine redv fun sv => ?_ | refine redf fun hbi => ?_ | refine redn fun b => ?_ | refine reds ?_ | refine redi (fun hc => ?_) (fun hc => ?_) | refine redq (fun hc => ?_) (fun hc => ?_) | refine redp (fun r => ?_) (fun r => ?_) | fail))) | fail) <;> (first | refine wa_pg 14 ?_ | refine wa_no 14 ?_ | (refine wa_do 14 ?_ <;> (repeat' (first | refine red ?_ | refine redc fun r => ?_ | refine redv fun sv => ?_ | refine redf fun hbi => ?_ | refine redn fun b => ?_ | refine reds ?_ | refine redi (fun hc => ?_) (fun hc => ?_) | refine redq (fun hc => ?_) (fun hc => ?_) | refine redp (fun r => ?_) (fun r => ?_) | fail))) | fail) <;> (first | refine wa_pg 15 ?_ | refine wa_no 15 ?_ | (refine wa_do 15 ?_ <;> (repeat' (first | refine red ?_ | refine redc fun r => ?_ | refine redv fun sv => ?_ | refine redf fun hbi => ?_ | refine redn fun b => ?_ | refine reds ?_ | refine redi (fun hc => ?_) (fun hc => ?_) | refine redq (fun hc => ?_) (fun hc => ?_) | refine redp (fun r => ?_) (fun r => ?_) | fail))) | fail) <;> (first | refine wa_pg 16 ?_ | refine wa_no 16 ?_ | (refine wa_do 16 ?_ <;> (repeat' (first | refine red ?_ | refine redc fun r => ?_ | refine redv fun sv => ?_ | refine redf fun hbi => ?_ | refine redn fun b => ?_ | refine reds ?_ | refine redi (fun hc => ?_) (fun hc => ?_) | refine redq (fun hc => ?_) (fun hc => ?_) | refine redp (fun r => ?_) (fun r => ?_) | fail))) | fail) <;> (first | refine wa_pg 17 ?_ | refine wa_no 17 ?_ | (refine wa_do 17 ?_ <;> (repeat' (first | refine red ?_ | refine redc fun r => ?_ | refine redv fun sv => ?_ | refine redf fun hbi => ?_ | refine redn fun b => ?_ | refine reds ?_ | refine redi (fun hc => ?_) (fun hc => ?_) | refine redq (fun hc => ?_) (fun hc => ?_) | refine redp (fun r => ?_) (fun r => ?_) | fail))) | fail) <;> (first | refine wa_p 18 ?_ | refine wa_p0 18 ?_ | (refine wa_do 18 ?_ <;> (repeat' (first | refine red ?_ | refine redc fun r => ?_ | refine redv fun sv => ?_ | refine redf fun hbi => ?_ | refine redn fun b => ?_ | refine reds ?_ | refine redi (fun hc => ?_) (fun hc => ?_) | refine redq (fun hc => ?_) (fun hc => ?_) | refine redp (fun r => ?_) (fun r => ?_) | fail))) | fail)) <;> (first | refine wa_end ?_ | with_reducible refine wq_keep ?_))
      | ((refine wa_begin 6 [false, false, false, false, false, false, false, false, false, false, false, false, false, false, false, false, false, false, false, false] [] ?_ <;> (first | refine wa_p 0 ?_ | refine wa_p0 0 ?_ | fail) <;> (first | refine wa_f 1 fun hbi => ?_ | refine wa_p 1 ?_ | fail) <;> (first | refine wa_p 2 ?_ | refine wa_p0 2 ?_ | fail) <;> (first | refine wa_f 3 fun hbi => ?_ | refine wa_p 3 ?_ | fail) <;> (first | refine wa_p 4 ?_ | refine wa_p0 4 ?_ | (refine wa_do 4 ?_ <;> (repeat' (first | refine red ?_ | refine redc fun r => ?_ | refine redv fun sv => ?_ | refine redf fun hbi => ?_ | refine redn fun b => ?_ | refine reds ?_ | refine redi (fun hc => ?_) (fun hc => ?_) | refine redq (fun hc => ?_) (fun hc => ?_) | refine redp (fun r => ?_) (fun r => ?_) | fail))) | fail) <;> (first | refine wa_p 5 ?_ | (refine wa_deep 5 fun p cs as_ asb_ hcs has hasb hf => ?_; simp only [Un.cells, Un.atoms, Un.fact, List.cons_append, List.nil_append] at hcs has hasb hf; subst hcs has hasb) | fail) <;> (first | refine wa_f 6 fun hbi => ?_ | refine wa_p 6 ?_ | (refine wa_do 6 ?_ <;> (repeat' (first | refine red ?_ | refine redc fun r => ?_ | refine redv fun sv => ?_ | refine redf fun hbi => ?_ | refine redn fun b => ?_ | refine reds ?_ | refine redi (fun hc => ?_) (fun hc => ?_) | refine redq (fun hc => ?_) (fun hc => ?_) | refine redp (fun r => ?_) (fun r => ?_) | fail))) | fail) <;> (refine wa_do 7 ?_ <;> (repeat' (first | refine red ?_ | refine redc fun r => ?_ | refine redv fun sv => ?_ | refine redf fun hbi => ?_ | refine redn fun b => ?_ | refine reds ?_ | refine redi (fun hc => ?_) (fun hc => ?_) | refine redq (fun hc => ?_) (fun hc => ?_) | refine redp (fun r => ?_) (fun r => ?_) | fail))) <;> (first | refine wa_p 8 ?_ | refine wa_p0 8 ?_ | (refine wa_do 8 ?_ <;> (repeat' (first | refine red ?_ | refine redc fun r => ?_ | refine redv fun sv => ?_ | refine redf fun hbi => ?_ | refine redn fun b => ?_ | refine reds ?_ | refine redi (fun hc => ?_) (fun hc => ?_) | refine redq (fun hc => ?_) (fun hc => ?_) | refine redp (fun r => ?_) (fun r => ?_) | fail))) | fail) <;> (first | refine wa_p 9 ?_ | refine wa_p0 9 ?_ | (refine wa_do 9 ?_ <;> (repeat' (first | refine red ?_ | refine redc fun r => ?_ | refine redv fun sv => ?_ | refine redf fun hbi => ?_ | refine redn fun b => ?_ | refine reds ?_ | refine redi (fun hc => ?_) (fun hc => ?_) | refine redq (fun hc => ?_) (fun hc => ?_) | refine redp (fun r => ?_) (fun r => ?_) | fail))) | fail) <;> (first | refine wa_pg 10 ?_ | refine wa_no 10 ?_ | (refine wa_if 42 (fun hc => ?_) (fun hc => ?_) <;> (try first | (exfalso; omega) | exact absurd rfl hc) <;> first | refine wa_pg 10 ?_ | refine wa_no 10 ?_) | fail) <;> (first | refine wa_pg 11 ?_ | refine wa_no 11 ?_ | fail) <;> (first | refine wa_pg 12 ?_ | refine wa_no 12 ?_ | fail) <;> (first | refine wa_pg 13 ?_ | refine wa_no 13 ?_ | fail) <;> (first | refine wa_pg 14 ?_ | refine wa_no 14 ?_ | fail) <;> (first | refine wa_pg 15 ?_ | refine wa_no 15 ?_ | (refine wa_do 15 ?_ <;> (repeat' (first | refine red ?_ | refine redc fun r => ?_ | refine redv fun sv => ?_ | refine redf fun hbi => ?_ | refine redn fun b => ?_ | refine reds ?_ | refine redi (fun hc => ?_) (fun hc => ?_) | refine redq (fun hc => ?_) (fun hc => ?_) | refine redp (fun r => ?_) (fun r => ?_) | fail))) | fail) <;> (first | refine wa_pg 16 ?_ | refine wa_no 16 ?_ | (refine wa_do 16 ?_ <;> (repeat' (first | refine red ?_ | refine redc fun r => ?_ | refine redv fun sv => ?_ | refine redf fun hbi => ?_ | refine redn fun b => ?_ | refine reds ?_ | refine redi (fun hc => ?_) (fun hc => ?_) | refine redq (fun hc => ?_) (fun hc => ?_) | refine redp (fun r => ?_) (fun r => ?_) | fail))) | fail) <;> (refine wa_do 17 ?_ <;> (repeat' (first | refine red ?_ | refine redc fun r => ?_ | refine redv fun sv => ?_ | refine redf fun hbi => ?_ | refine redn fun b => ?_ | refine reds ?_ | refine redi (fun hc => ?_) (fun hc => ?_) | refine redq (fun hc => ?_) (fun hc => ?_) | refine redp (fun r => ?_) (fun r => ?_) | fail))) <;> (first | refine wa_pg 18 ?_ | refine wa_no 18 ?_ | (refine wa_do 18 ?_ <;> (repeat' (first | refine red ?_ | refine redc fun r => ?_ | refine redv fun sv => ?_ | refine redf fun hbi => ?_ | refine redn fun b => ?_ | refine reds ?_ | refine redi (fun hc => ?_) (fun hc => ?_) | refine redq (fun hc => ?_) (fun hc => ?_) | refine redp (fun r => ?_) (fun r => ?_) | fail))) | fail) <;> (first | refine wa_p 19 ?_ | refine wa_p0 19 ?_ | (refine wa_do 19 ?_ <;> (repeat' (first | refine red ?_ | refine redc fun r => ?_ | refine redv fun sv => ?_ | refine redf fun hbi => ?_ | refine redn fun b => ?_ | refine reds ?_ | refine redi (fun hc => ?_) (fun hc => ?_) | refine redq (fun hc => ?_) (fun hc => ?_) | refine redp (fun r => ?_) (fun r => ?_) | fail))) | fail)) <;> (first | refine wa_end ?_ | with_reducible refine wq_keep ?_))
      | fail)
    all_goals first
      | (exfalso; exact ‹¬ x.1 ∈ f.2.1› hfun)
      | exact ⟨(), ret_bool (decC_f fun h => hc h.2.1), ent_e⟩
      | skip
    have hlen : (x.2.1.length : Int) = f.1.getD x.1.toNat 0 := by assumption
    refine wc_loop_c [5] [26, 27, 28, 29, 30, 33, 34, 35, 36, 37, 38, 39, 40, 41, 42, 43, 44, 45, 46, 47, 48, 49, 50, 51, 52, 4, 31, 32] (ι := Nat) (fun k => [.int .i64 k]) (fun k => k ≤ x.2.1.length ∧ PatP f x k) (fun k => x.2.1.length - k) 0 (by kernel_rfl) ⟨Nat.zero_le _, fun i hi => by omega⟩ ?_
    intro k u l' hl' ⟨hk, hkk⟩
    simp only [patch, List.map_cons, List.map_nil, List.set_cons_zero, List.set_cons_succ] at hl'
    subst hl'
    by_cases hlt : k < x.2.1.length
    · repeat' (first
        | refine red ?_
        | refine redf fun hbi => ?_
        | refine reds ?_
        | refine redc fun r => ?_
        | refine redp (fun r => ?_) (fun r => ?_)
        | refine redv fun sv => ?_
        | refine redn fun b => ?_
        | refine redz fun zs => ?_
        | refine redq (fun hc => ?_) (fun hc => ?_)
        | with_reducible refine wq_blk_o rfl ?_
        | (refine redd fun p cs as_ hcs has hf => ?_; simp only [Un.cells, Un.atoms, Un.fact, List.cons_append, List.nil_append] at hcs has hf; subst hcs has)
        | (refine redi (fun hc => ?_) (fun hc => ?_) <;> try first | (exfalso; omega) | exact absurd rfl hc)
        | ((refine wa_begin 1 [false, false, false, false, false, false, false, false, false, false, false, false, false, false, false, false, false, false, false] [] ?_ <;> (first | refine wa_p 0 ?_ | refine wa_p0 0 ?_ | fail) <;> (first | refine wa_f 1 fun hbi => ?_ | refine wa_p 1 ?_ | fail) <;> (first | refine wa_p 2 ?_ | refine wa_p0 2 ?_ | (refine wa_do 2 ?_ <;> (repeat' (first | refine red ?_ | refine redc fun r => ?_ | refine redv fun sv => ?_ | refine redf fun hbi => ?_ | refine redn fun b => ?_ | refine reds ?_ | refine redi (fun hc => ?_) (fun hc => ?_) | refine redq (fun hc => ?_) (fun hc => ?_) | refine redp (fun r => ?_) (fun r => ?_) | fail))) | fail) <;> (first | refine wa_f 3 fun hbi => ?_ | refine wa_p 3 ?_ | (refine wa_do 3 ?_ <;> (repeat' (first | refine red ?_ | refine redc fun r => ?_ | refine redv fun sv => ?_ | refine redf fun hbi => ?_ | refine redn fun b => ?_ | refine reds ?_ | refine redi (fun hc => ?_) (fun hc => ?_) | refine redq (fun hc => ?_) (fun hc => ?_) | refine redp (fun r => ?_) (fun r => ?_) | fail))) | fail) <;> (refine wa_do 4 ?_ <;> (repeat' (first | refine red ?_ | refine redc fun r => ?_ | refine redv fun sv => ?_ | refine redf fun hbi => ?_ | refine redn fun b => ?_ | refine reds ?_ | refine redi (fun hc => ?_) (fun hc => ?_) | refine redq (fun hc => ?_) (fun hc => ?_) | refine redp (fun r => ?_) (fun r => ?_) | fail))) <;> (first | refine wa_p 5 ?_ | refine wa_p0 5 ?_ | (refine wa_do 5 ?_ <;> (repeat' (first | refine red ?_ | refine redc fun r => ?_ | refine redv fun sv => ?_ | refine redf fun hbi => ?_ | refine redn fun b => ?_ | refine reds ?_ | refine redi (fun hc => ?_) (fun hc => ?_) | refine redq (fun hc => ?_) (fun hc => ?_) | refine redp (fun r => ?_) (fun r => ?_) | fail))) | fail) <;> (first | refine wa_p 6 ?_ | refine wa_p0 6 ?_ | (refine wa_do 6 ?_ <;> (repeat' (first | refine red ?_ | refine redc fun r => ?_ | refine redv fun sv => ?_ | refine redf fun hbi => ?_ | refine redn fun b => ?_ | refine reds ?_ | refine redi (fun hc => ?_) (fun hc => ?_) | refine redq (fun hc => ?_) (fun hc => ?_) | refine redp (fun r => ?_) (fun r => ?_) | fail))) | fail) <;> (first | refine wa_pg 7 ?_ | refine wa_no 7 ?_ | (refine wa_if 13 (fun hc => ?_) (fun hc => ?_) <;> (try first | (exfalso; omega) | exact absurd rfl hc) <;> first | refine wa_pg 7 ?_ | refine wa_no 7 ?_) | fail) <;> (first | refine wa_pg 8 ?_ | refine wa_no 8 ?_ | fail) <;> (first | refine wa_pg 9 ?_ | refine wa_no 9 ?_ | fail) <;> (first | refine wa_pg 10 ?_ | refine wa_no 10 ?_ | fail) <;> (first | refine wa_pg 11 ?_ | refine wa_no 11 ?_ | fail) <;> (first | refine wa_pg 12 ?_ | refine wa_no 12 ?_ | fail) <;> (first | refine wa_pg 13 ?_ | refine wa_no 13 ?_ | (refine wa_do 13 ?_ <;> (repeat' (first | refine red ?_ | refine redc fun r => ?_ | refine redv fun sv => ?_ | refine redf fun hbi => ?_ | refine redn fun b => ?_ | refine reds ?_ | refine redi (fun hc => ?_) (fun hc => ?_) | refine redq (fun hc => ?_) (fun hc => ?_) | refine redp (fun r => ?_) (fun r => ?_) | fail))) | fail) <;> (first | refine wa_pg 14 ?_ | refine wa_no 14 ?_ | (refine wa_do 14 ?_ <;> (repeat' (first | refine red ?_ | refine redc fun r => ?_ | refine redv fun sv => ?_ | refine redf fun hbi => ?_ | refine redn fun b => ?_ | refine reds ?_ | refine redi (fun hc => ?_) (fun hc => ?_) | refine redq (fun hc => ?_) (fun hc => ?_) | refine redp (fun r => ?_) (fun r => ?_) | fail))) | fail) <;> (first | refine wa_pg 15 ?_ | refine wa_no 15 ?_ | (refine wa_do 15 ?_ <;> (repeat' (first | refine red ?_ | refine redc fun r => ?_ | refine redv fun sv => ?_ | refine redf fun hbi => ?_ | refine redn fun b => ?_ | refine reds ?_ | refine redi (fun hc => ?_) (fun hc => ?_) | refine redq (fun hc => ?_) (fun hc => ?_) | refine redp (fun r => ?_) (fun r => ?_) | fail))) | fail) <;> (first | refine wa_pg 16 ?_ | refine wa_no 16 ?_ | (refine wa_do 16 ?_ <;> (repeat' (first | refine red ?_ | refine redc fun r => ?_ | refine redv fun sv => ?_ | refine redf fun hbi => ?_ | refine redn fun b => ?_ | refine reds ?_ | refine redi (fun hc => ?_) (fun hc => ?_) | refine redq (fun hc => ?_) (fun hc => ?_) | refine redp (fun r => ?_) (fun r => ?_) | fail))) | fail) <;> (first | refine wa_pg 17 ?_ | refine wa_no 17 ?_ | (refine wa_do 17 ?_ <;> (repeat' (first | refine red ?_ | refine redc fun r => ?_ | refine redv fun sv => ?_ | refine redf fun hbi => ?_ | refine redn fun b => ?_ | refine reds ?_ | refine redi (fun hc => ?_) (fun hc => ?_) | refine redq (fun hc => ?_) (fun hc => ?_) | refine redp (fun r => ?_) (fun r => ?_) | fail))) | fail) <;> (first | refine wa_p 18 ?_ | refine wa_p0 18 ?_ | (refine wa_do 18 ?_ <;> (repeat' (first | refine red ?_ | refine redc fun r => ?_ | refine redv fun sv => ?_ | refine redf fun hbi => ?_ | refine redn fun b => ?_ | refine reds ?_ | refine redi (fun hc => ?_) (fun hc => ?_) | refine redq (fun hc => ?_) (fun hc => ?_) | refine redp (fun r => ?_) (fun r => ?_) | fail))) | fail)) <;> (first | refine wa_end ?_ | with_reducible refine wq_keep ?_))
        | ((refine wa_begin 6 [false, false, false, false, false, false, false, false, false, false, false, false, false, false, false, false, false, false, false, false] [] ?_ <;> (first | refine wa_p 0 ?_ | refine wa_p0 0 ?_ | fail) <;> (first | refine wa_f 1 fun hbi => ?_ | refine wa_p 1 ?_ | fail) <;> (first | refine wa_p 2 ?_ | refine wa_p0 2 ?_ | fail) <;> (first | refine wa_f 3 fun hbi => ?_ | refine wa_p 3 ?_ | fail) <;> (first | refine wa_p 4 ?_ | refine wa_p0 4 ?_ | (refine wa_do 4 ?_ <;> (repeat' (first | refine red ?_ | refine redc fun r => ?_ | refine redv fun sv => ?_ | refine redf fun hbi => ?_ | refine redn fun b => ?_ | refine reds ?_ | refine redi (fun hc => ?_) (fun hc => ?_) | refine redq (fun hc => ?_) (fun hc => ?_) | refine redp (fun r => ?_) (fun r => ?_) | fail))) | fail) <;> (first | refine wa_p 5 ?_ | (refine wa_deep 5 fun p cs as_ asb_ hcs has hasb hf => ?_; simp only [Un.cells, Un.atoms, Un.fact, List.cons_append, List.nil_append] at hcs has hasb hf; subst hcs has hasb) | fail) <;> (first | refine wa_f 6 fun hbi => ?_ | refine wa_p 6 ?_ | (refine wa_do 6 ?_ <;> (repeat' (first | refine red ?_ | refine redc fun r => ?_ | refine redv fun sv => ?_ | refine redf fun hbi => ?_ | refine redn fun b => ?_ | refine reds ?_ | refine redi (fun hc => ?_) (fun hc => ?_) | refine redq (fun hc => ?_) (fun hc => ?_) | refine redp (fun r => ?_) (fun r => ?_) | fail))) | fail) <;> (refine wa_do 7 ?_ <;> (repeat' (first | refine red ?_ | refine redc fun r => ?_ | refine redv fun sv => ?_ | refine redf fun hbi => ?_ | refine redn fun b => ?_ | refine reds ?_ | refine redi (fun hc => ?_) (fun hc => ?_) | refine redq (fun hc => ?_) (fun hc => ?_) | refine redp (fun r => ?_) (fun r => ?_) | fail))) <;> (first | refine wa_p 8 ?_ | refine wa_p0 8 ?_ | (refine wa_do 8 ?_ <;> (repeat' (first | refine red ?_ | refine redc fun r => ?_ | refine redv fun sv => ?_ | refine redf fun hbi => ?_ | refine redn fun b => ?_ | refine reds ?_ | refine redi (fun hc => ?_) (fun hc => ?_) | refine redq (fun hc => ?_) (fun hc => ?_) | refine redp (fun r => ?_) (fun r => ?_) | fail))) | fail) <;> (first | refine wa_p 9 ?_ | refine wa_p0 9 ?_ | (refine wa_do 9 ?_ <;> (repeat' (first | refine red ?_ | refine redc fun r => ?_ | refine redv fun sv => ?_ | refine redf fun hbi => ?_ | refine redn fun b => ?_ | refine reds ?_ | refine redi (fun hc => ?_) (fun hc => ?_) | refine redq (fun hc => ?_) (fun hc => ?_) | refine redp (fun r => ?_) (fun r => ?_) | fail))) | fail) <;> (first | refine wa_pg 10 ?_ | refine wa_no 10 ?_ | (refine wa_if 42 (fun hc => ?_) (fun hc => ?_) <;> (try first | (exfalso; omega) | exact absurd rfl hc) <;> first | refine wa_pg 10 ?_ | refine wa_no 10 ?_) | fail) <;> (first | refine wa_pg 11 ?_ | refine wa_no 11 ?_ | fail) <;> (first | refine wa_pg 12 ?_ | refine wa_no 12 ?_ | fail) <;> (first | refine wa_pg 13 ?_ | refine wa_no 13 ?_ | fail) <;> (first | refine wa_pg 14 ?_ | refine wa_no 14 ?_ | fail) <;> (first | refine wa_pg 15 ?_ | refine wa_no 15 ?_ | (refine wa_do 15 ?_ <;> (repeat' (first | refine red ?_ | refine redc fun r => ?_ | refine redv fun sv => ?_ | refine redf fun hbi => ?_ | refine redn fun b => ?_ | refine reds ?_ | refine redi (fun hc => ?_) (fun hc => ?_) | refine redq (fun hc => ?_) (fun hc => ?_) | refine redp (fun r => ?_) (fun r => ?_) | fail))) | fail) <;> (first | refine wa_pg 16 ?_ | refine wa_no 16 ?_ | (refine wa_do 16 ?_ <;> (repeat' (first | refine red ?_ | refine redc fun r => ?_ | refine redv fun sv => ?_ | refine redf fun hbi => ?_ | refine redn fun b => ?_ | refine reds ?_ | refine redi (fun hc => ?_) (fun hc => ?_) | refine redq (fun hc => ?_) (fun hc => ?_) | refine redp (fun r => ?_) (fun r => ?_) | fail))) | fail) <;> (refine wa_do 17 ?_ <;> (repeat' (first | refine red ?_ | refine redc fun r => ?_ | refine redv fun sv => ?_ | refine redf fun hbi => ?_ | refine redn fun b => ?_ | refine reds ?_ | refine redi (fun hc => ?_) (fun hc => ?_) | refine redq (fun hc => ?_) (fun hc => ?_) | refine redp (fun r => ?_) (fun r => ?_) | fail))) <;> (first | refine wa_pg 18 ?_ | refine wa_no 18 ?_ | (refine wa_do 18 ?_ <;> (repeat' (first | refine red ?_ | refine redc fun r => ?_ | refine redv fun sv => ?_ | refine redf fun hbi => ?_ | refine redn fun b => ?_ | refine reds ?_ | refine redi (fun hc => ?_) (fun hc => ?_) | refine redq (fun hc => ?_) (fun hc => ?_) | refine redp (fun r => ?_) (fun r => ?_) | fail))) | fail) <;> (first | refine wa_p 19 ?_ | refine wa_p0 19 ?_ | (refine wa_do 19 ?_ <;> (repeat' (first | refine red ?_ | refine redc fun r => ?_ | refine redv fun sv => ?_ | refine redf fun hbi => ?_ | refine redn fun b => ?_ | refine reds ?_ | refine redi (fun hc => ?_) (fun hc => ?_) | refine redq (fun hc => ?_) (fun hc => ?_) | refine redp (fun r => ?_) (fun r => ?_) | fail))) | fail)) <;> (first | refine wa_end ?_ | with_reducible refine wq_keep ?_))
        | fail)
      · exact ⟨(), ret_bool (decC_f fun h => by have := (h.2.2.1 k hlt).1; rw [hc] at this; cases this), ent_e⟩
      · exact ⟨(), ret_bool (decC_f fun h => hc (h.2.2.1 k hlt).2), ent_e⟩
      · exact wq_next (k + 1) ⟨by omega, pat_next hkk (by assumption) hc⟩ (by omega) (by kernel_rfl) ent_e
    · have hall : PatP f x x.2.1.length := by rw [show x.2.1.length = k by omega]; exact hkk
      have hsh : ShortL x := ⟨by have h3 := har.2; rw [← hlen] at h3; omega, fun p hp => by
        obtain ⟨i, hi, rfl⟩ := List.getElem_of_mem hp
        have := (hall i hi).1
        rw [List.getD_eq_getElem?_getD, List.getElem?_eq_getElem hi] at this
        exact (termOk_len this).2, by omega⟩
      have hll := leftL_len hsh
      repeat' (first
        | refine red ?_
        | refine redf fun hbi => ?_
        | refine reds ?_
        | refine redc fun r => ?_
        | refine redp (fun r => ?_) (fun r => ?_)
        | refine redv fun sv => ?_
        | refine redn fun b => ?_
        | refine redz fun zs => ?_
        | refine redq (fun hc => ?_) (fun hc => ?_)
        | with_reducible refine wq_blk_o rfl ?_
        | (refine redd fun p cs as_ hcs has hf => ?_; simp only [Un.cells, Un.atoms, Un.fact, List.cons_append, List.nil_append] at hcs has hf; subst hcs has)
        | (refine redi (fun hc => ?_) (fun hc => ?_) <;> try first | (exfalso; omega) | exact absurd rfl hc)
        | ((refine wa_begin 1 [false, false, false, false, false, false, false, false, false, false, false, false, false, false, false, false, false, false, false] [] ?_ <;> (first | refine wa_p 0 ?_ | refine wa_p0 0 ?_ | fail) <;> (first | refine wa_f 1 fun hbi => ?_ | refine wa_p 1 ?_ | fail) <;> (first | refine wa_p 2 ?_ | refine wa_p0 2 ?_ | (refine wa_do 2 ?_ <;> (repeat' (first | refine red ?_ | refine redc fun r => ?_ | refine redv fun sv => ?_ | refine redf fun hbi => ?_ | refine redn fun b => ?_ | refine reds ?_ | refine redi (fun hc => ?_) (fun hc => ?_) | refine redq (fun hc => ?_) (fun hc => ?_) | refine redp (fun r => ?_) (fun r => ?_) | fail))) | fail) <;> (first | refine wa_f 3 fun hbi => ?_ | refine wa_p 3 ?_ | (refine wa_do 3 ?_ <;> (repeat' (first | refine red ?_ | refine redc fun r => ?_ | refine redv fun sv => ?_ | refine redf fun hbi => ?_ | refine redn fun b => ?_ | refine reds ?_ | refine redi (fun hc => ?_) (fun hc => ?_) | refine redq (fun hc => ?_) (fun hc => ?_) | refine redp (fun r => ?_) (fun r => ?_) | fail))) | fail) <;> (refine wa_do 4 ?_ <;> (repeat' (first | refine red ?_ | refine redc fun r => ?_ | refine redv fun sv => ?_ | refine redf fun hbi => ?_ | refine redn fun b => ?_ | refine reds ?_ | refine redi (fun hc => ?_) (fun hc => ?_) | refine redq (fun hc => ?_) (fun hc => ?_) | refine redp (fun r => ?_) (fun r => ?_) | fail))) <;> (first | refine wa_p 5 ?_ | refine wa_p0 5 ?_ | (refine wa_do 5 ?_ <;> (repeat' (first | refine red ?_ | refine redc fun r => ?_ | refine redv fun sv => ?_ | refine redf fun hbi => ?_ | refine redn fun b => ?_ | refine reds ?_ | refine redi (fun hc => ?_) (fun hc => ?_) | refine redq (fun hc => ?_) (fun hc => ?_) | refine redp (fun r => ?_) (fun r => ?_) | fail))) | fail) <;> (first | refine wa_p 6 ?_ | refine wa_p0 6 ?_ | (refine wa_do 6 ?_ <;> (repeat' (first | refine red ?_ | refine redc fun r => ?_ | refine redv fun sv => ?_ | refine redf fun hbi => ?_ | refine redn fun b => ?_ | refine reds ?_ | refine redi (fun hc => ?_) (fun hc => ?_) | refine redq (fun hc => ?_) (fun hc => ?_) | refine redp (fun r => ?_) (fun r => ?_) | fail))) | fail) <;> (first | refine wa_pg 7 ?_ | refine wa_no 7 ?_ | (refine wa_if 13 (fun hc => ?_) (fun hc => ?_) <;> (try first | (exfalso; omega) | exact absurd rfl hc) <;> first | refine wa_pg 7 ?_ | refine wa_no 7 ?_) | fail) <;> (first | refine wa_pg 8 ?_ | refine wa_no 8 ?_ | fail) <;> (first | refine wa_pg 9 ?_ | refine wa_no 9 ?_ | fail) <;> (first | refine wa_pg 10 ?_ | refine wa_no 10 ?_ | fail) <;> (first | refine wa_pg 11 ?_ | refine wa_no 11 ?_ | fail) <;> (first | refine wa_pg 12 ?_ | refine wa_no 12 ?_ | fail) <;> (first | refine wa_pg 13 ?_ | refine wa_no 13 ?_ | (refine wa_do 13 ?_ <;> (repeat' (first | refine red ?_ | refine redc fun r => ?_ | refine redv fun sv => ?_ | refine redf fun hbi => ?_ | refine redn fun b => ?_ | refine reds ?_ | refine redi (fun hc => ?_) (fun hc => ?_) | refine redq (fun hc => ?_) (fun hc => ?_) | refine redp (fun r => ?_) (fun r => ?_) | fail))) | fail) <;> (first | refine wa_pg 14 ?_ | refine wa_no 14 ?_ | (refine wa_do 14 ?_ <;> (repeat' (first | refine red ?_ | refine redc fun r => ?_ | refine redv fun sv => ?_ | refine redf fun hbi => ?_ | refine redn fun b => ?_ | refine reds ?_ | refine redi (fun hc => ?_) (fun hc => ?_) | refine redq (fun hc => ?_) (fun hc => ?_) | refine redp (fun r => ?_) (fun r => ?_) | fail))) | fail) <;> (first | refine wa_pg 15 ?_ | refine wa_no 15 ?_ | (refine wa_do 15 ?_ <;> (repeat' (first | refine red ?_ | refine redc fun r => ?_ | refine redv fun sv => ?_ | refine redf fun hbi => ?_ | refine redn fun b => ?_ | refine reds ?_ | refine redi (fun hc => ?_) (fun hc => ?_) | refine redq (fun hc => ?_) (fun hc => ?_) | refine redp (fun r => ?_) (fun r => ?_) | fail))) | fail) <;> (first | refine wa_pg 16 ?_ | refine wa_no 16 ?_ | (refine wa_do 16 ?_ <;> (repeat' (first | refine red ?_ | refine redc fun r => ?_ | refine redv fun sv => ?_ | refine redf fun hbi => ?_ | refine redn fun b => ?_ | refine reds ?_ | refine redi (fun hc => ?_) (fun hc => ?_) | refine redq (fun hc => ?_) (fun hc => ?_) | refine redp (fun r => ?_) (fun r => ?_) | fail))) | fail) <;> (first | refine wa_pg 17 ?_ | refine wa_no 17 ?_ | (refine wa_do 17 ?_ <;> (repeat' (first | refine red ?_ | refine redc fun r => ?_ | refine redv fun sv => ?_ | refine redf fun hbi => ?_ | refine redn fun b => ?_ | refine reds ?_ | refine redi (fun hc => ?_) (fun hc => ?_) | refine redq (fun hc => ?_) (fun hc => ?_) | refine redp (fun r => ?_) (fun r => ?_) | fail))) | fail) <;> (first | refine wa_p 18 ?_ | refine wa_p0 18 ?_ | (refine wa_do 18 ?_ <;> (repeat' (first | refine red ?_ | refine redc fun r => ?_ | refine redv fun sv => ?_ | refine redf fun hbi => ?_ | refine redn fun b => ?_ | refine reds ?_ | refine redi (fun hc => ?_) (fun hc => ?_) | refine redq (fun hc => ?_) (fun hc => ?_) | refine redp (fun r => ?_) (fun r => ?_) | fail))) | fail)) <;> (first | refine wa_end ?_ | with_reducible refine wq_keep ?_))
        | ((refine wa_begin 6 [false, false, false, false, false, false, false, false, false, false, false, false, false, false, false, false, false, false, false, false] [] ?_ <;> (first | refine wa_p 0 ?_ | refine wa_p0 0 ?_ | fail) <;> (first | refine wa_f 1 fun hbi => ?_ | refine wa_p 1 ?_ | fail) <;> (first | refine wa_p 2 ?_ | refine wa_p0 2 ?_ | fail) <;> (first | refine wa_f 3 fun hbi => ?_ | refine wa_p 3 ?_ | fail) <;> (first | refine wa_p 4 ?_ | refine wa_p0 4 ?_ | (refine wa_do 4 ?_ <;> (repeat' (first | refine red ?_ | refine redc fun r => ?_ | refine redv fun sv => ?_ | refine redf fun hbi => ?_ | refine redn fun b => ?_ | refine reds ?_ | refine redi (fun hc => ?_) (fun hc => ?_) | refine redq (fun hc => ?_) (fun hc => ?_) | refine redp (fun r => ?_) (fun r => ?_) | fail))) | fail) <;> (first | refine wa_p 5 ?_ | (refine wa_deep 5 fun p cs as_ asb_ hcs has hasb hf => ?_; simp only [Un.cells, Un.atoms, Un.fact, List.cons_append, List.nil_append] at hcs has hasb hf; subst hcs has hasb) | fail) <;> (first | refine wa_f 6 fun hbi => ?_ | refine wa_p 6 ?_ | (refine wa_do 6 ?_ <;> (repeat' (first | refine red ?_ | refine redc fun r => ?_ | refine redv fun sv => ?_ | refine redf fun hbi => ?_ | refine redn fun b => ?_ | refine reds ?_ | refine redi (fun hc => ?_) (fun hc => ?_) | refine redq (fun hc => ?_) (fun hc => ?_) | refine redp (fun r => ?_) (fun r => ?_) | fail))) | fail) <;> (refine wa_do 7 ?_ <;> (repeat' (first | refine red ?_ | refine redc fun r => ?_ | refine redv fun sv => ?_ | refine redf fun hbi => ?_ | refine redn fun b => ?_ | refine reds ?_ | refine redi (fun hc => ?_) (fun hc => ?_) | refine redq (fun hc => ?_) (fun hc => ?_) | refine redp (fun r => ?_) (fun r => ?_) | fail))) <;> (first | refine wa_p 8 ?_ | refine wa_p0 8 ?_ | (refine wa_do 8 ?_ <;> (repeat' (first | refine red ?_ | refine redc fun r => ?_ | refine redv fun sv => ?_ | refine redf fun hbi => ?_ | refine redn fun b => ?_ | refine reds ?_ | refine redi (fun hc => ?_) (fun hc => ?_) | refine redq (fun hc => ?_) (fun hc => ?_) | refine redp (fun r => ?_) (fun r => ?_) | fail))) | fail) <;> (first | refine wa_p 9 ?_ | refine wa_p0 9 ?_ | (refine wa_do 9 ?_ <;> (repeat' (first | refine red ?_ | refine redc fun r => ?_ | refine redv fun sv => ?_ | refine redf fun hbi => ?_ | refine redn fun b => ?_ | refine reds ?_ | refine redi (fun hc => ?_) (fun hc => ?_) | refine redq (fun hc => ?_) (fun hc => ?_) | refine redp (fun r => ?_) (fun r => ?_) | fail))) | fail) <;> (first | refine wa_pg 10 ?_ | refine wa_no 10 ?_ | (refine wa_if 42 (fun hc => ?_) (fun hc => ?_) <;> (try first | (exfalso; omega) | exact absurd rfl hc) <;> first | refine wa_pg 10 ?_ | refine wa_no 10 ?_) | fail) <;> (first | refine wa_pg 11 ?_ | refine wa_no 11 ?_ | fail) <;> (first | refine wa_pg 12 ?_ | refine wa_no 12 ?_ | fail) <;> (first | refine wa_pg 13 ?_ | refine wa_no 13 ?_ | fail) <;> (first | refine wa_pg 14 ?_ | refine wa_no 14 ?_ | fail) <;> (first | refine wa_pg 15 ?_ | refine wa_no 15 ?_ | (refine wa_do 15 ?_ <;> (repeat' (first | refine red ?_ | refine redc fun r => ?_ | refine redv fun sv => ?_ | refine redf fun hbi => ?_ | refine redn fun b => ?_ | refine reds ?_ | refine redi (fun hc => ?_) (fun hc => ?_) | refine redq (fun hc => ?_) (fun hc => ?_) | refine redp (fun r => ?_) (fun r => ?_) | fail))) | fail) <;> (first | refine wa_pg 16 ?_ | refine wa_no 16 ?_ | (refine wa_do 16 ?_ <;> (repeat' (first | refine red ?_ | refine redc fun r => ?_ | refine redv fun sv => ?_ | refine redf fun hbi => ?_ | refine redn fun b => ?_ | refine reds ?_ | refine redi (fun hc => ?_) (fun hc => ?_) | refine redq (fun hc => ?_) (fun hc => ?_) | refine redp (fun r => ?_) (fun r => ?_) | fail))) | fail) <;> (refine wa_do 17 ?_ <;> (repeat' (first | refine red ?_ | refine redc fun r => ?_ | refine redv fun sv => ?_ | refine redf fun hbi => ?_ | refine redn fun b => ?_ | refine reds ?_ | refine redi (fun hc => ?_) (fun hc => ?_) | refine redq (fun hc => ?_) (fun hc => ?_) | refine redp (fun r => ?_) (fun r => ?_) | fail))) <;> (first | refine wa_pg 18 ?_ | refine wa_no 18 ?_ | (refine wa_do 18 ?_ <;> (repeat' (first | refine red ?_ | refine redc fun r => ?_ | refine redv fun sv => ?_ | refine redf fun hbi => ?_ | refine redn fun b => ?_ | refine reds ?_ | refine redi (fun hc => ?_) (fun hc => ?_) | refine redq (fun hc => ?_) (fun hc => ?_) | refine redp (fun r => ?_) (fun r => ?_) | fail))) | fail) <;> (first | refine wa_p 19 ?_ | refine wa_p0 19 ?_ | (refine wa_do 19 ?_ <;> (repeat' (first | refine red ?_ | refine redc fun r => ?_ | refine redv fun sv => ?_ | refine redf fun hbi => ?_ | refine redn fun b => ?_ | refine reds ?_ | refine redi (fun hc => ?_) (fun hc => ?_) | refine redq (fun hc => ?_) (fun hc => ?_) | refine redp (fun r => ?_) (fun r => ?_) | fail))) | fail)) <;> (first | refine wa_end ?_ | with_reducible refine wq_keep ?_))
        | fail)
      · exact ⟨(), ret_bool (decC_of' ⟨fun h => h.2.2.2.1, fun h => ⟨hfun, hlen, hall, h, hc.2⟩⟩), ent_e⟩
      · exact ⟨(), ret_bool (decC_f fun h => hc ⟨ruleOk_left h.2.2.2.1, h.2.2.2.2⟩), ent_e⟩
  · haveI hno : ∀ (Δ : List Atom) [HasRd (List Int) repList Δ [vf] f.2.1], CtrC Try.prog 80 [vf, .int .i64 x.1] Δ True Unit (fun _ => .bool (decide ((0 : Int) = 1))) (fun _ => Δ) := fun Δ _ => ⟨fun _ w0 => by
      have := l1Has_spec (w0 := w0) (Γ := Δ) (sv := vf) (xs := f.2.1) (n := x.1)
      rwa [decide_eq_false hfun] at this⟩
    refine cj_enter Try.func121 Try.ntmps121 ?_
    repeat' (first
      | refine red ?_
      | refine redf fun hbi => ?_
      | refine reds ?_
      | refine redc fun r => ?_
      | refine redp (fun r => ?_) (fun r => ?_)
      | refine redv fun sv => ?_
      | refine redn fun b => ?_
      | refine redz fun zs => ?_
      | refine redq (fun hc => ?_) (fun hc => ?_)
      | with_reducible refine wq_blk_o rfl ?_
      | (refine redd fun p cs as_ hcs has hf => ?_; simp only [Un.cells, Un.atoms, Un.fact, List.cons_append, List.nil_append] at hcs has hf; subst hcs has)
      | (refine redi (fun hc => ?_) (fun hc => ?_) <;> try first | (exfalso; omega) | exact absurd rfl hc)
      | ((refine wa_begin 1 [false, false, false, false, false, false, false, false, false, false, false, false, false, false, false, false, false, false, false] [] ?_ <;> (first | refine wa_p 0 ?_ | refine wa_p0 0 ?_ | fail) <;> (first | refine wa_f 1 fun hbi => ?_ | refine wa_p 1 ?_ | fail) <;> (first | refine wa_p 2 ?_ | refine wa_p0 2 ?_ | (refine wa_do 2 ?_ <;> (repeat' (first | refine red ?_ | refine redc fun r => ?_ | refine redv fun sv => ?_ | refine redf fun hbi => ?_ | refine redn fun b => ?_ | refine reds ?_ | refine redi (fun hc => ?_) (fun hc => ?_) | refine redq (fun hc => ?_) (fun hc => ?_) | refine redp (fun r => ?_) (fun r => ?_) | fail))) | fail) <;> (first | refine wa_f 3 fun hbi => ?_ | refine wa_p 3 ?_ | (refine wa_do 3 ?_ <;> (repeat' (first | refine red ?_ | refine redc fun r => ?_ | refine redv fun sv => ?_ | refine redf fun hbi => ?_ | refine redn fun b => ?_ | refine reds ?_ | refine redi (fun hc => ?_) (fun hc => ?_) | refine redq (fun hc => ?_) (fun hc => ?_) | refine redp (fun r => ?_) (fun r => ?_) | fail))) | fail) <;> (refine wa_do 4 ?_ <;> (repeat' (first | refine red ?_ | refine redc fun r => ?_ | refine redv fun sv => ?_ | refine redf fun hbi => ?_ | refine redn fun b => ?_ | refine reds ?_ | refine redi (fun hc => ?_) (fun hc => ?_) | refine redq (fun hc => ?_) (fun hc => ?_) | refine redp (fun r => ?_) (fun r => ?_) | fail))) <;> (first | refine wa_p 5 ?_ | refine wa_p0 5 ?_ | (refine wa_do 5 ?_ <;> (repeat' (first | refine red ?_ | refine redc fun r => ?_ | refine redv fun sv => ?_ | refine redf fun hbi => ?_ | refine redn fun b => ?_ | refine reds ?_ | refine redi (fun hc => ?_) (fun hc => ?_) | refine redq (fun hc => ?_) (fun hc => ?_) | refine redp (fun r => ?_) (fun r => ?_) | fail))) | fail) <;> (first | refine wa_p 6 ?_ | refine wa_p0 6 ?_ | (refine wa_do 6 ?_ <;> (repeat' (first | refine red ?_ | refine redc fun r => ?_ | refine redv fun sv => ?_ | refine redf fun hbi => ?_ | refine redn fun b => ?_ | refine reds ?_ | refine redi (fun hc => ?_) (fun hc => ?_) | refine redq (fun hc => ?_) (fun hc => ?_) | refine redp (fun r => ?_) (fun r => ?_) | fail))) | fail) <;> (first | refine wa_pg 7 ?_ | refine wa_no 7 ?_ | (refine wa_if 13 (fun hc => ?_) (fun hc => ?_) <;> (try first | (exfalso; omega) | exact absurd rfl hc) <;> first | refine wa_pg 7 ?_ | refine wa_no 7 ?_) | fail) <;> (first | refine wa_pg 8 ?_ | refine wa_no 8 ?_ | fail) <;> (first | refine wa_pg 9 ?_ | refine wa_no 9 ?_ | fail) <;> (first | refine wa_pg 10 ?_ | refine wa_no 10 ?_ | fail) <;> (first | refine wa_pg 11 ?_ | refine wa_no 11 ?_ | fail) <;> (first | refine wa_pg 12 ?_ | refine wa_no 12 ?_ | fail) <;> (first | refine wa_pg 13 ?_ | refine wa_no 13 ?_ | (refine wa_do 13 ?_ <;> (repeat' (first | refine red ?_ | refine redc fun r => ?_ | refine redv fun sv => ?_ | refine redf fun hbi => ?_ | refine redn fun b => ?_ | refine reds ?_ | refine redi (fun hc => ?_) (fun hc => ?_) | refine redq (fun hc => ?_) (fun hc => ?_) | refine redp (fun r => ?_) (fun r => ?_) | fail))) | fail) <;> (first | refine wa_pg 14 ?_ | refine wa_no 14 ?_ | (refine wa_do 14 ?_ <;> (repeat' (first | refine red ?_ | refine redc fun r => ?_ | refine redv fun sv => ?_ | refine redf fun hbi => ?_ | refine redn fun b => ?_ | refine reds ?_ | refine redi (fun hc => ?_) (fun hc => ?_) | refine redq (fun hc => ?_) (fun hc => ?_) | refine redp (fun r => ?_) (fun r => ?_) | fail))) | fail) <;> (first | refine wa_pg 15 ?_ | refine wa_no 15 ?_ | (refine wa_do 15 ?_ <;> (repeat' (first | refine red ?_ | refine redc fun r => ?_ | refine redv fun sv => ?_ | refine redf fun hbi => ?_ | refine redn fun b => ?_ | refine reds ?_ | refine redi (fun hc => ?_) (fun hc => ?_) | refine redq (fun hc => ?_) (fun hc => ?_) | refine redp (fun r => ?_) (fun r => ?_) | fail))) | fail) <;> (first | refine wa_pg 16 ?_ | refine wa_no 16 ?_ | (refine wa_do 16 ?_ <;> (repeat' (first | refine red ?_ | refine redc fun r => ?_ | refine redv fun sv => ?_ | refine redf fun hbi => ?_ | refine redn fun b => ?_ | refine reds ?_ | refine redi (fun hc => ?_) (fun hc => ?_) | refine redq (fun hc => ?_) (fun hc => ?_) | refine redp (fun r => ?_) (fun r => ?_) | fail))) | fail) <;> (first | refine wa_pg 17 ?_ | refine wa_no 17 ?_ | (refine wa_do 17 ?_ <;> (repeat' (first | refine red ?_ | refine redc fun r => ?_ | refine redv fun sv => ?_ | refine redf fun hbi => ?_ | refine redn fun b => ?_ | refine reds ?_ | refine redi (fun hc => ?_) (fun hc => ?_) | refine redq (fun hc => ?_) (fun hc => ?_) | refine redp (fun r => ?_) (fun r => ?_) | fail))) | fail) <;> (first | refine wa_p 18 ?_ | refine wa_p0 18 ?_ | (refine wa_do 18 ?_ <;> (repeat' (first | refine red ?_ | refine redc fun r => ?_ | refine redv fun sv => ?_ | refine redf fun hbi => ?_ | refine redn fun b => ?_ | refine reds ?_ | refine redi (fun hc => ?_) (fun hc => ?_) | refine redq (fun hc => ?_) (fun hc => ?_) | refine redp (fun r => ?_) (fun r => ?_) | fail))) | fail)) <;> (first | refine wa_end ?_ | with_reducible refine wq_keep ?_))
      | ((refine wa_begin 6 [false, false, false, false, false, false, false, false, false, false, false, false, false, false, false, false, false, false, false, false] [] ?_ <;> (first | refine wa_p 0 ?_ | refine wa_p0 0 ?_ | fail) <;> (first | refine wa_f 1 fun hbi => ?_ | refine wa_p 1 ?_ | fail) <;> (first | refine wa_p 2 ?_ | refine wa_p0 2 ?_ | fail) <;> (first | refine wa_f 3 fun hbi => ?_ | refine wa_p 3 ?_ | fail) <;> (first | refine wa_p 4 ?_ | refine wa_p0 4 ?_ | (refine wa_do 4 ?_ <;> (repeat' (first | refine red ?_ | refine redc fun r => ?_ | refine redv fun sv => ?_ | refine redf fun hbi => ?_ | refine redn fun b => ?_ | refine reds ?_ | refine redi (fun hc => ?_) (fun hc => ?_) | refine redq (fun hc => ?_) (fun hc => ?_) | refine redp (fun r => ?_) (fun r => ?_) | fail))) | fail) <;> (first | refine wa_p 5 ?_ | (refine wa_deep 5 fun p cs as_ asb_ hcs has hasb hf => ?_; simp only [Un.cells, Un.atoms, Un.fact, List.cons_append, List.nil_append] at hcs has hasb hf; subst hcs has hasb) | fail) <;> (first | refine wa_f 6 fun hbi => ?_ | refine wa_p 6 ?_ | (refine wa_do 6 ?_ <;> (repeat' (first | refine red ?_ | refine redc fun r => ?_ | refine redv fun sv => ?_ | refine redf fun hbi => ?_ | refine redn fun b => ?_ | refine reds ?_ | refine redi (fun hc => ?_) (fun hc => ?_) | refine redq (fun hc => ?_) (fun hc => ?_) | refine redp (fun r => ?_) (fun r => ?_) | fail))) | fail) <;> (refine wa_do 7 ?_ <;> (repeat' (first | refine red ?_ | refine redc fun r => ?_ | refine redv fun sv => ?_ | refine redf fun hbi => ?_ | refine redn fun b => ?_ | refine reds ?_ | refine redi (fun hc => ?_) (fun hc => ?_) | refine redq (fun hc => ?_) (fun hc => ?_) | refine redp (fun r => ?_) (fun r => ?_) | fail))) <;> (first | refine wa_p 8 ?_ | refine wa_p0 8 ?_ | (refine wa_do 8 ?_ <;> (repeat' (first | refine red ?_ | refine redc fun r => ?_ | refine redv fun sv => ?_ | refine redf fun hbi => ?_ | refine redn fun b => ?_ | refine reds ?_ | refine redi (fun hc => ?_) (fun hc => ?_) | refine redq (fun hc => ?_) (fun hc => ?_) | refine redp (fun r => ?_) (fun r => ?_) | fail))) | fail) <;> (first | refine wa_p 9 ?_ | refine wa_p0 9 ?_ | (refine wa_do 9 ?_ <;> (repeat' (first | refine red ?_ | refine redc fun r => ?_ | refine redv fun sv => ?_ | refine redf fun hbi => ?_ | refine redn fun b => ?_ | refine reds ?_ | refine redi (fun hc => ?_) (fun hc => ?_) | refine redq (fun hc => ?_) (fun hc => ?_) | refine redp (fun r => ?_) (fun r => ?_) | fail))) | fail) <;> (first | refine wa_pg 10 ?_ | refine wa_no 10 ?_ | (refine wa_if 42 (fun hc => ?_) (fun hc => ?_) <;> (try first | (exfalso; omega) | exact absurd rfl hc) <;> first | refine wa_pg 10 ?_ | refine wa_no 10 ?_) | fail) <;> (first | refine wa_pg 11 ?_ | refine wa_no 11 ?_ | fail) <;> (first | refine wa_pg 12 ?_ | refine wa_no 12 ?_ | fail) <;> (first | refine wa_pg 13 ?_ | refine wa_no 13 ?_ | fail) <;> (first | refine wa_pg 14 ?_ | refine wa_no 14 ?_ | fail) <;> (first | refine wa_pg 15 ?_ | refine wa_no 15 ?_ | (refine wa_do 15 ?_ <;> (repeat' (first | refine red ?_ | refine redc fun r => ?_ | refine redv fun sv => ?_ | refine redf fun hbi => ?_ | refine redn fun b => ?_ | refine reds ?_ | refine redi (fun hc => ?_) (fun hc => ?_) | refine redq (fun hc => ?_) (fun hc => ?_) | refine redp (fun r => ?_) (fun r => ?_) | fail))) | fail) <;> (first | refine wa_pg 16 ?_ | refine wa_no 16 ?_ | (refine wa_do 16 ?_ <;> (repeat' (first | refine red ?_ | refine redc fun r => ?_ | refine redv fun sv => ?_ | refine redf fun hbi => ?_ | refine redn fun b => ?_ | refine reds ?_ | refine redi (fun hc => ?_) (fun hc => ?_) | refine redq (fun hc => ?_) (fun hc => ?_) | refine redp (fun r => ?_) (fun r => ?_) | fail))) | fail) <;> (refine wa_do 17 ?_ <;> (repeat' (first | refine red ?_ | refine redc fun r => ?_ | refine redv fun sv => ?_ | refine redf fun hbi => ?_ | refine redn fun b => ?_ | refine reds ?_ | refine redi (fun hc => ?_) (fun hc => ?_) | refine redq (fun hc => ?_) (fun hc => ?_) | refine redp (fun r => ?_) (fun r => ?_) | fail))) <;> (first | refine wa_pg 18 ?_ | refine wa_no 18 ?_ | (refine wa_do 18 ?_ <;> (repeat' (first | refine red ?_ | refine redc fun r => ?_ | refine redv fun sv => ?_ | refine redf fun hbi => ?_ | refine redn fun b => ?_ | refine reds ?_ | refine redi (fun hc => ?_) (fun hc => ?_) | refine redq (fun hc => ?_) (fun hc => ?_) | refine redp (fun r => ?_) (fun r => ?_) | fail))) | fail) <;> (first | refine wa_p 19 ?_ | refine wa_p0 19 ?_ | (refine wa_do 19 ?_ <;> (repeat' (first | refine red ?_ | refine redc fun r => ?_ | refine redv fun sv => ?_ | refine redf fun hbi => ?_ | refine redn fun b => ?_ | refine reds ?_ | refine redi (fun hc => ?_) (fun hc => ?_) | refine redq (fun hc => ?_) (fun hc => ?_) | refine redp (fun r => ?_) (fun r => ?_) | fail))) | fail)) <;> (first | refine wa_end ?_ | with_reducible refine wq_keep ?_))
      | fail)
    all_goals exact ⟨(), ret_bool (decC_f fun h => hfun h.1), ent_e⟩
instance l26Line_ctr {Γ : List Atom} {va vf vl v0 v1 : Value} {f : SFront} {x : SLine} [ha : HasRd (List Int) repList Γ [va] f.1] [hf : HasRd (List Int) repList Γ [vf] f.2.1] [hl : HasRd (List SLine) repList Γ [vl] f.2.2] [h0 : HasRd (List (List Int)) repList Γ [v0] x.2.1] [h1 : HasRd (List Int) repList Γ [v1] x.2.2] :
    CtrC Try.prog 121 [.agg #[va, vf, vl], .agg #[.int .i64 x.1, v0, v1]] Γ (Fr0 f) (Unit) (fun _ : Unit => .bool (decC (LineP f x))) (fun _ => Γ) := ⟨fun s w0 => l26Line_spec s⟩

theorem spec_FrontOk_spec {w0 : World} {Γ : List Atom} {va vf vl : Value} {f : SFront} [ha : HasRd (List Int) repList Γ [va] f.1] [hf : HasRd (List Int) repList Γ [vf] f.2.1] [hl : HasRd (List SLine) repList Γ [vl] f.2.2] : CJ Try.prog 71 [.agg #[va, vf, vl]] w0 Γ (fun _ : Unit => .bool (decC (FrontP f))) (fun _ => Γ) := by
  refine cj_lift (R := [.rd [va] f.1, .rd [vf] f.2.1, .rd [vl] f.2.2]) (A := fun _ => []) (fun w1 => ?_) (reads_cons ha (reads_cons hf (reads_cons hl (inferInstance)))) (fun _ => inferInstance)
  simp only [List.cons_append, List.nil_append]
  refine cj_len vl fun hlx => ?_
  refine cj_len va fun hlz => ?_
  have hsl : sigOk f.1 = true → 1 ≤ f.1.length ∧ f.1.length ≤ 8 := sigOk_len
  by_cases hsig : sigOk f.1 = true
  · have hsl' := hsl hsig
    refine cj_enter Try.func71 Try.ntmps71 ?_
    repeat' (first
      | refine red ?_
      | refine redf fun hbi => ?_
      | refine reds ?_
      | refine redc fun r => ?_
      | refine redp (fun r => ?_) (fun r => ?_)
      | refine redv fun sv => ?_
      | refine redn fun b => ?_
      | refine redz fun zs => ?_
      | refine redq (fun hc => ?_) (fun hc => ?_)
      | with_reducible refine wq_blk_o rfl ?_
      | (refine redd fun p cs as_ hcs has hf => ?_; simp only [Un.cells, Un.atoms, Un.fact, List.cons_append, List.nil_append] at hcs has hf; subst hcs has)
      | (refine redi (fun hc => ?_) (fun hc => ?_) <;> try first | (exfalso; omega) | exact absurd rfl hc)
      | ((refine wa_begin 6 [false, false, false, false, false, false, false, false] [] ?_ <;> (first | refine wa_f 0 fun hbi => ?_ | refine wa_p 0 ?_ | fail) <;> (first | refine wa_p 1 ?_ | refine wa_p0 1 ?_ | fail) <;> (first | refine wa_f 2 fun hbi => ?_ | refine wa_p 2 ?_ | fail) <;> (first | refine wa_p 3 ?_ | refine wa_p0 3 ?_ | (refine wa_do 3 ?_ <;> (repeat' (first | refine red ?_ | refine redc fun r => ?_ | refine redv fun sv => ?_ | refine redf fun hbi => ?_ | refine redn fun b => ?_ | refine reds ?_ | refine redi (fun hc => ?_) (fun hc => ?_) | refine redq (fun hc => ?_) (fun hc => ?_) | refine redp (fun r => ?_) (fun r => ?_) | fail))) | fail) <;> (first | refine wa_p 4 ?_ | (refine wa_deep 4 fun p cs as_ asb_ hcs has hasb hf => ?_; simp only [Un.cells, Un.atoms, Un.fact, List.cons_append, List.nil_append] at hcs has hasb hf; subst hcs has hasb) | fail) <;> (first | refine wa_f 5 fun hbi => ?_ | refine wa_p 5 ?_ | (refine wa_do 5 ?_ <;> (repeat' (first | refine red ?_ | refine redc fun r => ?_ | refine redv fun sv => ?_ | refine redf fun hbi => ?_ | refine redn fun b => ?_ | refine reds ?_ | refine redi (fun hc => ?_) (fun hc => ?_) | refine redq (fun hc => ?_) (fun hc => ?_) | refine redp (fun r => ?_) (fun r => ?_) | fail))) | fail) <;> (refine wa_do 6 ?_ <;> (repeat' (first | refine red ?_ | refine redc fun r => ?_ | refine redv fun sv => ?_ | refine redf fun hbi => ?_ | refine redn fun b => ?_ | refine reds ?_ | refine redi (fun hc => ?_) (fun hc => ?_) | refine redq (fun hc => ?_) (fun hc => ?_) | refine redp (fun r => ?_) (fun r => ?_) | fail))) <;> (first | refine wa_p 7 ?_ | refine wa_p0 7 ?_ | (refine wa_do 7 ?_ <;> (repeat' (first | refine red ?_ | refine redc fun r => ?_ | refine redv fun sv => ?_ | refine redf fun hbi => ?_ | refine redn fun b => ?_ | refine reds ?_ | refine redi (fun hc => ?_) (fun hc => ?_) | refine redq (fun hc => ?_) (fun hc => ?_) | refine redp (fun r => ?_) (fun r => ?_) | fail))) | fail)) <;> (first | refine wa_end ?_ | with_reducible refine wq_keep ?_))
      | fail)
    · rw [hsig] at hc; cases hc
    · exact ⟨(), ret_bool (decC_f fun h => hc h.2.1), ent_e⟩
    · exact ⟨(), ret_bool (decC_f fun h => by have := h.2.2.1; omega), ent_e⟩
    have hset : SetP f.1.length f.2.1 f.2.1.length := by assumption
    have hfr : Fr0 f := ⟨hsig, hset⟩
    refine wc_loop_c [3] [24, 25, 26, 27, 28, 31, 32, 33, 34, 35, 36, 37, 38, 2, 29, 30] (ι := Nat) (fun k => [.int .i64 k]) (fun k => k ≤ f.2.2.length ∧ LinesP f k) (fun k => f.2.2.length - k) 0 (by kernel_rfl) ⟨Nat.zero_le _, fun i hi => by omega⟩ ?_
    intro k u l' hl' ⟨hk, hkk⟩
    simp only [patch, List.map_cons, List.map_nil, List.set_cons_zero, List.set_cons_succ] at hl'
    subst hl'
    repeat' (first
      | refine red ?_
      | refine redf fun hbi => ?_
      | refine reds ?_
      | refine redc fun r => ?_
      | refine redp (fun r => ?_) (fun r => ?_)
      | refine redv fun sv => ?_
      | refine redn fun b => ?_
      | refine redz fun zs => ?_
      | refine redq (fun hc => ?_) (fun hc => ?_)
      | with_reducible refine wq_blk_o rfl ?_
      | (refine redd fun p cs as_ hcs has hf => ?_; simp only [Un.cells, Un.atoms, Un.fact, List.cons_append, List.nil_append] at hcs has hf; subst hcs has)
      | (refine redi (fun hc => ?_) (fun hc => ?_) <;> try first | (exfalso; omega) | exact absurd rfl hc)
      | ((refine wa_begin 6 [false, false, false, false, false, false, false, false] [] ?_ <;> (first | refine wa_f 0 fun hbi => ?_ | refine wa_p 0 ?_ | fail) <;> (first | refine wa_p 1 ?_ | refine wa_p0 1 ?_ | fail) <;> (first | refine wa_f 2 fun hbi => ?_ | refine wa_p 2 ?_ | fail) <;> (first | refine wa_p 3 ?_ | refine wa_p0 3 ?_ | (refine wa_do 3 ?_ <;> (repeat' (first | refine red ?_ | refine redc fun r => ?_ | refine redv fun sv => ?_ | refine redf fun hbi => ?_ | refine redn fun b => ?_ | refine reds ?_ | refine redi (fun hc => ?_) (fun hc => ?_) | refine redq (fun hc => ?_) (fun hc => ?_) | refine redp (fun r => ?_) (fun r => ?_) | fail))) | fail) <;> (first | refine wa_p 4 ?_ | (refine wa_deep 4 fun p cs as_ asb_ hcs has hasb hf => ?_; simp only [Un.cells, Un.atoms, Un.fact, List.cons_append, List.nil_append] at hcs has hasb hf; subst hcs has hasb) | fail) <;> (first | refine wa_f 5 fun hbi => ?_ | refine wa_p 5 ?_ | (refine wa_do 5 ?_ <;> (repeat' (first | refine red ?_ | refine redc fun r => ?_ | refine redv fun sv => ?_ | refine redf fun hbi => ?_ | refine redn fun b => ?_ | refine reds ?_ | refine redi (fun hc => ?_) (fun hc => ?_) | refine redq (fun hc => ?_) (fun hc => ?_) | refine redp (fun r => ?_) (fun r => ?_) | fail))) | fail) <;> (refine wa_do 6 ?_ <;> (repeat' (first | refine red ?_ | refine redc fun r => ?_ | refine redv fun sv => ?_ | refine redf fun hbi => ?_ | refine redn fun b => ?_ | refine reds ?_ | refine redi (fun hc => ?_) (fun hc => ?_) | refine redq (fun hc => ?_) (fun hc => ?_) | refine redp (fun r => ?_) (fun r => ?_) | fail))) <;> (first | refine wa_p 7 ?_ | refine wa_p0 7 ?_ | (refine wa_do 7 ?_ <;> (repeat' (first | refine red ?_ | refine redc fun r => ?_ | refine redv fun sv => ?_ | refine redf fun hbi => ?_ | refine redn fun b => ?_ | refine reds ?_ | refine redi (fun hc => ?_) (fun hc => ?_) | refine redq (fun hc => ?_) (fun hc => ?_) | refine redp (fun r => ?_) (fun r => ?_) | fail))) | fail)) <;> (first | refine wa_end ?_ | with_reducible refine wq_keep ?_))
      | fail)
    · exact ⟨(), ret_bool (decC_f fun h => hc (h.2.2.2 k (by omega))), ent_e⟩
    · exact wq_next (k + 1) ⟨by omega, lines_next hkk hc⟩ (by omega) (by kernel_rfl) ent_e
    · exact ⟨(), ret_bool (decC_t ⟨hsig, hset, by omega, by rw [show f.2.2.length = k by omega]; exact hkk⟩), ent_e⟩
  · refine cj_enter Try.func71 Try.ntmps71 ?_
    repeat' (first
      | refine red ?_
      | refine redf fun hbi => ?_
      | refine reds ?_
      | refine redc fun r => ?_
      | refine redp (fun r => ?_) (fun r => ?_)
      | refine redv fun sv => ?_
      | refine redn fun b => ?_
      | refine redz fun zs => ?_
      | refine redq (fun hc => ?_) (fun hc => ?_)
      | with_reducible refine wq_blk_o rfl ?_
      | (refine redd fun p cs as_ hcs has hf => ?_; simp only [Un.cells, Un.atoms, Un.fact, List.cons_append, List.nil_append] at hcs has hf; subst hcs has)
      | (refine redi (fun hc => ?_) (fun hc => ?_) <;> try first | (exfalso; omega) | exact absurd rfl hc)
      | ((refine wa_begin 6 [false, false, false, false, false, false, false, false] [] ?_ <;> (first | refine wa_f 0 fun hbi => ?_ | refine wa_p 0 ?_ | fail) <;> (first | refine wa_p 1 ?_ | refine wa_p0 1 ?_ | fail) <;> (first | refine wa_f 2 fun hbi => ?_ | refine wa_p 2 ?_ | fail) <;> (first | refine wa_p 3 ?_ | refine wa_p0 3 ?_ | (refine wa_do 3 ?_ <;> (repeat' (first | refine red ?_ | refine redc fun r => ?_ | refine redv fun sv => ?_ | refine redf fun hbi => ?_ | refine redn fun b => ?_ | refine reds ?_ | refine redi (fun hc => ?_) (fun hc => ?_) | refine redq (fun hc => ?_) (fun hc => ?_) | refine redp (fun r => ?_) (fun r => ?_) | fail))) | fail) <;> (first | refine wa_p 4 ?_ | (refine wa_deep 4 fun p cs as_ asb_ hcs has hasb hf => ?_; simp only [Un.cells, Un.atoms, Un.fact, List.cons_append, List.nil_append] at hcs has hasb hf; subst hcs has hasb) | fail) <;> (first | refine wa_f 5 fun hbi => ?_ | refine wa_p 5 ?_ | (refine wa_do 5 ?_ <;> (repeat' (first | refine red ?_ | refine redc fun r => ?_ | refine redv fun sv => ?_ | refine redf fun hbi => ?_ | refine redn fun b => ?_ | refine reds ?_ | refine redi (fun hc => ?_) (fun hc => ?_) | refine redq (fun hc => ?_) (fun hc => ?_) | refine redp (fun r => ?_) (fun r => ?_) | fail))) | fail) <;> (refine wa_do 6 ?_ <;> (repeat' (first | refine red ?_ | refine redc fun r => ?_ | refine redv fun sv => ?_ | refine redf fun hbi => ?_ | refine redn fun b => ?_ | refine reds ?_ | refine redi (fun hc => ?_) (fun hc => ?_) | refine redq (fun hc => ?_) (fun hc => ?_) | refine redp (fun r => ?_) (fun r => ?_) | fail))) <;> (first | refine wa_p 7 ?_ | refine wa_p0 7 ?_ | (refine wa_do 7 ?_ <;> (repeat' (first | refine red ?_ | refine redc fun r => ?_ | refine redv fun sv => ?_ | refine redf fun hbi => ?_ | refine redn fun b => ?_ | refine reds ?_ | refine redi (fun hc => ?_) (fun hc => ?_) | refine redq (fun hc => ?_) (fun hc => ?_) | refine redp (fun r => ?_) (fun r => ?_) | fail))) | fail)) <;> (first | refine wa_end ?_ | with_reducible refine wq_keep ?_))
      | fail)
    all_goals first
      | exact ⟨(), ret_bool (decC_f fun h => hsig h.1), ent_e⟩
      | (exfalso; exact hsig (by assumption))
instance spec_FrontOk_ctr {Γ : List Atom} {va vf vl : Value} {f : SFront} [ha : HasRd (List Int) repList Γ [va] f.1] [hf : HasRd (List Int) repList Γ [vf] f.2.1] [hl : HasRd (List SLine) repList Γ [vl] f.2.2] :
    CtrC Try.prog 71 [.agg #[va, vf, vl]] Γ (True) (Unit) (fun _ : Unit => .bool (decC (FrontP f))) (fun _ => Γ) := ⟨fun s w0 => spec_FrontOk_spec⟩

/-! ### Calls -/
def CallP (f : SFront) (t : List Int) : Prop := t.getD 0 0 ∈ f.2.1 ∧ WoP (t.drop 1) f.2.1 (t.drop 1).length
theorem l26Call_spec {w0 : World} {Γ : List Atom} {va vf vl vt : Value} {f : SFront} {t : List Int} [ha : HasRd (List Int) repList Γ [va] f.1] [hf : HasRd (List Int) repList Γ [vf] f.2.1] [hl : HasRd (List SLine) repList Γ [vl] f.2.2] [ht : HasRd (List Int) repList Γ [vt] t] (hs : termOk f.1 t = true) : CJ Try.prog 72 [.agg #[va, vf, vl], vt, .int .i64 0] w0 Γ (fun _ : Unit => .bool (decC (CallP f t))) (fun _ => Γ) := by
  refine cj_lift (R := [.rd [va] f.1, .rd [vf] f.2.1, .rd [vl] f.2.2, .rd [vt] t]) (A := fun _ => []) (fun w1 => ?_) (reads_cons ha (reads_cons hf (reads_cons hl (reads_cons ht (inferInstance))))) (fun _ => inferInstance)
  simp only [List.cons_append, List.nil_append]
  have htl := termOk_len hs
  have hsg := termOk_sig hs
  have he := end_S hs (k := 0) (by omega)
  have hz : sz f.1 t 0 = t.length := by
    unfold sz
    rw [List.drop_zero, (termOk_iff.1 hs).2.2.2]
  rw [hz, Nat.zero_add] at he
  refine cj_enter Try.func72 Try.ntmps72 ?_
  repeat' (first
    | refine red ?_
    | refine redf fun hbi => ?_
    | refine reds ?_
    | refine redc fun r => ?_
    | refine redp (fun r => ?_) (fun r => ?_)
    | refine redv fun sv => ?_
    | refine redn fun b => ?_
    | refine redz fun zs => ?_
    | refine redq (fun hc => ?_) (fun hc => ?_)
    | with_reducible refine wq_blk_o rfl ?_
    | (refine redd fun p cs as_ hcs has hf => ?_; simp only [Un.cells, Un.atoms, Un.fact, List.cons_append, List.nil_append] at hcs has hf; subst hcs has)
    | (refine redi (fun hc => ?_) (fun hc => ?_) <;> try first | (exfalso; omega) | exact absurd rfl hc)
    | ((refine wa_begin 2 [false, false, false, false, false, false, false, false, false, false, false, false, false, false, false, false, false, false] [] ?_ <;> (first | refine wa_p 0 ?_ | refine wa_p0 0 ?_ | fail) <;> (first | refine wa_f 1 fun hbi => ?_ | refine wa_p 1 ?_ | fail) <;> (first | refine wa_p 2 ?_ | refine wa_p0 2 ?_ | fail) <;> (first | refine wa_p 3 ?_ | refine wa_p0 3 ?_ | (refine wa_do 3 ?_ <;> (repeat' (first | refine red ?_ | refine redc fun r => ?_ | refine redv fun sv => ?_ | refine redf fun hbi => ?_ | refine redn fun b => ?_ | refine reds ?_ | refine redi (fun hc => ?_) (fun hc => ?_) | refine redq (fun hc => ?_) (fun hc => ?_) | refine redp (fun r => ?_) (fun r => ?_) | fail))) | fail) <;> (first | refine wa_p 4 ?_ | (refine wa_deep 4 fun p cs as_ asb_ hcs has hasb hf => ?_; simp only [Un.cells, Un.atoms, Un.fact, List.cons_append, List.nil_append] at hcs has hasb hf; subst hcs has hasb) | fail) <;> (first | refine wa_f 5 fun hbi => ?_ | refine wa_p 5 ?_ | (refine wa_do 5 ?_ <;> (repeat' (first | refine red ?_ | refine redc fun r => ?_ | refine redv fun sv => ?_ | refine redf fun hbi => ?_ | refine redn fun b => ?_ | refine reds ?_ | refine redi (fun hc => ?_) (fun hc => ?_) | refine redq (fun hc => ?_) (fun hc => ?_) | refine redp (fun r => ?_) (fun r => ?_) | fail))) | fail) <;> (refine wa_do 6 ?_ <;> (repeat' (first | refine red ?_ | refine redc fun r => ?_ | refine redv fun sv => ?_ | refine redf fun hbi => ?_ | refine redn fun b => ?_ | refine reds ?_ | refine redi (fun hc => ?_) (fun hc => ?_) | refine redq (fun hc => ?_) (fun hc => ?_) | refine redp (fun r => ?_) (fun r => ?_) | fail))) <;> (first | refine wa_p 7 ?_ | refine wa_p0 7 ?_ | (refine wa_do 7 ?_ <;> (repeat' (first | refine red ?_ | refine redc fun r => ?_ | refine redv fun sv => ?_ | refine redf fun hbi => ?_ | refine redn fun b => ?_ | refine reds ?_ | refine redi (fun hc => ?_) (fun hc => ?_) | refine redq (fun hc => ?_) (fun hc => ?_) | refine redp (fun r => ?_) (fun r => ?_) | fail))) | fail) <;> (first | refine wa_pg 8 ?_ | refine wa_no 8 ?_ | (refine wa_if 20 (fun hc => ?_) (fun hc => ?_) <;> (try first | (exfalso; omega) | exact absurd rfl hc) <;> first | refine wa_pg 8 ?_ | refine wa_no 8 ?_) | fail) <;> (first | refine wa_pg 9 ?_ | refine wa_no 9 ?_ | fail) <;> (first | refine wa_pg 10 ?_ | refine wa_no 10 ?_ | fail) <;> (first | refine wa_pg 11 ?_ | refine wa_no 11 ?_ | fail) <;> (first | refine wa_pg 13 ?_ | refine wa_no 13 ?_ | fail) <;> (first | refine wa_pg 14 ?_ | refine wa_no 14 ?_ | fail) <;> (refine wa_do 12 ?_ <;> (repeat' (first | refine red ?_ | refine redc fun r => ?_ | refine redv fun sv => ?_ | refine redf fun hbi => ?_ | refine redn fun b => ?_ | refine reds ?_ | refine redi (fun hc => ?_) (fun hc => ?_) | refine redq (fun hc => ?_) (fun hc => ?_) | refine redp (fun r => ?_) (fun r => ?_) | fail))) <;> (refine wa_do 15 ?_ <;> (repeat' (first | refine red ?_ | refine redc fun r => ?_ | refine redv fun sv => ?_ | refine redf fun hbi => ?_ | refine redn fun b => ?_ | refine reds ?_ | refine redi (fun hc => ?_) (fun hc => ?_) | refine redq (fun hc => ?_) (fun hc => ?_) | refine redp (fun r => ?_) (fun r => ?_) | fail))) <;> (first | refine wa_p 16 ?_ | refine wa_p0 16 ?_ | (refine wa_do 16 ?_ <;> (repeat' (first | refine red ?_ | refine redc fun r => ?_ | refine redv fun sv => ?_ | refine redf fun hbi => ?_ | refine redn fun b => ?_ | refine reds ?_ | refine redi (fun hc => ?_) (fun hc => ?_) | refine redq (fun hc => ?_) (fun hc => ?_) | refine redp (fun r => ?_) (fun r => ?_) | fail))) | fail) <;> (first | refine wa_p 17 ?_ | refine wa_p0 17 ?_ | (refine wa_do 17 ?_ <;> (repeat' (first | refine red ?_ | refine redc fun r => ?_ | refine redv fun sv => ?_ | refine redf fun hbi => ?_ | refine redn fun b => ?_ | refine reds ?_ | refine redi (fun hc => ?_) (fun hc => ?_) | refine redq (fun hc => ?_) (fun hc => ?_) | refine redp (fun r => ?_) (fun r => ?_) | fail))) | fail)) <;> (first | refine wa_end ?_ | with_reducible refine wq_keep ?_))
    | fail)
  · have e : List.drop ((0 : Int) + 1).toNat (List.take (endOf f.1 (badS f.1) t 0).toNat t) = t.drop 1 := by
      rw [he, Int.toNat_natCast, List.take_length]; rfl
    rw [e]
    exact ⟨(), ret_bool (decC_iff_eq ⟨fun h => h.2, fun h => ⟨hc, h⟩⟩), ent_e⟩
  · exact ⟨(), ret_bool (decC_f fun h => hc h.1), ent_e⟩
instance l26Call_ctr {Γ : List Atom} {va vf vl vt : Value} {f : SFront} {t : List Int} [ha : HasRd (List Int) repList Γ [va] f.1] [hf : HasRd (List Int) repList Γ [vf] f.2.1] [hl : HasRd (List SLine) repList Γ [vl] f.2.2] [ht : HasRd (List Int) repList Γ [vt] t] :
    CtrC Try.prog 72 [.agg #[va, vf, vl], vt, .int .i64 0] Γ (termOk f.1 t = true) (Unit) (fun _ : Unit => .bool (decC (CallP f t))) (fun _ => Γ) := ⟨fun s w0 => l26Call_spec s⟩

/-- The first number below n of which p is true; -1 where there is none. -/
noncomputable def firstTo (p : Nat → Prop) : Nat → Int
  | 0 => -1
  | n + 1 => if decC (firstTo p n ≠ -1) = true then firstTo p n else if decC (p n) = true then n else -1
theorem first_none {p : Nat → Prop} : ∀ {n : Nat}, (∀ i, i < n → ¬ p i) → firstTo p n = -1
  | 0, _ => rfl
  | n + 1, h => by
    have h1 := first_none (p := p) (n := n) (fun i hi => h i (by omega))
    unfold firstTo
    rw [if_neg (by rw [decC_f (fun h => h h1)]; decide), if_neg (by rw [decC_f (h n (by omega))]; decide)]
theorem first_some {p : Nat → Prop} {k : Nat} (hp : p k) (h : ∀ i, i < k → ¬ p i) : ∀ {n : Nat}, k < n → firstTo p n = k
  | 0, h0 => by omega
  | n + 1, h0 => by
    unfold firstTo
    by_cases e : k = n
    · subst e
      rw [if_neg (by rw [decC_f (fun h' => h' (first_none h))]; decide), if_pos (decC_t hp)]
    · have h1 := first_some hp h (n := n) (by omega)
      rw [if_pos (decC_t (by rw [h1]; omega)), h1]
def FitL (f : SFront) (t : List Int) (k : Nat) : Prop := instOf f.1 (leftL (f.2.2.getD k default)) t = true
theorem l26First_spec {w0 : World} {Γ : List Atom} {va vf vl vt : Value} {f : SFront} {t : List Int} [ha : HasRd (List Int) repList Γ [va] f.1] [hf : HasRd (List Int) repList Γ [vf] f.2.1] [hl : HasRd (List SLine) repList Γ [vl] f.2.2] [ht : HasRd (List Int) repList Γ [vt] t] (hs : termOk f.1 t = true ∧ LinesP f f.2.2.length ∧ Fr0 f) : CJ Try.prog 73 [.agg #[va, vf, vl], vt] w0 Γ (fun _ : Unit => .int .i64 (firstTo (FitL f t) f.2.2.length)) (fun _ => Γ) := by
  refine cj_lift (R := [.rd [va] f.1, .rd [vf] f.2.1, .rd [vl] f.2.2, .rd [vt] t]) (A := fun _ => []) (fun w1 => ?_) (reads_cons ha (reads_cons hf (reads_cons hl (reads_cons ht (inferInstance))))) (fun _ => inferInstance)
  simp only [List.cons_append, List.nil_append]
  obtain ⟨hto, hlp, hfr⟩ := hs
  refine cj_len vl fun hlx => ?_
  refine cj_enter Try.func73 Try.ntmps73 ?_
  repeat' (first
    | refine red ?_
    | refine redf fun hbi => ?_
    | refine reds ?_
    | refine redc fun r => ?_
    | refine redp (fun r => ?_) (fun r => ?_)
    | refine redv fun sv => ?_
    | refine redn fun b => ?_
    | refine redz fun zs => ?_
    | refine redq (fun hc => ?_) (fun hc => ?_)
    | with_reducible refine wq_blk_o rfl ?_
    | (refine redd fun p cs as_ hcs has hf => ?_; simp only [Un.cells, Un.atoms, Un.fact, List.cons_append, List.nil_append] at hcs has hf; subst hcs has)
    | (refine redi (fun hc => ?_) (fun hc => ?_) <;> try first | (exfalso; omega) | exact absurd rfl hc)
    | ((refine wa_begin 4 [false, false, false, false, false, false, false, false, false, false] [] ?_ <;> (first | refine wa_p 0 ?_ | refine wa_p0 0 ?_ | fail) <;> (first | refine wa_f 1 fun hbi => ?_ | refine wa_p 1 ?_ | fail) <;> (first | refine wa_p 2 ?_ | refine wa_p0 2 ?_ | fail) <;> (first | refine wa_f 3 fun hbi => ?_ | refine wa_p 3 ?_ | fail) <;> (first | refine wa_p 4 ?_ | refine wa_p0 4 ?_ | fail) <;> (first | refine wa_p 5 ?_ | (refine wa_deep 5 fun p cs as_ asb_ hcs has hasb hf => ?_; simp only [Un.cells, Un.atoms, Un.fact, List.cons_append, List.nil_append] at hcs has hasb hf; subst hcs has hasb) | fail) <;> (first | refine wa_f 6 fun hbi => ?_ | refine wa_p 6 ?_ | fail) <;> (first | refine wa_p 8 ?_ | refine wa_p0 8 ?_ | fail) <;> (refine wa_do 7 ?_ <;> (repeat' (first | refine red ?_ | refine redc fun r => ?_ | refine redv fun sv => ?_ | refine redf fun hbi => ?_ | refine redn fun b => ?_ | refine reds ?_ | refine redi (fun hc => ?_) (fun hc => ?_) | refine redq (fun hc => ?_) (fun hc => ?_) | refine redp (fun r => ?_) (fun r => ?_) | fail))) <;> (refine wa_do 9 ?_ <;> (repeat' (first | refine red ?_ | refine redc fun r => ?_ | refine redv fun sv => ?_ | refine redf fun hbi => ?_ | refine redn fun b => ?_ | refine reds ?_ | refine redi (fun hc => ?_) (fun hc => ?_) | refine redq (fun hc => ?_) (fun hc => ?_) | refine redp (fun r => ?_) (fun r => ?_) | fail)))) <;> (first | refine wa_end ?_ | with_reducible refine wq_keep ?_))
    | fail)
  refine wc_loop_c [5] [6, 7, 8, 9, 10, 13, 14, 15, 16, 17, 18, 19, 20, 21, 22, 23, 4, 11, 12] (ι := Nat) (fun k => [.int .i64 k]) (fun k => k ≤ f.2.2.length ∧ ∀ i, i < k → ¬ FitL f t i) (fun k => f.2.2.length - k) 0 (by kernel_rfl) ⟨Nat.zero_le _, fun i hi => by omega⟩ ?_
  intro k u l' hl' ⟨hk, hkk⟩
  simp only [patch, List.map_cons, List.map_nil, List.set_cons_zero, List.set_cons_succ] at hl'
  subst hl'
  by_cases hlt : k < f.2.2.length
  · have hlk := hlp k hlt
    have hsh := line_short hfr hlk
    have hlo := ruleOk_left hlk.2.2.2.1
    have hin := inst_yes hlo hto
    repeat' (first
      | refine red ?_
      | refine redf fun hbi => ?_
      | refine reds ?_
      | refine redc fun r => ?_
      | refine redp (fun r => ?_) (fun r => ?_)
      | refine redv fun sv => ?_
      | refine redn fun b => ?_
      | refine redz fun zs => ?_
      | refine redq (fun hc => ?_) (fun hc => ?_)
      | with_reducible refine wq_blk_o rfl ?_
      | (refine redd fun p cs as_ hcs has hf => ?_; simp only [Un.cells, Un.atoms, Un.fact, List.cons_append, List.nil_append] at hcs has hf; subst hcs has)
      | (refine redi (fun hc => ?_) (fun hc => ?_) <;> try first | (exfalso; omega) | exact absurd rfl hc)
      | ((refine wa_begin 4 [false, false, false, false, false, false, false, false, false, false] [] ?_ <;> (first | refine wa_p 0 ?_ | refine wa_p0 0 ?_ | fail) <;> (first | refine wa_f 1 fun hbi => ?_ | refine wa_p 1 ?_ | fail) <;> (first | refine wa_p 2 ?_ | refine wa_p0 2 ?_ | fail) <;> (first | refine wa_f 3 fun hbi => ?_ | refine wa_p 3 ?_ | fail) <;> (first | refine wa_p 4 ?_ | refine wa_p0 4 ?_ | fail) <;> (first | refine wa_p 5 ?_ | (refine wa_deep 5 fun p cs as_ asb_ hcs has hasb hf => ?_; simp only [Un.cells, Un.atoms, Un.fact, List.cons_append, List.nil_append] at hcs has hasb hf; subst hcs has hasb) | fail) <;> (first | refine wa_f 6 fun hbi => ?_ | refine wa_p 6 ?_ | fail) <;> (first | refine wa_p 8 ?_ | refine wa_p0 8 ?_ | fail) <;> (refine wa_do 7 ?_ <;> (repeat' (first | refine red ?_ | refine redc fun r => ?_ | refine redv fun sv => ?_ | refine redf fun hbi => ?_ | refine redn fun b => ?_ | refine reds ?_ | refine redi (fun hc => ?_) (fun hc => ?_) | refine redq (fun hc => ?_) (fun hc => ?_) | refine redp (fun r => ?_) (fun r => ?_) | fail))) <;> (refine wa_do 9 ?_ <;> (repeat' (first | refine red ?_ | refine redc fun r => ?_ | refine redv fun sv => ?_ | refine redf fun hbi => ?_ | refine redn fun b => ?_ | refine reds ?_ | refine redi (fun hc => ?_) (fun hc => ?_) | refine redq (fun hc => ?_) (fun hc => ?_) | refine redp (fun r => ?_) (fun r => ?_) | fail)))) <;> (first | refine wa_end ?_ | with_reducible refine wq_keep ?_))
      | fail)
    · rw [hin] at hc
      exact ⟨(), ret_int (first_some (p := FitL f t) hc hkk hlt), ent_e⟩
    · rw [hin] at hc
      refine wq_next (k + 1) ⟨by omega, fun i hi => ?_⟩ (by omega) (by kernel_rfl) ent_e
      by_cases e : i = k
      · rw [e]; unfold FitL; rw [hc]; decide
      · exact hkk i (by omega)
  · repeat' (first
      | refine red ?_
      | refine redf fun hbi => ?_
      | refine reds ?_
      | refine redc fun r => ?_
      | refine redp (fun r => ?_) (fun r => ?_)
      | refine redv fun sv => ?_
      | refine redn fun b => ?_
      | refine redz fun zs => ?_
      | refine redq (fun hc => ?_) (fun hc => ?_)
      | with_reducible refine wq_blk_o rfl ?_
      | (refine redd fun p cs as_ hcs has hf => ?_; simp only [Un.cells, Un.atoms, Un.fact, List.cons_append, List.nil_append] at hcs has hf; subst hcs has)
      | (refine redi (fun hc => ?_) (fun hc => ?_) <;> try first | (exfalso; omega) | exact absurd rfl hc)
      | ((refine wa_begin 4 [false, false, false, false, false, false, false, false, false, false] [] ?_ <;> (first | refine wa_p 0 ?_ | refine wa_p0 0 ?_ | fail) <;> (first | refine wa_f 1 fun hbi => ?_ | refine wa_p 1 ?_ | fail) <;> (first | refine wa_p 2 ?_ | refine wa_p0 2 ?_ | fail) <;> (first | refine wa_f 3 fun hbi => ?_ | refine wa_p 3 ?_ | fail) <;> (first | refine wa_p 4 ?_ | refine wa_p0 4 ?_ | fail) <;> (first | refine wa_p 5 ?_ | (refine wa_deep 5 fun p cs as_ asb_ hcs has hasb hf => ?_; simp only [Un.cells, Un.atoms, Un.fact, List.cons_append, List.nil_append] at hcs has hasb hf; subst hcs has hasb) | fail) <;> (first | refine wa_f 6 fun hbi => ?_ | refine wa_p 6 ?_ | fail) <;> (first | refine wa_p 8 ?_ | refine wa_p0 8 ?_ | fail) <;> (refine wa_do 7 ?_ <;> (repeat' (first | refine red ?_ | refine redc fun r => ?_ | refine redv fun sv => ?_ | refine redf fun hbi => ?_ | refine redn fun b => ?_ | refine reds ?_ | refine redi (fun hc => ?_) (fun hc => ?_) | refine redq (fun hc => ?_) (fun hc => ?_) | refine redp (fun r => ?_) (fun r => ?_) | fail))) <;> (refine wa_do 9 ?_ <;> (repeat' (first | refine red ?_ | refine redc fun r => ?_ | refine redv fun sv => ?_ | refine redf fun hbi => ?_ | refine redn fun b => ?_ | refine reds ?_ | refine redi (fun hc => ?_) (fun hc => ?_) | refine redq (fun hc => ?_) (fun hc => ?_) | refine redp (fun r => ?_) (fun r => ?_) | fail)))) <;> (first | refine wa_end ?_ | with_reducible refine wq_keep ?_))
      | fail)
    exact ⟨(), ret_int (first_none (by rw [show f.2.2.length = k by omega]; exact hkk)), ent_e⟩
instance l26First_ctr {Γ : List Atom} {va vf vl vt : Value} {f : SFront} {t : List Int} [ha : HasRd (List Int) repList Γ [va] f.1] [hf : HasRd (List Int) repList Γ [vf] f.2.1] [hl : HasRd (List SLine) repList Γ [vl] f.2.2] [ht : HasRd (List Int) repList Γ [vt] t] :
    CtrC Try.prog 73 [.agg #[va, vf, vl], vt] Γ (termOk f.1 t = true ∧ LinesP f f.2.2.length ∧ Fr0 f) (Unit) (fun _ : Unit => .int .i64 (firstTo (FitL f t) f.2.2.length)) (fun _ => Γ) := ⟨fun s w0 => l26First_spec s⟩

noncomputable def firstLine (f : SFront) (t : List Int) : Int := if decC (FrontP f ∧ GrP f.1 t ∧ CallP f t) = true then firstTo (FitL f t) f.2.2.length else -1
theorem spec_FirstLine_spec {w0 : World} {Γ : List Atom} {va vf vl vt : Value} {f : SFront} {t : List Int} [ha : HasRd (List Int) repList Γ [va] f.1] [hf : HasRd (List Int) repList Γ [vf] f.2.1] [hl : HasRd (List SLine) repList Γ [vl] f.2.2] [ht : HasRd (List Int) repList Γ [vt] t] : CJ Try.prog 36 [.agg #[va, vf, vl], vt] w0 Γ (fun _ : Unit => .int .i64 (firstLine f t)) (fun _ => Γ) := by
  refine cj_lift (R := [.rd [va] f.1, .rd [vf] f.2.1, .rd [vl] f.2.2, .rd [vt] t]) (A := fun _ => []) (fun w1 => ?_) (reads_cons ha (reads_cons hf (reads_cons hl (reads_cons ht (inferInstance))))) (fun _ => inferInstance)
  simp only [List.cons_append, List.nil_append]
  have hyes : FrontP f → GrP f.1 t → CallP f t → firstLine f t = firstTo (FitL f t) f.2.2.length := fun h1 h2 h3 => if_pos (decC_t ⟨h1, h2, h3⟩)
  have hno : ¬ (FrontP f ∧ GrP f.1 t ∧ CallP f t) → firstLine f t = -1 := fun h => if_neg (by rw [decC_f h]; decide)
  by_cases hok : FrontP f ∧ GrP f.1 t
  · obtain ⟨h1, h2⟩ := hok
    have hto := h2.1
    have hlp := h1.2.2.2
    have hfr : Fr0 f := ⟨h1.1, h1.2.1⟩
    refine cj_enter Try.func36 Try.ntmps36 ?_
    repeat' (first
      | refine red ?_
      | refine redf fun hbi => ?_
      | refine reds ?_
      | refine redc fun r => ?_
      | refine redp (fun r => ?_) (fun r => ?_)
      | refine redv fun sv => ?_
      | refine redn fun b => ?_
      | refine redz fun zs => ?_
      | refine redq (fun hc => ?_) (fun hc => ?_)
      | with_reducible refine wq_blk_o rfl ?_
      | (refine redd fun p cs as_ hcs has hf => ?_; simp only [Un.cells, Un.atoms, Un.fact, List.cons_append, List.nil_append] at hcs has hf; subst hcs has)
      | (refine redi (fun hc => ?_) (fun hc => ?_) <;> try first | (exfalso; omega) | exact absurd rfl hc)
      | fail)
    · exact absurd h1 hc
    · exact absurd h2 hc
    · exact ⟨(), ret_int (hno fun h => hc h.2.2), ent_e⟩
    · exact ⟨(), ret_int (hyes h1 h2 hc), ent_e⟩
  · rw [hno (fun h => hok ⟨h.1, h.2.1⟩)]
    refine cj_enter Try.func36 Try.ntmps36 ?_
    repeat' (first
      | refine red ?_
      | refine redf fun hbi => ?_
      | refine reds ?_
      | refine redc fun r => ?_
      | refine redp (fun r => ?_) (fun r => ?_)
      | refine redv fun sv => ?_
      | refine redn fun b => ?_
      | refine redz fun zs => ?_
      | refine redq (fun hc => ?_) (fun hc => ?_)
      | with_reducible refine wq_blk_o rfl ?_
      | (refine redd fun p cs as_ hcs has hf => ?_; simp only [Un.cells, Un.atoms, Un.fact, List.cons_append, List.nil_append] at hcs has hf; subst hcs has)
      | (refine redi (fun hc => ?_) (fun hc => ?_) <;> try first | (exfalso; omega) | exact absurd rfl hc)
      | fail)
    · exact ⟨(), rfl, ent_e⟩
    · exact ⟨(), rfl, ent_e⟩
    · exact absurd ⟨by assumption, hc⟩ hok
instance spec_FirstLine_ctr {Γ : List Atom} {va vf vl vt : Value} {f : SFront} {t : List Int} [ha : HasRd (List Int) repList Γ [va] f.1] [hf : HasRd (List Int) repList Γ [vf] f.2.1] [hl : HasRd (List SLine) repList Γ [vl] f.2.2] [ht : HasRd (List Int) repList Γ [vt] t] :
    CtrC Try.prog 36 [.agg #[va, vf, vl], vt] Γ (True) (Unit) (fun _ : Unit => .int .i64 (firstLine f t)) (fun _ => Γ) := ⟨fun s w0 => spec_FirstLine_spec⟩

end Go.Proofs.Ytimniaojfchoiaa
