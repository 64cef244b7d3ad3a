/- Rules and systems. -/
import Derived.Test.YtbbdjjlnachnlaaGreatDoorL04
namespace Go.Proofs.YtbbdjjlnachnlaaGreatDoor
open Go Go.Eng
set_option linter.unusedVariables false
set_option linter.unusedSimpArgs false

theorem mem_take_succ {xs : List Int} {k : Nat} {v : Int} (h : k < xs.length) : v ∈ xs.take (k + 1) ↔ v ∈ xs.take k ∨ v = xs.getD k 0 := by
  rw [List.take_succ_eq_append_getElem h, List.mem_append, List.getD_eq_getElem?_getD, List.getElem?_eq_getElem h]
  simp
theorem l1Has_spec {w0 : World} {Γ : List Atom} {sv : Value} {xs : List Int} {n : Int} [h : HasRd (List Int) repList Γ [sv] xs] : CJ Tryz.prog 116 [sv, .int .i64 n] w0 Γ (fun _ : Unit => .bool (decide (n ∈ xs))) (fun _ => Γ) := by
  refine cj_len sv fun hlx => ?_
  refine cj_enter Tryz.func116 Tryz.ntmps116 ?_
  repeat' (first | refine red ?_ | fail)
  refine wc_loop_c [5] [6, 7, 8, 9, 12, 13, 14, 15, 16, 17, 4, 10, 11] (ι := Nat) (fun k => [.int .i64 k]) (fun k => k ≤ xs.length ∧ n ∉ xs.take k) (fun k => xs.length - k) 0 (by kernel_rfl) ⟨Nat.zero_le _, by simp⟩ ?_
  intro k u l' hl' ⟨hk, hkk⟩
  simp only [patch, List.map_cons, List.map_nil, List.set_cons_zero, List.set_cons_succ] at hl'
  subst hl'
  repeat' (first | refine red ?_ | refine redf fun hbi => ?_ | refine reds ?_ | (refine redi (fun hc => ?_) (fun hc => ?_) <;> try first | (exfalso; omega) | exact absurd rfl hc) | fail)
  · exact ⟨(), ret_bool (decide_eq_true (by have := (mem_take_succ (xs := xs) (k := k) (v := n) (by omega)).2 (.inr hc.symm); exact List.mem_of_mem_take this)), ent_e⟩
  · exact wq_next (k + 1) ⟨by omega, fun hm => by rcases (mem_take_succ (by omega)).1 hm with h | h; exact hkk h; exact hc h.symm⟩ (by omega) (by kernel_rfl) ent_e
  · exact ⟨(), ret_bool (decide_eq_false (by rw [List.take_of_length_le (by omega)] at hkk; exact hkk)), ent_e⟩
instance l1Has_ctr {Γ : List Atom} {sv : Value} {xs : List Int} {n : Int} [h : HasRd (List Int) repList Γ [sv] xs] :
    CtrC Tryz.prog 116 [sv, .int .i64 n] Γ (True) (Unit) (fun _ : Unit => .bool (decide (n ∈ xs))) (fun _ => Γ) := ⟨fun s w0 => l1Has_spec⟩

theorem Index_spec {w0 : World} {Γ : List Atom} {sv : Value} {xs : List Int} {n : Int} [h : HasRd (List Int) repList Γ [sv] xs] : CJ Tryz.prog 172 [sv, .int .i64 n] w0 Γ (fun q : { m : Int // 0 ≤ m ↔ n ∈ xs } => .int .i64 q.1) (fun _ => Γ) := by
  refine cj_len sv fun hlx => ?_
  refine cj_enter Tryz.func172 Tryz.ntmps172 ?_
  repeat' (first | refine red ?_ | fail)
  refine wc_loop_c [8] [9, 10, 5, 11, 12, 13, 14, 15, 16, 17, 4, 18] (ι := Nat) (fun k => [.int .i64 k]) (fun k => k ≤ xs.length ∧ n ∉ xs.take k) (fun k => xs.length - k) 0 (by kernel_rfl) ⟨Nat.zero_le _, by simp⟩ ?_
  intro k u l' hl' ⟨hk, hkk⟩
  simp only [patch, List.map_cons, List.map_nil, List.set_cons_zero, List.set_cons_succ] at hl'
  subst hl'
  repeat' (first | refine red ?_ | refine redf fun hbi => ?_ | refine reds ?_ | (refine redi (fun hc => ?_) (fun hc => ?_) <;> try first | (exfalso; omega) | exact absurd rfl hc) | fail)
  · refine ⟨⟨(k : Int), ⟨fun _ => ?_, fun _ => by omega⟩⟩, rfl, ent_e⟩
    have := (mem_take_succ (xs := xs) (k := k) (v := n) (by omega)).2 (.inr hc)
    exact List.mem_of_mem_take this
  · exact wq_next (k + 1) ⟨by omega, fun hm => by rcases (mem_take_succ (by omega)).1 hm with h | h; exact hkk h; exact hc h⟩ (by omega) (by kernel_rfl) ent_e
  · refine ⟨⟨-1, ⟨fun h => by omega, fun hm => ?_⟩⟩, rfl, ent_e⟩
    rw [List.take_of_length_le (by omega)] at hkk
    exact absurd hm hkk
instance Index_ctr {Γ : List Atom} {sv : Value} {xs : List Int} {n : Int} [h : HasRd (List Int) repList Γ [sv] xs] :
    CtrC Tryz.prog 172 [sv, .int .i64 n] Γ (True) ({ m : Int // 0 ≤ m ↔ n ∈ xs }) (fun q : { m : Int // 0 ≤ m ↔ n ∈ xs } => .int .i64 q.1) (fun _ => Γ) := ⟨fun s w0 => Index_spec⟩

theorem Contains_spec {w0 : World} {Γ : List Atom} {sv : Value} {xs : List Int} {n : Int} [h : HasRd (List Int) repList Γ [sv] xs] : CJ Tryz.prog 147 [sv, .int .i64 n] w0 Γ (fun _ : Unit => .bool (decide (n ∈ xs))) (fun _ => Γ) := by
  refine cj_enter Tryz.func147 Tryz.ntmps147 ?_
  repeat' (first | refine red ?_ | refine redc fun r => ?_ | fail)
  exact ⟨(), ret_bool (decide_eq_decide.2 r.2.symm), ent_e⟩
instance Contains_ctr {Γ : List Atom} {sv : Value} {xs : List Int} {n : Int} [h : HasRd (List Int) repList Γ [sv] xs] :
    CtrC Tryz.prog 147 [sv, .int .i64 n] Γ (True) (Unit) (fun _ : Unit => .bool (decide (n ∈ xs))) (fun _ => Γ) := ⟨fun s w0 => Contains_spec⟩

def RuleP (a : List Int) (r : SRule) : Prop := (termOk a r.1 = true ∧ termOk a r.2 = true ∧ 0 ≤ r.1.getD 0 0) ∧ ∀ n ∈ r.2, 0 ≤ n ∨ n ∈ r.1
instance {a : List Int} {r : SRule} : Decidable (RuleP a r) := by unfold RuleP; infer_instance
def ruleOk (a : List Int) (r : SRule) : Bool := decide (RuleP a r)
theorem rule_step {r : SRule} {k : Nat} (hk : k < r.2.length) (h : ∀ n ∈ r.2.take k, 0 ≤ n ∨ n ∈ r.1) (hn : 0 ≤ r.2.getD k 0 ∨ r.2.getD k 0 ∈ r.1) : ∀ n ∈ r.2.take (k + 1), 0 ≤ n ∨ n ∈ r.1 := by
  intro n hm
  rcases (mem_take_succ hk).1 hm with h1 | h1
  · exact h n h1
  · subst h1; exact hn
theorem rule_no {a : List Int} {r : SRule} {k : Nat} (hk : k < r.2.length) (h1 : r.2.getD k 0 < 0) (h2 : ¬ r.2.getD k 0 ∈ r.1) : ruleOk a r = false := decide_eq_false fun ⟨_, h⟩ => by
  rcases h _ (getD_mem hk) with h | h
  · omega
  · exact h2 h
theorem spec_RuleOk_spec {w0 : World} {Γ : List Atom} {v v0 v1 : Value} {a : List Int} {x : SRule} [h : HasRd (List Int) repList Γ [v] a] [h0 : HasRd (List Int) repList Γ [v0] x.1] [h1 : HasRd (List Int) repList Γ [v1] x.2] : CJ Tryz.prog 123 [.agg #[v], .agg #[v0, v1]] w0 Γ (fun _ : Unit => .bool (ruleOk a x)) (fun _ => Γ) := by
  refine cj_lift (R := [.rd [v] a, .rd [v0] x.1, .rd [v1] x.2]) (A := fun _ => []) (fun w1 => ?_) (reads_cons h (reads_cons h0 (reads_cons h1 (inferInstance)))) (fun _ => inferInstance)
  simp only [List.cons_append, List.nil_append]
  refine cj_len v1 fun hlx => ?_
  have hpos : termOk a x.1 = true → 1 ≤ x.1.length := fun h => (termOk_len h).1
  refine cj_enter Tryz.func123 Tryz.ntmps123 ?_
  repeat' (first | refine red ?_ | refine redc fun r => ?_ | refine redn fun b => ?_ | (refine redi (fun hc => ?_) (fun hc => ?_) <;> try first | (exfalso; omega) | exact absurd rfl hc) | fail)
  · exact ⟨(), ret_bool (decide_eq_false fun h => by rw [h.1.1] at hc; cases hc), ent_e⟩
  · exact ⟨(), ret_bool (decide_eq_false fun h => by rw [h.1.2.1] at hc; cases hc), ent_e⟩
  rename_i hL _
  have hp1 := hpos ‹termOk a x.1 = true›
  repeat' (first | refine red ?_ | refine redf fun hbi => ?_ | refine reds ?_ | (refine redi (fun hc => ?_) (fun hc => ?_) <;> try first | (exfalso; omega) | exact absurd rfl hc) | fail)
  · exact ⟨(), ret_bool (decide_eq_false fun h => by have := h.1.2.2; omega), ent_e⟩
  refine wc_loop_c [5] [25, 26, 27, 28, 29, 32, 33, 34, 35, 36, 37, 38, 39, 40, 41, 42, 43, 44, 45, 46, 47, 48, 4, 30, 31] (ι := Nat) (fun k => [.int .i64 k]) (fun k => k ≤ x.2.length ∧ ∀ n ∈ x.2.take k, 0 ≤ n ∨ n ∈ x.1) (fun k => x.2.length - k) 0 (by kernel_rfl) ⟨Nat.zero_le _, by simp⟩ ?_
  intro k u l' hl' ⟨hk, hkk⟩
  simp only [patch, List.map_cons, List.map_nil, List.set_cons_zero, List.set_cons_succ] at hl'
  subst hl'
  repeat' (first | refine red ?_ | refine reds ?_ | (refine redi (fun hc => ?_) (fun hc => ?_) <;> try first | (exfalso; omega) | exact absurd rfl hc) | ((refine wa_begin 6 [false, false, false, false, false, false, false, false, false, false, false, false, false, false, false, false, false] [] ?_ <;> (first | refine wa_p 0 ?_ | fail) <;> (first | refine wa_p 1 ?_ | fail) <;> refine wa_p 2 ?_ <;> refine wa_p 3 ?_ <;> (first | refine wa_f 4 fun hbi => ?_ | fail) <;> refine wa_p 5 ?_ <;> refine wa_p 6 ?_ <;> (first | (refine wa_if 38 (fun hc => ?_) (fun hc => ?_) <;> (try first | (exfalso; omega) | exact absurd rfl hc) <;> first | refine wa_pg 7 ?_ | refine wa_no 7 ?_) | fail) <;> (first | refine wa_pg 8 ?_ | refine wa_no 8 ?_ | fail) <;> (first | refine wa_pg 9 ?_ | refine wa_no 9 ?_ | fail) <;> (first | refine wa_pg 10 ?_ | refine wa_no 10 ?_ | fail) <;> (first | refine wa_pg 11 ?_ | refine wa_no 11 ?_ | fail) <;> (first | refine wa_pg 12 ?_ | refine wa_no 12 ?_ | fail) <;> (first | refine wa_pg 13 ?_ | refine wa_no 13 ?_ | fail) <;> (refine wa_do 14 ?_ <;> (repeat' (first | refine red ?_ | refine redc fun r => ?_ | fail))) <;> (first | refine wa_pg 15 ?_ | refine wa_no 15 ?_ | fail) <;> (first | refine wa_p 16 ?_ | fail)) <;> (refine wa_end ?_)) | fail)
  · exact ⟨(), ret_bool (rule_no (k := k) (by omega) (by omega) (by assumption)), ent_e⟩
  · exact wq_next (k + 1) ⟨by omega, rule_step (by omega) hkk (.inr hc)⟩ (by omega) (by kernel_rfl) ent_e
  · exact wq_next (k + 1) ⟨by omega, rule_step (by omega) hkk (.inl hc)⟩ (by omega) (by kernel_rfl) ent_e
  · exact ⟨(), ret_bool (decide_eq_true ⟨⟨by assumption, by assumption, by omega⟩, by rw [List.take_of_length_le (by omega)] at hkk; exact hkk⟩), ent_e⟩
instance spec_RuleOk_ctr {Γ : List Atom} {v v0 v1 : Value} {a : List Int} {x : SRule} [h : HasRd (List Int) repList Γ [v] a] [h0 : HasRd (List Int) repList Γ [v0] x.1] [h1 : HasRd (List Int) repList Γ [v1] x.2] :
    CtrC Tryz.prog 123 [.agg #[v], .agg #[v0, v1]] Γ (True) (Unit) (fun _ : Unit => .bool (ruleOk a x)) (fun _ => Γ) := ⟨fun s w0 => spec_RuleOk_spec⟩

theorem impl_RuleOk_spec {w0 : World} {Γ : List Atom} {v v0 v1 : Value} {a : List Int} {x : SRule} [h : HasRd (List Int) repList Γ [v] a] [h0 : HasRd (List Int) repList Γ [v0] x.1] [h1 : HasRd (List Int) repList Γ [v1] x.2] : CJ Tryz.prog 128 [.agg #[v], .agg #[v0, v1]] w0 Γ (fun _ : Unit => .bool (ruleOk a x)) (fun _ => Γ) := by
  refine cj_lift (R := [.rd [v] a, .rd [v0] x.1, .rd [v1] x.2]) (A := fun _ => []) (fun w1 => ?_) (reads_cons h (reads_cons h0 (reads_cons h1 (inferInstance)))) (fun _ => inferInstance)
  simp only [List.cons_append, List.nil_append]
  refine cj_len v1 fun hlx => ?_
  have hpos : termOk a x.1 = true → 1 ≤ x.1.length := fun h => (termOk_len h).1
  refine cj_enter Tryz.func128 Tryz.ntmps128 ?_
  repeat' (first | refine red ?_ | refine redc fun r => ?_ | refine redn fun b => ?_ | (refine redi (fun hc => ?_) (fun hc => ?_) <;> try first | (exfalso; omega) | exact absurd rfl hc) | fail)
  · exact ⟨(), ret_bool (decide_eq_false fun h => by rw [h.1.1] at hc; cases hc), ent_e⟩
  · exact ⟨(), ret_bool (decide_eq_false fun h => by rw [h.1.2.1] at hc; cases hc), ent_e⟩
  rename_i hL _
  have hp1 := hpos ‹termOk a x.1 = true›
  repeat' (first | refine red ?_ | refine redf fun hbi => ?_ | refine reds ?_ | (refine redi (fun hc => ?_) (fun hc => ?_) <;> try first | (exfalso; omega) | exact absurd rfl hc) | fail)
  · exact ⟨(), ret_bool (decide_eq_false fun h => by have := h.1.2.2; omega), ent_e⟩
  refine wc_loop_c [29] [30, 31, 32, 6, 33, 34, 35, 36, 37, 38, 39, 40, 41, 4, 42] (ι := Nat) (fun k => [.int .i64 k]) (fun k => k ≤ x.2.length ∧ ∀ n ∈ x.2.take k, 0 ≤ n ∨ n ∈ x.1) (fun k => x.2.length - k) 0 (by kernel_rfl) ⟨Nat.zero_le _, by simp⟩ ?_
  intro k u l' hl' ⟨hk, hkk⟩
  simp only [patch, List.map_cons, List.map_nil, List.set_cons_zero, List.set_cons_succ] at hl'
  subst hl'
  repeat' (first | refine red ?_ | refine redf fun hbi => ?_ | refine reds ?_ | refine redc fun r => ?_ | (refine redi (fun hc => ?_) (fun hc => ?_) <;> try first | (exfalso; omega) | exact absurd rfl hc) | fail)
  · exact ⟨(), ret_bool (rule_no (k := k) (by omega) (by omega) (by assumption)), ent_e⟩
  · exact wq_next (k + 1) ⟨by omega, rule_step (by omega) hkk (.inr hc)⟩ (by omega) (by kernel_rfl) ent_e
  · exact wq_next (k + 1) ⟨by omega, rule_step (by omega) hkk (.inl hc)⟩ (by omega) (by kernel_rfl) ent_e
  · exact ⟨(), ret_bool (decide_eq_true ⟨⟨by assumption, by assumption, by omega⟩, by rw [List.take_of_length_le (by omega)] at hkk; exact hkk⟩), ent_e⟩

instance impl_RuleOk_ctr {Γ : List Atom} {v v0 v1 : Value} {a : List Int} {x : SRule} [h : HasRd (List Int) repList Γ [v] a] [h0 : HasRd (List Int) repList Γ [v0] x.1] [h1 : HasRd (List Int) repList Γ [v1] x.2] :
    CtrC Tryz.prog 128 [.agg #[v], .agg #[v0, v1]] Γ (True) (Unit) (fun _ : Unit => .bool (ruleOk a x)) (fun _ => Γ) := ⟨fun s w0 => impl_RuleOk_spec⟩

theorem all_take_step {α : Type} [Inhabited α] {xs : List α} {k : Nat} {p : α → Prop} (hk : k < xs.length) (h : ∀ r ∈ xs.take k, p r) (hn : p (xs.getD k default)) : ∀ r ∈ xs.take (k + 1), p r := by
  intro r hr
  rw [List.take_succ_eq_append_getElem hk, List.mem_append] at hr
  rw [List.getD_eq_getElem?_getD, List.getElem?_eq_getElem hk] at hn
  rcases hr with hr | hr
  · exact h r hr
  · simp only [List.mem_singleton] at hr
    subst hr; exact hn
theorem getD_memD {α : Type} [Inhabited α] {xs : List α} {k : Nat} (hk : k < xs.length) : xs.getD k default ∈ xs := by
  rw [List.getD_eq_getElem?_getD, List.getElem?_eq_getElem hk]; exact List.getElem_mem hk
def SysP (x : SSystem) : Prop := (sigOk x.1 = true ∧ x.2.length ≤ 12) ∧ ∀ r ∈ x.2, ruleOk x.1 r = true
instance {x : SSystem} : Decidable (SysP x) := by unfold SysP; infer_instance
def sysOk (x : SSystem) : Bool := decide (SysP x)
theorem sysOk_iff {x : SSystem} : sysOk x = true ↔ SysP x := decide_eq_true_iff
theorem sys_no {x : SSystem} {k : Nat} (hk : k < x.2.length) (h : ruleOk x.1 (x.2.getD k default) = false) : sysOk x = false := decide_eq_false fun ⟨_, h'⟩ => by
  rw [h' _ (getD_memD hk)] at h; cases h
theorem spec_SystemOk_spec {w0 : World} {Γ : List Atom} {v0 v1 : Value} {x : SSystem} [h0 : HasRd (List Int) repList Γ [v0] x.1] [h1 : HasRd (List SRule) repList Γ [v1] x.2] : CJ Tryz.prog 70 [.agg #[v0, v1]] w0 Γ (fun _ : Unit => .bool (sysOk x)) (fun _ => Γ) := by
  refine cj_lift (R := [.rd [v0] x.1, .rd [v1] x.2]) (A := fun _ => []) (fun w1 => ?_) (reads_cons h0 (reads_cons h1 (inferInstance))) (fun _ => inferInstance)
  simp only [List.cons_append, List.nil_append]
  refine cj_len v1 fun hlx => ?_
  refine cj_enter Tryz.func70 Tryz.ntmps70 ?_
  repeat' (first | refine red ?_ | refine redc fun r => ?_ | refine redn fun b => ?_ | (refine redi (fun hc => ?_) (fun hc => ?_) <;> try first | (exfalso; omega) | exact absurd rfl hc) | fail)
  · exact ⟨(), ret_bool (decide_eq_false fun h => by rw [h.1.1] at hc; cases hc), ent_e⟩
  · exact ⟨(), ret_bool (decide_eq_false fun h => by have := h.1.2; omega), ent_e⟩
  refine wc_loop_c [3] [14, 15, 16, 17, 18, 21, 22, 23, 24, 25, 26, 27, 28, 29, 2, 19, 20] (ι := Nat) (fun k => [.int .i64 k]) (fun k => k ≤ x.2.length ∧ ∀ r ∈ x.2.take k, ruleOk x.1 r = true) (fun k => x.2.length - k) 0 (by kernel_rfl) ⟨Nat.zero_le _, by simp⟩ ?_
  intro k u l' hl' ⟨hk, hkk⟩
  simp only [patch, List.map_cons, List.map_nil, List.set_cons_zero, List.set_cons_succ] at hl'
  subst hl'
  repeat' (first | refine red ?_ | refine reds ?_ | (refine redi (fun hc => ?_) (fun hc => ?_) <;> try first | (exfalso; omega) | exact absurd rfl hc) | ((refine wa_begin 6 [false, false, false, false, false, false, false, false, false] [] ?_ <;> (first | refine wa_p 0 ?_ | fail) <;> refine wa_p 1 ?_ <;> (first | refine wa_p 2 ?_ | fail) <;> (first | refine wa_p 3 ?_ | fail) <;> refine wa_p 4 ?_ <;> (first | (refine wa_deep 5 fun p cs as_ asb_ hcs has hasb hf => ?_; simp only [Un.cells, Un.atoms, Un.fact, List.cons_append, List.nil_append] at hcs has hasb hf; subst hcs has hasb) | fail) <;> (first | refine wa_p 6 ?_ | fail) <;> (refine wa_do 7 ?_ <;> (repeat' (first | refine red ?_ | refine redc fun r => ?_ | fail))) <;> (first | refine wa_p 8 ?_ | fail)) <;> (refine wa_end ?_)) | fail)
  · exact ⟨(), ret_bool (sys_no (k := k) (by omega) hc), ent_e⟩
  · exact wq_next (k + 1) ⟨by omega, all_take_step (by omega) hkk hc⟩ (by omega) (by kernel_rfl) ent_e
  · exact ⟨(), ret_bool (decide_eq_true ⟨⟨by assumption, by omega⟩, by rw [List.take_of_length_le (by omega)] at hkk; exact hkk⟩), ent_e⟩
instance spec_SystemOk_ctr {Γ : List Atom} {v0 v1 : Value} {x : SSystem} [h0 : HasRd (List Int) repList Γ [v0] x.1] [h1 : HasRd (List SRule) repList Γ [v1] x.2] :
    CtrC Tryz.prog 70 [.agg #[v0, v1]] Γ (True) (Unit) (fun _ : Unit => .bool (sysOk x)) (fun _ => Γ) := ⟨fun s w0 => spec_SystemOk_spec⟩

theorem impl_SystemOk_spec {w0 : World} {Γ : List Atom} {v0 v1 : Value} {x : SSystem} [h0 : HasRd (List Int) repList Γ [v0] x.1] [h1 : HasRd (List SRule) repList Γ [v1] x.2] : CJ Tryz.prog 77 [.agg #[v0, v1]] w0 Γ (fun _ : Unit => .bool (sysOk x)) (fun _ => Γ) := by
  refine cj_lift (R := [.rd [v0] x.1, .rd [v1] x.2]) (A := fun _ => []) (fun w1 => ?_) (reads_cons h0 (reads_cons h1 (inferInstance))) (fun _ => inferInstance)
  simp only [List.cons_append, List.nil_append]
  refine cj_len v1 fun hlx => ?_
  refine cj_enter Tryz.func77 Tryz.ntmps77 ?_
  repeat' (first | refine red ?_ | refine redc fun r => ?_ | refine redn fun b => ?_ | (refine redi (fun hc => ?_) (fun hc => ?_) <;> try first | (exfalso; omega) | exact absurd rfl hc) | fail)
  · exact ⟨(), ret_bool (decide_eq_false fun h => by rw [h.1.1] at hc; cases hc), ent_e⟩
  · exact ⟨(), ret_bool (decide_eq_false fun h => by have := h.1.2; omega), ent_e⟩
  refine wc_loop_c [18] [19, 20, 21, 4, 22, 23, 24, 25, 26, 2, 27] (ι := Nat) (fun k => [.int .i64 k]) (fun k => k ≤ x.2.length ∧ ∀ r ∈ x.2.take k, ruleOk x.1 r = true) (fun k => x.2.length - k) 0 (by kernel_rfl) ⟨Nat.zero_le _, by simp⟩ ?_
  intro k u l' hl' ⟨hk, hkk⟩
  simp only [patch, List.map_cons, List.map_nil, List.set_cons_zero, List.set_cons_succ] at hl'
  subst hl'
  repeat' (first | refine red ?_ | refine reds ?_ | refine redc fun r => ?_ | refine redn fun b => ?_ | (refine redd fun p cs as_ hcs has hf => ?_; simp only [Un.cells, Un.atoms, Un.fact, List.cons_append, List.nil_append] at hcs has hf; subst hcs has) | (refine redi (fun hc => ?_) (fun hc => ?_) <;> try first | (exfalso; omega) | exact absurd rfl hc) | fail)
  · exact ⟨(), ret_bool (sys_no (k := k) (by omega) hc), ent_e⟩
  · exact wq_next (k + 1) ⟨by omega, all_take_step (by omega) hkk hc⟩ (by omega) (by kernel_rfl) ent_e
  · exact ⟨(), ret_bool (decide_eq_true ⟨⟨by assumption, by omega⟩, by rw [List.take_of_length_le (by omega)] at hkk; exact hkk⟩), ent_e⟩
instance impl_SystemOk_ctr {Γ : List Atom} {v0 v1 : Value} {x : SSystem} [h0 : HasRd (List Int) repList Γ [v0] x.1] [h1 : HasRd (List SRule) repList Γ [v1] x.2] :
    CtrC Tryz.prog 77 [.agg #[v0, v1]] Γ (True) (Unit) (fun _ : Unit => .bool (sysOk x)) (fun _ => Γ) := ⟨fun s w0 => impl_SystemOk_spec⟩

end Go.Proofs.YtbbdjjlnachnlaaGreatDoor
