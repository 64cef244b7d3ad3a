/- Lists of numbers: what is among them. -/
import Derived.Test.YtbbdjjlnachnlaaGreatL01
namespace Go.Proofs.YtbbdjjlnachnlaaGreat
open Go Go.Eng
set_option linter.unusedVariables false
set_option linter.unusedSimpArgs false

theorem mem_take_succ {xs : List Int} {k : Nat} {v : Int} (h : k < xs.length) : v ∈ xs.take (k + 1) ↔ v ∈ xs.take k ∨ v = xs.getD k 0 := by
  rw [List.take_succ_eq_append_getElem h, List.mem_append, List.getD_eq_getElem?_getD, List.getElem?_eq_getElem h]
  simp
theorem l1Has_spec {w0 : World} {Γ : List Atom} {sv : Value} {xs : List Int} {n : Int} [h : HasRd (List Int) repList Γ [sv] xs] : CJ Tryz.prog 123 [sv, .int .i64 n] w0 Γ (fun _ : Unit => .bool (decide (n ∈ xs))) (fun _ => Γ) := by
  refine cj_len sv fun hlx => ?_
  refine cj_enter Tryz.func123 Tryz.ntmps123 ?_
  repeat' (first | refine red ?_ | refine redf fun hbi => ?_ | refine reds ?_ | refine redc fun r => ?_ | refine redp (fun r => ?_) (fun r => ?_) | refine redv fun sv => ?_ | refine redn fun b => ?_ | refine redz fun zs => ?_ | refine redq (fun hc => ?_) (fun hc => ?_) | with_reducible refine wq_blk_o rfl ?_ | (refine redi (fun hc => ?_) (fun hc => ?_) <;> try first | (exfalso; omega) | exact absurd rfl hc) | fail)
  refine wc_loop_c [5] [6, 7, 8, 9, 12, 13, 14, 15, 16, 17, 4, 10, 11] (ι := Nat) (fun k => [.int .i64 k]) (fun k => k ≤ xs.length ∧ n ∉ xs.take k) (fun k => xs.length - k) 0 (by kernel_rfl) ⟨Nat.zero_le _, by simp⟩ ?_
  intro k u l' hl' ⟨hk, hkk⟩
  simp only [patch, List.map_cons, List.map_nil, List.set_cons_zero, List.set_cons_succ] at hl'
  subst hl'
  repeat' (first | refine red ?_ | refine redf fun hbi => ?_ | refine reds ?_ | refine redc fun r => ?_ | refine redp (fun r => ?_) (fun r => ?_) | refine redv fun sv => ?_ | refine redn fun b => ?_ | refine redz fun zs => ?_ | refine redq (fun hc => ?_) (fun hc => ?_) | with_reducible refine wq_blk_o rfl ?_ | (refine redi (fun hc => ?_) (fun hc => ?_) <;> try first | (exfalso; omega) | exact absurd rfl hc) | fail)
  · exact ⟨(), ret_bool (decide_eq_true (by have := (mem_take_succ (xs := xs) (k := k) (v := n) (by omega)).2 (.inr hc.symm); exact List.mem_of_mem_take this)), ent_e⟩
  · exact wq_next (k + 1) ⟨by omega, fun hm => by rcases (mem_take_succ (by omega)).1 hm with h | h; exact hkk h; exact hc h.symm⟩ (by omega) (by kernel_rfl) ent_e
  · exact ⟨(), ret_bool (decide_eq_false (by rw [List.take_of_length_le (by omega)] at hkk; exact hkk)), ent_e⟩
instance l1Has_ctr {Γ : List Atom} {sv : Value} {xs : List Int} {n : Int} [h : HasRd (List Int) repList Γ [sv] xs] :
    CtrC Tryz.prog 123 [sv, .int .i64 n] Γ (True) (Unit) (fun _ : Unit => .bool (decide (n ∈ xs))) (fun _ => Γ) := ⟨fun s w0 => l1Has_spec⟩

theorem Index_spec {w0 : World} {Γ : List Atom} {sv : Value} {xs : List Int} {n : Int} [h : HasRd (List Int) repList Γ [sv] xs] : CJ Tryz.prog 116 [sv, .int .i64 n] w0 Γ (fun q : { m : Int // 0 ≤ m ↔ n ∈ xs } => .int .i64 q.1) (fun _ => Γ) := by
  refine cj_len sv fun hlx => ?_
  refine cj_enter Tryz.func116 Tryz.ntmps116 ?_
  repeat' (first | refine red ?_ | refine redf fun hbi => ?_ | refine reds ?_ | refine redc fun r => ?_ | refine redp (fun r => ?_) (fun r => ?_) | refine redv fun sv => ?_ | refine redn fun b => ?_ | refine redz fun zs => ?_ | refine redq (fun hc => ?_) (fun hc => ?_) | with_reducible refine wq_blk_o rfl ?_ | (refine redi (fun hc => ?_) (fun hc => ?_) <;> try first | (exfalso; omega) | exact absurd rfl hc) | fail)
  refine wc_loop_c [8] [9, 10, 5, 11, 12, 13, 14, 15, 16, 17, 4, 18] (ι := Nat) (fun k => [.int .i64 k]) (fun k => k ≤ xs.length ∧ n ∉ xs.take k) (fun k => xs.length - k) 0 (by kernel_rfl) ⟨Nat.zero_le _, by simp⟩ ?_
  intro k u l' hl' ⟨hk, hkk⟩
  simp only [patch, List.map_cons, List.map_nil, List.set_cons_zero, List.set_cons_succ] at hl'
  subst hl'
  repeat' (first | refine red ?_ | refine redf fun hbi => ?_ | refine reds ?_ | refine redc fun r => ?_ | refine redp (fun r => ?_) (fun r => ?_) | refine redv fun sv => ?_ | refine redn fun b => ?_ | refine redz fun zs => ?_ | refine redq (fun hc => ?_) (fun hc => ?_) | with_reducible refine wq_blk_o rfl ?_ | (refine redi (fun hc => ?_) (fun hc => ?_) <;> try first | (exfalso; omega) | exact absurd rfl hc) | fail)
  · refine ⟨⟨(k : Int), ⟨fun _ => ?_, fun _ => by omega⟩⟩, rfl, ent_e⟩
    have := (mem_take_succ (xs := xs) (k := k) (v := n) (by omega)).2 (.inr hc)
    exact List.mem_of_mem_take this
  · exact wq_next (k + 1) ⟨by omega, fun hm => by rcases (mem_take_succ (by omega)).1 hm with h | h; exact hkk h; exact hc h⟩ (by omega) (by kernel_rfl) ent_e
  · refine ⟨⟨-1, ⟨fun h => by omega, fun hm => ?_⟩⟩, rfl, ent_e⟩
    rw [List.take_of_length_le (by omega)] at hkk
    exact absurd hm hkk
instance Index_ctr {Γ : List Atom} {sv : Value} {xs : List Int} {n : Int} [h : HasRd (List Int) repList Γ [sv] xs] :
    CtrC Tryz.prog 116 [sv, .int .i64 n] Γ (True) ({ m : Int // 0 ≤ m ↔ n ∈ xs }) (fun q : { m : Int // 0 ≤ m ↔ n ∈ xs } => .int .i64 q.1) (fun _ => Γ) := ⟨fun s w0 => Index_spec⟩

theorem Contains_spec {w0 : World} {Γ : List Atom} {sv : Value} {xs : List Int} {n : Int} [h : HasRd (List Int) repList Γ [sv] xs] : CJ Tryz.prog 51 [sv, .int .i64 n] w0 Γ (fun _ : Unit => .bool (decide (n ∈ xs))) (fun _ => Γ) := by
  refine cj_enter Tryz.func51 Tryz.ntmps51 ?_
  repeat' (first | refine red ?_ | refine redf fun hbi => ?_ | refine reds ?_ | refine redc fun r => ?_ | refine redp (fun r => ?_) (fun r => ?_) | refine redv fun sv => ?_ | refine redn fun b => ?_ | refine redz fun zs => ?_ | refine redq (fun hc => ?_) (fun hc => ?_) | with_reducible refine wq_blk_o rfl ?_ | (refine redi (fun hc => ?_) (fun hc => ?_) <;> try first | (exfalso; omega) | exact absurd rfl hc) | fail)
  exact ⟨(), ret_bool (decide_eq_decide.2 r.2.symm), ent_e⟩
instance Contains_ctr {Γ : List Atom} {sv : Value} {xs : List Int} {n : Int} [h : HasRd (List Int) repList Γ [sv] xs] :
    CtrC Tryz.prog 51 [sv, .int .i64 n] Γ (True) (Unit) (fun _ : Unit => .bool (decide (n ∈ xs))) (fun _ => Γ) := ⟨fun s w0 => Contains_spec⟩

theorem all_take_step {α : Type} [Inhabited α] {xs : List α} {k : Nat} {p : α → Prop} (hk : k < xs.length) (h : ∀ r ∈ xs.take k, p r) (hn : p (xs.getD k default)) : ∀ r ∈ xs.take (k + 1), p r := by
  intro r hr
  rw [List.take_succ_eq_append_getElem hk, List.mem_append] at hr
  rw [List.getD_eq_getElem?_getD, List.getElem?_eq_getElem hk] at hn
  rcases hr with hr | hr
  · exact h r hr
  · simp only [List.mem_singleton] at hr
    subst hr; exact hn
theorem getD_memD {α : Type} [Inhabited α] {xs : List α} {k : Nat} (hk : k < xs.length) : xs.getD k default ∈ xs := by
  rw [List.getD_eq_getElem?_getD, List.getElem?_eq_getElem hk]; exact List.getElem_mem hk
end Go.Proofs.YtbbdjjlnachnlaaGreat
