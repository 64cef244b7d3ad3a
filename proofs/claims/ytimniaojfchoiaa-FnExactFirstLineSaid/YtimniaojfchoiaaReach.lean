/- The states that are reached. -/
import Derived.Test.YtimniaojfchoiaaAuto2
namespace Go.Proofs.Ytimniaojfchoiaa
open Go Go.Eng
set_option linter.unusedVariables false
set_option linter.unusedSimpArgs false
set_option synthInstance.maxHeartbeats 400000
set_option synthInstance.maxSize 1000

theorem has_spec {w0 : World} {Γ : List Atom} {s m : Nat} {q : Int} [hm : ToN q m] (hs : s < 4294967296 ∧ 0 ≤ q ∧ q ≤ 31) : CJ Try.prog 102 [.int .u32 (s : Int), .int .i64 q] w0 Γ (fun _ : Unit => .bool (s.testBit m)) (fun _ => Γ) := by
  have hle := shrN_le (a := s) (m := m)
  refine cj_enter Try.func102 Try.ntmps102 ?_
  repeat' (first
    | refine red ?_
    | refine redf fun hbi => ?_
    | refine reds ?_
    | refine redc fun r => ?_
    | refine redp (fun r => ?_) (fun r => ?_)
    | refine redv fun sv => ?_
    | refine redn fun b => ?_
    | refine redz fun zs => ?_
    | refine redq (fun hc => ?_) (fun hc => ?_)
    | with_reducible refine wq_blk_o rfl ?_
    | (refine redd fun p cs as_ hcs has hf => ?_; simp only [Un.cells, Un.atoms, Un.fact, List.cons_append, List.nil_append] at hcs has hf; subst hcs has)
    | (refine redi (fun hc => ?_) (fun hc => ?_) <;> try first | (exfalso; omega) | exact absurd rfl hc)
    | fail)
  refine ⟨(), ret_bool ?_, ent_e⟩
  rw [Bool.eq_iff_iff, decide_eq_true_iff]
  exact shr_one.symm
instance has_ctr {Γ : List Atom} {s m : Nat} {q : Int} [hm : ToN q m] :
    CtrC Try.prog 102 [.int .u32 (s : Int), .int .i64 q] Γ (s < 4294967296 ∧ 0 ≤ q ∧ q ≤ 31) (Unit) (fun _ : Unit => .bool (s.testBit m)) (fun _ => Γ) := ⟨fun s w0 => has_spec s⟩

theorem mem_take_succK {xs : List Int} {k : Nat} {v : Int} (h : k < xs.length) : v ∈ xs.take (k + 1) ↔ v = xs.getD k 0 ∨ v ∈ xs.take k := by
  rw [mem_take_succ h]; exact ⟨fun h => h.symm, fun h => h.symm⟩
theorem setOf_spec {w0 : World} {Γ : List Atom} {v : Value} {xs : List Int} [h : HasRd (List Int) repList Γ [v] xs] (hx : ∀ q ∈ xs, 0 ≤ q ∧ q < 16) : CJ Try.prog 82 [v] w0 Γ (fun q : { s : Nat // s < 65536 ∧ ∀ i : Nat, s.testBit i = true ↔ (i : Int) ∈ xs } => .int .u32 (q.1 : Int)) (fun _ => Γ) := by
  refine cj_lift (R := [.rd [v] xs]) (A := fun _ => []) (fun w1 => ?_) (reads_cons h (inferInstance)) (fun _ => inferInstance)
  simp only [List.cons_append, List.nil_append]
  refine cj_len v fun hlx => ?_
  refine cj_enter Try.func82 Try.ntmps82 ?_
  repeat' (first
    | refine red ?_
    | refine redf fun hbi => ?_
    | refine reds ?_
    | refine redc fun r => ?_
    | refine redp (fun r => ?_) (fun r => ?_)
    | refine redv fun sv => ?_
    | refine redn fun b => ?_
    | refine redz fun zs => ?_
    | refine redq (fun hc => ?_) (fun hc => ?_)
    | with_reducible refine wq_blk_o rfl ?_
    | (refine redd fun p cs as_ hcs has hf => ?_; simp only [Un.cells, Un.atoms, Un.fact, List.cons_append, List.nil_append] at hcs has hf; subst hcs has)
    | (refine redi (fun hc => ?_) (fun hc => ?_) <;> try first | (exfalso; omega) | exact absurd rfl hc)
    | fail)
  refine wc_loop_c [3, 8] [9, 10, 11, 5, 12, 13, 14, 15, 16, 17] (ι := Nat × Nat) (fun k => [.int .u32 (k.2 : Int), .int .i64 k.1]) (fun k => k.1 ≤ xs.length ∧ k.2 < 65536 ∧ ∀ i : Nat, k.2.testBit i = true ↔ (i : Int) ∈ xs.take k.1) (fun k => xs.length - k.1) (0, 0) (by kernel_rfl) ⟨Nat.zero_le _, by decide, by simp⟩ ?_
  intro ⟨k, s⟩ u l' hl' ⟨hk, hs, hkk⟩
  simp only [patch, List.map_cons, List.map_nil, List.set_cons_zero, List.set_cons_succ] at hl'
  subst hl'
  have hr : k < xs.length → 0 ≤ xs.getD k 0 ∧ xs.getD k 0 < 16 := fun h => hx _ (getK h)
  simp only at hk hs hkk
  repeat' (first
    | refine red ?_
    | refine redf fun hbi => ?_
    | refine reds ?_
    | refine redc fun r => ?_
    | refine redp (fun r => ?_) (fun r => ?_)
    | refine redv fun sv => ?_
    | refine redn fun b => ?_
    | refine redz fun zs => ?_
    | refine redq (fun hc => ?_) (fun hc => ?_)
    | with_reducible refine wq_blk_o rfl ?_
    | (refine redd fun p cs as_ hcs has hf => ?_; simp only [Un.cells, Un.atoms, Un.fact, List.cons_append, List.nil_append] at hcs has hf; subst hcs has)
    | (refine redi (fun hc => ?_) (fun hc => ?_) <;> try first | (exfalso; omega) | exact absurd rfl hc)
    | fail)
  · refine wq_next (k + 1, setB s (xs.getD k 0).toNat) ⟨by simp only; omega, setB_lt hs (by omega), fun i => ?_⟩ (by simp only; omega) (by kernel_rfl) ent_e
    simp only
    rw [setB_bit, hkk, mem_take_succK (by omega)]
    have : i = (xs.getD k 0).toNat ↔ (i : Int) = xs.getD k 0 := by omega
    rw [this]
  · exact ⟨⟨s, hs, by rw [List.take_of_length_le (by omega)] at hkk; exact hkk⟩, rfl, ent_e⟩
instance setOf_ctr {Γ : List Atom} {v : Value} {xs : List Int} [h : HasRd (List Int) repList Γ [v] xs] :
    CtrC Try.prog 82 [v] Γ (∀ q ∈ xs, 0 ≤ q ∧ q < 16) ({ s : Nat // s < 65536 ∧ ∀ i : Nat, s.testBit i = true ↔ (i : Int) ∈ xs }) (fun q : { s : Nat // s < 65536 ∧ ∀ i : Nat, s.testBit i = true ↔ (i : Int) ∈ xs } => .int .u32 (q.1 : Int)) (fun _ => Γ) := ⟨fun s w0 => setOf_spec s⟩

/-- The states of a set, in order. -/
def listN (s n : Nat) : List Int := ((List.range n).filter (fun i => s.testBit i)).map Int.ofNat
theorem listN_succ {s n : Nat} : listN s (n + 1) = listN s n ++ (if s.testBit n = true then [(n : Int)] else []) := by
  unfold listN
  rw [List.range_succ, List.filter_append, List.map_append]
  congr 1
  by_cases h : s.testBit n = true
  · rw [if_pos h, List.filter_cons_of_pos h]; rfl
  · rw [if_neg h, List.filter_cons_of_neg h]; rfl
theorem listN_len {s n : Nat} : (listN s n).length ≤ n := by
  unfold listN
  rw [List.length_map]
  exact Nat.le_trans (List.length_filter_le _ _) (by simp)
theorem list_spec {w0 : World} {Γ : List Atom} {s : Nat} (hs : s < 4294967296) : CJ Try.prog 52 [.int .u32 (s : Int)] w0 Γ (fun q : Value => q) (fun q => .ow [q] (listN s 16) :: Γ) := by
  refine cj_lift (R := []) (A := fun q => [.ow [q] (listN s 16)]) (fun w1 => ?_) inferInstance (fun _ => inferInstance)
  simp only [List.cons_append, List.nil_append]
  refine cj_enter Try.func52 Try.ntmps52 ?_
  repeat' (first
    | refine red ?_
    | refine redf fun hbi => ?_
    | refine reds ?_
    | refine redc fun r => ?_
    | refine redp (fun r => ?_) (fun r => ?_)
    | refine redv fun sv => ?_
    | refine redn fun b => ?_
    | refine redz fun zs => ?_
    | refine redq (fun hc => ?_) (fun hc => ?_)
    | with_reducible refine wq_blk_o rfl ?_
    | (refine redd fun p cs as_ hcs has hf => ?_; simp only [Un.cells, Un.atoms, Un.fact, List.cons_append, List.nil_append] at hcs has hf; subst hcs has)
    | (refine redi (fun hc => ?_) (fun hc => ?_) <;> try first | (exfalso; omega) | exact absurd rfl hc)
    | fail)
  refine wc_loop_p [3, 5] [6, 7, 4, 8, 9, 10, 11, 12, 13, 14, 15] (ι := Nat × Value) (fun k => [k.2, .int .i64 k.1]) (fun k => [.ow [k.2] (listN s k.1)]) (fun k => k.1 ≤ 16) (fun k => 16 - k.1) (0, .slice none 0 0) [.ow [.slice none 0 0] ([] : List Int)] (by kernel_rfl) (by decide) rfl ?_
  intro ⟨k, sw⟩ u l' hl' hk
  simp only [patch, List.map_cons, List.map_nil, List.set_cons_zero, List.set_cons_succ] at hl'
  subst hl'
  simp only [List.cons_append, List.nil_append] at hk ⊢
  have hn := listN_len (s := s) (n := k)
  have hsc := listN_succ (s := s) (n := k)
  repeat' (first
    | refine red ?_
    | refine redf fun hbi => ?_
    | refine reds ?_
    | refine redc fun r => ?_
    | refine redp (fun r => ?_) (fun r => ?_)
    | refine redv fun sv => ?_
    | refine redn fun b => ?_
    | refine redz fun zs => ?_
    | refine redq (fun hc => ?_) (fun hc => ?_)
    | with_reducible refine wq_blk_o rfl ?_
    | (refine redd fun p cs as_ hcs has hf => ?_; simp only [Un.cells, Un.atoms, Un.fact, List.cons_append, List.nil_append] at hcs has hf; subst hcs has)
    | (refine redi (fun hc => ?_) (fun hc => ?_) <;> try first | (exfalso; omega) | exact absurd rfl hc)
    | fail)
  · rw [if_pos hc] at hsc
    rw [← hsc]
    exact wq_next (k + 1, sv) (by simp only; omega) (by simp only; omega) (by kernel_rfl) ent_e
  · rw [if_neg (by rw [hc]; decide), List.append_nil] at hsc
    rw [← hsc]
    exact wq_next (k + 1, sw) (by simp only; omega) (by simp only; omega) (by kernel_rfl) ent_e
  · obtain rfl : k = 16 := by omega
    exact ⟨_, rfl, ent_e⟩
instance list_ctr {Γ : List Atom} {s : Nat} :
    CtrC Try.prog 52 [.int .u32 (s : Int)] Γ (s < 4294967296) (Value) (fun q : Value => q) (fun q => .ow [q] (listN s 16) :: Γ) := ⟨fun s w0 => list_spec s⟩

/-- Ground terms reach a state. -/
inductive Rch (rs : List STrans) : Int → Prop
  | mk (t : STrans) (ht : t ∈ rs) (h : ∀ q ∈ t.2.1, Rch rs q) : Rch rs t.2.2
def InS (rs : List STrans) : Prop := ∀ t ∈ rs, (∀ q ∈ t.2.1, 0 ≤ q ∧ q < 16) ∧ 0 ≤ t.2.2 ∧ t.2.2 < 16
theorem inS_of {ar : List Int} {x : SAuto} (h : AutoP ar x) : InS x.2.1 := by
  intro t ht
  obtain ⟨i, hi, rfl⟩ := List.getElem_of_mem ht
  have h1 := (h.2.2.2.2 i hi).1
  rw [List.getD_eq_getElem?_getD, List.getElem?_eq_getElem hi] at h1
  have h2 := h.2.1
  refine ⟨fun q hq => ?_, ?_, ?_⟩
  · have := allS_mem h1.2.2.1 q hq
    omega
  · exact h1.2.2.2.1
  · have := h1.2.2.2.2
    simp only [Option.getD_some] at this
    omega
noncomputable def reachL (rs : List STrans) : List Int := ((List.range 16).filter (fun i => decC (Rch rs (Int.ofNat i)))).map Int.ofNat
theorem listN_reach {rs : List STrans} {s : Nat} (h : ∀ i : Nat, i < 16 → (s.testBit i = true ↔ Rch rs (i : Int))) : listN s 16 = reachL rs := by
  unfold listN reachL
  congr 1
  refine List.filter_congr (fun i hi => ?_)
  rw [Bool.eq_iff_iff, decC_iff]
  exact h i (by simpa using hi)
theorem getT {ts : List STrans} {k : Nat} (h : k < ts.length) : ts.getD k default ∈ ts := by
  rw [List.getD_eq_getElem?_getD, List.getElem?_eq_getElem h]; exact List.getElem_mem h
/-- Nothing more comes by this rule. -/
def Shut (p : Int → Prop) (t : STrans) : Prop := (∀ q ∈ t.2.1, p q) → p t.2.2
theorem rch_of_shut {rs : List STrans} {p : Int → Prop} (h : ∀ t ∈ rs, Shut p t) : ∀ q, Rch rs q → p q := by
  intro q hq
  induction hq with
  | mk t ht _ ih => exact h t ht ih
def Bt (s : Nat) (q : Int) : Prop := s.testBit q.toNat = true
theorem setB_gt {s m : Nat} (h : s.testBit m = false) : s < setB s m := by
  have h1 : s ≤ setB s m := Nat.left_le_or
  have h2 : s ≠ setB s m := fun e => by
    have : (setB s m).testBit m = true := setB_bit.2 (.inl rfl)
    rw [← e, h] at this; cases this
  omega
end Go.Proofs.Ytimniaojfchoiaa
