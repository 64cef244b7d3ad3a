/- Nodes and proofs that are well formed. -/
import Derived.Test.YtjijabgiochefaaEngQ
import Derived.Test.YtjijabgiochefaaNode2
namespace Go.Proofs.Ytjijabgiochefaa
open Go Go.Eng
set_option linter.unusedVariables false
set_option linter.unusedSimpArgs false

def BadKid (m : Int) (ks : List Int) (n : Nat) : Prop := ∃ i, i < n ∧ (ks.getD i 0 < 0 ∨ m ≤ ks.getD i 0)
instance {m : Int} {ks : List Int} {n : Nat} : Decidable (BadKid m ks n) := decidable_of_iff (∃ i, ∃ _ : i < n, (ks.getD i 0 < 0 ∨ m ≤ ks.getD i 0)) ⟨fun ⟨i, h, h'⟩ => ⟨i, h, h'⟩, fun ⟨i, h, h'⟩ => ⟨i, h, h'⟩⟩
theorem bad_next {m : Int} {ks : List Int} {n : Nat} (h : ¬ BadKid m ks n) (h2 : ¬ (ks.getD n 0 < 0 ∨ m ≤ ks.getD n 0)) : ¬ BadKid m ks (n + 1) := by
  rintro ⟨i, hi, h'⟩
  by_cases he : i = n
  · rw [he] at h'; exact h2 h'
  · exact h ⟨i, by omega, h'⟩
def BadTerm (ts : List (List Int)) (n : Nat) : Prop := ∃ i, i < n ∧ ¬ (1 ≤ (ts.getD i default).length ∧ (ts.getD i default).length ≤ 60)
instance {ts : List (List Int)} {n : Nat} : Decidable (BadTerm ts n) := decidable_of_iff (∃ i, ∃ _ : i < n, ¬ (1 ≤ (ts.getD i default).length ∧ (ts.getD i default).length ≤ 60)) ⟨fun ⟨i, h, h'⟩ => ⟨i, h, h'⟩, fun ⟨i, h, h'⟩ => ⟨i, h, h'⟩⟩
theorem badt_next {ts : List (List Int)} {n : Nat} (h : ¬ BadTerm ts n) (h2 : 1 ≤ (ts.getD n default).length ∧ (ts.getD n default).length ≤ 60) : ¬ BadTerm ts (n + 1) := by
  rintro ⟨i, hi, h'⟩
  by_cases he : i = n
  · rw [he] at h'; exact h' h2
  · exact h ⟨i, by omega, h'⟩
theorem NodeOk1_spec {w0 : World} {Γ Δ : List Atom} {b : Nat} {k m : Int} [hb : PullBk Γ b [.int .i64 m] Δ] : CJ Try.prog 158 [.int .i64 k, .pointer (some ⟨b, 0, none⟩)] w0 Γ (fun _ : Unit => .bool (decide (k < 0 ∨ m ≤ k))) (fun _ => .bk b [.int .i64 m] :: Δ) := by
  refine cj_perm hb.perm ?_
  refine cj_enter Try.func158 Try.ntmps158 ?_
  repeat' (first
    | refine red ?_
    | refine redf fun hbi => ?_
    | refine reds ?_
    | refine redc fun r => ?_
    | refine redv fun sv => ?_
    | refine redn fun b => ?_
    | refine redz fun zs => ?_
    | refine redq (fun hc => ?_) (fun hc => ?_)
    | with_reducible refine wq_blk_o rfl ?_
    | (refine redd fun p cs as_ hcs has hf => ?_; simp only [Un.cells, Un.atoms, Un.fact, List.cons_append, List.nil_append] at hcs has hf; subst hcs has)
    | (refine redi (fun hc => ?_) (fun hc => ?_) <;> try first | (exfalso; omega) | exact absurd rfl hc)
    | fail)
  · exact ⟨(), ret_bool (decide_eq_true (.inl hc)), ent_e⟩
  · exact ⟨(), ret_bool (decide_eq_decide.2 ⟨fun h => by omega, fun h => .inr h⟩), ent_e⟩
instance NodeOk1_ctr {Γ Δ : List Atom} {b : Nat} {k m : Int} [hb : PullBk Γ b [.int .i64 m] Δ] :
    CtrC Try.prog 158 [.int .i64 k, .pointer (some ⟨b, 0, none⟩)] Γ (True) (Unit) (fun _ : Unit => .bool (decide (k < 0 ∨ m ≤ k))) (fun _ => .bk b [.int .i64 m] :: Δ) := ⟨fun s w0 => NodeOk1_spec⟩

theorem IndexFuncK_spec {w0 : World} {Γ Δ : List Atom} {b : Nat} {m : Int} {v : Value} {ks : List Int} [hb : PullBk Γ b [.int .i64 m] Δ] [h : HasRd (List Int) repList Δ [v] ks] : CJ Try.prog 197 [v, .func (.func 158) #[] #[.pointer (some ⟨b, 0, none⟩)]] w0 Γ (fun q : { n : Int // 0 ≤ n ↔ BadKid m ks ks.length } => .int .i64 q.1) (fun _ => .bk b [.int .i64 m] :: Δ) := by
  refine cj_perm hb.perm ?_
  refine cj_len v fun hlx => ?_
  refine cj_enter Try.func197 Try.ntmps197 ?_
  repeat' (first
    | refine red ?_
    | refine redf fun hbi => ?_
    | refine reds ?_
    | refine redc fun r => ?_
    | refine redv fun sv => ?_
    | refine redn fun b => ?_
    | refine redz fun zs => ?_
    | refine redq (fun hc => ?_) (fun hc => ?_)
    | with_reducible refine wq_blk_o rfl ?_
    | (refine redd fun p cs as_ hcs has hf => ?_; simp only [Un.cells, Un.atoms, Un.fact, List.cons_append, List.nil_append] at hcs has hf; subst hcs has)
    | (refine redi (fun hc => ?_) (fun hc => ?_) <;> try first | (exfalso; omega) | exact absurd rfl hc)
    | fail)
  refine wc_loop_c [8] [9, 10, 5, 11, 12, 13, 14, 15, 16, 17, 4, 18] (ι := Nat) (fun k => [.int .i64 k]) (fun k => k ≤ ks.length ∧ ¬ BadKid m ks k) (fun k => ks.length - k) 0 (by kernel_rfl) ⟨Nat.zero_le _, fun ⟨i, hi, _⟩ => by omega⟩ ?_
  intro k u l' hl' ⟨hk, hkk⟩
  simp only [patch, List.map_cons, List.map_nil, List.set_cons_zero, List.set_cons_succ] at hl'
  subst hl'
  repeat' (first
    | refine red ?_
    | refine redf fun hbi => ?_
    | refine reds ?_
    | refine redc fun r => ?_
    | refine redv fun sv => ?_
    | refine redn fun b => ?_
    | refine redz fun zs => ?_
    | refine redq (fun hc => ?_) (fun hc => ?_)
    | with_reducible refine wq_blk_o rfl ?_
    | (refine redd fun p cs as_ hcs has hf => ?_; simp only [Un.cells, Un.atoms, Un.fact, List.cons_append, List.nil_append] at hcs has hf; subst hcs has)
    | (refine redi (fun hc => ?_) (fun hc => ?_) <;> try first | (exfalso; omega) | exact absurd rfl hc)
    | fail)
  · exact ⟨⟨(k : Int), ⟨fun _ => ⟨k, by omega, hc⟩, fun _ => by omega⟩⟩, rfl, ent_e⟩
  · exact wq_next (k + 1) ⟨by omega, bad_next hkk hc⟩ (by omega) (by kernel_rfl) ent_e
  · exact ⟨⟨-1, ⟨fun h => by omega, fun h => absurd (by rw [show ks.length = k by omega] at h; exact h) hkk⟩⟩, rfl, ent_e⟩
instance IndexFuncK_ctr {Γ Δ : List Atom} {b : Nat} {m : Int} {v : Value} {ks : List Int} [hb : PullBk Γ b [.int .i64 m] Δ] [h : HasRd (List Int) repList Δ [v] ks] :
    CtrC Try.prog 197 [v, .func (.func 158) #[] #[.pointer (some ⟨b, 0, none⟩)]] Γ (True) ({ n : Int // 0 ≤ n ↔ BadKid m ks ks.length }) (fun q : { n : Int // 0 ≤ n ↔ BadKid m ks ks.length } => .int .i64 q.1) (fun _ => .bk b [.int .i64 m] :: Δ) := ⟨fun s w0 => IndexFuncK_spec⟩

theorem ContainsFuncK_spec {w0 : World} {Γ Δ : List Atom} {b : Nat} {m : Int} {v : Value} {ks : List Int} [hb : PullBk Γ b [.int .i64 m] Δ] [h : HasRd (List Int) repList Δ [v] ks] : CJ Try.prog 157 [v, .func (.func 158) #[] #[.pointer (some ⟨b, 0, none⟩)]] w0 Γ (fun _ : Unit => .bool (decide (BadKid m ks ks.length))) (fun _ => .bk b [.int .i64 m] :: Δ) := by
  refine cj_perm hb.perm ?_
  refine cj_enter Try.func157 Try.ntmps157 ?_
  repeat' (first
    | refine red ?_
    | refine redf fun hbi => ?_
    | refine reds ?_
    | refine redc fun r => ?_
    | refine redv fun sv => ?_
    | refine redn fun b => ?_
    | refine redz fun zs => ?_
    | refine redq (fun hc => ?_) (fun hc => ?_)
    | with_reducible refine wq_blk_o rfl ?_
    | (refine redd fun p cs as_ hcs has hf => ?_; simp only [Un.cells, Un.atoms, Un.fact, List.cons_append, List.nil_append] at hcs has hf; subst hcs has)
    | (refine redi (fun hc => ?_) (fun hc => ?_) <;> try first | (exfalso; omega) | exact absurd rfl hc)
    | fail)
  exact ⟨(), ret_bool (decide_eq_decide.2 r.2.symm), ent_e⟩
instance ContainsFuncK_ctr {Γ Δ : List Atom} {b : Nat} {m : Int} {v : Value} {ks : List Int} [hb : PullBk Γ b [.int .i64 m] Δ] [h : HasRd (List Int) repList Δ [v] ks] :
    CtrC Try.prog 157 [v, .func (.func 158) #[] #[.pointer (some ⟨b, 0, none⟩)]] Γ (True) (Unit) (fun _ : Unit => .bool (decide (BadKid m ks ks.length))) (fun _ => .bk b [.int .i64 m] :: Δ) := ⟨fun s w0 => ContainsFuncK_spec⟩

def NodeP (n : SNode) (m : Int) : Prop := (0 ≤ m ∧ 1 ≤ n.1 ∧ n.1 ≤ 12) ∧ (n.2.1.length ≤ 200 ∧ n.2.2.1.length ≤ 61 ∧ n.2.2.2.length ≤ 64) ∧ ¬ BadTerm n.2.2.1 n.2.2.1.length ∧ ¬ BadKid m n.2.2.2 n.2.2.2.length
instance {n : SNode} {m : Int} : Decidable (NodeP n m) := by unfold NodeP; infer_instance
def nodeOk (n : SNode) (m : Int) : Bool := decide (NodeP n m)
instance {n : SNode} {m : Int} : BoolP (nodeOk n m) (NodeP n m) := ⟨decide_eq_true_iff⟩
instance {n : SNode} {m : Int} : BoolN (nodeOk n m) (¬ NodeP n m) := ⟨decide_eq_false_iff_not⟩
theorem impl_NodeOk_spec {w0 : World} {Γ : List Atom} {va vb vc : Value} {n : SNode} {m : Int} [ha : HasRd (List Int) repList Γ [va] n.2.1] [hb : HasRd (List (List Int)) repList Γ [vb] n.2.2.1] [hc' : HasRd (List Int) repList Γ [vc] n.2.2.2] : CJ Try.prog 99 [.agg #[.int .i64 n.1, va, vb, vc], .int .i64 m] w0 Γ (fun _ : Unit => .bool (nodeOk n m)) (fun _ => Γ) := by
  refine cj_lift (R := [.rd [va] n.2.1, .rd [vb] n.2.2.1, .rd [vc] n.2.2.2]) (A := fun _ => []) (fun w1 => ?_) (reads_cons ha (reads_cons hb (reads_cons hc' (inferInstance)))) (fun _ => inferInstance)
  simp only [List.cons_append, List.nil_append]
  refine cj_len va fun hla => ?_
  refine cj_len vb fun hlb => ?_
  refine cj_len vc fun hlc => ?_
  refine cj_enter Try.func99 Try.ntmps99 ?_
  repeat' (first
    | refine red ?_
    | refine redf fun hbi => ?_
    | refine reds ?_
    | refine redc fun r => ?_
    | refine redv fun sv => ?_
    | refine redn fun b => ?_
    | refine redz fun zs => ?_
    | refine redq (fun hc => ?_) (fun hc => ?_)
    | with_reducible refine wq_blk_o rfl ?_
    | (refine redd fun p cs as_ hcs has hf => ?_; simp only [Un.cells, Un.atoms, Un.fact, List.cons_append, List.nil_append] at hcs has hf; subst hcs has)
    | (refine redi (fun hc => ?_) (fun hc => ?_) <;> try first | (exfalso; omega) | exact absurd rfl hc)
    | fail)
  all_goals first
    | exact ⟨(), ret_bool (decide_eq_false fun h => by have h1 := h.1; have h2 := h.2.1; omega), ent_e⟩
    | skip
  refine wc_loop_c [40] [41, 42, 43, 6, 44, 45, 46, 4, 47] (ι := Nat) (fun k => [.int .i64 k]) (fun k => k ≤ n.2.2.1.length ∧ ¬ BadTerm n.2.2.1 k) (fun k => n.2.2.1.length - k) 0 (by kernel_rfl) ⟨Nat.zero_le _, fun ⟨i, hi, _⟩ => by omega⟩ ?_
  intro k u l' hl' ⟨hk, hkk⟩
  simp only [patch, List.map_cons, List.map_nil, List.set_cons_zero, List.set_cons_succ] at hl'
  subst hl'
  repeat' (first
    | refine red ?_
    | refine redf fun hbi => ?_
    | refine reds ?_
    | refine redc fun r => ?_
    | refine redv fun sv => ?_
    | refine redn fun b => ?_
    | refine redz fun zs => ?_
    | refine redq (fun hc => ?_) (fun hc => ?_)
    | with_reducible refine wq_blk_o rfl ?_
    | (refine redd fun p cs as_ hcs has hf => ?_; simp only [Un.cells, Un.atoms, Un.fact, List.cons_append, List.nil_append] at hcs has hf; subst hcs has)
    | (refine redi (fun hc => ?_) (fun hc => ?_) <;> try first | (exfalso; omega) | exact absurd rfl hc)
    | fail)
  · exact ⟨(), ret_bool (decide_eq_false fun h => h.2.2.1 ⟨k, by omega, hc⟩), ent_e⟩
  · exact wq_next (k + 1) ⟨by omega, badt_next hkk hc⟩ (by omega) (by kernel_rfl) ent_e
  · have hkl : k = n.2.2.1.length := by omega
    subst hkl
    refine ⟨(), ret_bool ?_, ent_e⟩
    unfold nodeOk
    rw [← decide_not]
    exact decide_eq_decide.2 ⟨fun h => h.2.2.2, fun h => ⟨by omega, by omega, hkk, h⟩⟩
instance impl_NodeOk_ctr {Γ : List Atom} {va vb vc : Value} {n : SNode} {m : Int} [ha : HasRd (List Int) repList Γ [va] n.2.1] [hb : HasRd (List (List Int)) repList Γ [vb] n.2.2.1] [hc' : HasRd (List Int) repList Γ [vc] n.2.2.2] :
    CtrC Try.prog 99 [.agg #[.int .i64 n.1, va, vb, vc], .int .i64 m] Γ (True) (Unit) (fun _ : Unit => .bool (nodeOk n m)) (fun _ => Γ) := ⟨fun s w0 => impl_NodeOk_spec⟩

theorem spec_NodeOk_spec {w0 : World} {Γ : List Atom} {va vb vc : Value} {n : SNode} {m : Int} [ha : HasRd (List Int) repList Γ [va] n.2.1] [hb : HasRd (List (List Int)) repList Γ [vb] n.2.2.1] [hc' : HasRd (List Int) repList Γ [vc] n.2.2.2] (hm : m ≤ 1048576) : CJ Try.prog 93 [.agg #[.int .i64 n.1, va, vb, vc], .int .i64 m] w0 Γ (fun _ : Unit => .bool (nodeOk n m)) (fun _ => Γ) := by
  refine cj_lift (R := [.rd [va] n.2.1, .rd [vb] n.2.2.1, .rd [vc] n.2.2.2]) (A := fun _ => []) (fun w1 => ?_) (reads_cons ha (reads_cons hb (reads_cons hc' (inferInstance)))) (fun _ => inferInstance)
  simp only [List.cons_append, List.nil_append]
  refine cj_len va fun hla => ?_
  refine cj_len vb fun hlb => ?_
  refine cj_len vc fun hlc => ?_
  refine cj_enter Try.func93 Try.ntmps93 ?_
  repeat' (first
    | refine red ?_
    | refine redf fun hbi => ?_
    | refine reds ?_
    | refine redc fun r => ?_
    | refine redv fun sv => ?_
    | refine redn fun b => ?_
    | refine redz fun zs => ?_
    | refine redq (fun hc => ?_) (fun hc => ?_)
    | with_reducible refine wq_blk_o rfl ?_
    | (refine redd fun p cs as_ hcs has hf => ?_; simp only [Un.cells, Un.atoms, Un.fact, List.cons_append, List.nil_append] at hcs has hf; subst hcs has)
    | (refine redi (fun hc => ?_) (fun hc => ?_) <;> try first | (exfalso; omega) | exact absurd rfl hc)
    | fail)
  all_goals first
    | exact ⟨(), ret_bool (decide_eq_false fun h => by have h1 := h.1; have h2 := h.2.1; omega), ent_e⟩
    | skip
  refine wc_loop_c [5] [33, 34, 35, 36, 37, 40, 41, 42, 43, 44, 45, 46, 4, 38, 39] (ι := Nat) (fun k => [.int .i64 k]) (fun k => k ≤ n.2.2.1.length ∧ ¬ BadTerm n.2.2.1 k) (fun k => n.2.2.1.length - k) 0 (by kernel_rfl) ⟨Nat.zero_le _, fun ⟨i, hi, _⟩ => by omega⟩ ?_
  intro k u l' hl' ⟨hk, hkk⟩
  simp only [patch, List.map_cons, List.map_nil, List.set_cons_zero, List.set_cons_succ] at hl'
  subst hl'
  repeat' (first
    | refine red ?_
    | refine redf fun hbi => ?_
    | refine reds ?_
    | refine redc fun r => ?_
    | refine redv fun sv => ?_
    | refine redn fun b => ?_
    | refine redz fun zs => ?_
    | refine redq (fun hc => ?_) (fun hc => ?_)
    | with_reducible refine wq_blk_o rfl ?_
    | (refine redd fun p cs as_ hcs has hf => ?_; simp only [Un.cells, Un.atoms, Un.fact, List.cons_append, List.nil_append] at hcs has hf; subst hcs has)
    | (refine redi (fun hc => ?_) (fun hc => ?_) <;> try first | (exfalso; omega) | exact absurd rfl hc)
    | fail)
  · exact ⟨(), ret_bool (decide_eq_false fun h => h.2.2.1 ⟨k, by omega, hc⟩), ent_e⟩
  · exact wq_next (k + 1) ⟨by omega, badt_next hkk hc⟩ (by omega) (by kernel_rfl) ent_e
  have hkl : k = n.2.2.1.length := by omega
  subst hkl
  refine wc_loop_c [6] [47, 48, 49, 50, 51, 54, 55, 56, 57, 58, 59, 60, 61, 62, 4, 52, 53] (ι := Nat) (fun k => [.int .i64 k]) (fun k => k ≤ n.2.2.2.length ∧ ¬ BadKid m n.2.2.2 k) (fun k => n.2.2.2.length - k) 0 (by kernel_rfl) ⟨Nat.zero_le _, fun ⟨i, hi, _⟩ => by omega⟩ ?_
  intro k u l' hl' ⟨hk, hkk2⟩
  simp only [patch, List.map_cons, List.map_nil, List.set_cons_zero, List.set_cons_succ] at hl'
  subst hl'
  repeat' (first
    | refine red ?_
    | refine redf fun hbi => ?_
    | refine reds ?_
    | refine redc fun r => ?_
    | refine redv fun sv => ?_
    | refine redn fun b => ?_
    | refine redz fun zs => ?_
    | refine redq (fun hc => ?_) (fun hc => ?_)
    | with_reducible refine wq_blk_o rfl ?_
    | (refine redd fun p cs as_ hcs has hf => ?_; simp only [Un.cells, Un.atoms, Un.fact, List.cons_append, List.nil_append] at hcs has hf; subst hcs has)
    | (refine redi (fun hc => ?_) (fun hc => ?_) <;> try first | (exfalso; omega) | exact absurd rfl hc)
    | fail)
  · exact ⟨(), ret_bool (decide_eq_false fun h => h.2.2.2 ⟨k, by omega, by omega⟩), ent_e⟩
  · exact wq_next (k + 1) ⟨by omega, bad_next hkk2 (by omega)⟩ (by omega) (by kernel_rfl) ent_e
  · have hkl : k = n.2.2.2.length := by omega
    subst hkl
    exact ⟨(), ret_bool (decide_eq_true ⟨by omega, by omega, hkk, hkk2⟩), ent_e⟩

instance spec_NodeOk_ctr {Γ : List Atom} {va vb vc : Value} {n : SNode} {m : Int} [ha : HasRd (List Int) repList Γ [va] n.2.1] [hb : HasRd (List (List Int)) repList Γ [vb] n.2.2.1] [hc' : HasRd (List Int) repList Γ [vc] n.2.2.2] :
    CtrC Try.prog 93 [.agg #[.int .i64 n.1, va, vb, vc], .int .i64 m] Γ (m ≤ 1048576) (Unit) (fun _ : Unit => .bool (nodeOk n m)) (fun _ => Γ) := ⟨fun s w0 => spec_NodeOk_spec s⟩

/-! copies -/
theorem memT {ts : List (List Int)} {k : Nat} (h : k < ts.length) : ts.getD k default ∈ ts := by
  rw [List.getD_eq_getElem?_getD, List.getElem?_eq_getElem h]; exact List.getElem_mem h
theorem takeT {ts : List (List Int)} {k : Nat} (h : k < ts.length) : ts.take k ++ [ts.getD k default] = ts.take (k + 1) := by
  rw [List.take_succ_eq_append_getElem h, List.getD_eq_getElem?_getD, List.getElem?_eq_getElem h]; rfl
theorem l1CopyTerms_spec {w0 : World} {Γ : List Atom} {v : Value} {ts : List (List Int)} [h : HasRd (List (List Int)) repList Γ [v] ts] (hl : ts.length ≤ 1048576) (ht : ∀ t ∈ ts, t.length ≤ 1048576) : CJ Try.prog 156 [v] w0 Γ (fun q : Value => q) (fun q => .ow [q] ts :: Γ) := by
  refine cj_lift (R := [.rd [v] ts]) (A := fun q : Value => [.ow [q] ts]) (fun w1 => ?_) (reads_cons h (inferInstance)) (fun _ => inferInstance)
  simp only [List.cons_append, List.nil_append]
  refine cj_enter Try.func156 Try.ntmps156 ?_
  repeat' (first
    | refine red ?_
    | refine redf fun hbi => ?_
    | refine reds ?_
    | refine redc fun r => ?_
    | refine redv fun sv => ?_
    | refine redn fun b => ?_
    | refine redz fun zs => ?_
    | refine redq (fun hc => ?_) (fun hc => ?_)
    | with_reducible refine wq_blk_o rfl ?_
    | (refine redd fun p cs as_ hcs has hf => ?_; simp only [Un.cells, Un.atoms, Un.fact, List.cons_append, List.nil_append] at hcs has hf; subst hcs has)
    | (refine redi (fun hc => ?_) (fun hc => ?_) <;> try first | (exfalso; omega) | exact absurd rfl hc)
    | fail)
  refine wc_loop_p [3, 4] [6, 7, 8, 9, 12, 13, 14, 15, 16, 17, 18, 19, 10, 11] (ι := Nat × Value) (fun k => [k.2, .int .i64 k.1]) (fun k => [.ow [k.2] (ts.take k.1)]) (fun k => k.1 ≤ ts.length) (fun k => ts.length - k.1) (0, sv) [.ow [sv] ([] : List (List Int))] (by kernel_rfl) (Nat.zero_le _) rfl ?_
  intro ⟨k, sw⟩ u l' hl' hk
  simp only [patch, List.map_cons, List.map_nil, List.set_cons_zero, List.set_cons_succ] at hl'
  subst hl'
  simp only [List.cons_append, List.nil_append] at hk ⊢
  have hn2 := List.length_take (i := k) (l := ts)
  have htk := fun hh => ht _ (memT (ts := ts) (k := k) hh)
  repeat' (first
    | refine red ?_
    | refine redf fun hbi => ?_
    | refine reds ?_
    | refine redc fun r => ?_
    | refine redv fun sv => ?_
    | refine redn fun b => ?_
    | refine redz fun zs => ?_
    | refine redq (fun hc => ?_) (fun hc => ?_)
    | with_reducible refine wq_blk_o rfl ?_
    | (refine redd fun p cs as_ hcs has hf => ?_; simp only [Un.cells, Un.atoms, Un.fact, List.cons_append, List.nil_append] at hcs has hf; subst hcs has)
    | (refine redi (fun hc => ?_) (fun hc => ?_) <;> try first | (exfalso; omega) | exact absurd rfl hc)
    | fail)
  · rw [takeT (by omega)]
    exact wq_next (k + 1, sv) (by simp only; omega) (by simp only; omega) (by kernel_rfl) ent_e
  · rw [List.take_of_length_le (by omega)]
    exact ⟨_, rfl, ent_e⟩
instance l1CopyTerms_ctr {Γ : List Atom} {v : Value} {ts : List (List Int)} [h : HasRd (List (List Int)) repList Γ [v] ts] :
    CtrC Try.prog 156 [v] Γ ((ts.length ≤ 1048576) ∧ (∀ t ∈ ts, t.length ≤ 1048576)) (Value) (fun q : Value => q) (fun q => .ow [q] ts :: Γ) := ⟨fun s w0 => l1CopyTerms_spec s.1 s.2⟩

theorem cloneAll_spec {w0 : World} {Γ : List Atom} {v : Value} {ts : List (List Int)} [h : HasRd (List (List Int)) repList Γ [v] ts] (hl : ts.length ≤ 1048576) (ht : ∀ t ∈ ts, t.length ≤ 1048576) : CJ Try.prog 159 [v] w0 Γ (fun q : Value => q) (fun q => .ow [q] ts :: Γ) := by
  refine cj_lift (R := [.rd [v] ts]) (A := fun q : Value => [.ow [q] ts]) (fun w1 => ?_) (reads_cons h (inferInstance)) (fun _ => inferInstance)
  simp only [List.cons_append, List.nil_append]
  refine cj_enter Try.func159 Try.ntmps159 ?_
  repeat' (first
    | refine red ?_
    | refine redf fun hbi => ?_
    | refine reds ?_
    | refine redc fun r => ?_
    | refine redv fun sv => ?_
    | refine redn fun b => ?_
    | refine redz fun zs => ?_
    | refine redq (fun hc => ?_) (fun hc => ?_)
    | with_reducible refine wq_blk_o rfl ?_
    | (refine redd fun p cs as_ hcs has hf => ?_; simp only [Un.cells, Un.atoms, Un.fact, List.cons_append, List.nil_append] at hcs has hf; subst hcs has)
    | (refine redi (fun hc => ?_) (fun hc => ?_) <;> try first | (exfalso; omega) | exact absurd rfl hc)
    | fail)
  refine wc_loop_p [3, 8] [9, 10, 11, 5, 12, 13, 14, 15, 16, 17] (ι := Nat × Value) (fun k => [k.2, .int .i64 k.1]) (fun k => [.ow [k.2] (ts.take k.1)]) (fun k => k.1 ≤ ts.length) (fun k => ts.length - k.1) (0, .slice none 0 0) [.ow [.slice none 0 0] ([] : List (List Int))] (by kernel_rfl) (Nat.zero_le _) rfl ?_
  intro ⟨k, sw⟩ u l' hl' hk
  simp only [patch, List.map_cons, List.map_nil, List.set_cons_zero, List.set_cons_succ] at hl'
  subst hl'
  simp only [List.cons_append, List.nil_append] at hk ⊢
  have hn2 := List.length_take (i := k) (l := ts)
  have htk := fun hh => ht _ (memT (ts := ts) (k := k) hh)
  repeat' (first
    | refine red ?_
    | refine redf fun hbi => ?_
    | refine reds ?_
    | refine redc fun r => ?_
    | refine redv fun sv => ?_
    | refine redn fun b => ?_
    | refine redz fun zs => ?_
    | refine redq (fun hc => ?_) (fun hc => ?_)
    | with_reducible refine wq_blk_o rfl ?_
    | (refine redd fun p cs as_ hcs has hf => ?_; simp only [Un.cells, Un.atoms, Un.fact, List.cons_append, List.nil_append] at hcs has hf; subst hcs has)
    | (refine redi (fun hc => ?_) (fun hc => ?_) <;> try first | (exfalso; omega) | exact absurd rfl hc)
    | fail)
  · rw [takeT (by omega)]
    exact wq_next (k + 1, sv) (by simp only; omega) (by simp only; omega) (by kernel_rfl) ent_e
  · rw [List.take_of_length_le (by omega)]
    exact ⟨_, rfl, ent_e⟩
instance cloneAll_ctr {Γ : List Atom} {v : Value} {ts : List (List Int)} [h : HasRd (List (List Int)) repList Γ [v] ts] :
    CtrC Try.prog 159 [v] Γ ((ts.length ≤ 1048576) ∧ (∀ t ∈ ts, t.length ≤ 1048576)) (Value) (fun q : Value => q) (fun q => .ow [q] ts :: Γ) := ⟨fun s w0 => cloneAll_spec s.1 s.2⟩

theorem memK {ts : List Int} {k : Nat} (h : k < ts.length) : ts.getD k 0 ∈ ts := by
  rw [List.getD_eq_getElem?_getD, List.getElem?_eq_getElem h]; exact List.getElem_mem h
theorem takeK {ts : List Int} {c : Int} {k : Nat} (h : k < ts.length) : (ts.take k).map (· + c) ++ [ts.getD k 0 + c] = (ts.take (k + 1)).map (· + c) := by
  rw [List.take_succ_eq_append_getElem h, List.map_append, List.getD_eq_getElem?_getD, List.getElem?_eq_getElem h]; rfl
theorem memN {ts : List SNode} {k : Nat} (h : k < ts.length) : ts.getD k default ∈ ts := by
  rw [List.getD_eq_getElem?_getD, List.getElem?_eq_getElem h]; exact List.getElem_mem h
theorem takeN {ts : List SNode} {k : Nat} (h : k < ts.length) : ts.take k ++ [ts.getD k default] = ts.take (k + 1) := by
  rw [List.take_succ_eq_append_getElem h, List.getD_eq_getElem?_getD, List.getElem?_eq_getElem h]; rfl
theorem map0 (l : List Int) : l.map (· + 0) = l := by simp
def Fits (n : SNode) : Prop := n.2.1.length ≤ 1048576 ∧ n.2.2.1.length ≤ 1048576 ∧ (∀ t ∈ n.2.2.1, t.length ≤ 1048576) ∧ n.2.2.2.length ≤ 1048576 ∧ (∀ k ∈ n.2.2.2, -1048576 ≤ k ∧ k ≤ 1048576)
theorem l29CopyNode_spec {w0 : World} {Γ : List Atom} {va vb vc : Value} {n : SNode} [ha : HasRd (List Int) repList Γ [va] n.2.1] [hb : HasRd (List (List Int)) repList Γ [vb] n.2.2.1] [hc' : HasRd (List Int) repList Γ [vc] n.2.2.2] (hf : Fits n) : CJ Try.prog 95 [.agg #[.int .i64 n.1, va, vb, vc]] w0 Γ (fun p : Value × Value × Value => .agg #[.int .i64 n.1, p.1, p.2.1, p.2.2]) (fun p => .ow [p.1] n.2.1 :: .ow [p.2.1] n.2.2.1 :: .ow [p.2.2] n.2.2.2 :: Γ) := by
  refine cj_lift (R := [.rd [va] n.2.1, .rd [vb] n.2.2.1, .rd [vc] n.2.2.2]) (A := fun p : Value × Value × Value => [.ow [p.1] n.2.1, .ow [p.2.1] n.2.2.1, .ow [p.2.2] n.2.2.2]) (fun w1 => ?_) (reads_cons ha (reads_cons hb (reads_cons hc' (inferInstance)))) (fun _ => inferInstance)
  simp only [List.cons_append, List.nil_append]
  obtain ⟨hf1, hf2, hf3, hf4, hf5⟩ := hf
  refine cj_enter Try.func95 Try.ntmps95 ?_
  repeat' (first
    | refine red ?_
    | refine redf fun hbi => ?_
    | refine reds ?_
    | refine redc fun r => ?_
    | refine redv fun sv => ?_
    | refine redn fun b => ?_
    | refine redz fun zs => ?_
    | refine redq (fun hc => ?_) (fun hc => ?_)
    | with_reducible refine wq_blk_o rfl ?_
    | (refine redd fun p cs as_ hcs has hf => ?_; simp only [Un.cells, Un.atoms, Un.fact, List.cons_append, List.nil_append] at hcs has hf; subst hcs has)
    | (refine redi (fun hc => ?_) (fun hc => ?_) <;> try first | (exfalso; omega) | exact absurd rfl hc)
    | ((refine wa_begin 1 [false, false, false, false, false, false, false, false, false, false, false, false, false] [12] ?_ <;> (first | refine wa_p 0 ?_ | refine wa_p0 0 ?_ | fail) <;> (first | refine wa_f 1 fun hbi => ?_ | refine wa_p 1 ?_ | fail) <;> (first | refine wa_p 2 ?_ | refine wa_p0 2 ?_ | fail) <;> (first | refine wa_f 3 fun hbi => ?_ | refine wa_p 3 ?_ | fail) <;> (first | refine wa_p 5 ?_ | refine wa_p0 5 ?_ | fail) <;> (first | refine wa_f 6 fun hbi => ?_ | refine wa_p 6 ?_ | fail) <;> (first | refine wa_p 8 ?_ | refine wa_p0 8 ?_ | fail) <;> (first | refine wa_f 9 fun hbi => ?_ | refine wa_p 9 ?_ | fail) <;> (refine wa_do 4 ?_ <;> (repeat' (first | refine red ?_ | refine redc fun r => ?_ | refine redv fun sv => ?_ | refine redf fun hbi => ?_ | refine redn fun b => ?_ | refine reds ?_ | refine redi (fun hc => ?_) (fun hc => ?_) | fail))) <;> (refine wa_do 7 ?_ <;> (repeat' (first | refine red ?_ | refine redc fun r => ?_ | refine redv fun sv => ?_ | refine redf fun hbi => ?_ | refine redn fun b => ?_ | refine reds ?_ | refine redi (fun hc => ?_) (fun hc => ?_) | fail))) <;> (refine wa_do 10 ?_ <;> (repeat' (first | refine red ?_ | refine redc fun r => ?_ | refine redv fun sv => ?_ | refine redf fun hbi => ?_ | refine redn fun b => ?_ | refine reds ?_ | refine redi (fun hc => ?_) (fun hc => ?_) | fail))) <;> (refine wa_do 11 ?_ <;> (repeat' (first | refine red ?_ | refine redc fun r => ?_ | refine redv fun sv => ?_ | refine redf fun hbi => ?_ | refine redn fun b => ?_ | refine reds ?_ | refine redi (fun hc => ?_) (fun hc => ?_) | fail))) <;> (refine wa_do 12 ?_ <;> (repeat' (first | refine red ?_ | refine redc fun r => ?_ | refine redv fun sv => ?_ | refine redf fun hbi => ?_ | refine redn fun b => ?_ | refine reds ?_ | refine redi (fun hc => ?_) (fun hc => ?_) | fail)))) <;> refine wa_end ?_)
    | fail)
  all_goals exact ⟨(_, _, _), rfl, ent_e⟩
instance l29CopyNode_ctr {Γ : List Atom} {va vb vc : Value} {n : SNode} [ha : HasRd (List Int) repList Γ [va] n.2.1] [hb : HasRd (List (List Int)) repList Γ [vb] n.2.2.1] [hc' : HasRd (List Int) repList Γ [vc] n.2.2.2] :
    CtrC Try.prog 95 [.agg #[.int .i64 n.1, va, vb, vc]] Γ (Fits n) (Value × Value × Value) (fun p : Value × Value × Value => .agg #[.int .i64 n.1, p.1, p.2.1, p.2.2]) (fun p => .ow [p.1] n.2.1 :: .ow [p.2.1] n.2.2.1 :: .ow [p.2.2] n.2.2.2 :: Γ) := ⟨fun s w0 => l29CopyNode_spec s⟩

theorem cloneNode_spec {w0 : World} {Γ : List Atom} {va vb vc : Value} {n : SNode} {by_ : Int} [ha : HasRd (List Int) repList Γ [va] n.2.1] [hb : HasRd (List (List Int)) repList Γ [vb] n.2.2.1] [hc' : HasRd (List Int) repList Γ [vc] n.2.2.2] (hf : Fits n) (hby : 0 ≤ by_ ∧ by_ ≤ 1048576) : CJ Try.prog 101 [.agg #[.int .i64 n.1, va, vb, vc], .int .i64 by_] w0 Γ (fun p : Value × Value × Value => .agg #[.int .i64 n.1, p.1, p.2.1, p.2.2]) (fun p => .ow [p.1] n.2.1 :: .ow [p.2.1] n.2.2.1 :: .ow [p.2.2] (n.2.2.2.map (· + by_)) :: Γ) := by
  refine cj_lift (R := [.rd [va] n.2.1, .rd [vb] n.2.2.1, .rd [vc] n.2.2.2]) (A := fun p : Value × Value × Value => [.ow [p.1] n.2.1, .ow [p.2.1] n.2.2.1, .ow [p.2.2] (n.2.2.2.map (· + by_))]) (fun w1 => ?_) (reads_cons ha (reads_cons hb (reads_cons hc' (inferInstance)))) (fun _ => inferInstance)
  simp only [List.cons_append, List.nil_append]
  obtain ⟨hf1, hf2, hf3, hf4, hf5⟩ := hf
  refine cj_enter Try.func101 Try.ntmps101 ?_
  repeat' (first
    | refine red ?_
    | refine redf fun hbi => ?_
    | refine reds ?_
    | refine redc fun r => ?_
    | refine redv fun sv => ?_
    | refine redn fun b => ?_
    | refine redz fun zs => ?_
    | refine redq (fun hc => ?_) (fun hc => ?_)
    | with_reducible refine wq_blk_o rfl ?_
    | (refine redd fun p cs as_ hcs has hf => ?_; simp only [Un.cells, Un.atoms, Un.fact, List.cons_append, List.nil_append] at hcs has hf; subst hcs has)
    | (refine redi (fun hc => ?_) (fun hc => ?_) <;> try first | (exfalso; omega) | exact absurd rfl hc)
    | ((refine wa_begin 1 [false, false, false, false, false, false, false, false, false, false, false] [] ?_ <;> (first | refine wa_p 0 ?_ | refine wa_p0 0 ?_ | fail) <;> (first | refine wa_f 1 fun hbi => ?_ | refine wa_p 1 ?_ | fail) <;> (first | refine wa_p 2 ?_ | refine wa_p0 2 ?_ | fail) <;> (first | refine wa_f 3 fun hbi => ?_ | refine wa_p 3 ?_ | fail) <;> (first | refine wa_p 5 ?_ | refine wa_p0 5 ?_ | fail) <;> (first | refine wa_f 6 fun hbi => ?_ | refine wa_p 6 ?_ | fail) <;> (refine wa_two 4 9 ?_ ?_; rotate_right; (focus ((repeat' (first | refine red ?_ | refine redc fun r => ?_ | refine redv fun sv => ?_ | refine redf fun hbi => ?_ | refine redn fun b => ?_ | refine reds ?_ | refine redi (fun hc => ?_) (fun hc => ?_) | fail)) <;> (refine wa_do 4 ?_ <;> (repeat' (first | refine red ?_ | refine redc fun r => ?_ | refine redv fun sv => ?_ | refine redf fun hbi => ?_ | refine redn fun b => ?_ | refine reds ?_ | refine redi (fun hc => ?_) (fun hc => ?_) | fail))) <;> (refine wa_do 7 ?_ <;> (repeat' (first | refine red ?_ | refine redc fun r => ?_ | refine redv fun sv => ?_ | refine redf fun hbi => ?_ | refine redn fun b => ?_ | refine reds ?_ | refine redi (fun hc => ?_) (fun hc => ?_) | fail))) <;> (refine wa_do 8 ?_ <;> (repeat' (first | refine red ?_ | refine redc fun r => ?_ | refine redv fun sv => ?_ | refine redf fun hbi => ?_ | refine redn fun b => ?_ | refine reds ?_ | refine redi (fun hc => ?_) (fun hc => ?_) | fail))) <;> (refine wa_do 10 ?_ <;> (repeat' (first | refine red ?_ | refine redc fun r => ?_ | refine redv fun sv => ?_ | refine redf fun hbi => ?_ | refine redn fun b => ?_ | refine reds ?_ | refine redi (fun hc => ?_) (fun hc => ?_) | fail))))); rotate_right; (focus ((repeat' (first | refine red ?_ | refine redc fun r => ?_ | refine redv fun sv => ?_ | refine redf fun hbi => ?_ | refine redn fun b => ?_ | refine reds ?_ | refine redi (fun hc => ?_) (fun hc => ?_) | fail)) <;> (refine wa_two 7 9 ?_ ?_; rotate_right; (focus ((repeat' (first | refine red ?_ | refine redc fun r => ?_ | refine redv fun sv => ?_ | refine redf fun hbi => ?_ | refine redn fun b => ?_ | refine reds ?_ | refine redi (fun hc => ?_) (fun hc => ?_) | fail)) <;> (refine wa_do 7 ?_ <;> (repeat' (first | refine red ?_ | refine redc fun r => ?_ | refine redv fun sv => ?_ | refine redf fun hbi => ?_ | refine redn fun b => ?_ | refine reds ?_ | refine redi (fun hc => ?_) (fun hc => ?_) | fail))) <;> (refine wa_do 8 ?_ <;> (repeat' (first | refine red ?_ | refine redc fun r => ?_ | refine redv fun sv => ?_ | refine redf fun hbi => ?_ | refine redn fun b => ?_ | refine reds ?_ | refine redi (fun hc => ?_) (fun hc => ?_) | fail))) <;> (refine wa_do 10 ?_ <;> (repeat' (first | refine red ?_ | refine redc fun r => ?_ | refine redv fun sv => ?_ | refine redf fun hbi => ?_ | refine redn fun b => ?_ | refine reds ?_ | refine redi (fun hc => ?_) (fun hc => ?_) | fail))))); rotate_right; (focus ((repeat' (first | refine red ?_ | refine redc fun r => ?_ | refine redv fun sv => ?_ | refine redf fun hbi => ?_ | refine redn fun b => ?_ | refine reds ?_ | refine redi (fun hc => ?_) (fun hc => ?_) | fail)) <;> (refine wa_two 8 9 ?_ ?_; rotate_right; (focus ((repeat' (first | refine red ?_ | refine redc fun r => ?_ | refine redv fun sv => ?_ | refine redf fun hbi => ?_ | refine redn fun b => ?_ | refine reds ?_ | refine redi (fun hc => ?_) (fun hc => ?_) | fail)) <;> (refine wa_do 8 ?_ <;> (repeat' (first | refine red ?_ | refine redc fun r => ?_ | refine redv fun sv => ?_ | refine redf fun hbi => ?_ | refine redn fun b => ?_ | refine reds ?_ | refine redi (fun hc => ?_) (fun hc => ?_) | fail))) <;> (refine wa_do 10 ?_ <;> (repeat' (first | refine red ?_ | refine redc fun r => ?_ | refine redv fun sv => ?_ | refine redf fun hbi => ?_ | refine redn fun b => ?_ | refine reds ?_ | refine redi (fun hc => ?_) (fun hc => ?_) | fail))))); rotate_right; (focus ((repeat' (first | refine red ?_ | refine redc fun r => ?_ | refine redv fun sv => ?_ | refine redf fun hbi => ?_ | refine redn fun b => ?_ | refine reds ?_ | refine redi (fun hc => ?_) (fun hc => ?_) | fail)) <;> (refine wa_do 9 ?_ <;> (repeat' (first | refine red ?_ | refine redc fun r => ?_ | refine redv fun sv => ?_ | refine redf fun hbi => ?_ | refine redn fun b => ?_ | refine reds ?_ | refine redi (fun hc => ?_) (fun hc => ?_) | fail))) <;> (refine wa_do 10 ?_ <;> (repeat' (first | refine red ?_ | refine redc fun r => ?_ | refine redv fun sv => ?_ | refine redf fun hbi => ?_ | refine redn fun b => ?_ | refine reds ?_ | refine redi (fun hc => ?_) (fun hc => ?_) | fail))))))))))))) <;> refine wa_end ?_)
    | fail)
  all_goals
    refine wc_name4t 5 0 fun b5 vn vt e0 e1 e2 => ?_
    subst e0 e1 e2
    refine wc_loop_p [20] [21, 22, 23, 7, 24, 25, 26, 27, 28, 29, 30, 31, 32] (ι := Nat × Value) (fun k => [.int .i64 k.1]) (fun k => [.bk b5 [.int .i64 n.1, vn, vt, k.2], .ow [k.2] ((n.2.2.2.take k.1).map (· + by_))]) (fun k => k.1 ≤ n.2.2.2.length) (fun k => n.2.2.2.length - k.1) (0, .slice none 0 0) [.bk b5 [.int .i64 n.1, vn, vt, .slice none 0 0], .ow [.slice none 0 0] ([] : List Int)] (by kernel_rfl) (Nat.zero_le _) rfl ?_
    intro ⟨k, sw⟩ u l' hl' hk
    simp only [patch, List.map_cons, List.map_nil, List.set_cons_zero, List.set_cons_succ] at hl'
    subst hl'
    simp only [List.cons_append, List.nil_append] at hk ⊢
    have hn2 := List.length_take (i := k) (l := n.2.2.2)
    have hml : ((n.2.2.2.take k).map (· + by_)).length = k := by rw [List.length_map, hn2]; omega
    have hkk : k < n.2.2.2.length → -1048576 ≤ n.2.2.2.getD k 0 ∧ n.2.2.2.getD k 0 ≤ 1048576 := fun h => hf5 _ (memK h)
    repeat' (first
      | refine red ?_
      | refine redf fun hbi => ?_
      | refine reds ?_
      | refine redc fun r => ?_
      | refine redv fun sv => ?_
      | refine redn fun b => ?_
      | refine redz fun zs => ?_
      | refine redq (fun hc => ?_) (fun hc => ?_)
      | with_reducible refine wq_blk_o rfl ?_
      | (refine redd fun p cs as_ hcs has hf => ?_; simp only [Un.cells, Un.atoms, Un.fact, List.cons_append, List.nil_append] at hcs has hf; subst hcs has)
      | (refine redi (fun hc => ?_) (fun hc => ?_) <;> try first | (exfalso; omega) | exact absurd rfl hc)
      | ((refine wa_begin 1 [false, false, false, false, false, false, false, false, false, false, false] [] ?_ <;> (first | refine wa_p 0 ?_ | refine wa_p0 0 ?_ | fail) <;> (first | refine wa_f 1 fun hbi => ?_ | refine wa_p 1 ?_ | fail) <;> (first | refine wa_p 2 ?_ | refine wa_p0 2 ?_ | fail) <;> (first | refine wa_f 3 fun hbi => ?_ | refine wa_p 3 ?_ | fail) <;> (first | refine wa_p 5 ?_ | refine wa_p0 5 ?_ | fail) <;> (first | refine wa_f 6 fun hbi => ?_ | refine wa_p 6 ?_ | fail) <;> (refine wa_two 4 9 ?_ ?_; rotate_right; (focus ((repeat' (first | refine red ?_ | refine redc fun r => ?_ | refine redv fun sv => ?_ | refine redf fun hbi => ?_ | refine redn fun b => ?_ | refine reds ?_ | refine redi (fun hc => ?_) (fun hc => ?_) | fail)) <;> (refine wa_do 4 ?_ <;> (repeat' (first | refine red ?_ | refine redc fun r => ?_ | refine redv fun sv => ?_ | refine redf fun hbi => ?_ | refine redn fun b => ?_ | refine reds ?_ | refine redi (fun hc => ?_) (fun hc => ?_) | fail))) <;> (refine wa_do 7 ?_ <;> (repeat' (first | refine red ?_ | refine redc fun r => ?_ | refine redv fun sv => ?_ | refine redf fun hbi => ?_ | refine redn fun b => ?_ | refine reds ?_ | refine redi (fun hc => ?_) (fun hc => ?_) | fail))) <;> (refine wa_do 8 ?_ <;> (repeat' (first | refine red ?_ | refine redc fun r => ?_ | refine redv fun sv => ?_ | refine redf fun hbi => ?_ | refine redn fun b => ?_ | refine reds ?_ | refine redi (fun hc => ?_) (fun hc => ?_) | fail))) <;> (refine wa_do 10 ?_ <;> (repeat' (first | refine red ?_ | refine redc fun r => ?_ | refine redv fun sv => ?_ | refine redf fun hbi => ?_ | refine redn fun b => ?_ | refine reds ?_ | refine redi (fun hc => ?_) (fun hc => ?_) | fail))))); rotate_right; (focus ((repeat' (first | refine red ?_ | refine redc fun r => ?_ | refine redv fun sv => ?_ | refine redf fun hbi => ?_ | refine redn fun b => ?_ | refine reds ?_ | refine redi (fun hc => ?_) (fun hc => ?_) | fail)) <;> (refine wa_two 7 9 ?_ ?_; rotate_right; (focus ((repeat' (first | refine red ?_ | refine redc fun r => ?_ | refine redv fun sv => ?_ | refine redf fun hbi => ?_ | refine redn fun b => ?_ | refine reds ?_ | refine redi (fun hc => ?_) (fun hc => ?_) | fail)) <;> (refine wa_do 7 ?_ <;> (repeat' (first | refine red ?_ | refine redc fun r => ?_ | refine redv fun sv => ?_ | refine redf fun hbi => ?_ | refine redn fun b => ?_ | refine reds ?_ | refine redi (fun hc => ?_) (fun hc => ?_) | fail))) <;> (refine wa_do 8 ?_ <;> (repeat' (first | refine red ?_ | refine redc fun r => ?_ | refine redv fun sv => ?_ | refine redf fun hbi => ?_ | refine redn fun b => ?_ | refine reds ?_ | refine redi (fun hc => ?_) (fun hc => ?_) | fail))) <;> (refine wa_do 10 ?_ <;> (repeat' (first | refine red ?_ | refine redc fun r => ?_ | refine redv fun sv => ?_ | refine redf fun hbi => ?_ | refine redn fun b => ?_ | refine reds ?_ | refine redi (fun hc => ?_) (fun hc => ?_) | fail))))); rotate_right; (focus ((repeat' (first | refine red ?_ | refine redc fun r => ?_ | refine redv fun sv => ?_ | refine redf fun hbi => ?_ | refine redn fun b => ?_ | refine reds ?_ | refine redi (fun hc => ?_) (fun hc => ?_) | fail)) <;> (refine wa_two 8 9 ?_ ?_; rotate_right; (focus ((repeat' (first | refine red ?_ | refine redc fun r => ?_ | refine redv fun sv => ?_ | refine redf fun hbi => ?_ | refine redn fun b => ?_ | refine reds ?_ | refine redi (fun hc => ?_) (fun hc => ?_) | fail)) <;> (refine wa_do 8 ?_ <;> (repeat' (first | refine red ?_ | refine redc fun r => ?_ | refine redv fun sv => ?_ | refine redf fun hbi => ?_ | refine redn fun b => ?_ | refine reds ?_ | refine redi (fun hc => ?_) (fun hc => ?_) | fail))) <;> (refine wa_do 10 ?_ <;> (repeat' (first | refine red ?_ | refine redc fun r => ?_ | refine redv fun sv => ?_ | refine redf fun hbi => ?_ | refine redn fun b => ?_ | refine reds ?_ | refine redi (fun hc => ?_) (fun hc => ?_) | fail))))); rotate_right; (focus ((repeat' (first | refine red ?_ | refine redc fun r => ?_ | refine redv fun sv => ?_ | refine redf fun hbi => ?_ | refine redn fun b => ?_ | refine reds ?_ | refine redi (fun hc => ?_) (fun hc => ?_) | fail)) <;> (refine wa_do 9 ?_ <;> (repeat' (first | refine red ?_ | refine redc fun r => ?_ | refine redv fun sv => ?_ | refine redf fun hbi => ?_ | refine redn fun b => ?_ | refine reds ?_ | refine redi (fun hc => ?_) (fun hc => ?_) | fail))) <;> (refine wa_do 10 ?_ <;> (repeat' (first | refine red ?_ | refine redc fun r => ?_ | refine redv fun sv => ?_ | refine redf fun hbi => ?_ | refine redn fun b => ?_ | refine reds ?_ | refine redi (fun hc => ?_) (fun hc => ?_) | fail))))))))))))) <;> refine wa_end ?_)
      | fail)
    · rw [takeK (by omega)]
      exact wq_next (k + 1, sv) (by simp only; omega) (by simp only; omega) (by kernel_rfl) ent_e
    · rw [List.take_of_length_le (by omega)]
      exact ⟨(vn, vt, sw), rfl, ent_e⟩
instance cloneNode_ctr {Γ : List Atom} {va vb vc : Value} {n : SNode} {by_ : Int} [ha : HasRd (List Int) repList Γ [va] n.2.1] [hb : HasRd (List (List Int)) repList Γ [vb] n.2.2.1] [hc' : HasRd (List Int) repList Γ [vc] n.2.2.2] :
    CtrC Try.prog 101 [.agg #[.int .i64 n.1, va, vb, vc], .int .i64 by_] Γ ((Fits n) ∧ (0 ≤ by_ ∧ by_ ≤ 1048576)) (Value × Value × Value) (fun p : Value × Value × Value => .agg #[.int .i64 n.1, p.1, p.2.1, p.2.2]) (fun p => .ow [p.1] n.2.1 :: .ow [p.2.1] n.2.2.1 :: .ow [p.2.2] (n.2.2.2.map (· + by_)) :: Γ) := ⟨fun s w0 => cloneNode_spec s.1 s.2⟩

theorem l29Copy_spec {w0 : World} {Γ : List Atom} {v : Value} {ps : List SNode} [ha : HasRd (List SNode) repList Γ [v] ps] (hl : ps.length ≤ 1048576) (hf : ∀ n ∈ ps, Fits n) : CJ Try.prog 94 [.agg #[v]] w0 Γ (fun q : Value => .agg #[q]) (fun q => .ow [q] ps :: Γ) := by
  refine cj_lift (R := [.rd [v] ps]) (A := fun q : Value => [.ow [q] ps]) (fun w1 => ?_) (reads_cons ha (inferInstance)) (fun _ => inferInstance)
  simp only [List.cons_append, List.nil_append]
  refine cj_enter Try.func94 Try.ntmps94 ?_
  repeat' (first
    | refine red ?_
    | refine redf fun hbi => ?_
    | refine reds ?_
    | refine redc fun r => ?_
    | refine redv fun sv => ?_
    | refine redn fun b => ?_
    | refine redz fun zs => ?_
    | refine redq (fun hc => ?_) (fun hc => ?_)
    | with_reducible refine wq_blk_o rfl ?_
    | (refine redd fun p cs as_ hcs has hf => ?_; simp only [Un.cells, Un.atoms, Un.fact, List.cons_append, List.nil_append] at hcs has hf; subst hcs has)
    | (refine redi (fun hc => ?_) (fun hc => ?_) <;> try first | (exfalso; omega) | exact absurd rfl hc)
    | ((refine wa_begin 5 [false, false, false, false, false, false, false, false, false, false, false, false] [9, 11] ?_ <;> (first | refine wa_p 0 ?_ | refine wa_p0 0 ?_ | fail) <;> (first | refine wa_f 1 fun hbi => ?_ | refine wa_p 1 ?_ | fail) <;> (first | refine wa_p 2 ?_ | refine wa_p0 2 ?_ | fail) <;> (first | refine wa_f 3 fun hbi => ?_ | refine wa_p 3 ?_ | fail) <;> (first | refine wa_p 4 ?_ | refine wa_p0 4 ?_ | (refine wa_do 4 ?_ <;> (repeat' (first | refine red ?_ | refine redc fun r => ?_ | refine redv fun sv => ?_ | refine redf fun hbi => ?_ | refine redn fun b => ?_ | refine reds ?_ | refine redi (fun hc => ?_) (fun hc => ?_) | fail))) | fail) <;> (first | refine wa_p 5 ?_ | (refine wa_deep 5 fun p cs as_ asb_ hcs has hasb hf => ?_; simp only [Un.cells, Un.atoms, Un.fact, List.cons_append, List.nil_append] at hcs has hasb hf; subst hcs has hasb) | fail) <;> (first | refine wa_f 6 fun hbi => ?_ | refine wa_p 6 ?_ | fail) <;> (refine wa_do 7 ?_ <;> (repeat' (first | refine red ?_ | refine redc fun r => ?_ | refine redv fun sv => ?_ | refine redf fun hbi => ?_ | refine redn fun b => ?_ | refine reds ?_ | refine redi (fun hc => ?_) (fun hc => ?_) | fail))) <;> (refine wa_do 8 ?_ <;> (repeat' (first | refine red ?_ | refine redc fun r => ?_ | refine redv fun sv => ?_ | refine redf fun hbi => ?_ | refine redn fun b => ?_ | refine reds ?_ | refine redi (fun hc => ?_) (fun hc => ?_) | fail))) <;> (refine wa_do 9 ?_ <;> (repeat' (first | refine red ?_ | refine redc fun r => ?_ | refine redv fun sv => ?_ | refine redf fun hbi => ?_ | refine redn fun b => ?_ | refine reds ?_ | refine redi (fun hc => ?_) (fun hc => ?_) | fail))) <;> (first | refine wa_p 10 ?_ | refine wa_p0 10 ?_ | (refine wa_do 10 ?_ <;> (repeat' (first | refine red ?_ | refine redc fun r => ?_ | refine redv fun sv => ?_ | refine redf fun hbi => ?_ | refine redn fun b => ?_ | refine reds ?_ | refine redi (fun hc => ?_) (fun hc => ?_) | fail))) | fail) <;> (refine wa_do 11 ?_ <;> (repeat' (first | refine red ?_ | refine redc fun r => ?_ | refine redv fun sv => ?_ | refine redf fun hbi => ?_ | refine redn fun b => ?_ | refine reds ?_ | refine redi (fun hc => ?_) (fun hc => ?_) | fail)))) <;> refine wa_end ?_)
    | ((refine wa_begin1 5 [false, false, false, false, false, false, false, false, false, false, false, false] [11] ?_ <;> (first | refine wa_p 0 ?_ | refine wa_p0 0 ?_ | fail) <;> (first | refine wa_f 1 fun hbi => ?_ | refine wa_p 1 ?_ | fail) <;> (first | refine wa_p 2 ?_ | refine wa_p0 2 ?_ | fail) <;> (first | refine wa_f 3 fun hbi => ?_ | refine wa_p 3 ?_ | fail) <;> (first | refine wa_p 4 ?_ | refine wa_p0 4 ?_ | (refine wa_do 4 ?_ <;> (repeat' (first | refine red ?_ | refine redc fun r => ?_ | refine redv fun sv => ?_ | refine redf fun hbi => ?_ | refine redn fun b => ?_ | refine reds ?_ | refine redi (fun hc => ?_) (fun hc => ?_) | fail))) | fail) <;> (first | refine wa_p 5 ?_ | (refine wa_deep 5 fun p cs as_ asb_ hcs has hasb hf => ?_; simp only [Un.cells, Un.atoms, Un.fact, List.cons_append, List.nil_append] at hcs has hasb hf; subst hcs has hasb) | fail) <;> (first | refine wa_f 6 fun hbi => ?_ | refine wa_p 6 ?_ | fail) <;> (refine wa_do 7 ?_ <;> (repeat' (first | refine red ?_ | refine redc fun r => ?_ | refine redv fun sv => ?_ | refine redf fun hbi => ?_ | refine redn fun b => ?_ | refine reds ?_ | refine redi (fun hc => ?_) (fun hc => ?_) | fail))) <;> (refine wa_do 8 ?_ <;> (repeat' (first | refine red ?_ | refine redc fun r => ?_ | refine redv fun sv => ?_ | refine redf fun hbi => ?_ | refine redn fun b => ?_ | refine reds ?_ | refine redi (fun hc => ?_) (fun hc => ?_) | fail))) <;> (refine wa_do 9 ?_ <;> (repeat' (first | refine red ?_ | refine redc fun r => ?_ | refine redv fun sv => ?_ | refine redf fun hbi => ?_ | refine redn fun b => ?_ | refine reds ?_ | refine redi (fun hc => ?_) (fun hc => ?_) | fail))) <;> (first | refine wa_p 10 ?_ | refine wa_p0 10 ?_ | (refine wa_do 10 ?_ <;> (repeat' (first | refine red ?_ | refine redc fun r => ?_ | refine redv fun sv => ?_ | refine redf fun hbi => ?_ | refine redn fun b => ?_ | refine reds ?_ | refine redi (fun hc => ?_) (fun hc => ?_) | fail))) | fail) <;> (refine wa_do 11 ?_ <;> (repeat' (first | refine red ?_ | refine redc fun r => ?_ | refine redv fun sv => ?_ | refine redf fun hbi => ?_ | refine redn fun b => ?_ | refine reds ?_ | refine redi (fun hc => ?_) (fun hc => ?_) | fail)))) <;> refine wa_end ?_)
    | fail)
  refine wc_loop_p [4] [6, 7, 8, 9, 10, 13, 14, 15, 16, 17, 18, 19, 20, 21, 22, 23, 11, 12] (ι := Nat × Value) (fun k => [.int .i64 k.1]) (fun k => [.bk b [k.2], .ow [k.2] (ps.take k.1)]) (fun k => k.1 ≤ ps.length) (fun k => ps.length - k.1) (0, .slice none 0 0) [.bk b [.slice none 0 0], .ow [.slice none 0 0] ([] : List SNode)] (by kernel_rfl) (Nat.zero_le _) rfl ?_
  intro ⟨k, sw⟩ u l' hl' hk
  simp only [patch, List.map_cons, List.map_nil, List.set_cons_zero, List.set_cons_succ] at hl'
  subst hl'
  simp only [List.cons_append, List.nil_append] at hk ⊢
  have hn2 := List.length_take (i := k) (l := ps)
  by_cases hlt : k < ps.length
  · have hfk := hf _ (memN hlt)
    repeat' (first
      | refine red ?_
      | refine redf fun hbi => ?_
      | refine reds ?_
      | refine redc fun r => ?_
      | refine redv fun sv => ?_
      | refine redn fun b => ?_
      | refine redz fun zs => ?_
      | refine redq (fun hc => ?_) (fun hc => ?_)
      | with_reducible refine wq_blk_o rfl ?_
      | (refine redd fun p cs as_ hcs has hf => ?_; simp only [Un.cells, Un.atoms, Un.fact, List.cons_append, List.nil_append] at hcs has hf; subst hcs has)
      | (refine redi (fun hc => ?_) (fun hc => ?_) <;> try first | (exfalso; omega) | exact absurd rfl hc)
      | ((refine wa_begin 5 [false, false, false, false, false, false, false, false, false, false, false, false] [9, 11] ?_ <;> (first | refine wa_p 0 ?_ | refine wa_p0 0 ?_ | fail) <;> (first | refine wa_f 1 fun hbi => ?_ | refine wa_p 1 ?_ | fail) <;> (first | refine wa_p 2 ?_ | refine wa_p0 2 ?_ | fail) <;> (first | refine wa_f 3 fun hbi => ?_ | refine wa_p 3 ?_ | fail) <;> (first | refine wa_p 4 ?_ | refine wa_p0 4 ?_ | (refine wa_do 4 ?_ <;> (repeat' (first | refine red ?_ | refine redc fun r => ?_ | refine redv fun sv => ?_ | refine redf fun hbi => ?_ | refine redn fun b => ?_ | refine reds ?_ | refine redi (fun hc => ?_) (fun hc => ?_) | fail))) | fail) <;> (first | refine wa_p 5 ?_ | (refine wa_deep 5 fun p cs as_ asb_ hcs has hasb hf => ?_; simp only [Un.cells, Un.atoms, Un.fact, List.cons_append, List.nil_append] at hcs has hasb hf; subst hcs has hasb) | fail) <;> (first | refine wa_f 6 fun hbi => ?_ | refine wa_p 6 ?_ | fail) <;> (refine wa_do 7 ?_ <;> (repeat' (first | refine red ?_ | refine redc fun r => ?_ | refine redv fun sv => ?_ | refine redf fun hbi => ?_ | refine redn fun b => ?_ | refine reds ?_ | refine redi (fun hc => ?_) (fun hc => ?_) | fail))) <;> (refine wa_do 8 ?_ <;> (repeat' (first | refine red ?_ | refine redc fun r => ?_ | refine redv fun sv => ?_ | refine redf fun hbi => ?_ | refine redn fun b => ?_ | refine reds ?_ | refine redi (fun hc => ?_) (fun hc => ?_) | fail))) <;> (refine wa_do 9 ?_ <;> (repeat' (first | refine red ?_ | refine redc fun r => ?_ | refine redv fun sv => ?_ | refine redf fun hbi => ?_ | refine redn fun b => ?_ | refine reds ?_ | refine redi (fun hc => ?_) (fun hc => ?_) | fail))) <;> (first | refine wa_p 10 ?_ | refine wa_p0 10 ?_ | (refine wa_do 10 ?_ <;> (repeat' (first | refine red ?_ | refine redc fun r => ?_ | refine redv fun sv => ?_ | refine redf fun hbi => ?_ | refine redn fun b => ?_ | refine reds ?_ | refine redi (fun hc => ?_) (fun hc => ?_) | fail))) | fail) <;> (refine wa_do 11 ?_ <;> (repeat' (first | refine red ?_ | refine redc fun r => ?_ | refine redv fun sv => ?_ | refine redf fun hbi => ?_ | refine redn fun b => ?_ | refine reds ?_ | refine redi (fun hc => ?_) (fun hc => ?_) | fail)))) <;> refine wa_end ?_)
      | ((refine wa_begin1 5 [false, false, false, false, false, false, false, false, false, false, false, false] [11] ?_ <;> (first | refine wa_p 0 ?_ | refine wa_p0 0 ?_ | fail) <;> (first | refine wa_f 1 fun hbi => ?_ | refine wa_p 1 ?_ | fail) <;> (first | refine wa_p 2 ?_ | refine wa_p0 2 ?_ | fail) <;> (first | refine wa_f 3 fun hbi => ?_ | refine wa_p 3 ?_ | fail) <;> (first | refine wa_p 4 ?_ | refine wa_p0 4 ?_ | (refine wa_do 4 ?_ <;> (repeat' (first | refine red ?_ | refine redc fun r => ?_ | refine redv fun sv => ?_ | refine redf fun hbi => ?_ | refine redn fun b => ?_ | refine reds ?_ | refine redi (fun hc => ?_) (fun hc => ?_) | fail))) | fail) <;> (first | refine wa_p 5 ?_ | (refine wa_deep 5 fun p cs as_ asb_ hcs has hasb hf => ?_; simp only [Un.cells, Un.atoms, Un.fact, List.cons_append, List.nil_append] at hcs has hasb hf; subst hcs has hasb) | fail) <;> (first | refine wa_f 6 fun hbi => ?_ | refine wa_p 6 ?_ | fail) <;> (refine wa_do 7 ?_ <;> (repeat' (first | refine red ?_ | refine redc fun r => ?_ | refine redv fun sv => ?_ | refine redf fun hbi => ?_ | refine redn fun b => ?_ | refine reds ?_ | refine redi (fun hc => ?_) (fun hc => ?_) | fail))) <;> (refine wa_do 8 ?_ <;> (repeat' (first | refine red ?_ | refine redc fun r => ?_ | refine redv fun sv => ?_ | refine redf fun hbi => ?_ | refine redn fun b => ?_ | refine reds ?_ | refine redi (fun hc => ?_) (fun hc => ?_) | fail))) <;> (refine wa_do 9 ?_ <;> (repeat' (first | refine red ?_ | refine redc fun r => ?_ | refine redv fun sv => ?_ | refine redf fun hbi => ?_ | refine redn fun b => ?_ | refine reds ?_ | refine redi (fun hc => ?_) (fun hc => ?_) | fail))) <;> (first | refine wa_p 10 ?_ | refine wa_p0 10 ?_ | (refine wa_do 10 ?_ <;> (repeat' (first | refine red ?_ | refine redc fun r => ?_ | refine redv fun sv => ?_ | refine redf fun hbi => ?_ | refine redn fun b => ?_ | refine reds ?_ | refine redi (fun hc => ?_) (fun hc => ?_) | fail))) | fail) <;> (refine wa_do 11 ?_ <;> (repeat' (first | refine red ?_ | refine redc fun r => ?_ | refine redv fun sv => ?_ | refine redf fun hbi => ?_ | refine redn fun b => ?_ | refine reds ?_ | refine redi (fun hc => ?_) (fun hc => ?_) | fail)))) <;> refine wa_end ?_)
      | fail)
    all_goals
      rw [show ps.take k ++ [((ps.getD k default).1, (ps.getD k default).2.1, (ps.getD k default).2.2.1, (ps.getD k default).2.2.2)] = ps.take (k + 1) from takeN hlt]
      exact wq_next (k + 1, sv) (by simp only; omega) (by simp only; omega) (by kernel_rfl) ent_e
  · repeat' (first
      | refine red ?_
      | refine redf fun hbi => ?_
      | refine reds ?_
      | refine redc fun r => ?_
      | refine redv fun sv => ?_
      | refine redn fun b => ?_
      | refine redz fun zs => ?_
      | refine redq (fun hc => ?_) (fun hc => ?_)
      | with_reducible refine wq_blk_o rfl ?_
      | (refine redd fun p cs as_ hcs has hf => ?_; simp only [Un.cells, Un.atoms, Un.fact, List.cons_append, List.nil_append] at hcs has hf; subst hcs has)
      | (refine redi (fun hc => ?_) (fun hc => ?_) <;> try first | (exfalso; omega) | exact absurd rfl hc)
      | ((refine wa_begin 5 [false, false, false, false, false, false, false, false, false, false, false, false] [9, 11] ?_ <;> (first | refine wa_p 0 ?_ | refine wa_p0 0 ?_ | fail) <;> (first | refine wa_f 1 fun hbi => ?_ | refine wa_p 1 ?_ | fail) <;> (first | refine wa_p 2 ?_ | refine wa_p0 2 ?_ | fail) <;> (first | refine wa_f 3 fun hbi => ?_ | refine wa_p 3 ?_ | fail) <;> (first | refine wa_p 4 ?_ | refine wa_p0 4 ?_ | (refine wa_do 4 ?_ <;> (repeat' (first | refine red ?_ | refine redc fun r => ?_ | refine redv fun sv => ?_ | refine redf fun hbi => ?_ | refine redn fun b => ?_ | refine reds ?_ | refine redi (fun hc => ?_) (fun hc => ?_) | fail))) | fail) <;> (first | refine wa_p 5 ?_ | (refine wa_deep 5 fun p cs as_ asb_ hcs has hasb hf => ?_; simp only [Un.cells, Un.atoms, Un.fact, List.cons_append, List.nil_append] at hcs has hasb hf; subst hcs has hasb) | fail) <;> (first | refine wa_f 6 fun hbi => ?_ | refine wa_p 6 ?_ | fail) <;> (refine wa_do 7 ?_ <;> (repeat' (first | refine red ?_ | refine redc fun r => ?_ | refine redv fun sv => ?_ | refine redf fun hbi => ?_ | refine redn fun b => ?_ | refine reds ?_ | refine redi (fun hc => ?_) (fun hc => ?_) | fail))) <;> (refine wa_do 8 ?_ <;> (repeat' (first | refine red ?_ | refine redc fun r => ?_ | refine redv fun sv => ?_ | refine redf fun hbi => ?_ | refine redn fun b => ?_ | refine reds ?_ | refine redi (fun hc => ?_) (fun hc => ?_) | fail))) <;> (refine wa_do 9 ?_ <;> (repeat' (first | refine red ?_ | refine redc fun r => ?_ | refine redv fun sv => ?_ | refine redf fun hbi => ?_ | refine redn fun b => ?_ | refine reds ?_ | refine redi (fun hc => ?_) (fun hc => ?_) | fail))) <;> (first | refine wa_p 10 ?_ | refine wa_p0 10 ?_ | (refine wa_do 10 ?_ <;> (repeat' (first | refine red ?_ | refine redc fun r => ?_ | refine redv fun sv => ?_ | refine redf fun hbi => ?_ | refine redn fun b => ?_ | refine reds ?_ | refine redi (fun hc => ?_) (fun hc => ?_) | fail))) | fail) <;> (refine wa_do 11 ?_ <;> (repeat' (first | refine red ?_ | refine redc fun r => ?_ | refine redv fun sv => ?_ | refine redf fun hbi => ?_ | refine redn fun b => ?_ | refine reds ?_ | refine redi (fun hc => ?_) (fun hc => ?_) | fail)))) <;> refine wa_end ?_)
      | ((refine wa_begin1 5 [false, false, false, false, false, false, false, false, false, false, false, false] [11] ?_ <;> (first | refine wa_p 0 ?_ | refine wa_p0 0 ?_ | fail) <;> (first | refine wa_f 1 fun hbi => ?_ | refine wa_p 1 ?_ | fail) <;> (first | refine wa_p 2 ?_ | refine wa_p0 2 ?_ | fail) <;> (first | refine wa_f 3 fun hbi => ?_ | refine wa_p 3 ?_ | fail) <;> (first | refine wa_p 4 ?_ | refine wa_p0 4 ?_ | (refine wa_do 4 ?_ <;> (repeat' (first | refine red ?_ | refine redc fun r => ?_ | refine redv fun sv => ?_ | refine redf fun hbi => ?_ | refine redn fun b => ?_ | refine reds ?_ | refine redi (fun hc => ?_) (fun hc => ?_) | fail))) | fail) <;> (first | refine wa_p 5 ?_ | (refine wa_deep 5 fun p cs as_ asb_ hcs has hasb hf => ?_; simp only [Un.cells, Un.atoms, Un.fact, List.cons_append, List.nil_append] at hcs has hasb hf; subst hcs has hasb) | fail) <;> (first | refine wa_f 6 fun hbi => ?_ | refine wa_p 6 ?_ | fail) <;> (refine wa_do 7 ?_ <;> (repeat' (first | refine red ?_ | refine redc fun r => ?_ | refine redv fun sv => ?_ | refine redf fun hbi => ?_ | refine redn fun b => ?_ | refine reds ?_ | refine redi (fun hc => ?_) (fun hc => ?_) | fail))) <;> (refine wa_do 8 ?_ <;> (repeat' (first | refine red ?_ | refine redc fun r => ?_ | refine redv fun sv => ?_ | refine redf fun hbi => ?_ | refine redn fun b => ?_ | refine reds ?_ | refine redi (fun hc => ?_) (fun hc => ?_) | fail))) <;> (refine wa_do 9 ?_ <;> (repeat' (first | refine red ?_ | refine redc fun r => ?_ | refine redv fun sv => ?_ | refine redf fun hbi => ?_ | refine redn fun b => ?_ | refine reds ?_ | refine redi (fun hc => ?_) (fun hc => ?_) | fail))) <;> (first | refine wa_p 10 ?_ | refine wa_p0 10 ?_ | (refine wa_do 10 ?_ <;> (repeat' (first | refine red ?_ | refine redc fun r => ?_ | refine redv fun sv => ?_ | refine redf fun hbi => ?_ | refine redn fun b => ?_ | refine reds ?_ | refine redi (fun hc => ?_) (fun hc => ?_) | fail))) | fail) <;> (refine wa_do 11 ?_ <;> (repeat' (first | refine red ?_ | refine redc fun r => ?_ | refine redv fun sv => ?_ | refine redf fun hbi => ?_ | refine redn fun b => ?_ | refine reds ?_ | refine redi (fun hc => ?_) (fun hc => ?_) | fail)))) <;> refine wa_end ?_)
      | fail)
    rw [List.take_of_length_le (by omega)]
    exact ⟨_, rfl, ent_e⟩
instance l29Copy_ctr {Γ : List Atom} {v : Value} {ps : List SNode} [ha : HasRd (List SNode) repList Γ [v] ps] :
    CtrC Try.prog 94 [.agg #[v]] Γ ((ps.length ≤ 1048576) ∧ (∀ n ∈ ps, Fits n)) (Value) (fun q : Value => .agg #[q]) (fun q => .ow [q] ps :: Γ) := ⟨fun s w0 => l29Copy_spec s.1 s.2⟩

theorem cloneProof_spec {w0 : World} {Γ : List Atom} {v : Value} {ps : List SNode} [ha : HasRd (List SNode) repList Γ [v] ps] (hl : ps.length ≤ 1048576) (hf : ∀ n ∈ ps, Fits n) : CJ Try.prog 100 [.agg #[v]] w0 Γ (fun q : Value => .agg #[q]) (fun q => .ow [q] ps :: Γ) := by
  refine cj_lift (R := [.rd [v] ps]) (A := fun q : Value => [.ow [q] ps]) (fun w1 => ?_) (reads_cons ha (inferInstance)) (fun _ => inferInstance)
  simp only [List.cons_append, List.nil_append]
  refine cj_enter Try.func100 Try.ntmps100 ?_
  repeat' (first
    | refine red ?_
    | refine redf fun hbi => ?_
    | refine reds ?_
    | refine redc fun r => ?_
    | refine redv fun sv => ?_
    | refine redn fun b => ?_
    | refine redz fun zs => ?_
    | refine redq (fun hc => ?_) (fun hc => ?_)
    | with_reducible refine wq_blk_o rfl ?_
    | (refine redd fun p cs as_ hcs has hf => ?_; simp only [Un.cells, Un.atoms, Un.fact, List.cons_append, List.nil_append] at hcs has hf; subst hcs has)
    | (refine redi (fun hc => ?_) (fun hc => ?_) <;> try first | (exfalso; omega) | exact absurd rfl hc)
    | ((refine wa_begin 5 [false, false, false, false, false, false, false, false] [5, 7] ?_ <;> (first | refine wa_p 0 ?_ | refine wa_p0 0 ?_ | fail) <;> (first | refine wa_f 1 fun hbi => ?_ | refine wa_p 1 ?_ | fail) <;> (first | refine wa_f 2 fun hbi => ?_ | refine wa_p 2 ?_ | fail) <;> (refine wa_do 3 ?_ <;> (repeat' (first | refine red ?_ | refine redc fun r => ?_ | refine redv fun sv => ?_ | refine redf fun hbi => ?_ | refine redn fun b => ?_ | refine reds ?_ | refine redi (fun hc => ?_) (fun hc => ?_) | fail))) <;> (refine wa_do 4 ?_ <;> (repeat' (first | refine red ?_ | refine redc fun r => ?_ | refine redv fun sv => ?_ | refine redf fun hbi => ?_ | refine redn fun b => ?_ | refine reds ?_ | refine redi (fun hc => ?_) (fun hc => ?_) | fail))) <;> (refine wa_do 5 ?_ <;> (repeat' (first | refine red ?_ | refine redc fun r => ?_ | refine redv fun sv => ?_ | refine redf fun hbi => ?_ | refine redn fun b => ?_ | refine reds ?_ | refine redi (fun hc => ?_) (fun hc => ?_) | fail))) <;> (first | refine wa_p 6 ?_ | refine wa_p0 6 ?_ | (refine wa_do 6 ?_ <;> (repeat' (first | refine red ?_ | refine redc fun r => ?_ | refine redv fun sv => ?_ | refine redf fun hbi => ?_ | refine redn fun b => ?_ | refine reds ?_ | refine redi (fun hc => ?_) (fun hc => ?_) | fail))) | fail) <;> (refine wa_do 7 ?_ <;> (repeat' (first | refine red ?_ | refine redc fun r => ?_ | refine redv fun sv => ?_ | refine redf fun hbi => ?_ | refine redn fun b => ?_ | refine reds ?_ | refine redi (fun hc => ?_) (fun hc => ?_) | fail)))) <;> refine wa_end ?_)
    | ((refine wa_begin1 5 [false, false, false, false, false, false, false, false] [7] ?_ <;> (first | refine wa_p 0 ?_ | refine wa_p0 0 ?_ | fail) <;> (first | refine wa_f 1 fun hbi => ?_ | refine wa_p 1 ?_ | fail) <;> (first | refine wa_f 2 fun hbi => ?_ | refine wa_p 2 ?_ | fail) <;> (refine wa_do 3 ?_ <;> (repeat' (first | refine red ?_ | refine redc fun r => ?_ | refine redv fun sv => ?_ | refine redf fun hbi => ?_ | refine redn fun b => ?_ | refine reds ?_ | refine redi (fun hc => ?_) (fun hc => ?_) | fail))) <;> (refine wa_do 4 ?_ <;> (repeat' (first | refine red ?_ | refine redc fun r => ?_ | refine redv fun sv => ?_ | refine redf fun hbi => ?_ | refine redn fun b => ?_ | refine reds ?_ | refine redi (fun hc => ?_) (fun hc => ?_) | fail))) <;> (refine wa_do 5 ?_ <;> (repeat' (first | refine red ?_ | refine redc fun r => ?_ | refine redv fun sv => ?_ | refine redf fun hbi => ?_ | refine redn fun b => ?_ | refine reds ?_ | refine redi (fun hc => ?_) (fun hc => ?_) | fail))) <;> (first | refine wa_p 6 ?_ | refine wa_p0 6 ?_ | (refine wa_do 6 ?_ <;> (repeat' (first | refine red ?_ | refine redc fun r => ?_ | refine redv fun sv => ?_ | refine redf fun hbi => ?_ | refine redn fun b => ?_ | refine reds ?_ | refine redi (fun hc => ?_) (fun hc => ?_) | fail))) | fail) <;> (refine wa_do 7 ?_ <;> (repeat' (first | refine red ?_ | refine redc fun r => ?_ | refine redv fun sv => ?_ | refine redf fun hbi => ?_ | refine redn fun b => ?_ | refine reds ?_ | refine redi (fun hc => ?_) (fun hc => ?_) | fail)))) <;> refine wa_end ?_)
    | fail)
  refine wc_loop_p [9] [10, 11, 12, 5, 13, 14, 15, 16, 17, 18, 19, 20] (ι := Nat × Value) (fun k => [.int .i64 k.1]) (fun k => [.bk b [k.2], .ow [k.2] (ps.take k.1)]) (fun k => k.1 ≤ ps.length) (fun k => ps.length - k.1) (0, .slice none 0 0) [.bk b [.slice none 0 0], .ow [.slice none 0 0] ([] : List SNode)] (by kernel_rfl) (Nat.zero_le _) rfl ?_
  intro ⟨k, sw⟩ u l' hl' hk
  simp only [patch, List.map_cons, List.map_nil, List.set_cons_zero, List.set_cons_succ] at hl'
  subst hl'
  simp only [List.cons_append, List.nil_append] at hk ⊢
  have hn2 := List.length_take (i := k) (l := ps)
  by_cases hlt : k < ps.length
  · have hfk := hf _ (memN hlt)
    obtain ⟨g1, g2, g3, g4, g5⟩ := hfk
    repeat' (first
      | refine red ?_
      | refine redf fun hbi => ?_
      | refine reds ?_
      | refine redc fun r => ?_
      | refine redv fun sv => ?_
      | refine redn fun b => ?_
      | refine redz fun zs => ?_
      | refine redq (fun hc => ?_) (fun hc => ?_)
      | with_reducible refine wq_blk_o rfl ?_
      | (refine redd fun p cs as_ hcs has hf => ?_; simp only [Un.cells, Un.atoms, Un.fact, List.cons_append, List.nil_append] at hcs has hf; subst hcs has)
      | (refine redi (fun hc => ?_) (fun hc => ?_) <;> try first | (exfalso; omega) | exact absurd rfl hc)
      | ((refine wa_begin 5 [false, false, false, false, false, false, false, false] [5, 7] ?_ <;> (first | refine wa_p 0 ?_ | refine wa_p0 0 ?_ | fail) <;> (first | refine wa_f 1 fun hbi => ?_ | refine wa_p 1 ?_ | fail) <;> (first | refine wa_f 2 fun hbi => ?_ | refine wa_p 2 ?_ | fail) <;> (refine wa_do 3 ?_ <;> (repeat' (first | refine red ?_ | refine redc fun r => ?_ | refine redv fun sv => ?_ | refine redf fun hbi => ?_ | refine redn fun b => ?_ | refine reds ?_ | refine redi (fun hc => ?_) (fun hc => ?_) | fail))) <;> (refine wa_do 4 ?_ <;> (repeat' (first | refine red ?_ | refine redc fun r => ?_ | refine redv fun sv => ?_ | refine redf fun hbi => ?_ | refine redn fun b => ?_ | refine reds ?_ | refine redi (fun hc => ?_) (fun hc => ?_) | fail))) <;> (refine wa_do 5 ?_ <;> (repeat' (first | refine red ?_ | refine redc fun r => ?_ | refine redv fun sv => ?_ | refine redf fun hbi => ?_ | refine redn fun b => ?_ | refine reds ?_ | refine redi (fun hc => ?_) (fun hc => ?_) | fail))) <;> (first | refine wa_p 6 ?_ | refine wa_p0 6 ?_ | (refine wa_do 6 ?_ <;> (repeat' (first | refine red ?_ | refine redc fun r => ?_ | refine redv fun sv => ?_ | refine redf fun hbi => ?_ | refine redn fun b => ?_ | refine reds ?_ | refine redi (fun hc => ?_) (fun hc => ?_) | fail))) | fail) <;> (refine wa_do 7 ?_ <;> (repeat' (first | refine red ?_ | refine redc fun r => ?_ | refine redv fun sv => ?_ | refine redf fun hbi => ?_ | refine redn fun b => ?_ | refine reds ?_ | refine redi (fun hc => ?_) (fun hc => ?_) | fail)))) <;> refine wa_end ?_)
      | ((refine wa_begin1 5 [false, false, false, false, false, false, false, false] [7] ?_ <;> (first | refine wa_p 0 ?_ | refine wa_p0 0 ?_ | fail) <;> (first | refine wa_f 1 fun hbi => ?_ | refine wa_p 1 ?_ | fail) <;> (first | refine wa_f 2 fun hbi => ?_ | refine wa_p 2 ?_ | fail) <;> (refine wa_do 3 ?_ <;> (repeat' (first | refine red ?_ | refine redc fun r => ?_ | refine redv fun sv => ?_ | refine redf fun hbi => ?_ | refine redn fun b => ?_ | refine reds ?_ | refine redi (fun hc => ?_) (fun hc => ?_) | fail))) <;> (refine wa_do 4 ?_ <;> (repeat' (first | refine red ?_ | refine redc fun r => ?_ | refine redv fun sv => ?_ | refine redf fun hbi => ?_ | refine redn fun b => ?_ | refine reds ?_ | refine redi (fun hc => ?_) (fun hc => ?_) | fail))) <;> (refine wa_do 5 ?_ <;> (repeat' (first | refine red ?_ | refine redc fun r => ?_ | refine redv fun sv => ?_ | refine redf fun hbi => ?_ | refine redn fun b => ?_ | refine reds ?_ | refine redi (fun hc => ?_) (fun hc => ?_) | fail))) <;> (first | refine wa_p 6 ?_ | refine wa_p0 6 ?_ | (refine wa_do 6 ?_ <;> (repeat' (first | refine red ?_ | refine redc fun r => ?_ | refine redv fun sv => ?_ | refine redf fun hbi => ?_ | refine redn fun b => ?_ | refine reds ?_ | refine redi (fun hc => ?_) (fun hc => ?_) | fail))) | fail) <;> (refine wa_do 7 ?_ <;> (repeat' (first | refine red ?_ | refine redc fun r => ?_ | refine redv fun sv => ?_ | refine redf fun hbi => ?_ | refine redn fun b => ?_ | refine reds ?_ | refine redi (fun hc => ?_) (fun hc => ?_) | fail)))) <;> refine wa_end ?_)
      | fail)
    all_goals
      rw [show ps.take k ++ [((ps.getD k default).1, (ps.getD k default).2.1, (ps.getD k default).2.2.1, (ps.getD k default).2.2.2.map (· + 0))] = ps.take (k + 1) by
        rw [map0]; exact takeN hlt]
      exact wq_next (k + 1, sv) (by simp only; omega) (by simp only; omega) (by kernel_rfl) ent_e
  · repeat' (first
      | refine red ?_
      | refine redf fun hbi => ?_
      | refine reds ?_
      | refine redc fun r => ?_
      | refine redv fun sv => ?_
      | refine redn fun b => ?_
      | refine redz fun zs => ?_
      | refine redq (fun hc => ?_) (fun hc => ?_)
      | with_reducible refine wq_blk_o rfl ?_
      | (refine redd fun p cs as_ hcs has hf => ?_; simp only [Un.cells, Un.atoms, Un.fact, List.cons_append, List.nil_append] at hcs has hf; subst hcs has)
      | (refine redi (fun hc => ?_) (fun hc => ?_) <;> try first | (exfalso; omega) | exact absurd rfl hc)
      | ((refine wa_begin 5 [false, false, false, false, false, false, false, false] [5, 7] ?_ <;> (first | refine wa_p 0 ?_ | refine wa_p0 0 ?_ | fail) <;> (first | refine wa_f 1 fun hbi => ?_ | refine wa_p 1 ?_ | fail) <;> (first | refine wa_f 2 fun hbi => ?_ | refine wa_p 2 ?_ | fail) <;> (refine wa_do 3 ?_ <;> (repeat' (first | refine red ?_ | refine redc fun r => ?_ | refine redv fun sv => ?_ | refine redf fun hbi => ?_ | refine redn fun b => ?_ | refine reds ?_ | refine redi (fun hc => ?_) (fun hc => ?_) | fail))) <;> (refine wa_do 4 ?_ <;> (repeat' (first | refine red ?_ | refine redc fun r => ?_ | refine redv fun sv => ?_ | refine redf fun hbi => ?_ | refine redn fun b => ?_ | refine reds ?_ | refine redi (fun hc => ?_) (fun hc => ?_) | fail))) <;> (refine wa_do 5 ?_ <;> (repeat' (first | refine red ?_ | refine redc fun r => ?_ | refine redv fun sv => ?_ | refine redf fun hbi => ?_ | refine redn fun b => ?_ | refine reds ?_ | refine redi (fun hc => ?_) (fun hc => ?_) | fail))) <;> (first | refine wa_p 6 ?_ | refine wa_p0 6 ?_ | (refine wa_do 6 ?_ <;> (repeat' (first | refine red ?_ | refine redc fun r => ?_ | refine redv fun sv => ?_ | refine redf fun hbi => ?_ | refine redn fun b => ?_ | refine reds ?_ | refine redi (fun hc => ?_) (fun hc => ?_) | fail))) | fail) <;> (refine wa_do 7 ?_ <;> (repeat' (first | refine red ?_ | refine redc fun r => ?_ | refine redv fun sv => ?_ | refine redf fun hbi => ?_ | refine redn fun b => ?_ | refine reds ?_ | refine redi (fun hc => ?_) (fun hc => ?_) | fail)))) <;> refine wa_end ?_)
      | ((refine wa_begin1 5 [false, false, false, false, false, false, false, false] [7] ?_ <;> (first | refine wa_p 0 ?_ | refine wa_p0 0 ?_ | fail) <;> (first | refine wa_f 1 fun hbi => ?_ | refine wa_p 1 ?_ | fail) <;> (first | refine wa_f 2 fun hbi => ?_ | refine wa_p 2 ?_ | fail) <;> (refine wa_do 3 ?_ <;> (repeat' (first | refine red ?_ | refine redc fun r => ?_ | refine redv fun sv => ?_ | refine redf fun hbi => ?_ | refine redn fun b => ?_ | refine reds ?_ | refine redi (fun hc => ?_) (fun hc => ?_) | fail))) <;> (refine wa_do 4 ?_ <;> (repeat' (first | refine red ?_ | refine redc fun r => ?_ | refine redv fun sv => ?_ | refine redf fun hbi => ?_ | refine redn fun b => ?_ | refine reds ?_ | refine redi (fun hc => ?_) (fun hc => ?_) | fail))) <;> (refine wa_do 5 ?_ <;> (repeat' (first | refine red ?_ | refine redc fun r => ?_ | refine redv fun sv => ?_ | refine redf fun hbi => ?_ | refine redn fun b => ?_ | refine reds ?_ | refine redi (fun hc => ?_) (fun hc => ?_) | fail))) <;> (first | refine wa_p 6 ?_ | refine wa_p0 6 ?_ | (refine wa_do 6 ?_ <;> (repeat' (first | refine red ?_ | refine redc fun r => ?_ | refine redv fun sv => ?_ | refine redf fun hbi => ?_ | refine redn fun b => ?_ | refine reds ?_ | refine redi (fun hc => ?_) (fun hc => ?_) | fail))) | fail) <;> (refine wa_do 7 ?_ <;> (repeat' (first | refine red ?_ | refine redc fun r => ?_ | refine redv fun sv => ?_ | refine redf fun hbi => ?_ | refine redn fun b => ?_ | refine reds ?_ | refine redi (fun hc => ?_) (fun hc => ?_) | fail)))) <;> refine wa_end ?_)
      | fail)
    rw [List.take_of_length_le (by omega)]
    exact ⟨_, rfl, ent_e⟩
instance cloneProof_ctr {Γ : List Atom} {v : Value} {ps : List SNode} [ha : HasRd (List SNode) repList Γ [v] ps] :
    CtrC Try.prog 100 [.agg #[v]] Γ ((ps.length ≤ 1048576) ∧ (∀ n ∈ ps, Fits n)) (Value) (fun q : Value => .agg #[q]) (fun q => .ow [q] ps :: Γ) := ⟨fun s w0 => cloneProof_spec s.1 s.2⟩

end Go.Proofs.Ytjijabgiochefaa
