/- Nodes and proofs that are well formed. -/
import Derived.Test.YtcaljjkmaffedaaDoorEngQ
import Derived.Test.YtcaljjkmaffedaaDoorNode
namespace Go.Proofs.YtcaljjkmaffedaaDoor
open Go Go.Eng
set_option linter.unusedVariables false
set_option linter.unusedSimpArgs false

def BadKid (m : Int) (ks : List Int) (n : Nat) : Prop := ∃ i, i < n ∧ (ks.getD i 0 < 0 ∨ m ≤ ks.getD i 0)
instance {m : Int} {ks : List Int} {n : Nat} : Decidable (BadKid m ks n) := decidable_of_iff (∃ i, ∃ _ : i < n, (ks.getD i 0 < 0 ∨ m ≤ ks.getD i 0)) ⟨fun ⟨i, h, h'⟩ => ⟨i, h, h'⟩, fun ⟨i, h, h'⟩ => ⟨i, h, h'⟩⟩
theorem bad_next {m : Int} {ks : List Int} {n : Nat} (h : ¬ BadKid m ks n) (h2 : ¬ (ks.getD n 0 < 0 ∨ m ≤ ks.getD n 0)) : ¬ BadKid m ks (n + 1) := by
  rintro ⟨i, hi, h'⟩
  by_cases he : i = n
  · rw [he] at h'; exact h2 h'
  · exact h ⟨i, by omega, h'⟩
def BadTerm (ts : List (List Int)) (n : Nat) : Prop := ∃ i, i < n ∧ ¬ (1 ≤ (ts.getD i default).length ∧ (ts.getD i default).length ≤ 60)
instance {ts : List (List Int)} {n : Nat} : Decidable (BadTerm ts n) := decidable_of_iff (∃ i, ∃ _ : i < n, ¬ (1 ≤ (ts.getD i default).length ∧ (ts.getD i default).length ≤ 60)) ⟨fun ⟨i, h, h'⟩ => ⟨i, h, h'⟩, fun ⟨i, h, h'⟩ => ⟨i, h, h'⟩⟩
theorem badt_next {ts : List (List Int)} {n : Nat} (h : ¬ BadTerm ts n) (h2 : 1 ≤ (ts.getD n default).length ∧ (ts.getD n default).length ≤ 60) : ¬ BadTerm ts (n + 1) := by
  rintro ⟨i, hi, h'⟩
  by_cases he : i = n
  · rw [he] at h'; exact h' h2
  · exact h ⟨i, by omega, h'⟩
theorem NodeOk1_spec {w0 : World} {Γ Δ : List Atom} {b : Nat} {k m : Int} [hb : PullBk Γ b [.int .i64 m] Δ] : CJ Tryd.prog 84 [.int .i64 k, .pointer (some ⟨b, 0, none⟩)] w0 Γ (fun _ : Unit => .bool (decide (k < 0 ∨ m ≤ k))) (fun _ => .bk b [.int .i64 m] :: Δ) := by
  refine cj_perm hb.perm ?_
  refine cj_enter Tryd.func84 Tryd.ntmps84 ?_
  repeat' (first | refine red ?_ | refine redf fun hbi => ?_ | refine reds ?_ | refine redc fun r => ?_ | refine redp (fun r => ?_) (fun r => ?_) | refine redv fun sv => ?_ | refine redn fun b => ?_ | refine redz fun zs => ?_ | refine redq (fun hc => ?_) (fun hc => ?_) | with_reducible refine wq_blk_o rfl ?_ | (refine redi (fun hc => ?_) (fun hc => ?_) <;> try first | (exfalso; omega) | exact absurd rfl hc) | fail)
  · exact ⟨(), ret_bool (decide_eq_true (.inl hc)), ent_e⟩
  · exact ⟨(), ret_bool (decide_eq_decide.2 ⟨fun h => by omega, fun h => .inr h⟩), ent_e⟩
instance NodeOk1_ctr {Γ Δ : List Atom} {b : Nat} {k m : Int} [hb : PullBk Γ b [.int .i64 m] Δ] :
    CtrC Tryd.prog 84 [.int .i64 k, .pointer (some ⟨b, 0, none⟩)] Γ (True) (Unit) (fun _ : Unit => .bool (decide (k < 0 ∨ m ≤ k))) (fun _ => .bk b [.int .i64 m] :: Δ) := ⟨fun s w0 => NodeOk1_spec⟩

theorem IndexFuncK_spec {w0 : World} {Γ Δ : List Atom} {b : Nat} {m : Int} {v : Value} {ks : List Int} [hb : PullBk Γ b [.int .i64 m] Δ] [h : HasRd (List Int) repList Δ [v] ks] : CJ Tryd.prog 107 [v, .func (.func 84) #[] #[.pointer (some ⟨b, 0, none⟩)]] w0 Γ (fun q : { n : Int // 0 ≤ n ↔ BadKid m ks ks.length } => .int .i64 q.1) (fun _ => .bk b [.int .i64 m] :: Δ) := by
  refine cj_perm hb.perm ?_
  refine cj_len v fun hlx => ?_
  refine cj_enter Tryd.func107 Tryd.ntmps107 ?_
  repeat' (first | refine red ?_ | refine redf fun hbi => ?_ | refine reds ?_ | refine redc fun r => ?_ | refine redp (fun r => ?_) (fun r => ?_) | refine redv fun sv => ?_ | refine redn fun b => ?_ | refine redz fun zs => ?_ | refine redq (fun hc => ?_) (fun hc => ?_) | with_reducible refine wq_blk_o rfl ?_ | (refine redi (fun hc => ?_) (fun hc => ?_) <;> try first | (exfalso; omega) | exact absurd rfl hc) | fail)
  refine wc_loop_c [8] [9, 10, 5, 11, 12, 13, 14, 15, 16, 17, 4, 18] (ι := Nat) (fun k => [.int .i64 k]) (fun k => k ≤ ks.length ∧ ¬ BadKid m ks k) (fun k => ks.length - k) 0 (by kernel_rfl) ⟨Nat.zero_le _, fun ⟨i, hi, _⟩ => by omega⟩ ?_
  intro k u l' hl' ⟨hk, hkk⟩
  simp only [patch, List.map_cons, List.map_nil, List.set_cons_zero, List.set_cons_succ] at hl'
  subst hl'
  repeat' (first | refine red ?_ | refine redf fun hbi => ?_ | refine reds ?_ | refine redc fun r => ?_ | refine redp (fun r => ?_) (fun r => ?_) | refine redv fun sv => ?_ | refine redn fun b => ?_ | refine redz fun zs => ?_ | refine redq (fun hc => ?_) (fun hc => ?_) | with_reducible refine wq_blk_o rfl ?_ | (refine redi (fun hc => ?_) (fun hc => ?_) <;> try first | (exfalso; omega) | exact absurd rfl hc) | fail)
  · exact ⟨⟨(k : Int), ⟨fun _ => ⟨k, by omega, hc⟩, fun _ => by omega⟩⟩, rfl, ent_e⟩
  · exact wq_next (k + 1) ⟨by omega, bad_next hkk hc⟩ (by omega) (by kernel_rfl) ent_e
  · exact ⟨⟨-1, ⟨fun h => by omega, fun h => absurd (by rw [show ks.length = k by omega] at h; exact h) hkk⟩⟩, rfl, ent_e⟩
instance IndexFuncK_ctr {Γ Δ : List Atom} {b : Nat} {m : Int} {v : Value} {ks : List Int} [hb : PullBk Γ b [.int .i64 m] Δ] [h : HasRd (List Int) repList Δ [v] ks] :
    CtrC Tryd.prog 107 [v, .func (.func 84) #[] #[.pointer (some ⟨b, 0, none⟩)]] Γ (True) ({ n : Int // 0 ≤ n ↔ BadKid m ks ks.length }) (fun q : { n : Int // 0 ≤ n ↔ BadKid m ks ks.length } => .int .i64 q.1) (fun _ => .bk b [.int .i64 m] :: Δ) := ⟨fun s w0 => IndexFuncK_spec⟩

theorem ContainsFuncK_spec {w0 : World} {Γ Δ : List Atom} {b : Nat} {m : Int} {v : Value} {ks : List Int} [hb : PullBk Γ b [.int .i64 m] Δ] [h : HasRd (List Int) repList Δ [v] ks] : CJ Tryd.prog 83 [v, .func (.func 84) #[] #[.pointer (some ⟨b, 0, none⟩)]] w0 Γ (fun _ : Unit => .bool (decide (BadKid m ks ks.length))) (fun _ => .bk b [.int .i64 m] :: Δ) := by
  refine cj_perm hb.perm ?_
  refine cj_enter Tryd.func83 Tryd.ntmps83 ?_
  repeat' (first | refine red ?_ | refine redf fun hbi => ?_ | refine reds ?_ | refine redc fun r => ?_ | refine redp (fun r => ?_) (fun r => ?_) | refine redv fun sv => ?_ | refine redn fun b => ?_ | refine redz fun zs => ?_ | refine redq (fun hc => ?_) (fun hc => ?_) | with_reducible refine wq_blk_o rfl ?_ | (refine redi (fun hc => ?_) (fun hc => ?_) <;> try first | (exfalso; omega) | exact absurd rfl hc) | fail)
  exact ⟨(), ret_bool (decide_eq_decide.2 r.2.symm), ent_e⟩
instance ContainsFuncK_ctr {Γ Δ : List Atom} {b : Nat} {m : Int} {v : Value} {ks : List Int} [hb : PullBk Γ b [.int .i64 m] Δ] [h : HasRd (List Int) repList Δ [v] ks] :
    CtrC Tryd.prog 83 [v, .func (.func 84) #[] #[.pointer (some ⟨b, 0, none⟩)]] Γ (True) (Unit) (fun _ : Unit => .bool (decide (BadKid m ks ks.length))) (fun _ => .bk b [.int .i64 m] :: Δ) := ⟨fun s w0 => ContainsFuncK_spec⟩

def NodeP (n : SNode) (m : Int) : Prop := (0 ≤ m ∧ 1 ≤ n.1 ∧ n.1 ≤ 12) ∧ (n.2.1.length ≤ 200 ∧ n.2.2.1.length ≤ 61 ∧ n.2.2.2.length ≤ 64) ∧ ¬ BadTerm n.2.2.1 n.2.2.1.length ∧ ¬ BadKid m n.2.2.2 n.2.2.2.length
instance {n : SNode} {m : Int} : Decidable (NodeP n m) := by unfold NodeP; infer_instance
def nodeOk (n : SNode) (m : Int) : Bool := decide (NodeP n m)
instance {n : SNode} {m : Int} : BoolP (nodeOk n m) (NodeP n m) := ⟨decide_eq_true_iff⟩
instance {n : SNode} {m : Int} : BoolN (nodeOk n m) (¬ NodeP n m) := ⟨decide_eq_false_iff_not⟩
theorem impl_NodeOk_spec {w0 : World} {Γ : List Atom} {va vb vc : Value} {n : SNode} {m : Int} [ha : HasRd (List Int) repList Γ [va] n.2.1] [hb : HasRd (List (List Int)) repList Γ [vb] n.2.2.1] [hc' : HasRd (List Int) repList Γ [vc] n.2.2.2] : CJ Tryd.prog 56 [.agg #[.int .i64 n.1, va, vb, vc], .int .i64 m] w0 Γ (fun _ : Unit => .bool (nodeOk n m)) (fun _ => Γ) := by
  refine cj_lift (R := [.rd [va] n.2.1, .rd [vb] n.2.2.1, .rd [vc] n.2.2.2]) (A := fun _ => []) (fun w1 => ?_) (reads_cons ha (reads_cons hb (reads_cons hc' (inferInstance)))) (fun _ => inferInstance)
  simp only [List.cons_append, List.nil_append]
  refine cj_len va fun hla => ?_
  refine cj_len vb fun hlb => ?_
  refine cj_len vc fun hlc => ?_
  refine cj_enter Tryd.func56 Tryd.ntmps56 ?_
  repeat' (first | refine red ?_ | refine redf fun hbi => ?_ | refine reds ?_ | refine redc fun r => ?_ | refine redp (fun r => ?_) (fun r => ?_) | refine redv fun sv => ?_ | refine redn fun b => ?_ | refine redz fun zs => ?_ | refine redq (fun hc => ?_) (fun hc => ?_) | with_reducible refine wq_blk_o rfl ?_ | (refine redd fun p cs as_ hcs has hf => ?_; simp only [Un.cells, Un.atoms, Un.fact, List.cons_append, List.nil_append] at hcs has hf; subst hcs has) | (refine redi (fun hc => ?_) (fun hc => ?_) <;> try first | (exfalso; omega) | exact absurd rfl hc) | fail)
  all_goals first
    | exact ⟨(), ret_bool (decide_eq_false fun h => by have h1 := h.1; have h2 := h.2.1; omega), ent_e⟩
    | skip
  refine wc_loop_c [40] [41, 42, 43, 6, 44, 45, 46, 4, 47] (ι := Nat) (fun k => [.int .i64 k]) (fun k => k ≤ n.2.2.1.length ∧ ¬ BadTerm n.2.2.1 k) (fun k => n.2.2.1.length - k) 0 (by kernel_rfl) ⟨Nat.zero_le _, fun ⟨i, hi, _⟩ => by omega⟩ ?_
  intro k u l' hl' ⟨hk, hkk⟩
  simp only [patch, List.map_cons, List.map_nil, List.set_cons_zero, List.set_cons_succ] at hl'
  subst hl'
  repeat' (first | refine red ?_ | refine redf fun hbi => ?_ | refine reds ?_ | refine redc fun r => ?_ | refine redp (fun r => ?_) (fun r => ?_) | refine redv fun sv => ?_ | refine redn fun b => ?_ | refine redz fun zs => ?_ | refine redq (fun hc => ?_) (fun hc => ?_) | with_reducible refine wq_blk_o rfl ?_ | (refine redd fun p cs as_ hcs has hf => ?_; simp only [Un.cells, Un.atoms, Un.fact, List.cons_append, List.nil_append] at hcs has hf; subst hcs has) | (refine redi (fun hc => ?_) (fun hc => ?_) <;> try first | (exfalso; omega) | exact absurd rfl hc) | fail)
  · exact ⟨(), ret_bool (decide_eq_false fun h => h.2.2.1 ⟨k, by omega, hc⟩), ent_e⟩
  · exact wq_next (k + 1) ⟨by omega, badt_next hkk hc⟩ (by omega) (by kernel_rfl) ent_e
  · have hkl : k = n.2.2.1.length := by omega
    subst hkl
    refine ⟨(), ret_bool ?_, ent_e⟩
    unfold nodeOk
    rw [← decide_not]
    exact decide_eq_decide.2 ⟨fun h => h.2.2.2, fun h => ⟨by omega, by omega, hkk, h⟩⟩
instance impl_NodeOk_ctr {Γ : List Atom} {va vb vc : Value} {n : SNode} {m : Int} [ha : HasRd (List Int) repList Γ [va] n.2.1] [hb : HasRd (List (List Int)) repList Γ [vb] n.2.2.1] [hc' : HasRd (List Int) repList Γ [vc] n.2.2.2] :
    CtrC Tryd.prog 56 [.agg #[.int .i64 n.1, va, vb, vc], .int .i64 m] Γ (True) (Unit) (fun _ : Unit => .bool (nodeOk n m)) (fun _ => Γ) := ⟨fun s w0 => impl_NodeOk_spec⟩

theorem spec_NodeOk_spec {w0 : World} {Γ : List Atom} {va vb vc : Value} {n : SNode} {m : Int} [ha : HasRd (List Int) repList Γ [va] n.2.1] [hb : HasRd (List (List Int)) repList Γ [vb] n.2.2.1] [hc' : HasRd (List Int) repList Γ [vc] n.2.2.2] (hm : m ≤ 1048576) : CJ Tryd.prog 47 [.agg #[.int .i64 n.1, va, vb, vc], .int .i64 m] w0 Γ (fun _ : Unit => .bool (nodeOk n m)) (fun _ => Γ) := by
  refine cj_lift (R := [.rd [va] n.2.1, .rd [vb] n.2.2.1, .rd [vc] n.2.2.2]) (A := fun _ => []) (fun w1 => ?_) (reads_cons ha (reads_cons hb (reads_cons hc' (inferInstance)))) (fun _ => inferInstance)
  simp only [List.cons_append, List.nil_append]
  refine cj_len va fun hla => ?_
  refine cj_len vb fun hlb => ?_
  refine cj_len vc fun hlc => ?_
  refine cj_enter Tryd.func47 Tryd.ntmps47 ?_
  repeat' (first | refine red ?_ | refine redf fun hbi => ?_ | refine reds ?_ | refine redc fun r => ?_ | refine redp (fun r => ?_) (fun r => ?_) | refine redv fun sv => ?_ | refine redn fun b => ?_ | refine redz fun zs => ?_ | refine redq (fun hc => ?_) (fun hc => ?_) | with_reducible refine wq_blk_o rfl ?_ | (refine redd fun p cs as_ hcs has hf => ?_; simp only [Un.cells, Un.atoms, Un.fact, List.cons_append, List.nil_append] at hcs has hf; subst hcs has) | (refine redi (fun hc => ?_) (fun hc => ?_) <;> try first | (exfalso; omega) | exact absurd rfl hc) | fail)
  all_goals first
    | exact ⟨(), ret_bool (decide_eq_false fun h => by have h1 := h.1; have h2 := h.2.1; omega), ent_e⟩
    | skip
  refine wc_loop_c [5] [33, 34, 35, 36, 37, 40, 41, 42, 43, 44, 45, 46, 4, 38, 39] (ι := Nat) (fun k => [.int .i64 k]) (fun k => k ≤ n.2.2.1.length ∧ ¬ BadTerm n.2.2.1 k) (fun k => n.2.2.1.length - k) 0 (by kernel_rfl) ⟨Nat.zero_le _, fun ⟨i, hi, _⟩ => by omega⟩ ?_
  intro k u l' hl' ⟨hk, hkk⟩
  simp only [patch, List.map_cons, List.map_nil, List.set_cons_zero, List.set_cons_succ] at hl'
  subst hl'
  repeat' (first | refine red ?_ | refine redf fun hbi => ?_ | refine reds ?_ | refine redc fun r => ?_ | refine redp (fun r => ?_) (fun r => ?_) | refine redv fun sv => ?_ | refine redn fun b => ?_ | refine redz fun zs => ?_ | refine redq (fun hc => ?_) (fun hc => ?_) | with_reducible refine wq_blk_o rfl ?_ | (refine redd fun p cs as_ hcs has hf => ?_; simp only [Un.cells, Un.atoms, Un.fact, List.cons_append, List.nil_append] at hcs has hf; subst hcs has) | (refine redi (fun hc => ?_) (fun hc => ?_) <;> try first | (exfalso; omega) | exact absurd rfl hc) | fail)
  · exact ⟨(), ret_bool (decide_eq_false fun h => h.2.2.1 ⟨k, by omega, hc⟩), ent_e⟩
  · exact wq_next (k + 1) ⟨by omega, badt_next hkk hc⟩ (by omega) (by kernel_rfl) ent_e
  have hkl : k = n.2.2.1.length := by omega
  subst hkl
  refine wc_loop_c [6] [47, 48, 49, 50, 51, 54, 55, 56, 57, 58, 59, 60, 61, 62, 4, 52, 53] (ι := Nat) (fun k => [.int .i64 k]) (fun k => k ≤ n.2.2.2.length ∧ ¬ BadKid m n.2.2.2 k) (fun k => n.2.2.2.length - k) 0 (by kernel_rfl) ⟨Nat.zero_le _, fun ⟨i, hi, _⟩ => by omega⟩ ?_
  intro k u l' hl' ⟨hk, hkk2⟩
  simp only [patch, List.map_cons, List.map_nil, List.set_cons_zero, List.set_cons_succ] at hl'
  subst hl'
  repeat' (first | refine red ?_ | refine redf fun hbi => ?_ | refine reds ?_ | refine redc fun r => ?_ | refine redp (fun r => ?_) (fun r => ?_) | refine redv fun sv => ?_ | refine redn fun b => ?_ | refine redz fun zs => ?_ | refine redq (fun hc => ?_) (fun hc => ?_) | with_reducible refine wq_blk_o rfl ?_ | (refine redd fun p cs as_ hcs has hf => ?_; simp only [Un.cells, Un.atoms, Un.fact, List.cons_append, List.nil_append] at hcs has hf; subst hcs has) | (refine redi (fun hc => ?_) (fun hc => ?_) <;> try first | (exfalso; omega) | exact absurd rfl hc) | fail)
  · exact ⟨(), ret_bool (decide_eq_false fun h => h.2.2.2 ⟨k, by omega, by omega⟩), ent_e⟩
  · exact wq_next (k + 1) ⟨by omega, bad_next hkk2 (by omega)⟩ (by omega) (by kernel_rfl) ent_e
  · have hkl : k = n.2.2.2.length := by omega
    subst hkl
    exact ⟨(), ret_bool (decide_eq_true ⟨by omega, by omega, hkk, hkk2⟩), ent_e⟩

instance spec_NodeOk_ctr {Γ : List Atom} {va vb vc : Value} {n : SNode} {m : Int} [ha : HasRd (List Int) repList Γ [va] n.2.1] [hb : HasRd (List (List Int)) repList Γ [vb] n.2.2.1] [hc' : HasRd (List Int) repList Γ [vc] n.2.2.2] :
    CtrC Tryd.prog 47 [.agg #[.int .i64 n.1, va, vb, vc], .int .i64 m] Γ (m ≤ 1048576) (Unit) (fun _ : Unit => .bool (nodeOk n m)) (fun _ => Γ) := ⟨fun s w0 => spec_NodeOk_spec s⟩

end Go.Proofs.YtcaljjkmaffedaaDoor
