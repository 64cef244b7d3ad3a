/- A proof with one more node. -/
import Derived.Test.YtjijabgiochefaaNodeOk
namespace Go.Proofs.Ytjijabgiochefaa
open Go Go.Eng
set_option linter.unusedVariables false
set_option linter.unusedSimpArgs false

def AllN (ps : List SNode) (n : Nat) : Prop := ∀ i, i < n → NodeP (ps.getD i default) i
instance {ps : List SNode} {n : Nat} : Decidable (AllN ps n) := by unfold AllN; infer_instance
theorem all_next {ps : List SNode} {n : Nat} (h : AllN ps n) (h2 : NodeP (ps.getD n default) n) : AllN ps (n + 1) := fun i hi => by
  by_cases he : i = n
  · rw [he]; exact h2
  · exact h i (by omega)
theorem fits_of {n : SNode} {m : Int} (h : NodeP n m) (hm : m ≤ 1048576) : Fits n := by
  obtain ⟨h1, h2, h3, h4⟩ := h
  refine ⟨by omega, by omega, fun t ht => ?_, by omega, fun k hk => ?_⟩
  · obtain ⟨i, hi, rfl⟩ := List.getElem_of_mem ht
    have : ¬ ¬ (1 ≤ (n.2.2.1.getD i default).length ∧ (n.2.2.1.getD i default).length ≤ 60) := fun h' => h3 ⟨i, hi, h'⟩
    rw [List.getD_eq_getElem?_getD, List.getElem?_eq_getElem hi, Option.getD_some] at this
    omega
  · obtain ⟨i, hi, rfl⟩ := List.getElem_of_mem hk
    have : ¬ (n.2.2.2.getD i 0 < 0 ∨ m ≤ n.2.2.2.getD i 0) := fun h' => h4 ⟨i, hi, h'⟩
    rw [List.getD_eq_getElem?_getD, List.getElem?_eq_getElem hi, Option.getD_some] at this
    omega
theorem fits_all {ps : List SNode} (h : AllN ps ps.length) (hl : ps.length ≤ 1048576) : ∀ n ∈ ps, Fits n := by
  intro n hn
  obtain ⟨i, hi, rfl⟩ := List.getElem_of_mem hn
  have h1 := h i hi
  rw [List.getD_eq_getElem?_getD, List.getElem?_eq_getElem hi, Option.getD_some] at h1
  exact fits_of h1 (by omega)
theorem ProofOk_spec {w0 : World} {Γ : List Atom} {v : Value} {ps : List SNode} [ha : HasRd (List SNode) repList Γ [v] ps] : CJ Try.prog 98 [.agg #[v]] w0 Γ (fun _ : Unit => .bool (decide (AllN ps ps.length ∧ 1 ≤ ps.length ∧ ps.length ≤ 64))) (fun _ => Γ) := by
  refine cj_lift (R := [.rd [v] ps]) (A := fun _ => []) (fun w1 => ?_) (reads_cons ha (inferInstance)) (fun _ => inferInstance)
  simp only [List.cons_append, List.nil_append]
  refine cj_len v fun hlv => ?_
  refine cj_enter Try.func98 Try.ntmps98 ?_
  repeat' (first
    | refine red ?_
    | refine redf fun hbi => ?_
    | refine reds ?_
    | refine redc fun r => ?_
    | refine redv fun sv => ?_
    | refine redn fun b => ?_
    | refine redz fun zs => ?_
    | refine redq (fun hc => ?_) (fun hc => ?_)
    | with_reducible refine wq_blk_o rfl ?_
    | (refine redd fun p cs as_ hcs has hf => ?_; simp only [Un.cells, Un.atoms, Un.fact, List.cons_append, List.nil_append] at hcs has hf; subst hcs has)
    | (refine redi (fun hc => ?_) (fun hc => ?_) <;> try first | (exfalso; omega) | exact absurd rfl hc)
    | fail)
  refine wc_loop_c [8] [9, 10, 11, 12, 4, 3, 13, 14, 15, 16, 2, 17] (ι := Nat) (fun k => [.int .i64 k]) (fun k => k ≤ ps.length ∧ AllN ps k) (fun k => ps.length - k) 0 (by kernel_rfl) ⟨Nat.zero_le _, fun i hi => by omega⟩ ?_
  intro k u l' hl' ⟨hk, hkk⟩
  simp only [patch, List.map_cons, List.map_nil, List.set_cons_zero, List.set_cons_succ] at hl'
  subst hl'
  repeat' (first
    | refine red ?_
    | refine redf fun hbi => ?_
    | refine reds ?_
    | refine redc fun r => ?_
    | refine redv fun sv => ?_
    | refine redn fun b => ?_
    | refine redz fun zs => ?_
    | refine redq (fun hc => ?_) (fun hc => ?_)
    | with_reducible refine wq_blk_o rfl ?_
    | (refine redd fun p cs as_ hcs has hf => ?_; simp only [Un.cells, Un.atoms, Un.fact, List.cons_append, List.nil_append] at hcs has hf; subst hcs has)
    | (refine redi (fun hc => ?_) (fun hc => ?_) <;> try first | (exfalso; omega) | exact absurd rfl hc)
    | fail)
  · exact ⟨(), ret_bool (decide_eq_false fun h => hc (h.1 k (by omega))), ent_e⟩
  · exact wq_next (k + 1) ⟨by omega, all_next hkk hc⟩ (by omega) (by kernel_rfl) ent_e
  all_goals have hkl : k = ps.length := by omega
  all_goals subst hkl
  · exact ⟨(), ret_bool (decide_eq_decide.2 ⟨fun h => by omega, fun h => ⟨hkk, by omega⟩⟩), ent_e⟩
  · exact ⟨(), ret_bool (decide_eq_false fun h => by omega), ent_e⟩
instance ProofOk_ctr {Γ : List Atom} {v : Value} {ps : List SNode} [ha : HasRd (List SNode) repList Γ [v] ps] :
    CtrC Try.prog 98 [.agg #[v]] Γ (True) (Unit) (fun _ : Unit => .bool (decide (AllN ps ps.length ∧ 1 ≤ ps.length ∧ ps.length ≤ 64))) (fun _ => Γ) := ⟨fun s w0 => ProofOk_spec⟩

theorem l29Nodes_spec {w0 : World} {Γ : List Atom} {v : Value} {ps : List SNode} [ha : HasRd (List SNode) repList Γ [v] ps] (hl : ps.length ≤ 1048576) : CJ Try.prog 92 [.agg #[v]] w0 Γ (fun _ : Unit => .bool (decide (AllN ps ps.length))) (fun _ => Γ) := by
  refine cj_lift (R := [.rd [v] ps]) (A := fun _ => []) (fun w1 => ?_) (reads_cons ha (inferInstance)) (fun _ => inferInstance)
  simp only [List.cons_append, List.nil_append]
  refine cj_enter Try.func92 Try.ntmps92 ?_
  repeat' (first
    | refine red ?_
    | refine redf fun hbi => ?_
    | refine reds ?_
    | refine redc fun r => ?_
    | refine redv fun sv => ?_
    | refine redn fun b => ?_
    | refine redz fun zs => ?_
    | refine redq (fun hc => ?_) (fun hc => ?_)
    | with_reducible refine wq_blk_o rfl ?_
    | (refine redd fun p cs as_ hcs has hf => ?_; simp only [Un.cells, Un.atoms, Un.fact, List.cons_append, List.nil_append] at hcs has hf; subst hcs has)
    | (refine redi (fun hc => ?_) (fun hc => ?_) <;> try first | (exfalso; omega) | exact absurd rfl hc)
    | fail)
  refine wc_loop_c [3] [4, 5, 6, 7, 8, 11, 12, 13, 14, 15, 16, 17, 18, 2, 9, 10] (ι := Nat) (fun k => [.int .i64 k]) (fun k => k ≤ ps.length ∧ AllN ps k) (fun k => ps.length - k) 0 (by kernel_rfl) ⟨Nat.zero_le _, fun i hi => by omega⟩ ?_
  intro k u l' hl' ⟨hk, hkk⟩
  simp only [patch, List.map_cons, List.map_nil, List.set_cons_zero, List.set_cons_succ] at hl'
  subst hl'
  repeat' (first
    | refine red ?_
    | refine redf fun hbi => ?_
    | refine reds ?_
    | refine redc fun r => ?_
    | refine redv fun sv => ?_
    | refine redn fun b => ?_
    | refine redz fun zs => ?_
    | refine redq (fun hc => ?_) (fun hc => ?_)
    | with_reducible refine wq_blk_o rfl ?_
    | (refine redd fun p cs as_ hcs has hf => ?_; simp only [Un.cells, Un.atoms, Un.fact, List.cons_append, List.nil_append] at hcs has hf; subst hcs has)
    | (refine redi (fun hc => ?_) (fun hc => ?_) <;> try first | (exfalso; omega) | exact absurd rfl hc)
    | fail)
  · exact ⟨(), ret_bool (decide_eq_false fun h => hc (h k (by omega))), ent_e⟩
  · exact wq_next (k + 1) ⟨by omega, all_next hkk hc⟩ (by omega) (by kernel_rfl) ent_e
  · exact ⟨(), ret_bool (decide_eq_true (by rw [show ps.length = k by omega]; exact hkk)), ent_e⟩
instance l29Nodes_ctr {Γ : List Atom} {v : Value} {ps : List SNode} [ha : HasRd (List SNode) repList Γ [v] ps] :
    CtrC Try.prog 92 [.agg #[v]] Γ (ps.length ≤ 1048576) (Unit) (fun _ : Unit => .bool (decide (AllN ps ps.length))) (fun _ => Γ) := ⟨fun s w0 => l29Nodes_spec s⟩

def AddP (ps : List SNode) (n : SNode) : Prop := ps.length < 64 ∧ AllN ps ps.length ∧ NodeP n ps.length
instance {ps : List SNode} {n : SNode} : Decidable (AddP ps n) := by unfold AddP; infer_instance
def addedOf (ps : List SNode) (n : SNode) : Option (List SNode) := if AddP ps n then some (ps ++ [n]) else none
theorem add_no {ps : List SNode} {n : SNode} (h : ¬ AddP ps n) : addedOf ps n = none := if_neg h
theorem add_yes {ps : List SNode} {n : SNode} (h : AddP ps n) : addedOf ps n = some (ps ++ [n]) := if_pos h
theorem impl_AddedNode_spec {w0 : World} {Γ : List Atom} {v va vb vc : Value} {ps : List SNode} {n : SNode} [h0 : HasRd (List SNode) repList Γ [v] ps] [ha : HasRd (List Int) repList Γ [va] n.2.1] [hb : HasRd (List (List Int)) repList Γ [vb] n.2.2.1] [hc' : HasRd (List Int) repList Γ [vc] n.2.2.2] (hn1 : -9223372036854775808 ≤ n.1 ∧ n.1 ≤ 9223372036854775807) : CJ Try.prog 24 [.agg #[v], .agg #[.int .i64 n.1, va, vb, vc]] w0 Γ (fun q : Value => .tuple #[.agg #[q], .bool (addedOf ps n).isSome]) (fun q => .ow [q] ((addedOf ps n).getD []) :: Γ) := by
  refine cj_lift (R := [.rd [v] ps, .rd [va] n.2.1, .rd [vb] n.2.2.1, .rd [vc] n.2.2.2]) (A := fun q : Value => [.ow [q] ((addedOf ps n).getD [])]) (fun w1 => ?_) (reads_cons h0 (reads_cons ha (reads_cons hb (reads_cons hc' (inferInstance))))) (fun _ => inferInstance)
  simp only [List.cons_append, List.nil_append]
  refine cj_len v fun hlv => ?_
  refine cj_enter Try.func24 Try.ntmps24 ?_
  repeat' (first
    | refine red ?_
    | refine redf fun hbi => ?_
    | refine reds ?_
    | refine redc fun r => ?_
    | refine redv fun sv => ?_
    | refine redn fun b => ?_
    | refine redz fun zs => ?_
    | refine redq (fun hc => ?_) (fun hc => ?_)
    | with_reducible refine wq_blk_o rfl ?_
    | (refine redd fun p cs as_ hcs has hf => ?_; simp only [Un.cells, Un.atoms, Un.fact, List.cons_append, List.nil_append] at hcs has hf; subst hcs has)
    | (refine redi (fun hc => ?_) (fun hc => ?_) <;> try first | (exfalso; omega) | exact absurd rfl hc)
    | ((refine wa_begin 5 [false, false, false, false, false, false, false, false] [5, 7] ?_ <;> (first | refine wa_p 0 ?_ | refine wa_p0 0 ?_ | fail) <;> (first | refine wa_f 1 fun hbi => ?_ | refine wa_p 1 ?_ | fail) <;> (first | refine wa_f 2 fun hbi => ?_ | refine wa_p 2 ?_ | fail) <;> (refine wa_do 3 ?_ <;> (repeat' (first | refine red ?_ | refine redc fun r => ?_ | refine redv fun sv => ?_ | refine redf fun hbi => ?_ | refine redn fun b => ?_ | refine reds ?_ | refine redi (fun hc => ?_) (fun hc => ?_) | fail))) <;> (refine wa_do 4 ?_ <;> (repeat' (first | refine red ?_ | refine redc fun r => ?_ | refine redv fun sv => ?_ | refine redf fun hbi => ?_ | refine redn fun b => ?_ | refine reds ?_ | refine redi (fun hc => ?_) (fun hc => ?_) | fail))) <;> (refine wa_do 5 ?_ <;> (repeat' (first | refine red ?_ | refine redc fun r => ?_ | refine redv fun sv => ?_ | refine redf fun hbi => ?_ | refine redn fun b => ?_ | refine reds ?_ | refine redi (fun hc => ?_) (fun hc => ?_) | fail))) <;> (first | refine wa_p 6 ?_ | refine wa_p0 6 ?_ | (refine wa_do 6 ?_ <;> (repeat' (first | refine red ?_ | refine redc fun r => ?_ | refine redv fun sv => ?_ | refine redf fun hbi => ?_ | refine redn fun b => ?_ | refine reds ?_ | refine redi (fun hc => ?_) (fun hc => ?_) | fail))) | fail) <;> (refine wa_do 7 ?_ <;> (repeat' (first | refine red ?_ | refine redc fun r => ?_ | refine redv fun sv => ?_ | refine redf fun hbi => ?_ | refine redn fun b => ?_ | refine reds ?_ | refine redi (fun hc => ?_) (fun hc => ?_) | fail)))) <;> refine wa_end ?_)
    | ((refine wa_begin1 5 [false, false, false, false, false, false, false, false] [7] ?_ <;> (first | refine wa_p 0 ?_ | refine wa_p0 0 ?_ | fail) <;> (first | refine wa_f 1 fun hbi => ?_ | refine wa_p 1 ?_ | fail) <;> (first | refine wa_f 2 fun hbi => ?_ | refine wa_p 2 ?_ | fail) <;> (refine wa_do 3 ?_ <;> (repeat' (first | refine red ?_ | refine redc fun r => ?_ | refine redv fun sv => ?_ | refine redf fun hbi => ?_ | refine redn fun b => ?_ | refine reds ?_ | refine redi (fun hc => ?_) (fun hc => ?_) | fail))) <;> (refine wa_do 4 ?_ <;> (repeat' (first | refine red ?_ | refine redc fun r => ?_ | refine redv fun sv => ?_ | refine redf fun hbi => ?_ | refine redn fun b => ?_ | refine reds ?_ | refine redi (fun hc => ?_) (fun hc => ?_) | fail))) <;> (refine wa_do 5 ?_ <;> (repeat' (first | refine red ?_ | refine redc fun r => ?_ | refine redv fun sv => ?_ | refine redf fun hbi => ?_ | refine redn fun b => ?_ | refine reds ?_ | refine redi (fun hc => ?_) (fun hc => ?_) | fail))) <;> (first | refine wa_p 6 ?_ | refine wa_p0 6 ?_ | (refine wa_do 6 ?_ <;> (repeat' (first | refine red ?_ | refine redc fun r => ?_ | refine redv fun sv => ?_ | refine redf fun hbi => ?_ | refine redn fun b => ?_ | refine reds ?_ | refine redi (fun hc => ?_) (fun hc => ?_) | fail))) | fail) <;> (refine wa_do 7 ?_ <;> (repeat' (first | refine red ?_ | refine redc fun r => ?_ | refine redv fun sv => ?_ | refine redf fun hbi => ?_ | refine redn fun b => ?_ | refine reds ?_ | refine redi (fun hc => ?_) (fun hc => ?_) | fail)))) <;> refine wa_end ?_)
    | fail)
  all_goals first
    | (rw [add_no (fun h => ‹¬ AllN ps ps.length› h.2.1)]
       simp only [Option.getD_none, Option.isSome_none]
       exact ⟨_, rfl, ent_e⟩)
    | (rw [add_no (fun h => ‹¬ NodeP n ps.length› h.2.2)]
       simp only [Option.getD_none, Option.isSome_none]
       exact ⟨_, rfl, ent_e⟩)
    | (rw [add_no (fun h => by have := h.1; omega)]
       simp only [Option.getD_none, Option.isSome_none]
       exact ⟨_, rfl, ent_e⟩)
    | (rw [add_no (fun h => ‹¬ (AllN ps ps.length ∧ 1 ≤ ps.length ∧ ps.length ≤ 64)› ⟨h.2.1, by omega, by have := h.1; omega⟩)]
       simp only [Option.getD_none, Option.isSome_none]
       exact ⟨_, rfl, ent_e⟩)
    | skip
  all_goals
    have hlt : ps.length < 64 := by omega
    have hall : AllN ps ps.length := by
      first
        | assumption
        | exact (‹AllN ps ps.length ∧ 1 ≤ ps.length ∧ ps.length ≤ 64›).1
        | (intro i hi; omega)
    have hnp : NodeP n ps.length := by assumption
    have hfa := fits_all hall (by omega)
    have hfn := fits_of hnp (by omega)
    obtain ⟨g1, g2, g3, g4, g5⟩ := id hfn
    rw [add_yes ⟨hlt, hall, hnp⟩]
    simp only [Option.getD_some, Option.isSome_some]
    repeat' (first
      | refine red ?_
      | refine redf fun hbi => ?_
      | refine reds ?_
      | refine redc fun r => ?_
      | refine redv fun sv => ?_
      | refine redn fun b => ?_
      | refine redz fun zs => ?_
      | refine redq (fun hc => ?_) (fun hc => ?_)
      | with_reducible refine wq_blk_o rfl ?_
      | (refine redd fun p cs as_ hcs has hf => ?_; simp only [Un.cells, Un.atoms, Un.fact, List.cons_append, List.nil_append] at hcs has hf; subst hcs has)
      | (refine redi (fun hc => ?_) (fun hc => ?_) <;> try first | (exfalso; omega) | exact absurd rfl hc)
      | ((refine wa_begin 5 [false, false, false, false, false, false, false, false] [5, 7] ?_ <;> (first | refine wa_p 0 ?_ | refine wa_p0 0 ?_ | fail) <;> (first | refine wa_f 1 fun hbi => ?_ | refine wa_p 1 ?_ | fail) <;> (first | refine wa_f 2 fun hbi => ?_ | refine wa_p 2 ?_ | fail) <;> (refine wa_do 3 ?_ <;> (repeat' (first | refine red ?_ | refine redc fun r => ?_ | refine redv fun sv => ?_ | refine redf fun hbi => ?_ | refine redn fun b => ?_ | refine reds ?_ | refine redi (fun hc => ?_) (fun hc => ?_) | fail))) <;> (refine wa_do 4 ?_ <;> (repeat' (first | refine red ?_ | refine redc fun r => ?_ | refine redv fun sv => ?_ | refine redf fun hbi => ?_ | refine redn fun b => ?_ | refine reds ?_ | refine redi (fun hc => ?_) (fun hc => ?_) | fail))) <;> (refine wa_do 5 ?_ <;> (repeat' (first | refine red ?_ | refine redc fun r => ?_ | refine redv fun sv => ?_ | refine redf fun hbi => ?_ | refine redn fun b => ?_ | refine reds ?_ | refine redi (fun hc => ?_) (fun hc => ?_) | fail))) <;> (first | refine wa_p 6 ?_ | refine wa_p0 6 ?_ | (refine wa_do 6 ?_ <;> (repeat' (first | refine red ?_ | refine redc fun r => ?_ | refine redv fun sv => ?_ | refine redf fun hbi => ?_ | refine redn fun b => ?_ | refine reds ?_ | refine redi (fun hc => ?_) (fun hc => ?_) | fail))) | fail) <;> (refine wa_do 7 ?_ <;> (repeat' (first | refine red ?_ | refine redc fun r => ?_ | refine redv fun sv => ?_ | refine redf fun hbi => ?_ | refine redn fun b => ?_ | refine reds ?_ | refine redi (fun hc => ?_) (fun hc => ?_) | fail)))) <;> refine wa_end ?_)
      | ((refine wa_begin1 5 [false, false, false, false, false, false, false, false] [7] ?_ <;> (first | refine wa_p 0 ?_ | refine wa_p0 0 ?_ | fail) <;> (first | refine wa_f 1 fun hbi => ?_ | refine wa_p 1 ?_ | fail) <;> (first | refine wa_f 2 fun hbi => ?_ | refine wa_p 2 ?_ | fail) <;> (refine wa_do 3 ?_ <;> (repeat' (first | refine red ?_ | refine redc fun r => ?_ | refine redv fun sv => ?_ | refine redf fun hbi => ?_ | refine redn fun b => ?_ | refine reds ?_ | refine redi (fun hc => ?_) (fun hc => ?_) | fail))) <;> (refine wa_do 4 ?_ <;> (repeat' (first | refine red ?_ | refine redc fun r => ?_ | refine redv fun sv => ?_ | refine redf fun hbi => ?_ | refine redn fun b => ?_ | refine reds ?_ | refine redi (fun hc => ?_) (fun hc => ?_) | fail))) <;> (refine wa_do 5 ?_ <;> (repeat' (first | refine red ?_ | refine redc fun r => ?_ | refine redv fun sv => ?_ | refine redf fun hbi => ?_ | refine redn fun b => ?_ | refine reds ?_ | refine redi (fun hc => ?_) (fun hc => ?_) | fail))) <;> (first | refine wa_p 6 ?_ | refine wa_p0 6 ?_ | (refine wa_do 6 ?_ <;> (repeat' (first | refine red ?_ | refine redc fun r => ?_ | refine redv fun sv => ?_ | refine redf fun hbi => ?_ | refine redn fun b => ?_ | refine reds ?_ | refine redi (fun hc => ?_) (fun hc => ?_) | fail))) | fail) <;> (refine wa_do 7 ?_ <;> (repeat' (first | refine red ?_ | refine redc fun r => ?_ | refine redv fun sv => ?_ | refine redf fun hbi => ?_ | refine redn fun b => ?_ | refine reds ?_ | refine redi (fun hc => ?_) (fun hc => ?_) | fail)))) <;> refine wa_end ?_)
      | fail)
  all_goals
    rw [show ps ++ [(n.1, n.2.1, n.2.2.1, n.2.2.2.map (· + 0))] = ps ++ [n] by rw [map0]]
    exact ⟨_, rfl, ent_e⟩
instance impl_AddedNode_ctr {Γ : List Atom} {v va vb vc : Value} {ps : List SNode} {n : SNode} [h0 : HasRd (List SNode) repList Γ [v] ps] [ha : HasRd (List Int) repList Γ [va] n.2.1] [hb : HasRd (List (List Int)) repList Γ [vb] n.2.2.1] [hc' : HasRd (List Int) repList Γ [vc] n.2.2.2] :
    CtrC Try.prog 24 [.agg #[v], .agg #[.int .i64 n.1, va, vb, vc]] Γ (-9223372036854775808 ≤ n.1 ∧ n.1 ≤ 9223372036854775807) (Value) (fun q : Value => .tuple #[.agg #[q], .bool (addedOf ps n).isSome]) (fun q => .ow [q] ((addedOf ps n).getD []) :: Γ) := ⟨fun s w0 => impl_AddedNode_spec s⟩

theorem spec_AddedNode_spec {w0 : World} {Γ : List Atom} {v va vb vc : Value} {ps : List SNode} {n : SNode} [h0 : HasRd (List SNode) repList Γ [v] ps] [ha : HasRd (List Int) repList Γ [va] n.2.1] [hb : HasRd (List (List Int)) repList Γ [vb] n.2.2.1] [hc' : HasRd (List Int) repList Γ [vc] n.2.2.2] (hn1 : -9223372036854775808 ≤ n.1 ∧ n.1 ≤ 9223372036854775807) : CJ Try.prog 21 [.agg #[v], .agg #[.int .i64 n.1, va, vb, vc]] w0 Γ (fun q : Value => .tuple #[.agg #[q], .bool (addedOf ps n).isSome]) (fun q => .ow [q] ((addedOf ps n).getD []) :: Γ) := by
  refine cj_lift (R := [.rd [v] ps, .rd [va] n.2.1, .rd [vb] n.2.2.1, .rd [vc] n.2.2.2]) (A := fun q : Value => [.ow [q] ((addedOf ps n).getD [])]) (fun w1 => ?_) (reads_cons h0 (reads_cons ha (reads_cons hb (reads_cons hc' (inferInstance))))) (fun _ => inferInstance)
  simp only [List.cons_append, List.nil_append]
  refine cj_len v fun hlv => ?_
  refine cj_enter Try.func21 Try.ntmps21 ?_
  repeat' (first
    | refine red ?_
    | refine redf fun hbi => ?_
    | refine reds ?_
    | refine redc fun r => ?_
    | refine redv fun sv => ?_
    | refine redn fun b => ?_
    | refine redz fun zs => ?_
    | refine redq (fun hc => ?_) (fun hc => ?_)
    | with_reducible refine wq_blk_o rfl ?_
    | (refine redd fun p cs as_ hcs has hf => ?_; simp only [Un.cells, Un.atoms, Un.fact, List.cons_append, List.nil_append] at hcs has hf; subst hcs has)
    | (refine redi (fun hc => ?_) (fun hc => ?_) <;> try first | (exfalso; omega) | exact absurd rfl hc)
    | ((refine wa_begin 4 [false, false, false, false, false, false, false, false] [5, 7] ?_ <;> (first | refine wa_p 0 ?_ | refine wa_p0 0 ?_ | fail) <;> (first | refine wa_f 1 fun hbi => ?_ | refine wa_p 1 ?_ | fail) <;> (first | refine wa_f 2 fun hbi => ?_ | refine wa_p 2 ?_ | fail) <;> (refine wa_do 3 ?_ <;> (repeat' (first | refine red ?_ | refine redc fun r => ?_ | refine redv fun sv => ?_ | refine redf fun hbi => ?_ | refine redn fun b => ?_ | refine reds ?_ | refine redi (fun hc => ?_) (fun hc => ?_) | fail))) <;> (refine wa_do 4 ?_ <;> (repeat' (first | refine red ?_ | refine redc fun r => ?_ | refine redv fun sv => ?_ | refine redf fun hbi => ?_ | refine redn fun b => ?_ | refine reds ?_ | refine redi (fun hc => ?_) (fun hc => ?_) | fail))) <;> (refine wa_do 5 ?_ <;> (repeat' (first | refine red ?_ | refine redc fun r => ?_ | refine redv fun sv => ?_ | refine redf fun hbi => ?_ | refine redn fun b => ?_ | refine reds ?_ | refine redi (fun hc => ?_) (fun hc => ?_) | fail))) <;> (first | refine wa_p 6 ?_ | refine wa_p0 6 ?_ | (refine wa_do 6 ?_ <;> (repeat' (first | refine red ?_ | refine redc fun r => ?_ | refine redv fun sv => ?_ | refine redf fun hbi => ?_ | refine redn fun b => ?_ | refine reds ?_ | refine redi (fun hc => ?_) (fun hc => ?_) | fail))) | fail) <;> (refine wa_do 7 ?_ <;> (repeat' (first | refine red ?_ | refine redc fun r => ?_ | refine redv fun sv => ?_ | refine redf fun hbi => ?_ | refine redn fun b => ?_ | refine reds ?_ | refine redi (fun hc => ?_) (fun hc => ?_) | fail)))) <;> refine wa_end ?_)
    | ((refine wa_begin1 4 [false, false, false, false, false, false, false, false] [7] ?_ <;> (first | refine wa_p 0 ?_ | refine wa_p0 0 ?_ | fail) <;> (first | refine wa_f 1 fun hbi => ?_ | refine wa_p 1 ?_ | fail) <;> (first | refine wa_f 2 fun hbi => ?_ | refine wa_p 2 ?_ | fail) <;> (refine wa_do 3 ?_ <;> (repeat' (first | refine red ?_ | refine redc fun r => ?_ | refine redv fun sv => ?_ | refine redf fun hbi => ?_ | refine redn fun b => ?_ | refine reds ?_ | refine redi (fun hc => ?_) (fun hc => ?_) | fail))) <;> (refine wa_do 4 ?_ <;> (repeat' (first | refine red ?_ | refine redc fun r => ?_ | refine redv fun sv => ?_ | refine redf fun hbi => ?_ | refine redn fun b => ?_ | refine reds ?_ | refine redi (fun hc => ?_) (fun hc => ?_) | fail))) <;> (refine wa_do 5 ?_ <;> (repeat' (first | refine red ?_ | refine redc fun r => ?_ | refine redv fun sv => ?_ | refine redf fun hbi => ?_ | refine redn fun b => ?_ | refine reds ?_ | refine redi (fun hc => ?_) (fun hc => ?_) | fail))) <;> (first | refine wa_p 6 ?_ | refine wa_p0 6 ?_ | (refine wa_do 6 ?_ <;> (repeat' (first | refine red ?_ | refine redc fun r => ?_ | refine redv fun sv => ?_ | refine redf fun hbi => ?_ | refine redn fun b => ?_ | refine reds ?_ | refine redi (fun hc => ?_) (fun hc => ?_) | fail))) | fail) <;> (refine wa_do 7 ?_ <;> (repeat' (first | refine red ?_ | refine redc fun r => ?_ | refine redv fun sv => ?_ | refine redf fun hbi => ?_ | refine redn fun b => ?_ | refine reds ?_ | refine redi (fun hc => ?_) (fun hc => ?_) | fail)))) <;> refine wa_end ?_)
    | fail)
  all_goals first
    | (rw [add_no (fun h => ‹¬ AllN ps ps.length› h.2.1)]
       simp only [Option.getD_none, Option.isSome_none]
       exact ⟨_, rfl, ent_e⟩)
    | (rw [add_no (fun h => ‹¬ NodeP n ps.length› h.2.2)]
       simp only [Option.getD_none, Option.isSome_none]
       exact ⟨_, rfl, ent_e⟩)
    | (rw [add_no (fun h => by have := h.1; omega)]
       simp only [Option.getD_none, Option.isSome_none]
       exact ⟨_, rfl, ent_e⟩)
    | (rw [add_no (fun h => ‹¬ (AllN ps ps.length ∧ 1 ≤ ps.length ∧ ps.length ≤ 64)› ⟨h.2.1, by omega, by have := h.1; omega⟩)]
       simp only [Option.getD_none, Option.isSome_none]
       exact ⟨_, rfl, ent_e⟩)
    | skip
  all_goals
    have hlt : ps.length < 64 := by omega
    have hall : AllN ps ps.length := by
      first
        | assumption
        | exact (‹AllN ps ps.length ∧ 1 ≤ ps.length ∧ ps.length ≤ 64›).1
        | (intro i hi; omega)
    have hnp : NodeP n ps.length := by assumption
    have hfa := fits_all hall (by omega)
    have hfn := fits_of hnp (by omega)
    obtain ⟨g1, g2, g3, g4, g5⟩ := id hfn
    rw [add_yes ⟨hlt, hall, hnp⟩]
    simp only [Option.getD_some, Option.isSome_some]
    repeat' (first
      | refine red ?_
      | refine redf fun hbi => ?_
      | refine reds ?_
      | refine redc fun r => ?_
      | refine redv fun sv => ?_
      | refine redn fun b => ?_
      | refine redz fun zs => ?_
      | refine redq (fun hc => ?_) (fun hc => ?_)
      | with_reducible refine wq_blk_o rfl ?_
      | (refine redd fun p cs as_ hcs has hf => ?_; simp only [Un.cells, Un.atoms, Un.fact, List.cons_append, List.nil_append] at hcs has hf; subst hcs has)
      | (refine redi (fun hc => ?_) (fun hc => ?_) <;> try first | (exfalso; omega) | exact absurd rfl hc)
      | ((refine wa_begin 4 [false, false, false, false, false, false, false, false] [5, 7] ?_ <;> (first | refine wa_p 0 ?_ | refine wa_p0 0 ?_ | fail) <;> (first | refine wa_f 1 fun hbi => ?_ | refine wa_p 1 ?_ | fail) <;> (first | refine wa_f 2 fun hbi => ?_ | refine wa_p 2 ?_ | fail) <;> (refine wa_do 3 ?_ <;> (repeat' (first | refine red ?_ | refine redc fun r => ?_ | refine redv fun sv => ?_ | refine redf fun hbi => ?_ | refine redn fun b => ?_ | refine reds ?_ | refine redi (fun hc => ?_) (fun hc => ?_) | fail))) <;> (refine wa_do 4 ?_ <;> (repeat' (first | refine red ?_ | refine redc fun r => ?_ | refine redv fun sv => ?_ | refine redf fun hbi => ?_ | refine redn fun b => ?_ | refine reds ?_ | refine redi (fun hc => ?_) (fun hc => ?_) | fail))) <;> (refine wa_do 5 ?_ <;> (repeat' (first | refine red ?_ | refine redc fun r => ?_ | refine redv fun sv => ?_ | refine redf fun hbi => ?_ | refine redn fun b => ?_ | refine reds ?_ | refine redi (fun hc => ?_) (fun hc => ?_) | fail))) <;> (first | refine wa_p 6 ?_ | refine wa_p0 6 ?_ | (refine wa_do 6 ?_ <;> (repeat' (first | refine red ?_ | refine redc fun r => ?_ | refine redv fun sv => ?_ | refine redf fun hbi => ?_ | refine redn fun b => ?_ | refine reds ?_ | refine redi (fun hc => ?_) (fun hc => ?_) | fail))) | fail) <;> (refine wa_do 7 ?_ <;> (repeat' (first | refine red ?_ | refine redc fun r => ?_ | refine redv fun sv => ?_ | refine redf fun hbi => ?_ | refine redn fun b => ?_ | refine reds ?_ | refine redi (fun hc => ?_) (fun hc => ?_) | fail)))) <;> refine wa_end ?_)
      | ((refine wa_begin1 4 [false, false, false, false, false, false, false, false] [7] ?_ <;> (first | refine wa_p 0 ?_ | refine wa_p0 0 ?_ | fail) <;> (first | refine wa_f 1 fun hbi => ?_ | refine wa_p 1 ?_ | fail) <;> (first | refine wa_f 2 fun hbi => ?_ | refine wa_p 2 ?_ | fail) <;> (refine wa_do 3 ?_ <;> (repeat' (first | refine red ?_ | refine redc fun r => ?_ | refine redv fun sv => ?_ | refine redf fun hbi => ?_ | refine redn fun b => ?_ | refine reds ?_ | refine redi (fun hc => ?_) (fun hc => ?_) | fail))) <;> (refine wa_do 4 ?_ <;> (repeat' (first | refine red ?_ | refine redc fun r => ?_ | refine redv fun sv => ?_ | refine redf fun hbi => ?_ | refine redn fun b => ?_ | refine reds ?_ | refine redi (fun hc => ?_) (fun hc => ?_) | fail))) <;> (refine wa_do 5 ?_ <;> (repeat' (first | refine red ?_ | refine redc fun r => ?_ | refine redv fun sv => ?_ | refine redf fun hbi => ?_ | refine redn fun b => ?_ | refine reds ?_ | refine redi (fun hc => ?_) (fun hc => ?_) | fail))) <;> (first | refine wa_p 6 ?_ | refine wa_p0 6 ?_ | (refine wa_do 6 ?_ <;> (repeat' (first | refine red ?_ | refine redc fun r => ?_ | refine redv fun sv => ?_ | refine redf fun hbi => ?_ | refine redn fun b => ?_ | refine reds ?_ | refine redi (fun hc => ?_) (fun hc => ?_) | fail))) | fail) <;> (refine wa_do 7 ?_ <;> (repeat' (first | refine red ?_ | refine redc fun r => ?_ | refine redv fun sv => ?_ | refine redf fun hbi => ?_ | refine redn fun b => ?_ | refine reds ?_ | refine redi (fun hc => ?_) (fun hc => ?_) | fail)))) <;> refine wa_end ?_)
      | fail)
  all_goals
    rw [show ps ++ [(n.1, n.2.1, n.2.2.1, n.2.2.2)] = ps ++ [n] from rfl]
    exact ⟨_, rfl, ent_e⟩
instance spec_AddedNode_ctr {Γ : List Atom} {v va vb vc : Value} {ps : List SNode} {n : SNode} [h0 : HasRd (List SNode) repList Γ [v] ps] [ha : HasRd (List Int) repList Γ [va] n.2.1] [hb : HasRd (List (List Int)) repList Γ [vb] n.2.2.1] [hc' : HasRd (List Int) repList Γ [vc] n.2.2.2] :
    CtrC Try.prog 21 [.agg #[v], .agg #[.int .i64 n.1, va, vb, vc]] Γ (-9223372036854775808 ≤ n.1 ∧ n.1 ≤ 9223372036854775807) (Value) (fun q : Value => .tuple #[.agg #[q], .bool (addedOf ps n).isSome]) (fun q => .ow [q] ((addedOf ps n).getD []) :: Γ) := ⟨fun s w0 => spec_AddedNode_spec s⟩

end Go.Proofs.Ytjijabgiochefaa
