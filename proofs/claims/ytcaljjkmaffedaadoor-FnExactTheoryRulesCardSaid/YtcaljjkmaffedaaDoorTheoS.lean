/- The rules of a theory: the program. -/
import Derived.Test.YtcaljjkmaffedaaDoorCut
import Derived.Test.YtcaljjkmaffedaaDoorTheoN
import Derived.Test.YtcaljjkmaffedaaDoorMove
namespace Go.Proofs.YtcaljjkmaffedaaDoor
open Go Go.Eng Go.RowKit
set_option linter.unusedVariables false
set_option linter.unusedSimpArgs false
set_option synthInstance.maxHeartbeats 400000
set_option synthInstance.maxSize 1000
set_option maxHeartbeats 2000000
set_option maxRecDepth 20000

theorem theorySig_spec {w0 : World} {Γ : List Atom} : CJ Tryd.prog 73 [] w0 Γ (fun r : Value => .agg #[r]) (fun r => .ow [r] ([2, 1, 0] : List Int) :: Γ) := by
  refine cj_enter Tryd.func73 Tryd.ntmps73 ?_
  repeat' (first | refine red ?_ | refine redf fun hbi => ?_ | refine reds ?_ | refine redc fun r => ?_ | refine redp (fun r => ?_) (fun r => ?_) | refine redv fun sv => ?_ | refine redn fun b => ?_ | refine redz fun zs => ?_ | refine redq (fun hc => ?_) (fun hc => ?_) | with_reducible refine wq_blk_o rfl ?_ | (refine redi (fun hc => ?_) (fun hc => ?_) <;> try first | (exfalso; omega) | with_reducible first | exact absurd rfl hc | exact absurd hc Bool.false_ne_true | exact absurd hc Bool.false_ne_true.symm) | fail)
  exact ⟨_, rfl, ent_e⟩
instance theorySig_ctr {Γ : List Atom} :
    CtrC Tryd.prog 73 [] Γ (True) (Value) (fun r : Value => .agg #[r]) (fun r => .ow [r] ([2, 1, 0] : List Int) :: Γ) := ⟨fun s w0 => theorySig_spec⟩

/-- The rules of a theory, as its texts say. -/
def thR (k : Nat) : List SRule := (thTx k).1.map fun s => prR [2, 1, 0] s
theorem thTx_sz (k : Nat) : (thTx k).1.length ≤ 10 ∧ ∀ i, i < (thTx k).1.length → ((thTx k).1.getD i ByteArray.empty).size ≤ 60 := by
  match k with
  | 0 | 1 | 2 | 3 | 4 | 5 | 6 => decide
  | n + 7 => exact ⟨Nat.zero_le _, fun i hi => absurd hi (Nat.not_lt_zero i)⟩
theorem thTx_eq (k : Nat) : (thTx k).2 ≤ (thTx k).1.length := by
  match k with
  | 0 | 1 | 2 | 3 | 4 | 5 | 6 => decide
  | n + 7 => exact Nat.le_refl _
theorem thR_take (k : Nat) {i : Nat} (h : i < (thTx k).1.length) : (thR k).take i ++ [prR [2, 1, 0] ((thTx k).1.getD i ByteArray.empty)] = (thR k).take (i + 1) := by
  unfold thR
  rw [← List.map_take, ← List.map_take, List.take_succ_eq_append_getElem h, List.map_append, List.getD_eq_getElem?_getD, List.getElem?_eq_getElem h]; rfl
theorem thR_len (k : Nat) : (thR k).length = (thTx k).1.length := List.length_map _
theorem theorySystem_spec {w0 : World} {Γ : List Atom} {k m : Int} [hg : HasRd (GI) repGI Γ [mxV] (GI.mk m)] (hk : 0 ≤ k ∧ k < 7) :
    CJ Tryd.prog 32 [.int .i64 k] w0 Γ (fun q : Value × Value => .tuple #[.agg #[q.1, q.2], .int .i64 (thTx k.toNat).2]) (fun q => .ow [q.1] ([2, 1, 0] : List Int) :: .ow [q.2] (thR k.toNat) :: Γ) := by
  have hsz := thTx_sz k.toNat
  refine cj_lift (R := [.rd [mxV] (GI.mk m)]) (A := fun q : Value × Value => [.ow [q.1] ([2, 1, 0] : List Int), .ow [q.2] (thR k.toNat)]) (fun w1 => ?_) (reads_cons hg (inferInstance)) (fun _ => inferInstance)
  simp only [List.cons_append, List.nil_append]
  refine cj_enter Tryd.func32 Tryd.ntmps32 ?_
  repeat' (first | refine red ?_ | refine redf fun hbi => ?_ | refine reds ?_ | refine redc fun r => ?_ | refine redp (fun r => ?_) (fun r => ?_) | refine redv fun sv => ?_ | refine redn fun b => ?_ | refine redz fun zs => ?_ | refine redq (fun hc => ?_) (fun hc => ?_) | with_reducible refine wq_blk_o rfl ?_ | (refine redd fun p cs as_ hcs has hf => ?_; simp only [Un.cells, Un.atoms, Un.fact, List.cons_append, List.nil_append] at hcs has hf; subst hcs has) | (refine redi (fun hc => ?_) (fun hc => ?_) <;> try first | (exfalso; omega) | with_reducible first | exact absurd rfl hc | exact absurd hc Bool.false_ne_true | exact absurd hc Bool.false_ne_true.symm) | fail)
  refine wc_nil_ow (α := SRule) (iα := repProd) ?_
  refine wc_loop_p [20] [21, 22, 23, 8, 25, 26, 27, 28, 24, 29, 30, 9, 10, 31, 32, 33, 34, 35, 36, 37] (ι := Nat × Value) (fun i => [.int .i64 i.1]) (fun i => [.bk b [r, i.2], .ow [i.2] ((thR k.toNat).take i.1)]) (fun i => i.1 ≤ (thTx k.toNat).1.length) (fun i => (thTx k.toNat).1.length - i.1) (0, .slice none 0 0) [.bk b [r, .slice none 0 0], .ow [.slice none 0 0] ([] : List SRule)] (by kernel_rfl) (Nat.zero_le _) rfl ?_
  intro ⟨i, rv⟩ u l' hl' hi
  simp only [patch, List.map_cons, List.map_nil, List.set_cons_zero, List.set_cons_succ] at hl'
  subst hl'
  simp only [List.cons_append, List.nil_append] at hi ⊢
  have hrl := thR_len k.toNat
  have htl : ((thR k.toNat).take i).length = i := by rw [List.length_take]; omega
  have hsi : i < (thTx k.toNat).1.length → ((thTx k.toNat).1.getD ((i : Nat) : Int).toNat ByteArray.empty).size ≤ 60 := hsz.2 i
  repeat' (first | refine red ?_ | refine redf fun hbi => ?_ | refine reds ?_ | refine redc fun r => ?_ | refine redp (fun r => ?_) (fun r => ?_) | refine redv fun sv => ?_ | refine redn fun b => ?_ | refine redz fun zs => ?_ | refine redq (fun hc => ?_) (fun hc => ?_) | with_reducible refine wq_blk_o rfl ?_ | (refine redd fun p cs as_ hcs has hf => ?_; simp only [Un.cells, Un.atoms, Un.fact, List.cons_append, List.nil_append] at hcs has hf; subst hcs has) | (refine redi (fun hc => ?_) (fun hc => ?_) <;> try first | (exfalso; omega) | with_reducible first | exact absurd rfl hc | exact absurd hc Bool.false_ne_true | exact absurd hc Bool.false_ne_true.symm) | fail)
  · rw [show (thR k.toNat).take i ++ [((prR [2, 1, 0] ((thTx k.toNat).1.getD ((i : Nat) : Int).toNat ByteArray.empty)).1, (prR [2, 1, 0] ((thTx k.toNat).1.getD ((i : Nat) : Int).toNat ByteArray.empty)).2)] = (thR k.toNat).take (i + 1) from thR_take k.toNat (by omega)]
    exact wq_next (i + 1, sv) (by simp only; omega) (by simp only; omega) (by kernel_rfl) ent_e
  · refine ⟨(_, _), rfl, ?_⟩
    rw [List.take_of_length_le (by omega)]
    exact ent_e
instance theorySystem_ctr {Γ : List Atom} {k m : Int} [hg : HasRd (GI) repGI Γ [mxV] (GI.mk m)] :
    CtrC Tryd.prog 32 [.int .i64 k] Γ (0 ≤ k ∧ k < 7) (Value × Value) (fun q : Value × Value => .tuple #[.agg #[q.1, q.2], .int .i64 (thTx k.toNat).2]) (fun q => .ow [q.1] ([2, 1, 0] : List Int) :: .ow [q.2] (thR k.toNat) :: Γ) := ⟨fun s w0 => theorySystem_spec s⟩

theorem impl_TheoryRules_spec {w0 : World} {Γ : List Atom} {k m : Int} [hg : HasRd (GI) repGI Γ [mxV] (GI.mk m)] :
    CJ Tryd.prog 13 [.int .i64 k] w0 Γ (fun q : Value × Value => .agg #[q.1, q.2]) (fun q => .ow [q.1] (if 0 ≤ k ∧ k < 7 then ([2, 1, 0] : List Int) else []) :: .ow [q.2] (if 0 ≤ k ∧ k < 7 then thR k.toNat else []) :: Γ) := by
  refine cj_lift (R := [.rd [mxV] (GI.mk m)]) (A := fun q : Value × Value => [.ow [q.1] (if 0 ≤ k ∧ k < 7 then ([2, 1, 0] : List Int) else []), .ow [q.2] (if 0 ≤ k ∧ k < 7 then thR k.toNat else [])]) (fun w1 => ?_) (reads_cons hg (inferInstance)) (fun _ => inferInstance)
  simp only [List.cons_append, List.nil_append]
  refine cj_enter Tryd.func13 Tryd.ntmps13 ?_
  repeat' (first | refine red ?_ | refine redf fun hbi => ?_ | refine reds ?_ | refine redc fun r => ?_ | refine redp (fun r => ?_) (fun r => ?_) | refine redv fun sv => ?_ | refine redn fun b => ?_ | refine redz fun zs => ?_ | refine redq (fun hc => ?_) (fun hc => ?_) | with_reducible refine wq_blk_o rfl ?_ | (refine redi (fun hc => ?_) (fun hc => ?_) <;> try first | (exfalso; omega) | with_reducible first | exact absurd rfl hc | exact absurd hc Bool.false_ne_true | exact absurd hc Bool.false_ne_true.symm) | fail)
  · refine ⟨(.slice none 0 0, .slice none 0 0), rfl, ?_⟩
    rw [if_neg hc, if_neg hc]
    exact ent_e
  · refine ⟨(_, _), rfl, ?_⟩
    rw [if_pos hc, if_pos hc]
    exact ent_e
instance impl_TheoryRules_ctr {Γ : List Atom} {k m : Int} [hg : HasRd (GI) repGI Γ [mxV] (GI.mk m)] :
    CtrC Tryd.prog 13 [.int .i64 k] Γ (True) (Value × Value) (fun q : Value × Value => .agg #[q.1, q.2]) (fun q => .ow [q.1] (if 0 ≤ k ∧ k < 7 then ([2, 1, 0] : List Int) else []) :: .ow [q.2] (if 0 ≤ k ∧ k < 7 then thR k.toNat else []) :: Γ) := ⟨fun s w0 => impl_TheoryRules_spec⟩

theorem impl_TheoryEqs_spec {w0 : World} {Γ : List Atom} {k m : Int} [hg : HasRd (GI) repGI Γ [mxV] (GI.mk m)] :
    CJ Tryd.prog 8 [.int .i64 k] w0 Γ (fun q : Value => q) (fun q => .ow [q] (if 0 ≤ k ∧ k < 7 then ((thR k.toNat).take (thTx k.toNat).2 : List SRule) else []) :: Γ) := by
  have hrl := thR_len k.toNat
  have hel := thTx_eq k.toNat
  refine cj_lift (R := [.rd [mxV] (GI.mk m)]) (A := fun q : Value => [.ow [q] (if 0 ≤ k ∧ k < 7 then ((thR k.toNat).take (thTx k.toNat).2 : List SRule) else [])]) (fun w1 => ?_) (reads_cons hg (inferInstance)) (fun _ => inferInstance)
  simp only [List.cons_append, List.nil_append]
  refine cj_enter Tryd.func8 Tryd.ntmps8 ?_
  repeat' (first | refine red ?_ | refine redf fun hbi => ?_ | refine reds ?_ | refine redc fun r => ?_ | refine redp (fun r => ?_) (fun r => ?_) | refine redv fun sv => ?_ | refine redn fun b => ?_ | refine redz fun zs => ?_ | refine redq (fun hc => ?_) (fun hc => ?_) | with_reducible refine wq_blk_o rfl ?_ | (refine redd fun p cs as_ hcs has hf => ?_; simp only [Un.cells, Un.atoms, Un.fact, List.cons_append, List.nil_append] at hcs has hf; subst hcs has) | (refine redi (fun hc => ?_) (fun hc => ?_) <;> try first | (exfalso; omega) | with_reducible first | exact absurd rfl hc | exact absurd hc Bool.false_ne_true | exact absurd hc Bool.false_ne_true.symm) | fail)
  · refine ⟨.slice none 0 0, rfl, ?_⟩
    rw [if_neg hc]
    exact ent_e
  rename Value => gv
  refine wc_some gv ?_
  refine wc_nil_ow (α := SEq) (iα := repProd) ?_
  obtain ⟨ys, hys⟩ : ∃ ys : List SRule, ys = (thR k.toNat).take (thTx k.toNat).2 := ⟨_, rfl⟩
  have hyl : ys.length = (thTx k.toNat).2 := by rw [hys, List.length_take]; omega
  have hy10 : ys.length ≤ 10 := by have := (thTx_sz k.toNat).1; omega
  rw [← hys]
  refine wc_loop_p [5, 21] [22, 23, 24, 7, 25, 26, 27, 28, 29, 30, 31, 32, 33] (ι := Nat × Value) (fun i => [i.2, .int .i64 i.1]) (fun i => [.ow [i.2] (ys.take i.1 : List SEq), .ow [gv] (gone ys i.1)]) (fun i => i.1 ≤ ys.length) (fun i => ys.length - i.1) (0, .slice none 0 0) [.ow [.slice none 0 0] ([] : List SEq), .ow [gv] (ys.map some)] (by kernel_rfl) (Nat.zero_le _) rfl ?_
  intro ⟨i, ov⟩ u l' hl' hi
  simp only [patch, List.map_cons, List.map_nil, List.set_cons_zero, List.set_cons_succ] at hl'
  subst hl'
  simp only [List.cons_append, List.nil_append] at hi ⊢
  have htl : (ys.take i).length = i := by rw [List.length_take]; omega
  by_cases hlt : i < ys.length
  · refine wc_takeP gv i (gone_at ys hlt) fun lv rv ho => ?_
    repeat' (first | refine red ?_ | refine redf fun hbi => ?_ | refine reds ?_ | refine redc fun r => ?_ | refine redp (fun r => ?_) (fun r => ?_) | refine redv fun sv => ?_ | refine redn fun b => ?_ | refine redz fun zs => ?_ | refine redq (fun hc => ?_) (fun hc => ?_) | with_reducible refine wq_blk_o rfl ?_ | (refine redd fun p cs as_ hcs has hf => ?_; simp only [Un.cells, Un.atoms, Un.fact, List.cons_append, List.nil_append] at hcs has hf; subst hcs has) | (refine redi (fun hc => ?_) (fun hc => ?_) <;> try first | (exfalso; omega) | with_reducible first | exact absurd rfl hc | exact absurd hc Bool.false_ne_true | exact absurd hc Bool.false_ne_true.symm) | fail)
    refine wq_unfocus gv (none : Option SRule) (own_gone ho) ?_
    rw [gone_set ys hlt, show ys.take i ++ [((ys.getD i default).1, (ys.getD i default).2)] = ys.take (i + 1) from take_more ys hlt]
    exact wq_next (i + 1, sv) (by simp only; omega) (by simp only; omega) (by kernel_rfl) ent_e
  · repeat' (first | refine red ?_ | refine redf fun hbi => ?_ | refine reds ?_ | refine redc fun r => ?_ | refine redp (fun r => ?_) (fun r => ?_) | refine redv fun sv => ?_ | refine redn fun b => ?_ | refine redz fun zs => ?_ | refine redq (fun hc => ?_) (fun hc => ?_) | with_reducible refine wq_blk_o rfl ?_ | (refine redd fun p cs as_ hcs has hf => ?_; simp only [Un.cells, Un.atoms, Un.fact, List.cons_append, List.nil_append] at hcs has hf; subst hcs has) | (refine redi (fun hc => ?_) (fun hc => ?_) <;> try first | (exfalso; omega) | with_reducible first | exact absurd rfl hc | exact absurd hc Bool.false_ne_true | exact absurd hc Bool.false_ne_true.symm) | fail)
    refine ⟨ov, rfl, ?_⟩
    rw [if_pos ‹0 ≤ k ∧ k < 7›, List.take_of_length_le (by omega)]
    exact ent_e
instance impl_TheoryEqs_ctr {Γ : List Atom} {k m : Int} [hg : HasRd (GI) repGI Γ [mxV] (GI.mk m)] :
    CtrC Tryd.prog 8 [.int .i64 k] Γ (True) (Value) (fun q : Value => q) (fun q => .ow [q] (if 0 ≤ k ∧ k < 7 then ((thR k.toNat).take (thTx k.toNat).2 : List SRule) else []) :: Γ) := ⟨fun s w0 => impl_TheoryEqs_spec⟩

end Go.Proofs.YtcaljjkmaffedaaDoor
