/- The automaton of normal forms: shapes, the reference's side. -/
import Derived.Test.YtbbdjjlnachnlaaGreatDoorNrmF
import Derived.Test.YtbbdjjlnachnlaaGreatDoorDraw6
import Derived.Test.YtbbdjjlnachnlaaGreatDoorL02m
namespace Go.Proofs.YtbbdjjlnachnlaaGreatDoor
open Go Go.Eng
set_option linter.unusedVariables false
set_option linter.unusedSimpArgs false
set_option synthInstance.maxHeartbeats 400000
set_option synthInstance.maxSize 1000
set_option maxHeartbeats 2000000
set_option maxRecDepth 20000

theorem rule_left {a : List Int} {r : SRule} (h : ruleOk a r = true) : termOk a r.1 = true ∧ 0 ≤ r.1.getD 0 0 := by
  unfold ruleOk at h
  have := (of_decide_eq_true h).1
  exact ⟨this.1, this.2.2⟩
theorem sys_leftN {x : SSystem} (h : sysOk x = true) {k : Nat} (hk : k < x.2.length) : termOk x.1 (x.2.getD k default).1 = true ∧ 0 ≤ (x.2.getD k default).1.getD 0 0 := rule_left ((sysOk_iff.1 h).2 _ (getD_memD hk))
theorem spec_LeftLinearIn_spec {w0 : World} {Γ : List Atom} {v0 v1 : Value} {x : SSystem} [h0 : HasRd (List Int) repList Γ [v0] x.1] [h1 : HasRd (List SRule) repList Γ [v1] x.2] : CJ Tryz.prog 68 [.agg #[v0, v1]] w0 Γ (fun _ : Unit => .bool (decC (LlP x))) (fun _ => Γ) := by
  refine cj_lift (R := [.rd [v0] x.1, .rd [v1] x.2]) (A := fun _ => []) (fun w1 => ?_) (reads_cons h0 (reads_cons h1 (inferInstance))) (fun _ => inferInstance)
  simp only [List.cons_append, List.nil_append]
  refine cj_len v1 fun hlx => ?_
  have hl := fun (h : sysOk x = true) (k : Nat) (hk : k < x.2.length) => termOk_len (sys_leftN h hk).1
  refine cj_enter Tryz.func68 Tryz.ntmps68 ?_
  repeat' (first | refine red ?_ | (refine redc fun r => ?_; try have hr := Subtype.property r) | refine redn fun b => ?_ | (refine redi (fun hc => ?_) (fun hc => ?_) <;> try first | (exfalso; omega) | with_reducible first | exact absurd rfl hc | exact absurd hc Bool.false_ne_true | exact absurd hc Bool.false_ne_true.symm) | fail)
  · exact ⟨(), ret_bool (decC_f fun h => by rw [h.1] at hc; cases hc), ent_e⟩
  · have hok : sysOk x = true := by assumption
    refine wc_loop_c [3] [7, 8, 9, 10, 11, 14, 15, 16, 17, 18, 19, 20, 21, 2, 12, 13] (ι := Nat) (fun k => [.int .i64 k]) (fun k => k ≤ x.2.length ∧ LinS x.2 k) (fun k => x.2.length - k) 0 (by kernel_rfl) ⟨Nat.zero_le _, fun i hi => by omega⟩ ?_
    intro k u l' hl' ⟨hk, hkk⟩
    simp only [patch, List.map_cons, List.map_nil, List.set_cons_zero, List.set_cons_succ] at hl'
    subst hl'
    have hlk := hl hok k
    repeat' (first | refine red ?_ | refine reds ?_ | (refine redc fun r => ?_; try have hr := Subtype.property r) | (refine redd fun p cs as_ hcs has hf => ?_; simp only [Un.cells, Un.atoms, Un.fact, List.cons_append, List.nil_append] at hcs has hf; subst hcs has) | (refine redi (fun hc => ?_) (fun hc => ?_) <;> try first | (exfalso; omega) | with_reducible first | exact absurd rfl hc | exact absurd hc Bool.false_ne_true | exact absurd hc Bool.false_ne_true.symm) | fail)
    · exact ⟨(), ret_bool (decC_f fun h => hc (h.2 k (by omega))), ent_e⟩
    · exact wq_next (k + 1) ⟨by omega, linS_next hkk hc⟩ (by omega) (by kernel_rfl) ent_e
    · exact ⟨(), ret_bool (decC_t ⟨hok, by rw [show x.2.length = k by omega]; exact hkk⟩), ent_e⟩
instance spec_LeftLinearIn_ctr {Γ : List Atom} {v0 v1 : Value} {x : SSystem} [h0 : HasRd (List Int) repList Γ [v0] x.1] [h1 : HasRd (List SRule) repList Γ [v1] x.2] :
    CtrC Tryz.prog 68 [.agg #[v0, v1]] Γ (True) (Unit) (fun _ : Unit => .bool (decC (LlP x))) (fun _ => Γ) := ⟨fun s w0 => spec_LeftLinearIn_spec⟩

theorem l24Right_spec {w0 : World} {Γ : List Atom} {v0 v1 : Value} {x : SSystem} [h0 : HasRd (List Int) repList Γ [v0] x.1] [h1 : HasRd (List SRule) repList Γ [v1] x.2] : CJ Tryz.prog 32 [.agg #[v0, v1]] w0 Γ (fun _ : Unit => .bool (decC (LlP x))) (fun _ => Γ) := by
  refine cj_lift (R := [.rd [v0] x.1, .rd [v1] x.2]) (A := fun _ => []) (fun w1 => ?_) (reads_cons h0 (reads_cons h1 (inferInstance))) (fun _ => inferInstance)
  simp only [List.cons_append, List.nil_append]
  refine cj_enter Tryz.func32 Tryz.ntmps32 ?_
  repeat' (first | refine red ?_ | (refine redc fun r => ?_; try have hr := Subtype.property r) | refine redn fun b => ?_ | (refine redi (fun hc => ?_) (fun hc => ?_) <;> try first | (exfalso; omega) | with_reducible first | exact absurd rfl hc | exact absurd hc Bool.false_ne_true | exact absurd hc Bool.false_ne_true.symm) | fail)
  · exact ⟨(), rfl, ent_e⟩
  · exact ⟨(), ret_bool (decC_f fun h => by rw [h.1] at hc; cases hc), ent_e⟩
instance l24Right_ctr {Γ : List Atom} {v0 v1 : Value} {x : SSystem} [h0 : HasRd (List Int) repList Γ [v0] x.1] [h1 : HasRd (List SRule) repList Γ [v1] x.2] :
    CtrC Tryz.prog 32 [.agg #[v0, v1]] Γ (True) (Unit) (fun _ : Unit => .bool (decC (LlP x))) (fun _ => Γ) := ⟨fun s w0 => l24Right_spec⟩

theorem impl_leftLinear_spec {w0 : World} {Γ : List Atom} {v1 : Value} {rs : List SRule} [h1 : HasRd (List SRule) repList Γ [v1] rs] : CJ Tryz.prog 78 [v1] w0 Γ (fun _ : Unit => .bool (decC (LinS rs rs.length))) (fun _ => Γ) := by
  refine cj_lift (R := [.rd [v1] rs]) (A := fun _ => []) (fun w1 => ?_) (reads_cons h1 (inferInstance)) (fun _ => inferInstance)
  simp only [List.cons_append, List.nil_append]
  refine cj_len v1 fun hlx => ?_
  refine cj_enter Tryz.func78 Tryz.ntmps78 ?_
  repeat' (first | refine red ?_ | fail)
  refine wc_loop_c [7] [8, 9, 10, 4, 11, 12, 13, 14, 2, 15] (ι := Nat) (fun k => [.int .i64 k]) (fun k => k ≤ rs.length ∧ LinS rs k) (fun k => rs.length - k) 0 (by kernel_rfl) ⟨Nat.zero_le _, fun i hi => by omega⟩ ?_
  intro k u l' hl' ⟨hk, hkk⟩
  simp only [patch, List.map_cons, List.map_nil, List.set_cons_zero, List.set_cons_succ] at hl'
  subst hl'
  repeat' (first | refine red ?_ | refine reds ?_ | (refine redc fun r => ?_; try have hr := Subtype.property r) | refine redn fun b => ?_ | (refine redd fun p cs as_ hcs has hf => ?_; simp only [Un.cells, Un.atoms, Un.fact, List.cons_append, List.nil_append] at hcs has hf; subst hcs has) | (refine redi (fun hc => ?_) (fun hc => ?_) <;> try first | (exfalso; omega) | with_reducible first | exact absurd rfl hc | exact absurd hc Bool.false_ne_true | exact absurd hc Bool.false_ne_true.symm) | fail)
  · exact ⟨(), ret_bool (decC_f fun h => hc (h k (by omega))), ent_e⟩
  · exact wq_next (k + 1) ⟨by omega, linS_next hkk hc⟩ (by omega) (by kernel_rfl) ent_e
  · exact ⟨(), ret_bool (decC_t (by rw [show rs.length = k by omega]; exact hkk)), ent_e⟩
instance impl_leftLinear_ctr {Γ : List Atom} {v1 : Value} {rs : List SRule} [h1 : HasRd (List SRule) repList Γ [v1] rs] :
    CtrC Tryz.prog 78 [v1] Γ (True) (Unit) (fun _ : Unit => .bool (decC (LinS rs rs.length))) (fun _ => Γ) := ⟨fun s w0 => impl_leftLinear_spec⟩

theorem impl_LeftLinearIn_spec {w0 : World} {Γ : List Atom} {v0 v1 : Value} {x : SSystem} [h0 : HasRd (List Int) repList Γ [v0] x.1] [h1 : HasRd (List SRule) repList Γ [v1] x.2] : CJ Tryz.prog 30 [.agg #[v0, v1]] w0 Γ (fun _ : Unit => .bool (decC (LlP x))) (fun _ => Γ) := by
  refine cj_lift (R := [.rd [v0] x.1, .rd [v1] x.2]) (A := fun _ => []) (fun w1 => ?_) (reads_cons h0 (reads_cons h1 (inferInstance))) (fun _ => inferInstance)
  simp only [List.cons_append, List.nil_append]
  refine cj_enter Tryz.func30 Tryz.ntmps30 ?_
  repeat' (first | refine red ?_ | (refine redc fun r => ?_; try have hr := Subtype.property r) | refine redn fun b => ?_ | (refine redi (fun hc => ?_) (fun hc => ?_) <;> try first | (exfalso; omega) | with_reducible first | exact absurd rfl hc | exact absurd hc Bool.false_ne_true | exact absurd hc Bool.false_ne_true.symm) | fail)
  · refine ⟨(), ret_bool ?_, ent_e⟩
    rw [Bool.eq_iff_iff, decC_iff, decC_iff]
    exact ⟨fun h => h.2, fun h => ⟨by assumption, h⟩⟩
  · exact ⟨(), ret_bool (decC_f fun h => by rw [h.1] at hc; cases hc), ent_e⟩
instance impl_LeftLinearIn_ctr {Γ : List Atom} {v0 v1 : Value} {x : SSystem} [h0 : HasRd (List Int) repList Γ [v0] x.1] [h1 : HasRd (List SRule) repList Γ [v1] x.2] :
    CtrC Tryz.prog 30 [.agg #[v0, v1]] Γ (True) (Unit) (fun _ : Unit => .bool (decC (LlP x))) (fun _ => Γ) := ⟨fun s w0 => impl_LeftLinearIn_spec⟩

/-! ### The order of terms; putting one in -/
theorem cmpL_drop {xs ys : List Int} {k : Nat} (h1 : k < xs.length) (h2 : k < ys.length) (h : xs.getD k 0 = ys.getD k 0) : cmpL (xs.drop k) (ys.drop k) = cmpL (xs.drop (k + 1)) (ys.drop (k + 1)) := by
  rw [drop_get h1, drop_get h2, cmpL, if_neg (by omega), if_neg (by omega)]
theorem cmpL_ne {xs ys : List Int} {k : Nat} (h1 : k < xs.length) (h2 : k < ys.length) (h : ¬ xs.getD k 0 = ys.getD k 0) : cmpL (xs.drop k) (ys.drop k) < 0 ↔ xs.getD k 0 < ys.getD k 0 := by
  rw [drop_get h1, drop_get h2, cmpL]
  split
  · simp_all
  · rw [if_pos (by omega)]; constructor <;> intro h <;> omega
theorem LessTermS_spec {w0 : World} {Γ : List Atom} {v v1 : Value} {xs ys : List Int} [h : HasRd (List Int) repList Γ [v] xs] [h1 : HasRd (List Int) repList Γ [v1] ys] : CJ Tryz.prog 143 [v, v1] w0 Γ (fun _ : Unit => .bool (decide (cmpS xs ys < 0))) (fun _ => Γ) := by
  refine cj_lift (R := [.rd [v] xs, .rd [v1] ys]) (A := fun _ => []) (fun w1 => ?_) (reads_cons h (reads_cons h1 (inferInstance))) (fun _ => inferInstance)
  simp only [List.cons_append, List.nil_append]
  refine cj_len v fun hlx => ?_
  refine cj_len v1 fun hly => ?_
  refine cj_enter Tryz.func143 Tryz.ntmps143 ?_
  repeat' (first | refine red ?_ | (refine redi (fun hc => ?_) (fun hc => ?_) <;> try first | (exfalso; omega) | with_reducible first | exact absurd rfl hc | exact absurd hc Bool.false_ne_true | exact absurd hc Bool.false_ne_true.symm) | fail)
  · refine ⟨(), ret_bool ?_, ent_e⟩
    congr 1
    unfold cmpS
    rw [if_pos (by omega), eq_iff_iff]
    omega
  have hxy : xs.length = ys.length := by omega
  have hcs : cmpS xs ys = cmpL xs ys := by unfold cmpS; rw [if_neg (by omega)]
  rw [hcs]
  refine wc_loop_c [5] [16, 17, 18, 19, 22, 23, 24, 25, 26, 27, 28, 29, 30, 31, 32, 33, 34, 35, 36, 37, 38, 39, 4, 20, 21] (ι := Nat) (fun k => [.int .i64 k]) (fun k => k ≤ xs.length ∧ cmpL xs ys = cmpL (xs.drop k) (ys.drop k)) (fun k => xs.length - k) 0 (by kernel_rfl) ⟨Nat.zero_le _, rfl⟩ ?_
  intro k u l' hl' ⟨hk, hkk⟩
  simp only [patch, List.map_cons, List.map_nil, List.set_cons_zero, List.set_cons_succ] at hl'
  subst hl'
  repeat' (first | refine red ?_ | refine reds ?_ | (refine redi (fun hc => ?_) (fun hc => ?_) <;> try first | (exfalso; omega) | with_reducible first | exact absurd rfl hc | exact absurd hc Bool.false_ne_true | exact absurd hc Bool.false_ne_true.symm) | ((refine wa_begin 6 [false, false, false, false, false, false, false, false, false] [] ?_ <;> refine wa_p 0 ?_ <;> refine wa_p 1 ?_ <;> refine wa_p 2 ?_ <;> (first | refine wa_f 3 fun hbi => ?_ | fail) <;> refine wa_p 4 ?_ <;> refine wa_p 5 ?_ <;> refine wa_p 6 ?_ <;> (first | refine wa_f 7 fun hbi => ?_ | fail) <;> (first | refine wa_p 8 ?_ | fail)) <;> (refine wa_end ?_)) | ((refine wa_begin 7 [false, false, false, false, false, false, false, false, false, false] [] ?_ <;> refine wa_p 0 ?_ <;> refine wa_p 1 ?_ <;> refine wa_p 2 ?_ <;> (first | refine wa_f 3 fun hbi => ?_ | fail) <;> refine wa_p 4 ?_ <;> refine wa_p 5 ?_ <;> refine wa_p 6 ?_ <;> (first | refine wa_f 7 fun hbi => ?_ | fail) <;> refine wa_p 8 ?_ <;> refine wa_p 9 ?_) <;> (refine wa_end ?_)) | fail)
  · refine ⟨(), ret_bool ?_, ent_e⟩
    rw [hkk, decide_eq_decide]
    exact cmpL_ne (by omega) (by omega) hc
  · exact wq_next (k + 1) ⟨by omega, by rw [hkk]; exact cmpL_drop (by omega) (by omega) hc⟩ (by omega) (by kernel_rfl) ent_e
  · refine ⟨(), ret_bool ?_, ent_e⟩
    rw [hkk, List.drop_of_length_le (by omega), List.drop_of_length_le (by omega)]
    rfl
instance LessTermS_ctr {Γ : List Atom} {v v1 : Value} {xs ys : List Int} [h : HasRd (List Int) repList Γ [v] xs] [h1 : HasRd (List Int) repList Γ [v1] ys] :
    CtrC Tryz.prog 143 [v, v1] Γ (True) (Unit) (fun _ : Unit => .bool (decide (cmpS xs ys < 0))) (fun _ => Γ) := ⟨fun s w0 => LessTermS_spec⟩

/-- ys is xs with t put in. -/
structure InsS (xs : List (List Int)) (t : List Int) (ys : List (List Int)) : Prop where
  len : ys.length = xs.length + 1
  mem : ∀ y, y ∈ ys ↔ y ∈ xs ∨ y = t
  srt : xs.Pairwise (fun x y => cmpS x y < 0) → t ∉ xs → ys.Pairwise (fun x y => cmpS x y < 0)
theorem ins_at {xs : List (List Int)} {t : List Int} {k : Nat} (hk : k ≤ xs.length) (h1 : ∀ x ∈ xs.drop k, cmpS t x < 0) (h2 : k = 0 ∨ ¬ cmpS t (xs.getD (k - 1) default) < 0) : InsS xs t (xs.take k ++ [t] ++ xs.drop k) := by
  refine ⟨by simp only [List.length_append, List.length_take, List.length_drop, List.length_singleton]; omega, fun y => ?_, fun hs hn => ?_⟩
  · have e : y ∈ xs ↔ y ∈ xs.take k ∨ y ∈ xs.drop k := by conv => lhs; rw [← List.take_append_drop k xs]; rw [List.mem_append]
    rw [e]
    simp only [List.mem_append, List.mem_singleton]
    constructor
    · rintro ((h | h) | h)
      · exact .inl (.inl h)
      · exact .inr h
      · exact .inl (.inr h)
    · rintro ((h | h) | h)
      · exact .inl (.inl h)
      · exact .inr h
      · exact .inl (.inr h)
  · have hlt : ∀ x ∈ xs.take k, cmpS x t < 0 := fun x hx => by
      obtain ⟨i, hi, rfl⟩ := List.getElem_of_mem hx
      rw [List.length_take] at hi
      have hg : (xs.take k)[i]'(by rw [List.length_take]; exact hi) = xs[i]'(by omega) := by simp
      rw [hg]
      rcases h2 with h2 | h2
      · omega
      have hl : xs.getD (k - 1) default = xs[k - 1]'(by omega) := by rw [List.getD_eq_getElem?_getD, List.getElem?_eq_getElem (by omega)]; rfl
      rw [hl] at h2
      have h3 := cmpS_neg t (xs[k - 1]'(by omega))
      have h4 : cmpS (xs[k - 1]'(by omega)) t ≠ 0 := fun e => hn (by rw [← cmpS_eq e]; exact List.getElem_mem _)
      have h5 : cmpS (xs[k - 1]'(by omega)) t < 0 := by omega
      by_cases e : i = k - 1
      · subst e; exact h5
      · exact cmpS_tr _ _ _ (List.pairwise_iff_getElem.1 hs i (k - 1) (by omega) (by omega) (by omega)) h5
    rw [List.pairwise_append, List.pairwise_append]
    refine ⟨⟨hs.sublist (List.take_sublist _ _), List.pairwise_singleton _ _, fun x hx y hy => ?_⟩, hs.sublist (List.drop_sublist _ _), fun x hx y hy => ?_⟩
    · rw [List.mem_singleton] at hy; rw [hy]; exact hlt x hx
    · rcases List.mem_append.1 hx with h | h
      · exact cmpS_tr _ _ _ (hlt x h) (h1 y hy)
      · rw [List.mem_singleton] at h; rw [h]; exact h1 y hy
theorem ent_tordS {w0 : World} {Γ Δ Ε : List Atom} {α : Type} {i : Rep α} {S : Prop} (c : Value) {x : α} [h : ToRd α i Γ c x Δ S] (s : S) (h2 : Ent w0 (@Atom.rd α i [c] x :: Δ) Ε) : Ent w0 Γ Ε := fun w hs => h2 w (h.ent s w0 w hs)
theorem shmk_vS {α : Type} (l : List α) : (l.map Sh.mk).map Sh.v = l := by rw [List.map_map]; exact List.map_id l
theorem drop_all {xs : List (List Int)} {t : List Int} {k : Nat} (hk : k < xs.length) (h : ∀ x ∈ xs.drop (k + 1), cmpS t x < 0) (h1 : cmpS t (xs.getD k default) < 0) : ∀ x ∈ xs.drop k, cmpS t x < 0 := fun x hx => by
  rw [List.drop_eq_getElem_cons hk] at hx
  rcases List.mem_cons.1 hx with e | e
  · rw [e]
    rw [List.getD_eq_getElem?_getD, List.getElem?_eq_getElem hk] at h1
    exact h1
  · exact h x e
theorem l28InsertS_spec {w0 : World} {Γ : List Atom} {v vt : Value} {xs : List (List Int)} {t : List Int} [h : HasIm (List (List Int)) repList Γ [v] xs] [h1 : HasIm (List Int) repList Γ [vt] t] (hl : xs.length ≤ 10000) :
    CJ Tryz.prog 93 [v, vt] w0 Γ (fun q : { q : Value × List (List Int) // InsS xs t q.2 } => q.1.1) (fun q => .rd [q.1.1] q.1.2 :: Γ) := by
  refine cj_enter Tryz.func93 Tryz.ntmps93 ?_
  repeat' (first | refine red ?_ | fail)
  refine wc_loop_c [5] [9, 10, 11, 12, 13, 14, 15, 16, 17, 18, 19, 20, 21] (ι := Nat) (fun k => [.int .i64 k]) (fun k => k ≤ xs.length ∧ ∀ x ∈ xs.drop k, cmpS t x < 0) (fun k => k) xs.length (by kernel_rfl) ⟨Nat.le_refl _, by simp⟩ ?_
  intro k u l' hl' ⟨hk, hkk⟩
  simp only [patch, List.map_cons, List.map_nil, List.set_cons_zero, List.set_cons_succ] at hl'
  subst hl'
  have hml : (List.map Sh.mk (List.take ((k : Nat) : Int).toNat xs)).length ≤ 10000 := by rw [List.length_map, List.length_take]; omega
  have h1t : (List.map Sh.mk [t]).length ≤ 1 := Nat.le_refl _
  repeat' (first | refine red ?_ | refine reds ?_ | (refine redc fun r => ?_; try have hr := Subtype.property r) | refine redv fun sv => ?_ | (refine redd fun p cs as_ hcs has hf => ?_; simp only [Un.cells, Un.atoms, Un.fact, List.cons_append, List.nil_append] at hcs has hf; subst hcs has) | (refine redi (fun hc => ?_) (fun hc => ?_) <;> try first | (exfalso; omega) | with_reducible first | exact absurd rfl hc | exact absurd hc Bool.false_ne_true | exact absurd hc Bool.false_ne_true.symm) | fail)
  · rw [show ((k : Nat) : Int) - 1 = ((k - 1 : Nat) : Int) by omega]
    exact wq_next (k - 1) ⟨by omega, drop_all (by omega) (by rw [show k - 1 + 1 = k by omega]; exact hkk) hc⟩ (by omega) (by kernel_rfl) ent_e
  all_goals
   rename_i s0
   refine wl_toSh s0 ?_
   simp only [List.map_nil]
   repeat' (first | refine red ?_ | refine redv fun sv => ?_ | fail)
   refine ⟨⟨(sv, xs.take k ++ [t] ++ xs.drop k), ins_at hk hkk (by first | exact .inl (by omega) | exact .inr (by omega))⟩, rfl, ?_⟩
   refine ent_tordS (α := List (List Int)) (i := repList) sv True.intro ?_
   simp only [List.nil_append, List.map_append, shmk_vS, Int.toNat_natCast]
   exact ent_e
instance l28InsertS_ctr {Γ : List Atom} {v vt : Value} {xs : List (List Int)} {t : List Int} [h : HasIm (List (List Int)) repList Γ [v] xs] [h1 : HasIm (List Int) repList Γ [vt] t] :
    CtrC Tryz.prog 93 [v, vt] Γ (xs.length ≤ 10000) ({ q : Value × List (List Int) // InsS xs t q.2 }) (fun q : { q : Value × List (List Int) // InsS xs t q.2 } => q.1.1) (fun q => .rd [q.1.1] q.1.2 :: Γ) := ⟨fun s w0 => l28InsertS_spec s⟩

theorem leftsL_len (x : SSystem) : (leftsL x).length = x.2.length := by unfold leftsL; rw [List.length_map]
theorem leftsL_get {x : SSystem} {k : Nat} (hk : k < x.2.length) : (leftsL x).getD k default = (x.2.getD k default).1 := by
  unfold leftsL
  rw [List.getD_eq_getElem?_getD, List.getElem?_map, List.getElem?_eq_getElem hk, List.getD_eq_getElem?_getD, List.getElem?_eq_getElem hk]
  rfl
theorem leftsL_take {x : SSystem} {k : Nat} (hk : k < x.2.length) : (leftsL x).take (k + 1) = (leftsL x).take k ++ [(x.2.getD k default).1] := by
  unfold leftsL
  rw [List.take_succ_eq_append_getElem (by rw [List.length_map]; exact hk), List.getElem_map, List.getD_eq_getElem?_getD, List.getElem?_eq_getElem hk]
  rfl
theorem l24Ls_spec {w0 : World} {Γ : List Atom} {v0 v1 : Value} {x : SSystem} [h0 : HasRd (List Int) repList Γ [v0] x.1] [h1 : HasIm (List SRule) repList Γ [v1] x.2] (hl : x.2.length ≤ 1000) : CJ Tryz.prog 33 [.agg #[v0, v1]] w0 Γ (fun q : Value => q) (fun q => .rd [q] (leftsL x) :: Γ) := by
  refine cj_enter Tryz.func33 Tryz.ntmps33 ?_
  repeat' (first | refine red ?_ | refine redv fun sv => ?_ | refine redn fun b => ?_ | fail)
  refine wc_ow0 (α := List Int) (β := Sh (List Int)) sv rfl ?_
  refine wc_loop_p [3, 4] [6, 7, 8, 9, 10, 13, 14, 15, 16, 17, 18, 19, 20, 21, 11, 12] (ι := Value × Nat) (fun k => [k.1, .int .i64 k.2]) (fun k => [.ow [k.1] (((leftsL x).take k.2).map Sh.mk)]) (fun k => k.2 ≤ x.2.length) (fun k => x.2.length - k.2) (sv, 0) [.ow [sv] ([] : List (Sh (List Int)))] (by kernel_rfl) (Nat.zero_le _) rfl ?_
  intro ⟨so, k⟩ u l' hl' hk
  simp only [patch, List.map_cons, List.map_nil, List.set_cons_zero, List.set_cons_succ] at hl'
  subst hl'
  simp only [List.cons_append, List.nil_append] at hk ⊢
  have hll := leftsL_len x
  have hle : (((leftsL x).take k).map Sh.mk).length = k := by rw [List.length_map, List.length_take]; omega
  repeat' (first | refine red ?_ | refine reds ?_ | refine redv fun sv => ?_ | (refine redd fun p cs as_ hcs has hf => ?_; simp only [Un.cells, Un.atoms, Un.fact, List.cons_append, List.nil_append] at hcs has hf; subst hcs has) | (refine redi (fun hc => ?_) (fun hc => ?_) <;> try first | (exfalso; omega) | with_reducible first | exact absurd rfl hc | exact absurd hc Bool.false_ne_true | exact absurd hc Bool.false_ne_true.symm) | fail)
  · rw [← List.map_append, ← leftsL_take (by omega)]
    exact wq_next (sv, k + 1) (by simp only; omega) (by simp only; omega) (by kernel_rfl) ent_e
  · rw [List.take_of_length_le (by omega)]
    exact ⟨so, rfl, ent_unsh (ys := leftsL x) so ent_e⟩
instance l24Ls_ctr {Γ : List Atom} {v0 v1 : Value} {x : SSystem} [h0 : HasRd (List Int) repList Γ [v0] x.1] [h1 : HasIm (List SRule) repList Γ [v1] x.2] :
    CtrC Tryz.prog 33 [.agg #[v0, v1]] Γ (x.2.length ≤ 1000) (Value) (fun q : Value => q) (fun q => .rd [q] (leftsL x) :: Γ) := ⟨fun s w0 => l24Ls_spec s⟩

theorem l24Syms_spec {w0 : World} {Γ : List Atom} {v : Value} {a : List Int} [h0 : HasRd (List Int) repList Γ [v] a] (hl : a.length ≤ 1000) : CJ Tryz.prog 36 [.agg #[v]] w0 Γ (fun q : Value => q) (fun q => .ow [q] (upTo a.length) :: Γ) := by
  refine cj_lift (R := [.rd [v] a]) (A := fun q : Value => [.ow [q] (upTo a.length)]) (fun w1 => ?_) (reads_cons h0 (inferInstance)) (fun _ => inferInstance)
  simp only [List.cons_append, List.nil_append]
  refine cj_enter Tryz.func36 Tryz.ntmps36 ?_
  repeat' (first | refine red ?_ | refine redv fun sv => ?_ | refine redn fun b => ?_ | fail)
  refine wc_loop_p [3, 4] [6, 7, 8, 9, 10, 13, 14, 15, 16, 11, 12] (ι := Value × Nat) (fun k => [k.1, .int .i64 k.2]) (fun k => [.ow [k.1] (upTo k.2)]) (fun k => k.2 ≤ a.length) (fun k => a.length - k.2) (sv, 0) [.ow [sv] ([] : List Int)] (by kernel_rfl) (Nat.zero_le _) rfl ?_
  intro ⟨so, k⟩ u l' hl' hk
  simp only [patch, List.map_cons, List.map_nil, List.set_cons_zero, List.set_cons_succ] at hl'
  subst hl'
  simp only [List.cons_append, List.nil_append] at hk ⊢
  have hle := upTo_len k
  repeat' (first | refine red ?_ | refine reds ?_ | refine redv fun sv => ?_ | (refine redi (fun hc => ?_) (fun hc => ?_) <;> try first | (exfalso; omega) | with_reducible first | exact absurd rfl hc | exact absurd hc Bool.false_ne_true | exact absurd hc Bool.false_ne_true.symm) | fail)
  · rw [← upTo_succ]
    exact wq_next (sv, k + 1) (by simp only; omega) (by simp only; omega) (by kernel_rfl) ent_e
  · rw [show a.length = k by omega]
    exact ⟨so, rfl, ent_e⟩
instance l24Syms_ctr {Γ : List Atom} {v : Value} {a : List Int} [h0 : HasRd (List Int) repList Γ [v] a] :
    CtrC Tryz.prog 36 [.agg #[v]] Γ (a.length ≤ 1000) (Value) (fun q : Value => q) (fun q => .ow [q] (upTo a.length) :: Γ) := ⟨fun s w0 => l24Syms_spec s⟩

structure FitC (a : List Int) (p : List Int) (f : Int) (sets : List (List Int)) : Prop where
  ok : termOk a p = true
  ar : p.getD 0 0 = f → arK a p 0 ≤ sets.length
theorem FitC.len {a p : List Int} {f : Int} {sets : List (List Int)} (h : FitC a p f sets) : 1 ≤ p.length ∧ p.length ≤ 60 := termOk_len h.ok
theorem l24Fits_spec {w0 : World} {Γ : List Atom} {v vh vp vs : Value} {a p : List Int} {sh sets : List (List Int)} {f : Int} [h0 : HasRd (List Int) repList Γ [v] a] [h1 : HasRd (List (List Int)) repList Γ [vh] sh] [h2 : HasIm (List Int) repList Γ [vp] p] [h3 : HasIm (List (List Int)) repList Γ [vs] sets] (hs : FitC a p f sets) : CJ Tryz.prog 140 [.agg #[v], vh, vp, .int .i64 f, vs] w0 Γ (fun _ : Unit => .bool (decC (FitN a sh p f sets))) (fun _ => Γ) := by
  have hpl := hs.len
  have hok := hs.ok
  have h1l := fun (i : Nat) (hi : i < arK a p 0) => kid_lt hok (k := 0) (by omega) hi
  have h2l := fun (i : Nat) (hi : i < arK a p 0) => kidT_ok hok hi
  refine cj_enter Tryz.func140 Tryz.ntmps140 ?_
  repeat' (first | refine red ?_ | refine redf fun hbi => ?_ | refine reds ?_ | (refine redc fun r => ?_; try have hr := Subtype.property r) | refine redn fun b => ?_ | (refine redi (fun hc => ?_) (fun hc => ?_) <;> try first | (exfalso; omega) | with_reducible first | exact absurd rfl hc | exact absurd hc Bool.false_ne_true | exact absurd hc Bool.false_ne_true.symm) | fail)
  · exact ⟨(), ret_bool (decC_f fun h => hc h.1), ent_e⟩
  have hcf := hc
  have har := hs.ar hc
  have hak := (arK_le hok (k := 0) (by omega)).1
  have hkll := kidL_len a p 0 (arK a p 0)
  refine wc_loop_c [12] [22, 23, 24, 25, 28, 29, 30, 31, 32, 33, 34, 35, 13, 36, 37, 38, 39, 40, 41, 42, 43, 44, 45, 46, 47, 48, 49, 50, 10, 26, 27] (ι := Nat) (fun k => [.int .i64 k]) (fun k => k ≤ arK a p 0 ∧ ∀ i, i < k → FitK a sh p sets i) (fun k => arK a p 0 - k) 0 (by kernel_rfl) ⟨Nat.zero_le _, fun i hi => by omega⟩ ?_
  intro k u l' hl' ⟨hk, hkk⟩
  simp only [patch, List.map_cons, List.map_nil, List.set_cons_zero, List.set_cons_succ] at hl'
  subst hl'
  by_cases hka : k < arK a p 0
  · have hkg : (kidL a p 0 (arK a p 0)).getD k 0 = ((kidN a p 1 k : Nat) : Int) := kidL_get hka
    have hkl := h1l k hka
    rw [Nat.zero_add] at hkl
    have hkt := h2l k hka
    have hkt2 := termOk_len hkt.1
    have hrl := renOf_len2 (subt a p (kidN a p 1 k))
    have hsl : (subt a p (kidN a p 1 k)).length = (kidT a p k).length := rfl
    haveI : ToN ((kidL a p 0 (arK a p 0)).getD k 0) (kidN a p 1 k) := ⟨by omega⟩
    repeat' (first | refine red ?_ | (refine redi (fun hc => ?_) (fun hc => ?_) <;> try first | (exfalso; omega) | with_reducible first | exact absurd rfl hc | exact absurd hc Bool.false_ne_true | exact absurd hc Bool.false_ne_true.symm) | ((refine wa_begin 7 [false, false, false, false, false, false, false, false, false] [] ?_ <;> refine wa_p 0 ?_ <;> refine wa_p 1 ?_ <;> refine wa_p 2 ?_ <;> refine wa_p 3 ?_ <;> refine wa_p 4 ?_ <;> (first | refine wa_f 5 fun hbi => ?_ | fail) <;> (refine wa_do 6 ?_ <;> (repeat' (first | refine red ?_ | (refine redc fun r => ?_; try have hr := Subtype.property r) | fail))) <;> (refine wa_do 7 ?_ <;> (repeat' (first | refine red ?_ | (refine redc fun r => ?_; try have hr := Subtype.property r) | fail))) <;> refine wa_p 8 ?_) <;> (refine wa_end ?_)) | fail)
    have hsz1 : Rep.sz (List Int) = 1 := rfl
    refine wc_peek vs ((k : Nat) : Int) (by omega) fun q hq => ?_
    simp only [Un.cells, Un.atoms, Un.fact, List.cons_append, List.nil_append, Int.toNat_natCast, hsz1] at hq ⊢
    all_goals (repeat' (first | refine red ?_ | refine reds ?_ | (refine redi (fun hc => ?_) (fun hc => ?_) <;> try first | (exfalso; omega) | with_reducible first | exact absurd rfl hc | exact absurd hc Bool.false_ne_true | exact absurd hc Bool.false_ne_true.symm) | ((refine wa_begin 8 [false, false, false, false, false, false, false, false, false, false, false, false, false, false, false] [] ?_ <;> refine wa_p 0 ?_ <;> refine wa_p 1 ?_ <;> (first | refine wa_f 2 fun hbi => ?_ | fail) <;> refine wa_p 3 ?_ <;> refine wa_p 4 ?_ <;> (first | (refine wa_if 40 (fun hc => ?_) (fun hc => ?_) <;> (try first | (exfalso; omega) | with_reducible first | exact absurd rfl hc | exact absurd hc Bool.false_ne_true | exact absurd hc Bool.false_ne_true.symm) <;> first | refine wa_pg 5 ?_ | refine wa_no 5 ?_) | fail) <;> (first | refine wa_pg 6 ?_ | refine wa_no 6 ?_ | fail) <;> (first | refine wa_pg 7 ?_ | refine wa_no 7 ?_ | fail) <;> (first | refine wa_pg 8 ?_ | refine wa_no 8 ?_ | fail) <;> (first | refine wa_pg 9 ?_ | refine wa_no 9 ?_ | fail) <;> (first | refine wa_pg 10 ?_ | refine wa_no 10 ?_ | fail) <;> (refine wa_do 11 ?_ <;> (repeat' (first | refine red ?_ | (refine redc fun r => ?_; try have hr := Subtype.property r) | fail))) <;> (refine wa_do 12 ?_ <;> (repeat' (first | refine red ?_ | (refine redc fun r => ?_; try have hr := Subtype.property r) | fail))) <;> (first | refine wa_pg 13 ?_ | refine wa_no 13 ?_ | fail) <;> (first | refine wa_p 14 ?_ | fail)) <;> (refine wa_end ?_)) | fail))
    · exact ⟨(), ret_bool (decC_f fun h => (h.2 k hka).elim (fun h1 => absurd (show (renOf (subt a p (kidN a p 1 k))).getD 0 0 < 0 from h1) (by omega)) hc), ent_e⟩
    · exact wq_next (k + 1) ⟨by omega, fun i hi => if e : i = k then by rw [e]; exact .inr hc else hkk i (by omega)⟩ (by omega) (by kernel_rfl) ent_e
    · exact wq_next (k + 1) ⟨by omega, fun i hi => if e : i = k then by rw [e]; exact .inl hc else hkk i (by omega)⟩ (by omega) (by kernel_rfl) ent_e
  · repeat' (first | refine red ?_ | (refine redi (fun hc => ?_) (fun hc => ?_) <;> try first | (exfalso; omega) | with_reducible first | exact absurd rfl hc | exact absurd hc Bool.false_ne_true | exact absurd hc Bool.false_ne_true.symm) | fail)
    exact ⟨(), ret_bool (decC_t ⟨hcf, fun i hi => hkk i (by omega)⟩), ent_e⟩
instance l24Fits_ctr {Γ : List Atom} {v vh vp vs : Value} {a p : List Int} {sh sets : List (List Int)} {f : Int} [h0 : HasRd (List Int) repList Γ [v] a] [h1 : HasRd (List (List Int)) repList Γ [vh] sh] [h2 : HasIm (List Int) repList Γ [vp] p] [h3 : HasIm (List (List Int)) repList Γ [vs] sets] :
    CtrC Tryz.prog 140 [.agg #[v], vh, vp, .int .i64 f, vs] Γ (FitC a p f sets) (Unit) (fun _ : Unit => .bool (decC (FitN a sh p f sets))) (fun _ => Γ) := ⟨fun s w0 => l24Fits_spec s⟩

theorem selN_yes {f : Nat → Bool} {n : Nat} (h : f n = true) : selN f (n + 1) = selN f n ++ [(n : Int)] := by
  show selN f n ++ (if f n = true then [(n : Int)] else []) = _
  rw [if_pos h]
theorem selN_no {f : Nat → Bool} {n : Nat} (h : f n = false) : selN f (n + 1) = selN f n := by
  show selN f n ++ (if f n = true then [(n : Int)] else []) = _
  rw [if_neg (by rw [h]; decide), List.append_nil]
/-- All of these fit to be asked. -/
structure FitA (a : List Int) (ps : List (List Int)) (f : Int) (sets : List (List Int)) : Prop where
  all : ∀ k, k < ps.length → FitC a (ps.getD k default) f sets
  len : ps.length ≤ 10000
theorem l24Comes_spec {w0 : World} {Γ : List Atom} {v vh vs : Value} {a : List Int} {sh sets : List (List Int)} {f : Int} [h0 : HasRd (List Int) repList Γ [v] a] [h1 : HasIm (List (List Int)) repList Γ [vh] sh] [h3 : HasIm (List (List Int)) repList Γ [vs] sets] (hs : FitA a sh f sets) : CJ Tryz.prog 90 [.agg #[v], vh, .int .i64 f, vs] w0 Γ (fun q : Value => q) (fun q => .ow [q] (comesN a sh f sets) :: Γ) := by
  have hsl := hs.len
  have hsa := hs.all
  refine cj_enter Tryz.func90 Tryz.ntmps90 ?_
  repeat' (first | refine red ?_ | refine redv fun sv => ?_ | refine redn fun b => ?_ | fail)
  refine wc_loop_p [9, 10] [12, 13, 14, 15, 18, 19, 20, 21, 22, 23, 24, 25, 26, 27, 28, 29, 30, 16, 17] (ι := Value × Nat) (fun k => [k.1, .int .i64 k.2]) (fun k => [.ow [k.1] (selN (fun i => decC (FitN a sh (sh.getD i default) f sets)) k.2)]) (fun k => k.2 ≤ sh.length) (fun k => sh.length - k.2) (sv, 0) [.ow [sv] ([] : List Int)] (by kernel_rfl) (Nat.zero_le _) rfl ?_
  intro ⟨so, k⟩ u l' hl' hk
  simp only [patch, List.map_cons, List.map_nil, List.set_cons_zero, List.set_cons_succ] at hl'
  subst hl'
  simp only [List.cons_append, List.nil_append] at hk ⊢
  have hle := selN_len (fun i => decC (FitN a sh (sh.getD i default) f sets)) k
  by_cases hkl : k < sh.length
  · have hak := hsa k hkl
    repeat' (first | refine red ?_ | refine reds ?_ | refine redv fun sv => ?_ | (refine redi (fun hc => ?_) (fun hc => ?_) <;> try first | (exfalso; omega) | with_reducible first | exact absurd rfl hc | exact absurd hc Bool.false_ne_true | exact absurd hc Bool.false_ne_true.symm) | ((refine wa_begin 5 [false, false, false, false, false, false, false, false, false] [] ?_ <;> refine wa_p 0 ?_ <;> refine wa_p 1 ?_ <;> refine wa_p 2 ?_ <;> refine wa_p 3 ?_ <;> (first | (refine wa_deep 4 fun p cs as_ asb_ hcs has hasb hf => ?_; simp only [Un.cells, Un.atoms, Un.fact, List.cons_append, List.nil_append] at hcs has hasb hf; subst hcs has hasb) | fail) <;> (first | refine wa_p 5 ?_ | fail) <;> refine wa_p 6 ?_ <;> refine wa_p 7 ?_ <;> (refine wa_do 8 ?_ <;> (repeat' (first | refine red ?_ | (refine redc fun r => ?_; try have hr := Subtype.property r) | fail)))) <;> (refine wa_end ?_)) | fail)
    · rw [← selN_yes (f := fun i => decC (FitN a sh (sh.getD i default) f sets)) (decC_t hc)]
      exact wq_next (sv, k + 1) (by simp only; omega) (by simp only; omega) (by kernel_rfl) ent_e
    · refine wq_next (so, k + 1) (by simp only; omega) (by simp only; omega) (by kernel_rfl) ?_
      simp only [selN_no (f := fun i => decC (FitN a sh (sh.getD i default) f sets)) (decC_f hc)]
      exact ent_e
  · rw [show k = sh.length by omega]
    repeat' (first | refine red ?_ | (refine redi (fun hc => ?_) (fun hc => ?_) <;> try first | (exfalso; omega) | with_reducible first | exact absurd rfl hc | exact absurd hc Bool.false_ne_true | exact absurd hc Bool.false_ne_true.symm) | fail)
    exact ⟨so, rfl, by unfold comesN; exact ent_e⟩
instance l24Comes_ctr {Γ : List Atom} {v vh vs : Value} {a : List Int} {sh sets : List (List Int)} {f : Int} [h0 : HasRd (List Int) repList Γ [v] a] [h1 : HasIm (List (List Int)) repList Γ [vh] sh] [h3 : HasIm (List (List Int)) repList Γ [vs] sets] :
    CtrC Tryz.prog 90 [.agg #[v], vh, .int .i64 f, vs] Γ (FitA a sh f sets) (Value) (fun q : Value => q) (fun q => .ow [q] (comesN a sh f sets) :: Γ) := ⟨fun s w0 => l24Comes_spec s⟩

theorem l24Shut_spec {w0 : World} {Γ : List Atom} {v vh vl vs : Value} {a : List Int} {sh ls sets : List (List Int)} {f : Int} [h0 : HasRd (List Int) repList Γ [v] a] [h1 : HasRd (List (List Int)) repList Γ [vh] sh] [h2 : HasIm (List (List Int)) repList Γ [vl] ls] [h3 : HasIm (List (List Int)) repList Γ [vs] sets] (hs : FitA a ls f sets) : CJ Tryz.prog 87 [.agg #[v], vh, vl, .int .i64 f, vs] w0 Γ (fun _ : Unit => .bool (decC (ShutN a sh ls f sets ls.length))) (fun _ => Γ) := by
  have hsl := hs.len
  have hsa := hs.all
  refine cj_enter Tryz.func87 Tryz.ntmps87 ?_
  repeat' (first | refine red ?_ | refine redn fun b => ?_ | fail)
  refine wc_loop_c [11] [12, 13, 14, 15, 18, 19, 20, 21, 22, 23, 24, 25, 26, 10, 16, 17] (ι := Nat) (fun k => [.int .i64 k]) (fun k => k ≤ ls.length ∧ ¬ ShutN a sh ls f sets k) (fun k => ls.length - k) 0 (by kernel_rfl) ⟨Nat.zero_le _, fun ⟨i, hi, _⟩ => by omega⟩ ?_
  intro k u l' hl' ⟨hk, hkk⟩
  simp only [patch, List.map_cons, List.map_nil, List.set_cons_zero, List.set_cons_succ] at hl'
  subst hl'
  by_cases hkl : k < ls.length
  · have hak := hsa k hkl
    repeat' (first | refine red ?_ | refine reds ?_ | (refine redi (fun hc => ?_) (fun hc => ?_) <;> try first | (exfalso; omega) | with_reducible first | exact absurd rfl hc | exact absurd hc Bool.false_ne_true | exact absurd hc Bool.false_ne_true.symm) | ((refine wa_begin 4 [false, false, false, false, false, false, false, false, false] [] ?_ <;> refine wa_p 0 ?_ <;> refine wa_p 1 ?_ <;> refine wa_p 2 ?_ <;> refine wa_p 3 ?_ <;> (first | (refine wa_deep 4 fun p cs as_ asb_ hcs has hasb hf => ?_; simp only [Un.cells, Un.atoms, Un.fact, List.cons_append, List.nil_append] at hcs has hasb hf; subst hcs has hasb) | fail) <;> (first | refine wa_p 5 ?_ | fail) <;> refine wa_p 6 ?_ <;> refine wa_p 7 ?_ <;> (refine wa_do 8 ?_ <;> (repeat' (first | refine red ?_ | (refine redc fun r => ?_; try have hr := Subtype.property r) | fail)))) <;> (refine wa_end ?_)) | fail)
    · exact ⟨(), ret_bool (decC_t ⟨k, hkl, hc⟩), ent_e⟩
    · refine wq_next (k + 1) ⟨by omega, fun ⟨i, hi, h⟩ => ?_⟩ (by omega) (by kernel_rfl) ent_e
      by_cases e : i = k
      · rw [e] at h; exact hc h
      · exact hkk ⟨i, by omega, h⟩
  · rw [show k = ls.length by omega] at hkk ⊢
    repeat' (first | refine red ?_ | (refine redi (fun hc => ?_) (fun hc => ?_) <;> try first | (exfalso; omega) | with_reducible first | exact absurd rfl hc | exact absurd hc Bool.false_ne_true | exact absurd hc Bool.false_ne_true.symm) | fail)
    exact ⟨(), ret_bool (decC_f hkk), ent_e⟩
instance l24Shut_ctr {Γ : List Atom} {v vh vl vs : Value} {a : List Int} {sh ls sets : List (List Int)} {f : Int} [h0 : HasRd (List Int) repList Γ [v] a] [h1 : HasRd (List (List Int)) repList Γ [vh] sh] [h2 : HasIm (List (List Int)) repList Γ [vl] ls] [h3 : HasIm (List (List Int)) repList Γ [vs] sets] :
    CtrC Tryz.prog 87 [.agg #[v], vh, vl, .int .i64 f, vs] Γ (FitA a ls f sets) (Unit) (fun _ : Unit => .bool (decC (ShutN a sh ls f sets ls.length))) (fun _ => Γ) := ⟨fun s w0 => l24Shut_spec s⟩

/-! ### The shapes -/
/-- A shape that the first left sides have, or the next one before a place. -/
def IsShK (a : List Int) (ls : List (List Int)) (i at_ : Nat) (s : List Int) : Prop := (∃ j, j < i ∧ ∃ k, 1 ≤ k ∧ k < (ls.getD j default).length ∧ 0 ≤ (ls.getD j default).getD k 0 ∧ s = renOf (subt a (ls.getD j default) k)) ∨ ∃ k, 1 ≤ k ∧ k < at_ ∧ k < (ls.getD i default).length ∧ 0 ≤ (ls.getD i default).getD k 0 ∧ s = renOf (subt a (ls.getD i default) k)
structure ShK (a : List Int) (ls : List (List Int)) (i at_ : Nat) (ys : List (List Int)) : Prop where
  srt : ys.Pairwise (fun x y => cmpS x y < 0)
  mem : ∀ s, s ∈ ys ↔ IsShK a ls i at_ s
  len : ys.length ≤ 60 * i + at_
theorem shK_zero {a : List Int} {ls : List (List Int)} : ShK a ls 0 1 [] := by
  refine ⟨List.Pairwise.nil, fun s => ⟨fun h => absurd h (List.not_mem_nil), fun h => ?_⟩, by simp⟩
  rcases h with ⟨j, hj, _⟩ | ⟨k, h1, h2, _⟩ <;> omega
theorem shK_row {a : List Int} {ls ys : List (List Int)} {i at_ : Nat} (h : ShK a ls i at_ ys) (h60 : at_ ≤ 60) (hat : (ls.getD i default).length ≤ at_) : ShK a ls (i + 1) 1 ys := ⟨h.srt, fun s => (h.mem s).trans (by
  constructor
  · rintro (⟨j, hj, h1⟩ | ⟨k, h1, h2, h3⟩)
    · exact .inl ⟨j, by omega, h1⟩
    · exact .inl ⟨i, by omega, k, h1, h3⟩
  · rintro (⟨j, hj, h1⟩ | ⟨k, h1, h2, h3⟩)
    · by_cases e : j = i
      · subst e
        obtain ⟨k, h2, h3, h4⟩ := h1
        exact .inr ⟨k, h2, by omega, h3, h4⟩
      · exact .inl ⟨j, by omega, h1⟩
    · omega), by have := h.len; omega⟩
theorem isShK_next {a : List Int} {ls : List (List Int)} {i at_ : Nat} {s : List Int} (h1 : 1 ≤ at_) (h2 : at_ < (ls.getD i default).length) : IsShK a ls i (at_ + 1) s ↔ IsShK a ls i at_ s ∨ (0 ≤ (ls.getD i default).getD at_ 0 ∧ s = renOf (subt a (ls.getD i default) at_)) := by
  constructor
  · rintro (h | ⟨k, h3, h4, h5⟩)
    · exact .inl (.inl h)
    · by_cases e : k = at_
      · subst e; exact .inr h5.2
      · exact .inl (.inr ⟨k, h3, by omega, h5⟩)
  · rintro ((h | ⟨k, h3, h4, h5⟩) | h)
    · exact .inl h
    · exact .inr ⟨k, h3, by omega, h5⟩
    · exact .inr ⟨at_, h1, by omega, h2, h⟩
theorem shK_old {a : List Int} {ls ys : List (List Int)} {i at_ : Nat} (h : ShK a ls i at_ ys) (h1 : 1 ≤ at_) (h2 : at_ < (ls.getD i default).length) (hn : 0 ≤ (ls.getD i default).getD at_ 0 → renOf (subt a (ls.getD i default) at_) ∈ ys) : ShK a ls i (at_ + 1) ys := ⟨h.srt, fun s => by
  rw [isShK_next h1 h2, h.mem s]
  constructor
  · exact .inl
  · rintro (h3 | ⟨h3, h4⟩)
    · exact h3
    · rw [h4]; exact (h.mem _).1 (hn h3), by have := h.len; omega⟩
theorem shK_new {a : List Int} {ls ys zs : List (List Int)} {i at_ : Nat} (h : ShK a ls i at_ ys) (h1 : 1 ≤ at_) (h2 : at_ < (ls.getD i default).length) (h0 : 0 ≤ (ls.getD i default).getD at_ 0) (hn : renOf (subt a (ls.getD i default) at_) ∉ ys) (hi : InsS ys (renOf (subt a (ls.getD i default) at_)) zs) : ShK a ls i (at_ + 1) zs := ⟨hi.srt h.srt hn, fun s => by
  rw [isShK_next h1 h2, hi.mem s, h.mem s]
  constructor
  · rintro (h3 | h3)
    · exact .inl h3
    · exact .inr ⟨h0, h3⟩
  · rintro (h3 | ⟨_, h3⟩)
    · exact .inl h3
    · exact .inr h3, by have := h.len; have := hi.len; omega⟩
theorem shK_end {a : List Int} {ls ys : List (List Int)} (h : ShK a ls ls.length 1 ys) : ShpL a ls ys := ⟨h.srt, fun s => (h.mem s).trans (by
  constructor
  · rintro (⟨j, hj, k, h1, h2, h3⟩ | ⟨k, h1, h2, h3⟩)
    · exact ⟨_, getD_memD hj, k, h1, h2, h3⟩
    · omega
  · rintro ⟨l, hl, k, h1, h2, h3⟩
    obtain ⟨j, hj, rfl⟩ := List.getElem_of_mem hl
    refine .inl ⟨j, hj, k, ?_⟩
    rw [show ls.getD j default = ls[j] by rw [List.getD_eq_getElem?_getD, List.getElem?_eq_getElem hj]; rfl]
    exact ⟨h1, h2, h3⟩)⟩
structure LsC (a : List Int) (ls : List (List Int)) : Prop where
  ok : ∀ k, k < ls.length → termOk a (ls.getD k default) = true
  len : ls.length ≤ 12
/-- The shapes are there, and not too many. -/
structure ShpF (a : List Int) (ls : List (List Int)) : Prop where
  shp : ShpL a ls (shapesOf a ls)
  len : (shapesOf a ls).length ≤ 1000
theorem ins_ex {xs : List (List Int)} {t : List Int} : ∀ k, k ≤ xs.length → (∀ x ∈ xs.drop k, cmpS t x < 0) → ∃ zs, InsS xs t zs
  | 0, hk, h => ⟨_, ins_at hk h (.inl rfl)⟩
  | k + 1, hk, h => by
    by_cases hc : cmpS t (xs.getD k default) < 0
    · exact ins_ex k (by omega) (drop_all (by omega) h hc)
    · exact ⟨_, ins_at hk h (.inr (by rw [Nat.add_sub_cancel]; exact hc))⟩
theorem ins_any (xs : List (List Int)) (t : List Int) : ∃ zs, InsS xs t zs := ins_ex xs.length (Nat.le_refl _) (by simp)
theorem shK_at {a : List Int} {ls ys : List (List Int)} {i : Nat} (h : ShK a ls i 1 ys) : ∀ k, k + 1 ≤ (ls.getD i default).length → ∃ ys, ShK a ls i (k + 1) ys
  | 0, _ => ⟨ys, h⟩
  | k + 1, hk => by
    obtain ⟨ys, hy⟩ := shK_at h k (by omega)
    by_cases h0 : 0 ≤ (ls.getD i default).getD (k + 1) 0
    · by_cases hm : renOf (subt a (ls.getD i default) (k + 1)) ∈ ys
      · exact ⟨ys, shK_old hy (by omega) (by omega) fun _ => hm⟩
      · obtain ⟨zs, hz⟩ := ins_any ys (renOf (subt a (ls.getD i default) (k + 1)))
        exact ⟨zs, shK_new hy (by omega) (by omega) h0 hm hz⟩
    · exact ⟨ys, shK_old hy (by omega) (by omega) fun h => absurd h h0⟩
theorem shK_rows {a : List Int} {ls : List (List Int)} (hs : LsC a ls) : ∀ i, i ≤ ls.length → ∃ ys, ShK a ls i 1 ys
  | 0, _ => ⟨[], shK_zero⟩
  | i + 1, hi => by
    obtain ⟨ys, hy⟩ := shK_rows hs i (by omega)
    have hl := termOk_len (hs.ok i (by omega))
    obtain ⟨zs, hz⟩ := shK_at hy ((ls.getD i default).length - 1) (by omega)
    rw [show (ls.getD i default).length - 1 + 1 = (ls.getD i default).length by omega] at hz
    exact ⟨zs, shK_row hz hl.2 (Nat.le_refl _)⟩
theorem shpF_of {a : List Int} {ls : List (List Int)} (hs : LsC a ls) : ShpF a ls := by
  obtain ⟨ys, hy⟩ := shK_rows hs ls.length (Nat.le_refl _)
  have hsy := shapes_is (shK_end hy)
  have := hy.len
  have := hs.len
  exact ⟨by rw [hsy]; exact shK_end hy, by rw [hsy]; omega⟩
theorem subt_hdN {a t : List Int} (h : termOk a t = true) {k : Nat} (hk : k < t.length) : (subt a t k).getD 0 0 = t.getD k 0 := by
  have h1 := term_at h hk
  unfold subt
  rw [List.getD_eq_getElem?_getD, List.getElem?_take_of_lt (by omega), List.getElem?_drop, List.getD_eq_getElem?_getD, Nat.add_zero]
theorem l24Shapes_spec {w0 : World} {Γ : List Atom} {v vl : Value} {a : List Int} {ls : List (List Int)} [h0 : HasRd (List Int) repList Γ [v] a] [h2 : HasIm (List (List Int)) repList Γ [vl] ls] (hs : LsC a ls) : CJ Tryz.prog 35 [.agg #[v], vl] w0 Γ (fun q : { q : Value // ShpF a ls } => q.1) (fun q => .rd [q.1] (shapesOf a ls) :: Γ) := by
  have hsl := hs.len
  have hsa := hs.ok
  refine cj_enter Tryz.func35 Tryz.ntmps35 ?_
  repeat' (first | refine red ?_ | refine redv fun sv => ?_ | refine redn fun b => ?_ | fail)
  refine wc_share sv ?_
  refine wc_loop_p [5, 6] [10, 11, 12, 13, 7, 16, 17, 18, 19, 20, 21, 22, 25, 26, 27, 28, 29, 30, 31, 32, 8, 33, 34, 35, 36, 37, 38, 39, 40, 41, 42, 43, 44, 45, 23, 24, 14, 15] (ι := Value × List (List Int) × Nat) (fun k => [k.1, .int .i64 k.2.2]) (fun k => [.rd [k.1] k.2.1]) (fun k => k.2.2 ≤ ls.length ∧ ShK a ls k.2.2 1 k.2.1) (fun k => ls.length - k.2.2) (sv, [], 0) [.rd [sv] ([] : List (List Int))] (by kernel_rfl) ⟨Nat.zero_le _, shK_zero⟩ rfl ?_
  intro ⟨so, ys, i⟩ u l' hl' ⟨hi, hy⟩
  simp only [patch, List.map_cons, List.map_nil, List.set_cons_zero, List.set_cons_succ] at hl'
  subst hl'
  simp only [List.cons_append, List.nil_append] at hi hy ⊢
  by_cases hil : i < ls.length
  · have hok := hsa i hil
    have hll := termOk_len hok
    repeat' (first | refine red ?_ | (refine redi (fun hc => ?_) (fun hc => ?_) <;> try first | (exfalso; omega) | with_reducible first | exact absurd rfl hc | exact absurd hc Bool.false_ne_true | exact absurd hc Bool.false_ne_true.symm) | fail)
    refine wc_loop_p [5, 7] [16, 17, 18, 19, 20, 21, 22, 25, 26, 27, 28, 29, 30, 31, 32, 8, 33, 34, 35, 36, 37, 38, 39, 40, 41, 42, 43, 44, 45, 23, 24] (ι := Value × List (List Int) × Nat) (fun k => [k.1, .int .i64 k.2.2]) (fun k => [.rd [k.1] k.2.1]) (fun k => (1 ≤ k.2.2 ∧ k.2.2 ≤ (ls.getD i default).length) ∧ ShK a ls i k.2.2 k.2.1) (fun k => (ls.getD i default).length - k.2.2) (so, ys, 1) [.rd [so] ys] (by kernel_rfl) ⟨⟨Nat.le_refl _, hll.1⟩, hy⟩ rfl ?_
    intro ⟨so, ys, k⟩ u l' hl' ⟨⟨hk1, hk2⟩, hy⟩
    simp only [patch, List.map_cons, List.map_nil, List.set_cons_zero, List.set_cons_succ] at hl'
    subst hl'
    simp only [List.cons_append, List.nil_append] at hk1 hk2 hy ⊢
    have hyl := hy.len
    by_cases hkl : k < (ls.getD i default).length
    · have hsl2 := subt_len hok hkl
      have hst := term_at hok hkl
      have hrl := renOf_len2 (subt a (ls.getD i default) k)
      have hg0 := ren_get (t := subt a (ls.getD i default) k) (k := 0) (by omega)
      have hg1 : (subt a (ls.getD i default) k).getD 0 0 = (ls.getD i default).getD k 0 := subt_hdN hok hkl
      repeat' (first | refine red ?_ | refine redf fun hbi => ?_ | refine reds ?_ | (refine redc fun r => ?_; try have hr := Subtype.property r) | (refine redd fun p cs as_ hcs has hf => ?_; simp only [Un.cells, Un.atoms, Un.fact, List.cons_append, List.nil_append] at hcs has hf; subst hcs has) | (refine redi (fun hc => ?_) (fun hc => ?_) <;> try first | (exfalso; omega) | with_reducible first | exact absurd rfl hc | exact absurd hc Bool.false_ne_true | exact absurd hc Bool.false_ne_true.symm) | ((refine wa_begin 8 [false, false, false, false, false, false, false, false, false] [] ?_ <;> refine wa_p 0 ?_ <;> refine wa_p 1 ?_ <;> refine wa_p 2 ?_ <;> (first | refine wa_p 3 ?_ | fail) <;> (first | refine wa_p 4 ?_ | fail) <;> refine wa_p 5 ?_ <;> (refine wa_do 6 ?_ <;> (repeat' (first | refine red ?_ | (refine redc fun r => ?_; try have hr := Subtype.property r) | fail))) <;> (refine wa_do 7 ?_ <;> (repeat' (first | refine red ?_ | (refine redc fun r => ?_; try have hr := Subtype.property r) | fail))) <;> refine wa_p 8 ?_) <;> (refine wa_end ?_)) | fail)
      · rename_i r1 r2 _
        have hm : renOf (subt a (ls.getD i default) k) ∉ ys := place_neg.1 hc
        refine wl_share r2 ?_
        repeat' (first | refine red ?_ | refine reds ?_ | (refine redc fun r => ?_; try have hr := Subtype.property r) | fail)
        exact wq_next (r.1.1, r.1.2, k + 1) ⟨⟨by simp only; omega, by simp only; omega⟩, shK_new hy hk1 hkl (by omega) hm hr⟩ (by simp only; omega) (by kernel_rfl) ent_e
      · have hm : renOf (subt a (ls.getD i default) k) ∈ ys := Classical.byContradiction fun hn => by
          have := place_neg.2 hn
          omega
        exact wq_next (so, ys, k + 1) ⟨⟨by simp only; omega, by simp only; omega⟩, shK_old hy hk1 hkl (fun _ => hm)⟩ (by simp only; omega) (by kernel_rfl) ent_e
      · exact wq_next (so, ys, k + 1) ⟨⟨by simp only; omega, by simp only; omega⟩, shK_old hy hk1 hkl (fun h => by have := hg0.1.1 hc; omega)⟩ (by simp only; omega) (by kernel_rfl) ent_e
    · repeat' (first | refine red ?_ | refine reds ?_ | (refine redd fun p cs as_ hcs has hf => ?_; simp only [Un.cells, Un.atoms, Un.fact, List.cons_append, List.nil_append] at hcs has hf; subst hcs has) | (refine redi (fun hc => ?_) (fun hc => ?_) <;> try first | (exfalso; omega) | with_reducible first | exact absurd rfl hc | exact absurd hc Bool.false_ne_true | exact absurd hc Bool.false_ne_true.symm) | fail)
      exact wq_next (so, ys, i + 1) ⟨by simp only; omega, shK_row hy (by omega) (by omega)⟩ (by simp only; omega) (by kernel_rfl) ent_e
  · repeat' (first | refine red ?_ | (refine redi (fun hc => ?_) (fun hc => ?_) <;> try first | (exfalso; omega) | with_reducible first | exact absurd rfl hc | exact absurd hc Bool.false_ne_true | exact absurd hc Bool.false_ne_true.symm) | fail)
    rw [show i = ls.length by omega] at hy
    have hyl := hy.len
    have hsy := shapes_is (shK_end hy)
    rw [hsy]
    exact ⟨⟨so, ⟨by rw [hsy]; exact shK_end hy, by rw [hsy]; omega⟩⟩, rfl, ent_e⟩
instance l24Shapes_ctr {Γ : List Atom} {v vl : Value} {a : List Int} {ls : List (List Int)} [h0 : HasRd (List Int) repList Γ [v] a] [h2 : HasIm (List (List Int)) repList Γ [vl] ls] :
    CtrC Tryz.prog 35 [.agg #[v], vl] Γ (LsC a ls) ({ q : Value // ShpF a ls }) (fun q : { q : Value // ShpF a ls } => q.1) (fun q => .rd [q.1] (shapesOf a ls) :: Γ) := ⟨fun s w0 => l24Shapes_spec s⟩

end Go.Proofs.YtbbdjjlnachnlaaGreatDoor
