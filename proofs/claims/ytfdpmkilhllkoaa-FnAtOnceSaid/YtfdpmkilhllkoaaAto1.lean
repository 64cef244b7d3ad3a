/- Draws by dice: rules and systems. -/
import Derived.Test.YtfdpmkilhllkoaaAto0
import Derived.Test.YtfdpmkilhllkoaaStpS
namespace Go.Proofs.Ytfdpmkilhllkoaa
open Go Go.Eng
set_option linter.unusedVariables false
set_option linter.unusedSimpArgs false
set_option synthInstance.maxHeartbeats 400000
set_option synthInstance.maxSize 1000
set_option maxHeartbeats 2000000
set_option maxRecDepth 20000


attribute [local instance 2000] l2VarsM_ctr
theorem getD_lt9 {l : List Int} {i : Nat} (h : i < l.length) : l.getD i 0 = l[i] := by rw [List.getD_eq_getElem?_getD, List.getElem?_eq_getElem h]; rfl
theorem w9_two {l r : List Int} (h1 : W9 2 2 l) (h2 : W9 1 2 r) : termOk s9 ([0] ++ l ++ r) = true ∧ 0 ≤ ([0] ++ l ++ r).getD 0 0 ∧ ([0] ++ l ++ r).length ≤ 60 := by
  have h3 := h1.le
  have h4 := h2.le
  have ht : Tm s9 (0 :: [l, r].flatten) := tm_of_kids (f := 0) (by decide) (by show 2 = (ar s9 0).toNat; decide) fun k hk => by
    simp only [List.mem_cons, List.not_mem_nil, or_false] at hk
    rcases hk with rfl | rfl
    · exact h1.tm
    · exact h2.tm
  have e : (0 :: [l, r].flatten : List Int) = [0] ++ l ++ r := by simp
  rw [e] at ht
  have hl : ([0] ++ l ++ r).length ≤ 60 := by simp only [List.length_append, List.length_singleton]; omega
  exact ⟨ok_tm s9_ok ht hl, by simp, hl⟩
theorem w9_one {l : List Int} (h1 : W9 2 2 l) : termOk s9 ([1] ++ l) = true ∧ 0 ≤ ([1] ++ l).getD 0 0 ∧ ([1] ++ l).length ≤ 60 := by
  have h3 := h1.le
  have ht : Tm s9 (1 :: [l].flatten) := tm_of_kids (f := 1) (by decide) (by show 1 = (ar s9 1).toNat; decide) fun k hk => by
    simp only [List.mem_cons, List.not_mem_nil, or_false] at hk
    subst hk
    exact h1.tm
  have e : (1 :: [l].flatten : List Int) = [1] ++ l := by simp
  rw [e] at ht
  have hl : ([1] ++ l).length ≤ 60 := by simp only [List.length_append, List.length_singleton]; omega
  exact ⟨ok_tm s9_ok ht hl, by simp, hl⟩
theorem w9_set {l X r0 : List Int} {k : Nat} {v : Int} (hXl : X.length = r0.length) (hXf : Fo s9 X 1) (hXk : ∀ j, j < k → 0 ≤ X.getD j 0 ∨ X.getD j 0 ∈ l) (hk : k < X.length) (hneg : X.getD k 0 < 0) (hv : v = 2 ∨ (-24 ≤ v ∧ v < 0 ∧ v ∈ l)) : k + 1 ≤ (X.set k v).length ∧ (X.set k v).length = r0.length ∧ Fo s9 (X.set k v) 1 ∧ ∀ j, j < k + 1 → 0 ≤ (X.set k v).getD j 0 ∨ (X.set k v).getD j 0 ∈ l := by
  refine ⟨by rw [List.length_set]; omega, by rw [List.length_set, hXl], fo_set ?_ X 1 k hXf hk ?_, fun j hj => ?_⟩
  · rcases hv with rfl | ⟨h1, h2, h3⟩
    · decide
    · unfold badS
      refine decide_eq_false ?_
      have : (s9.length : Int) = 3 := rfl
      omega
  · rw [ar_var hneg]
    rcases hv with rfl | ⟨h1, h2, h3⟩
    · decide
    · exact ar_var h2
  · rw [List.getD_eq_getElem?_getD, List.getElem?_set]
    by_cases hj' : k = j
    · subst hj'
      rw [if_pos rfl, if_pos hk, Option.getD_some]
      rcases hv with rfl | ⟨h1, h2, h3⟩
      · exact .inl (by decide)
      · exact .inr h3
    · rw [if_neg hj', ← List.getD_eq_getElem?_getD]
      exact hXk j (by omega)
theorem r9_of {l X r0 : List Int} (h1 : termOk s9 l = true) (h2 : 0 ≤ l.getD 0 0) (h3 : W9 3 2 r0) (hXl : X.length = r0.length) (hXf : Fo s9 X 1) (hXk : ∀ j, j < X.length → 0 ≤ X.getD j 0 ∨ X.getD j 0 ∈ l) : R9 l X := by
  have h4 := h3.le
  refine ⟨decide_eq_true ⟨⟨h1, ok_tm s9_ok hXf (by simp only; omega), h2⟩, fun n hn => ?_⟩, by omega⟩
  obtain ⟨j, hj, rfl⟩ := List.getElem_of_mem hn
  have := hXk j hj
  rwa [getD_lt9 hj] at this
theorem w9Rule_spec {w0 : World} {Γ Δ : List Atom} {bc : Nat} {vb : Value} {code : List UInt8} {p : CurS code} [hb : PullBk Γ bc (dicA vb p) Δ] [hv : HasRd (List UInt8) repList Δ [vb] code] :
    CJ Try.prog 71 [.pointer (some ⟨bc, 0, none⟩)] w0 Γ (fun q : { q : Value × Value × (List Int × List Int) × CurS code // R9 q.2.2.1.1 q.2.2.1.2 } => .agg #[q.1.1, q.1.2.1]) (fun q => .ow [q.1.1] q.1.2.2.1.1 :: .ow [q.1.2.1] q.1.2.2.1.2 :: .bk bc (dicA vb q.1.2.2.2) :: Δ) := by
  refine cj_perm hb.perm ?_
  refine cj_enter Try.func71 Try.ntmps71 ?_
  repeat' (first | refine red ?_ | refine redf fun hbi => ?_ | refine reds ?_ | (refine redc fun r => ?_; try have hr := Subtype.property r) | refine redp (fun r => ?_) (fun r => ?_) | refine redv fun sv => ?_ | refine redn fun b => ?_ | refine redz fun zs => ?_ | refine redq (fun hc => ?_) (fun hc => ?_) | with_reducible refine wq_blk_o rfl ?_ | (refine redi (fun hc => ?_) (fun hc => ?_) <;> try first | (exfalso; omega) | exact absurd rfl hc) | fail)
  · rename_i t1 ht1 _ t2
    obtain ⟨hL1, hL2, hL3⟩ := w9_two ht1.1 hr.1
    generalize hle : [0] ++ t1.1.2.1 ++ t2.1.2.1 = l at *
    repeat' (first | refine red ?_ | refine redf fun hbi => ?_ | refine reds ?_ | (refine redc fun r => ?_; try have hr := Subtype.property r) | refine redp (fun r => ?_) (fun r => ?_) | refine redv fun sv => ?_ | refine redn fun b => ?_ | refine redz fun zs => ?_ | refine redq (fun hc => ?_) (fun hc => ?_) | with_reducible refine wq_blk_o rfl ?_ | (refine redi (fun hc => ?_) (fun hc => ?_) <;> try first | (exfalso; omega) | exact absurd rfl hc) | fail)
    rename_i vr hvr
    obtain ⟨⟨vv, vs⟩, hvs1, hvs2⟩ := vr
    obtain ⟨⟨rv, r0, p0⟩, hr1, hr2⟩ := r
    simp only at hvs1 hvs2 hr1 hr2 ⊢
    refine wc_loop_p [6] [26, 27, 28, 29, 32, 33, 34, 35, 36, 37, 38, 39, 40, 41, 42, 43, 44, 45, 46, 47, 48, 49, 50, 51, 52, 53, 54, 55, 56, 57, 58, 59, 60, 30, 31] (ι := Nat × List Int × CurS code) (fun k => [.int .i64 k.1]) (fun k => [.ow [rv] k.2.1, .bk bc (dicA vb k.2.2)]) (fun k => k.1 ≤ k.2.1.length ∧ k.2.1.length = r0.length ∧ Fo s9 k.2.1 1 ∧ ∀ j, j < k.1 → 0 ≤ k.2.1.getD j 0 ∨ k.2.1.getD j 0 ∈ l) (fun k => k.2.1.length - k.1) (0, r0, p0) [.ow [rv] r0, .bk bc (dicA vb p0)] (by kernel_rfl) ⟨Nat.zero_le _, rfl, hr1.tm, fun j hj => by omega⟩ rfl ?_
    intro ⟨k, X, p1⟩ u l' hl' ⟨hk, hXl, hXf, hXk⟩
    simp only [patch, List.map_cons, List.map_nil, List.set_cons_zero, List.set_cons_succ] at hl'
    subst hl'
    simp only [List.cons_append, List.nil_append] at hk hXl hXf hXk ⊢
    repeat' (first | refine red ?_ | refine redf fun hbi => ?_ | refine reds ?_ | (refine redc fun r => ?_; try have hr := Subtype.property r) | refine redp (fun r => ?_) (fun r => ?_) | refine redv fun sv => ?_ | refine redn fun b => ?_ | refine redz fun zs => ?_ | refine redq (fun hc => ?_) (fun hc => ?_) | with_reducible refine wq_blk_o rfl ?_ | (refine redi (fun hc => ?_) (fun hc => ?_) <;> try first | (exfalso; omega) | exact absurd rfl hc) | fail)
    · exact wq_next (k + 1, X.set k 2, p1) (w9_set hXl hXf hXk (by omega) (by omega) (.inl rfl)) (by simp only [List.length_set]; omega) (by kernel_rfl) ent_e
    · have hm := hvs2 _ (getK (xs := vs) (k := r.1.1.toNat) (by omega))
      exact wq_next (k + 1, X.set k (-1 - vs.getD r.1.1.toNat 0), r.1.2) (w9_set hXl hXf hXk (by omega) (by omega) (.inr ⟨by omega, by omega, hm.2.2⟩)) (by simp only [List.length_set]; omega) (by kernel_rfl) ent_e
    · exact wq_next (k + 1, X, p1) ⟨by simp only; omega, hXl, hXf, fun j hj => by
        by_cases he : j = k
        · subst he; exact .inl (by omega)
        · exact hXk j (by simp only at hj; omega)⟩ (by simp only; omega) (by kernel_rfl) ent_e
    · exact ⟨⟨(sv, rv, (l, X), p1), r9_of hL1 hL2 hr1 hXl hXf (fun j hj => hXk j (by have hj' : j < X.length := hj; omega))⟩, rfl, ent_e⟩
  · rename_i t1 ht1 _
    obtain ⟨hL1, hL2, hL3⟩ := w9_one ht1.1
    generalize hle : [1] ++ t1.1.2.1 = l at *
    repeat' (first | refine red ?_ | refine redf fun hbi => ?_ | refine reds ?_ | (refine redc fun r => ?_; try have hr := Subtype.property r) | refine redp (fun r => ?_) (fun r => ?_) | refine redv fun sv => ?_ | refine redn fun b => ?_ | refine redz fun zs => ?_ | refine redq (fun hc => ?_) (fun hc => ?_) | with_reducible refine wq_blk_o rfl ?_ | (refine redi (fun hc => ?_) (fun hc => ?_) <;> try first | (exfalso; omega) | exact absurd rfl hc) | fail)
    rename_i vr hvr
    obtain ⟨⟨vv, vs⟩, hvs1, hvs2⟩ := vr
    obtain ⟨⟨rv, r0, p0⟩, hr1, hr2⟩ := r
    simp only at hvs1 hvs2 hr1 hr2 ⊢
    refine wc_loop_p [6] [26, 27, 28, 29, 32, 33, 34, 35, 36, 37, 38, 39, 40, 41, 42, 43, 44, 45, 46, 47, 48, 49, 50, 51, 52, 53, 54, 55, 56, 57, 58, 59, 60, 30, 31] (ι := Nat × List Int × CurS code) (fun k => [.int .i64 k.1]) (fun k => [.ow [rv] k.2.1, .bk bc (dicA vb k.2.2)]) (fun k => k.1 ≤ k.2.1.length ∧ k.2.1.length = r0.length ∧ Fo s9 k.2.1 1 ∧ ∀ j, j < k.1 → 0 ≤ k.2.1.getD j 0 ∨ k.2.1.getD j 0 ∈ l) (fun k => k.2.1.length - k.1) (0, r0, p0) [.ow [rv] r0, .bk bc (dicA vb p0)] (by kernel_rfl) ⟨Nat.zero_le _, rfl, hr1.tm, fun j hj => by omega⟩ rfl ?_
    intro ⟨k, X, p1⟩ u l' hl' ⟨hk, hXl, hXf, hXk⟩
    simp only [patch, List.map_cons, List.map_nil, List.set_cons_zero, List.set_cons_succ] at hl'
    subst hl'
    simp only [List.cons_append, List.nil_append] at hk hXl hXf hXk ⊢
    repeat' (first | refine red ?_ | refine redf fun hbi => ?_ | refine reds ?_ | (refine redc fun r => ?_; try have hr := Subtype.property r) | refine redp (fun r => ?_) (fun r => ?_) | refine redv fun sv => ?_ | refine redn fun b => ?_ | refine redz fun zs => ?_ | refine redq (fun hc => ?_) (fun hc => ?_) | with_reducible refine wq_blk_o rfl ?_ | (refine redi (fun hc => ?_) (fun hc => ?_) <;> try first | (exfalso; omega) | exact absurd rfl hc) | fail)
    · exact wq_next (k + 1, X.set k 2, p1) (w9_set hXl hXf hXk (by omega) (by omega) (.inl rfl)) (by simp only [List.length_set]; omega) (by kernel_rfl) ent_e
    · have hm := hvs2 _ (getK (xs := vs) (k := r.1.1.toNat) (by omega))
      exact wq_next (k + 1, X.set k (-1 - vs.getD r.1.1.toNat 0), r.1.2) (w9_set hXl hXf hXk (by omega) (by omega) (.inr ⟨by omega, by omega, hm.2.2⟩)) (by simp only [List.length_set]; omega) (by kernel_rfl) ent_e
    · exact wq_next (k + 1, X, p1) ⟨by simp only; omega, hXl, hXf, fun j hj => by
        by_cases he : j = k
        · subst he; exact .inl (by omega)
        · exact hXk j (by simp only at hj; omega)⟩ (by simp only; omega) (by kernel_rfl) ent_e
    · exact ⟨⟨(sv, rv, (l, X), p1), r9_of hL1 hL2 hr1 hXl hXf (fun j hj => hXk j (by have hj' : j < X.length := hj; omega))⟩, rfl, ent_e⟩
instance w9Rule_ctr {Γ Δ : List Atom} {bc : Nat} {vb : Value} {code : List UInt8} {p : CurS code} [hb : PullBk Γ bc (dicA vb p) Δ] [hv : HasRd (List UInt8) repList Δ [vb] code] :
    CtrC Try.prog 71 [.pointer (some ⟨bc, 0, none⟩)] Γ (True) ({ q : Value × Value × (List Int × List Int) × CurS code // R9 q.2.2.1.1 q.2.2.1.2 }) (fun q : { q : Value × Value × (List Int × List Int) × CurS code // R9 q.2.2.1.1 q.2.2.1.2 } => .agg #[q.1.1, q.1.2.1]) (fun q => .ow [q.1.1] q.1.2.2.1.1 :: .ow [q.1.2.1] q.1.2.2.1.2 :: .bk bc (dicA vb q.1.2.2.2) :: Δ) := ⟨fun s w0 => w9Rule_spec⟩

def known9 : List (List SRule) := [[([0, 2, -1], [-1]), ([0, 1, -1, -2], [1, 0, -1, -2])], [([0, 0, -1, -2, -3], [0, -1, 0, -2, -3])], [([1, 1, -1], [-1])], [([0, -1, 2], [-1]), ([0, 1, -1, 1, -2], [0, -1, -2])], [([1, 2], [2]), ([1, 0, -1, -2], [0, 1, -2, 1, -1])], [([0, 2, -1], [-1]), ([0, -1, 2], [-1]), ([0, 0, -1, -2, -3], [0, -1, 0, -2, -3])]]
def R9s (rs : List SRule) : Prop := rs.length ≤ 3 ∧ ∀ r ∈ rs, R9 r.1 r.2
instance (l r : List Int) : Decidable (R9 l r) := decidable_of_iff (ruleOk s9 (l, r) = true ∧ r.length ≤ 7) ⟨fun h => ⟨h.1, h.2⟩, fun h => ⟨h.ok, h.le⟩⟩
instance (rs : List SRule) : Decidable (R9s rs) := by unfold R9s; infer_instance
theorem known9_ok : ∀ rs ∈ known9, R9s rs := by decide +kernel
theorem w9Known_spec {w0 : World} {Γ : List Atom} {n : Int} : CJ Try.prog 70 [.int .i64 n] w0 Γ (fun q : { q : Value × List SRule // R9s q.2 } => q.1.1) (fun q => .ow [q.1.1] q.1.2 :: Γ) := by
  refine cj_enter Try.func70 Try.ntmps70 ?_
  repeat' (first | refine red ?_ | refine redf fun hbi => ?_ | refine reds ?_ | (refine redc fun r => ?_; try have hr := Subtype.property r) | refine redp (fun r => ?_) (fun r => ?_) | refine redv fun sv => ?_ | refine redn fun b => ?_ | refine redz fun zs => ?_ | refine redq (fun hc => ?_) (fun hc => ?_) | with_reducible refine wq_blk_o rfl ?_ | (refine redi (fun hc => ?_) (fun hc => ?_) <;> try first | (exfalso; omega) | exact absurd rfl hc) | fail)
  · exact ⟨⟨(sv, [([0, 2, -1], [-1]), ([0, 1, -1, -2], [1, 0, -1, -2])]), known9_ok _ (by simp [known9])⟩, rfl, ent_e⟩
  · exact ⟨⟨(sv, [([0, 0, -1, -2, -3], [0, -1, 0, -2, -3])]), known9_ok _ (by simp [known9])⟩, rfl, ent_e⟩
  · exact ⟨⟨(sv, [([1, 1, -1], [-1])]), known9_ok _ (by simp [known9])⟩, rfl, ent_e⟩
  · exact ⟨⟨(sv, [([0, -1, 2], [-1]), ([0, 1, -1, 1, -2], [0, -1, -2])]), known9_ok _ (by simp [known9])⟩, rfl, ent_e⟩
  · exact ⟨⟨(sv, [([1, 2], [2]), ([1, 0, -1, -2], [0, 1, -2, 1, -1])]), known9_ok _ (by simp [known9])⟩, rfl, ent_e⟩
  · exact ⟨⟨(sv, [([0, 2, -1], [-1]), ([0, -1, 2], [-1]), ([0, 0, -1, -2, -3], [0, -1, 0, -2, -3])]), known9_ok _ (by simp [known9])⟩, rfl, ent_e⟩
instance w9Known_ctr {Γ : List Atom} {n : Int} :
    CtrC Try.prog 70 [.int .i64 n] Γ (True) ({ q : Value × List SRule // R9s q.2 }) (fun q : { q : Value × List SRule // R9s q.2 } => q.1.1) (fun q => .ow [q.1.1] q.1.2 :: Γ) := ⟨fun s w0 => w9Known_spec⟩

theorem w9System_spec {w0 : World} {Γ Δ : List Atom} {bc : Nat} {vb : Value} {code : List UInt8} {p : CurS code} [hb : PullBk Γ bc (dicA vb p) Δ] [hv : HasRd (List UInt8) repList Δ [vb] code] :
    CJ Try.prog 24 [.pointer (some ⟨bc, 0, none⟩)] w0 Γ (fun q : { q : Value × Value × List SRule × CurS code // R9s q.2.2.1 } => .agg #[q.1.1, q.1.2.1]) (fun q => .ow [q.1.1] s9 :: .ow [q.1.2.1] q.1.2.2.1 :: .bk bc (dicA vb q.1.2.2.2) :: Δ) := by
  refine cj_perm hb.perm ?_
  refine cj_enter Try.func24 Try.ntmps24 ?_
  repeat' (first | refine red ?_ | refine redf fun hbi => ?_ | refine reds ?_ | (refine redc fun r => ?_; try have hr := Subtype.property r) | refine redp (fun r => ?_) (fun r => ?_) | refine redv fun sv => ?_ | refine redn fun b => ?_ | refine redz fun zs => ?_ | refine redq (fun hc => ?_) (fun hc => ?_) | with_reducible refine wq_blk_o rfl ?_ | (refine redi (fun hc => ?_) (fun hc => ?_) <;> try first | (exfalso; omega) | exact absurd rfl hc) | ((refine wa_beginc 8 [false, false, false, false, false, false, false, false] [5, 7] ?_ <;> (first | refine wa_p 0 ?_ | refine wa_p0 0 ?_ | fail) <;> (first | refine wa_f 1 fun hbi => ?_ | refine wa_p 1 ?_ | fail) <;> (first | refine wa_p 2 ?_ | refine wa_p0 2 ?_) <;> (refine wa_do 3 ?_ <;> (repeat' (first | refine red ?_ | (refine redc fun r => ?_; try have hr := Subtype.property r) | refine redv fun sv => ?_ | refine redf fun hbi => ?_ | refine redn fun b => ?_ | refine reds ?_ | refine redi (fun hc => ?_) (fun hc => ?_) | refine redq (fun hc => ?_) (fun hc => ?_) | refine redp (fun r => ?_) (fun r => ?_) | refine wl_share sv ?_ | fail))) <;> (refine wa_do 4 ?_ <;> (repeat' (first | refine red ?_ | (refine redc fun r => ?_; try have hr := Subtype.property r) | refine redv fun sv => ?_ | refine redf fun hbi => ?_ | refine redn fun b => ?_ | refine reds ?_ | refine redi (fun hc => ?_) (fun hc => ?_) | refine redq (fun hc => ?_) (fun hc => ?_) | refine redp (fun r => ?_) (fun r => ?_) | refine wl_share sv ?_ | fail))) <;> (refine wa_do 5 ?_ <;> (repeat' (first | refine red ?_ | (refine redc fun r => ?_; try have hr := Subtype.property r) | refine redv fun sv => ?_ | refine redf fun hbi => ?_ | refine redn fun b => ?_ | refine reds ?_ | refine redi (fun hc => ?_) (fun hc => ?_) | refine redq (fun hc => ?_) (fun hc => ?_) | refine redp (fun r => ?_) (fun r => ?_) | refine wl_share sv ?_ | fail))) <;> (first | refine wa_p 6 ?_ | refine wa_p0 6 ?_ | (refine wa_do 6 ?_ <;> (repeat' (first | refine red ?_ | (refine redc fun r => ?_; try have hr := Subtype.property r) | refine redv fun sv => ?_ | refine redf fun hbi => ?_ | refine redn fun b => ?_ | refine reds ?_ | refine redi (fun hc => ?_) (fun hc => ?_) | refine redq (fun hc => ?_) (fun hc => ?_) | refine redp (fun r => ?_) (fun r => ?_) | refine wl_share sv ?_ | fail))) | fail) <;> (refine wa_do 7 ?_ <;> (repeat' (first | refine red ?_ | (refine redc fun r => ?_; try have hr := Subtype.property r) | refine redv fun sv => ?_ | refine redf fun hbi => ?_ | refine redn fun b => ?_ | refine reds ?_ | refine redi (fun hc => ?_) (fun hc => ?_) | refine redq (fun hc => ?_) (fun hc => ?_) | refine redp (fun r => ?_) (fun r => ?_) | refine wl_share sv ?_ | fail)))) <;> (first | refine wa_end ?_ | with_reducible refine wq_keep ?_)) | ((refine wa_begin1 8 [false, false, false, false, false, false, false, false] [7] ?_ <;> (first | refine wa_p 0 ?_ | refine wa_p0 0 ?_ | fail) <;> (first | refine wa_f 1 fun hbi => ?_ | refine wa_p 1 ?_ | fail) <;> (first | refine wa_p 2 ?_ | refine wa_p0 2 ?_) <;> (refine wa_do 3 ?_ <;> (repeat' (first | refine red ?_ | (refine redc fun r => ?_; try have hr := Subtype.property r) | refine redv fun sv => ?_ | refine redf fun hbi => ?_ | refine redn fun b => ?_ | refine reds ?_ | refine redi (fun hc => ?_) (fun hc => ?_) | refine redq (fun hc => ?_) (fun hc => ?_) | refine redp (fun r => ?_) (fun r => ?_) | refine wl_share sv ?_ | fail))) <;> (refine wa_do 4 ?_ <;> (repeat' (first | refine red ?_ | (refine redc fun r => ?_; try have hr := Subtype.property r) | refine redv fun sv => ?_ | refine redf fun hbi => ?_ | refine redn fun b => ?_ | refine reds ?_ | refine redi (fun hc => ?_) (fun hc => ?_) | refine redq (fun hc => ?_) (fun hc => ?_) | refine redp (fun r => ?_) (fun r => ?_) | refine wl_share sv ?_ | fail))) <;> (refine wa_do 5 ?_ <;> (repeat' (first | refine red ?_ | (refine redc fun r => ?_; try have hr := Subtype.property r) | refine redv fun sv => ?_ | refine redf fun hbi => ?_ | refine redn fun b => ?_ | refine reds ?_ | refine redi (fun hc => ?_) (fun hc => ?_) | refine redq (fun hc => ?_) (fun hc => ?_) | refine redp (fun r => ?_) (fun r => ?_) | refine wl_share sv ?_ | fail))) <;> (first | refine wa_p 6 ?_ | refine wa_p0 6 ?_ | (refine wa_do 6 ?_ <;> (repeat' (first | refine red ?_ | (refine redc fun r => ?_; try have hr := Subtype.property r) | refine redv fun sv => ?_ | refine redf fun hbi => ?_ | refine redn fun b => ?_ | refine reds ?_ | refine redi (fun hc => ?_) (fun hc => ?_) | refine redq (fun hc => ?_) (fun hc => ?_) | refine redp (fun r => ?_) (fun r => ?_) | refine wl_share sv ?_ | fail))) | fail) <;> (refine wa_do 7 ?_ <;> (repeat' (first | refine red ?_ | (refine redc fun r => ?_; try have hr := Subtype.property r) | refine redv fun sv => ?_ | refine redf fun hbi => ?_ | refine redn fun b => ?_ | refine reds ?_ | refine redi (fun hc => ?_) (fun hc => ?_) | refine redq (fun hc => ?_) (fun hc => ?_) | refine redp (fun r => ?_) (fun r => ?_) | refine wl_share sv ?_ | fail)))) <;> (first | refine wa_end ?_ | with_reducible refine wq_keep ?_)) | fail)
  · rename_i b1 rs _ _ p1 _
    exact ⟨⟨(rs, r.1.1, r.1.2, p1.1.2), hr⟩, rfl, ent_e⟩
  · rename_i b1 sg q hq
    refine wc_loop_p [4] [18, 19, 22, 23, 24, 25, 26, 27, 28, 20, 21] (ι := Int × Value × List SRule × CurS code) (fun k => [.int .i64 k.1]) (fun k => [.bk b [sg, k.2.1], .ow [k.2.1] k.2.2.1, .bk bc (dicA vb k.2.2.2)]) (fun k => 0 ≤ k.1 ∧ k.1 + k.2.2.1.length ≤ 3 ∧ R9s k.2.2.1) (fun k => k.1.toNat) (1 + r.1.1, .slice none 0 0, [], r.1.2) [.bk b [sg, .slice none 0 0], .ow [.slice none 0 0] ([] : List SRule), .bk bc (dicA vb r.1.2)] (by kernel_rfl) ⟨by simp only; omega, by simp; omega, (by decide : R9s [])⟩ rfl ?_
    intro ⟨k, sv, rs, p1⟩ u l' hl' ⟨hk1, hk2, hk3⟩
    simp only [patch, List.map_cons, List.map_nil, List.set_cons_zero, List.set_cons_succ] at hl'
    subst hl'
    simp only [List.cons_append, List.nil_append] at hk1 hk2 hk3 ⊢
    repeat' (first | refine red ?_ | refine redf fun hbi => ?_ | refine reds ?_ | (refine redc fun r => ?_; try have hr := Subtype.property r) | refine redp (fun r => ?_) (fun r => ?_) | refine redv fun sv => ?_ | refine redn fun b => ?_ | refine redz fun zs => ?_ | refine redq (fun hc => ?_) (fun hc => ?_) | with_reducible refine wq_blk_o rfl ?_ | (refine redi (fun hc => ?_) (fun hc => ?_) <;> try first | (exfalso; omega) | exact absurd rfl hc) | ((refine wa_beginc 8 [false, false, false, false, false, false, false, false] [5, 7] ?_ <;> (first | refine wa_p 0 ?_ | refine wa_p0 0 ?_ | fail) <;> (first | refine wa_f 1 fun hbi => ?_ | refine wa_p 1 ?_ | fail) <;> (first | refine wa_p 2 ?_ | refine wa_p0 2 ?_) <;> (refine wa_do 3 ?_ <;> (repeat' (first | refine red ?_ | (refine redc fun r => ?_; try have hr := Subtype.property r) | refine redv fun sv => ?_ | refine redf fun hbi => ?_ | refine redn fun b => ?_ | refine reds ?_ | refine redi (fun hc => ?_) (fun hc => ?_) | refine redq (fun hc => ?_) (fun hc => ?_) | refine redp (fun r => ?_) (fun r => ?_) | refine wl_share sv ?_ | fail))) <;> (refine wa_do 4 ?_ <;> (repeat' (first | refine red ?_ | (refine redc fun r => ?_; try have hr := Subtype.property r) | refine redv fun sv => ?_ | refine redf fun hbi => ?_ | refine redn fun b => ?_ | refine reds ?_ | refine redi (fun hc => ?_) (fun hc => ?_) | refine redq (fun hc => ?_) (fun hc => ?_) | refine redp (fun r => ?_) (fun r => ?_) | refine wl_share sv ?_ | fail))) <;> (refine wa_do 5 ?_ <;> (repeat' (first | refine red ?_ | (refine redc fun r => ?_; try have hr := Subtype.property r) | refine redv fun sv => ?_ | refine redf fun hbi => ?_ | refine redn fun b => ?_ | refine reds ?_ | refine redi (fun hc => ?_) (fun hc => ?_) | refine redq (fun hc => ?_) (fun hc => ?_) | refine redp (fun r => ?_) (fun r => ?_) | refine wl_share sv ?_ | fail))) <;> (first | refine wa_p 6 ?_ | refine wa_p0 6 ?_ | (refine wa_do 6 ?_ <;> (repeat' (first | refine red ?_ | (refine redc fun r => ?_; try have hr := Subtype.property r) | refine redv fun sv => ?_ | refine redf fun hbi => ?_ | refine redn fun b => ?_ | refine reds ?_ | refine redi (fun hc => ?_) (fun hc => ?_) | refine redq (fun hc => ?_) (fun hc => ?_) | refine redp (fun r => ?_) (fun r => ?_) | refine wl_share sv ?_ | fail))) | fail) <;> (refine wa_do 7 ?_ <;> (repeat' (first | refine red ?_ | (refine redc fun r => ?_; try have hr := Subtype.property r) | refine redv fun sv => ?_ | refine redf fun hbi => ?_ | refine redn fun b => ?_ | refine reds ?_ | refine redi (fun hc => ?_) (fun hc => ?_) | refine redq (fun hc => ?_) (fun hc => ?_) | refine redp (fun r => ?_) (fun r => ?_) | refine wl_share sv ?_ | fail)))) <;> (first | refine wa_end ?_ | with_reducible refine wq_keep ?_)) | ((refine wa_begin1 8 [false, false, false, false, false, false, false, false] [7] ?_ <;> (first | refine wa_p 0 ?_ | refine wa_p0 0 ?_ | fail) <;> (first | refine wa_f 1 fun hbi => ?_ | refine wa_p 1 ?_ | fail) <;> (first | refine wa_p 2 ?_ | refine wa_p0 2 ?_) <;> (refine wa_do 3 ?_ <;> (repeat' (first | refine red ?_ | (refine redc fun r => ?_; try have hr := Subtype.property r) | refine redv fun sv => ?_ | refine redf fun hbi => ?_ | refine redn fun b => ?_ | refine reds ?_ | refine redi (fun hc => ?_) (fun hc => ?_) | refine redq (fun hc => ?_) (fun hc => ?_) | refine redp (fun r => ?_) (fun r => ?_) | refine wl_share sv ?_ | fail))) <;> (refine wa_do 4 ?_ <;> (repeat' (first | refine red ?_ | (refine redc fun r => ?_; try have hr := Subtype.property r) | refine redv fun sv => ?_ | refine redf fun hbi => ?_ | refine redn fun b => ?_ | refine reds ?_ | refine redi (fun hc => ?_) (fun hc => ?_) | refine redq (fun hc => ?_) (fun hc => ?_) | refine redp (fun r => ?_) (fun r => ?_) | refine wl_share sv ?_ | fail))) <;> (refine wa_do 5 ?_ <;> (repeat' (first | refine red ?_ | (refine redc fun r => ?_; try have hr := Subtype.property r) | refine redv fun sv => ?_ | refine redf fun hbi => ?_ | refine redn fun b => ?_ | refine reds ?_ | refine redi (fun hc => ?_) (fun hc => ?_) | refine redq (fun hc => ?_) (fun hc => ?_) | refine redp (fun r => ?_) (fun r => ?_) | refine wl_share sv ?_ | fail))) <;> (first | refine wa_p 6 ?_ | refine wa_p0 6 ?_ | (refine wa_do 6 ?_ <;> (repeat' (first | refine red ?_ | (refine redc fun r => ?_; try have hr := Subtype.property r) | refine redv fun sv => ?_ | refine redf fun hbi => ?_ | refine redn fun b => ?_ | refine reds ?_ | refine redi (fun hc => ?_) (fun hc => ?_) | refine redq (fun hc => ?_) (fun hc => ?_) | refine redp (fun r => ?_) (fun r => ?_) | refine wl_share sv ?_ | fail))) | fail) <;> (refine wa_do 7 ?_ <;> (repeat' (first | refine red ?_ | (refine redc fun r => ?_; try have hr := Subtype.property r) | refine redv fun sv => ?_ | refine redf fun hbi => ?_ | refine redn fun b => ?_ | refine reds ?_ | refine redi (fun hc => ?_) (fun hc => ?_) | refine redq (fun hc => ?_) (fun hc => ?_) | refine redp (fun r => ?_) (fun r => ?_) | refine wl_share sv ?_ | fail)))) <;> (first | refine wa_end ?_ | with_reducible refine wq_keep ?_)) | fail)
    · refine wq_next (k - 1, sv, rs ++ [(r.1.2.2.1.1, r.1.2.2.1.2)], r.1.2.2.2) ⟨by simp only; omega, by simp only [List.length_append, List.length_singleton]; omega, by simp only [List.length_append, List.length_singleton]; omega, fun t ht => ?_⟩ (by simp only; omega) (by kernel_rfl) ent_e
      rcases List.mem_append.1 ht with ht | ht
      · exact hk3.2 t ht
      · rw [List.mem_singleton] at ht; rw [ht]; exact hr
    · exact ⟨⟨(sg, sv, rs, p1), hk3⟩, rfl, ent_e⟩
instance w9System_ctr {Γ Δ : List Atom} {bc : Nat} {vb : Value} {code : List UInt8} {p : CurS code} [hb : PullBk Γ bc (dicA vb p) Δ] [hv : HasRd (List UInt8) repList Δ [vb] code] :
    CtrC Try.prog 24 [.pointer (some ⟨bc, 0, none⟩)] Γ (True) ({ q : Value × Value × List SRule × CurS code // R9s q.2.2.1 }) (fun q : { q : Value × Value × List SRule × CurS code // R9s q.2.2.1 } => .agg #[q.1.1, q.1.2.1]) (fun q => .ow [q.1.1] s9 :: .ow [q.1.2.1] q.1.2.2.1 :: .bk bc (dicA vb q.1.2.2.2) :: Δ) := ⟨fun s w0 => w9System_spec⟩

end Go.Proofs.Ytfdpmkilhllkoaa
