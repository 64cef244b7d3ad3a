/- Draws: rules and systems. -/
import Derived.Test.YtjblieilblcdnaaDraw2
import Derived.Test.YtjblieilblcdnaaL02m
namespace Go.Eng
open Go Go.RowKit
instance (priority := 400) hasIm_pair {Γ : List Atom} {α β : Type} {iα : Rep α} {iβ : Rep β} {a b : Value} {x : α} {y : β} [h : HasIm α iα Γ [a] x] [h' : HasIm β iβ Γ [b] y] : HasIm (α × β) repProd Γ [a, b] (x, y) := ⟨fun hs => ⟨[a], [b], rfl, h.get hs, h'.get hs⟩⟩
end Go.Eng
namespace Go.Proofs.Ytjblieilblcdnaa
open Go Go.Eng
set_option linter.unusedVariables false
set_option linter.unusedSimpArgs false
set_option synthInstance.maxHeartbeats 400000
set_option synthInstance.maxSize 1000
set_option maxHeartbeats 4000000
set_option maxRecDepth 20000

structure SgD (a : List Int) : Prop where
  len : 1 ≤ a.length ∧ a.length ≤ 4
  el : ∀ q ∈ a, 0 ≤ q ∧ q ≤ 2
theorem SgD.ok {a : List Int} (h : SgD a) : sigOk a = true := by
  unfold sigOk
  rw [Bool.and_eq_true, decide_eq_true_iff, List.all_eq_true]
  exact ⟨by have := h.len; omega, fun q hq => by have := h.el q hq; rw [decide_eq_true_iff]; omega⟩
theorem SgD.snoc {a : List Int} {n : Int} (h : SgD a) (hl : a.length ≤ 3) (hn : 0 ≤ n ∧ n ≤ 2) : SgD (a ++ [n]) := ⟨by rw [List.length_append, List.length_singleton]; have := h.len; omega, fun q hq => by
  rcases List.mem_append.1 hq with h1 | h1
  · exact h.el q h1
  · rw [List.mem_singleton] at h1; omega⟩
theorem l1DrawSigD_spec {w0 : World} {Γ Δ : List Atom} {bc : Nat} {vb : Value} {code : List UInt8} {p : CurS code} [hb : PullBk Γ bc (cur vb p) Δ] [hv : HasRd (List UInt8) repList Δ [vb] code] :
    CJ Try.prog 46 [.pointer (some ⟨bc, 0, none⟩)] w0 Γ (fun q : { q : Value × List Int × CurS code // SgD q.2.1 } => .agg #[q.1.1]) (fun q => .ow [q.1.1] q.1.2.1 :: .bk bc (cur vb q.1.2.2) :: Δ) := by
  refine cj_perm hb.perm ?_
  refine cj_enter Try.func46 Try.ntmps46 ?_
  repeat' (first | refine red ?_ | (refine redc fun r => ?_; try have hr := Subtype.property r) | refine redv fun sv => ?_ | refine redn fun b => ?_ | (refine redi (fun hc => ?_) (fun hc => ?_) <;> try first | (exfalso; omega) | exact absurd rfl hc) | fail)
  · refine wc_loop_p [4] [13, 14, 17, 18, 19, 20, 21, 22, 23, 15, 16] (ι := Int × Value × List Int × CurS code) (fun k => [.int .i64 k.1]) (fun k => [.bk b [k.2.1], .ow [k.2.1] k.2.2.1, .bk bc (cur vb k.2.2.2)]) (fun k => k.1 + k.2.2.1.length ≤ 4 ∧ SgD k.2.2.1) (fun k => k.1.toNat) (r.1.1, sv, [0], r.1.2) [.bk b [sv], .ow [sv] ([0] : List Int), .bk bc (cur vb r.1.2)] (by kernel_rfl) ⟨by simp only [List.length_cons, List.length_nil]; omega, ⟨by simp, fun q hq => by rw [List.mem_singleton] at hq; omega⟩⟩ rfl ?_
    intro ⟨n, sw, a, p0⟩ u l' hl' ⟨hk, hk2⟩
    simp only [patch, List.map_cons, List.map_nil, List.set_cons_zero, List.set_cons_succ] at hl'
    subst hl'
    simp only [List.cons_append, List.nil_append] at hk hk2 ⊢
    have hk3 := hk2.len
    repeat' (first | refine red ?_ | refine reds ?_ | (refine redi (fun hc => ?_) (fun hc => ?_) <;> try first | (exfalso; omega) | exact absurd rfl hc) | ((refine wa_beginc 7 [false, false, false, false, false, false, false, false] [5, 7] ?_ <;> (first | refine wa_p 0 ?_ | fail) <;> (first | refine wa_p 1 ?_ | fail) <;> refine wa_p 2 ?_ <;> (refine wa_do 3 ?_ <;> (repeat' (first | refine red ?_ | (refine redc fun r => ?_; try have hr := Subtype.property r) | fail))) <;> (refine wa_do 4 ?_ <;> (repeat' (first | refine red ?_ | refine redv fun sv => ?_ | fail))) <;> (refine wa_do 5 ?_ <;> (repeat' (first | refine red ?_ | refine redv fun sv => ?_ | fail))) <;> (first | refine wa_p0 6 ?_ | fail) <;> (refine wa_do 7 ?_ <;> (repeat' (first | refine red ?_ | fail)))) <;> (refine wa_end ?_)) | fail)
    · exact wq_next (n - 1, sv, a ++ [r.1.1], r.1.2) ⟨by simp only [List.length_append, List.length_cons, List.length_nil]; omega, hk2.snoc (by omega) (by omega)⟩ (by simp only; omega) (by kernel_rfl) ent_e
    · exact ⟨⟨(sw, a, p0), hk2⟩, rfl, ent_e⟩
  · exact ⟨⟨(sv, [2, 1, 0], r.2), ⟨by simp, by simp⟩⟩, rfl, ent_e⟩
instance l1DrawSigD_ctr {Γ Δ : List Atom} {bc : Nat} {vb : Value} {code : List UInt8} {p : CurS code} [hb : PullBk Γ bc (cur vb p) Δ] [hv : HasRd (List UInt8) repList Δ [vb] code] :
    CtrC Try.prog 46 [.pointer (some ⟨bc, 0, none⟩)] Γ (True) ({ q : Value × List Int × CurS code // SgD q.2.1 }) (fun q : { q : Value × List Int × CurS code // SgD q.2.1 } => .agg #[q.1.1]) (fun q => .ow [q.1.1] q.1.2.1 :: .bk bc (cur vb q.1.2.2) :: Δ) := ⟨fun s w0 => l1DrawSigD_spec⟩

attribute [local instance 2000] l1DrawSigD_ctr
/-- The last number is one that takes no arguments. -/
def LastOk (a t : List Int) : Prop := badS a (t.getD (t.length - 1) 0) = false ∧ ar a (t.getD (t.length - 1) 0) = 0
theorem lastOk_one {a : List Int} {n : Int} (h1 : badS a n = false) (h2 : ar a n = 0) : LastOk a [n] := ⟨h1, h2⟩
theorem last_var {a : List Int} {x : Int} (hx : -24 ≤ x ∧ x < 0) : LastOk a [x] := lastOk_one (by unfold badS; exact decide_eq_false (by omega)) (by unfold ar; rw [if_pos hx.2])
theorem last_con {a : List Int} {k : Int} (hk : 0 ≤ k ∧ k < a.length) (h0 : a.getD k.toNat 0 = 0) : LastOk a [k] := lastOk_one (by unfold badS; exact decide_eq_false (by omega)) (by unfold ar; rw [if_neg (by omega)]; exact h0)
theorem lastOk_append {a o t : List Int} (ht : 1 ≤ t.length) (h : LastOk a t) : LastOk a (o ++ t) := by
  unfold LastOk at h ⊢
  have e : (o ++ t).getD ((o ++ t).length - 1) 0 = t.getD (t.length - 1) 0 := by
    rw [List.getD_eq_getElem?_getD, List.getD_eq_getElem?_getD, List.length_append, List.getElem?_append_right (by omega)]
    congr 2
    omega
  rw [e]; exact h
theorem l1DrawTermL_rec (N : Nat) : ∀ {w0 : World} {Γ Δ : List Atom} {bc : Nat} {vb va : Value} {code : List UInt8} {p : CurS code} {a : List Int} {d v : Int} [hb : PullBk Γ bc (cur vb p) Δ] [hv : HasRd (List UInt8) repList Δ [vb] code] [ha : HasRd (List Int) repList Δ [va] a] (h : DrT N d a v),
    CJ Try.prog 50 [.pointer (some ⟨bc, 0, none⟩), .agg #[va], .int .i64 d, .int .i64 v] w0 Γ (fun q : { q : Value × List Int × CurS code // 1 ≤ q.2.1.length ∧ 2 * q.2.1.length + 1 ≤ 3 ^ N ∧ LastOk a q.2.1 } => q.1.1) (fun q => .ow [q.1.1] q.1.2.1 :: .bk bc (cur vb q.1.2.2) :: Δ) := by
  induction N with
  | zero =>
    intro w0 Γ Δ bc vb va code p a d v hb hv ha h
    have := h.dp
    omega
  | succ N ih =>
    intro w0 Γ Δ bc vb va code p a d v hb hv ha h
    haveI hI : ∀ (Γ Δ : List Atom) (bc : Nat) (vb va : Value) (code : List UInt8) (p : CurS code) (a : List Int) (d v : Int) [PullBk Γ bc (cur vb p) Δ] [HasRd (List UInt8) repList Δ [vb] code] [HasRd (List Int) repList Δ [va] a], CtrC Try.prog 50 [.pointer (some ⟨bc, 0, none⟩), .agg #[va], .int .i64 d, .int .i64 v] Γ (DrT N d a v) { q : Value × List Int × CurS code // 1 ≤ q.2.1.length ∧ 2 * q.2.1.length + 1 ≤ 3 ^ N ∧ LastOk a q.2.1 } (fun q => q.1.1) (fun q => .ow [q.1.1] q.1.2.1 :: .bk bc (cur vb q.1.2.2) :: Δ) := fun Γ Δ bc vb va code p a d v _ _ _ => ⟨fun h _ => ih h⟩
    refine cj_perm hb.perm ?_
    have hdp := h.dp
    have hvs := h.vs
    have hal := h.len
    have hM : 3 ^ N ≤ 81 := Nat.le_trans (Nat.pow_le_pow_right (by omega) (show N ≤ 4 by omega)) (by decide)
    have hM1 : 1 ≤ 3 ^ N := Nat.one_le_pow _ _ (by omega)
    rw [Nat.pow_succ]
    generalize hMe : 3 ^ N = M at *
    refine cj_enter Try.func50 Try.ntmps50 ?_
    repeat' (first | refine red ?_ | refine redf fun hbi => ?_ | refine reds ?_ | (refine redc fun r => ?_; try have hr := Subtype.property r) | refine redv fun sv => ?_ | refine redn fun b => ?_ | (refine redi (fun hc => ?_) (fun hc => ?_) <;> try first | (exfalso; omega) | exact absurd rfl hc) | fail)
    · exact ⟨⟨(sv, [-1 - r.1.1], r.1.2), ⟨by simp only [List.length_cons, List.length_nil]; omega, by simp only [List.length_cons, List.length_nil]; omega, last_var (by omega)⟩⟩, rfl, ent_e⟩
    · refine wc_loop_c [9] [34, 35, 38, 39, 40, 41, 42, 43, 44, 45, 8, 36, 37] (ι := Int) (fun k => [.int .i64 k]) (fun k => -1 ≤ k ∧ k < a.length) (fun k => (k + 1).toNat) ((a.length : Int) - 1) (by kernel_rfl) (by omega) ?_
      intro k u l' hl' hk
      simp only [patch, List.map_cons, List.map_nil, List.set_cons_zero, List.set_cons_succ] at hl'
      subst hl'
      repeat' (first | refine red ?_ | refine redf fun hbi => ?_ | refine reds ?_ | refine redv fun sv => ?_ | (refine redi (fun hc => ?_) (fun hc => ?_) <;> try first | (exfalso; omega) | exact absurd rfl hc) | fail)
      · exact ⟨⟨(sv, [k], r.2), ⟨by simp only [List.length_cons, List.length_nil]; omega, by simp only [List.length_cons, List.length_nil]; omega, last_con (by omega) (by assumption)⟩⟩, rfl, ent_e⟩
      · exact wq_next (k - 1) (by omega) (by omega) (by kernel_rfl) ent_e
      · exact ⟨⟨(sv, [-1], r.2), ⟨by simp only [List.length_cons, List.length_nil]; omega, by simp only [List.length_cons, List.length_nil]; omega, last_var (by omega)⟩⟩, rfl, ent_e⟩
    · refine wc_loop_c [9] [34, 35, 38, 39, 40, 41, 42, 43, 44, 45, 8, 36, 37] (ι := Int) (fun k => [.int .i64 k]) (fun k => -1 ≤ k ∧ k < a.length) (fun k => (k + 1).toNat) ((a.length : Int) - 1) (by kernel_rfl) (by omega) ?_
      intro k u l' hl' hk
      simp only [patch, List.map_cons, List.map_nil, List.set_cons_zero, List.set_cons_succ] at hl'
      subst hl'
      repeat' (first | refine red ?_ | refine redf fun hbi => ?_ | refine reds ?_ | refine redv fun sv => ?_ | (refine redi (fun hc => ?_) (fun hc => ?_) <;> try first | (exfalso; omega) | exact absurd rfl hc) | fail)
      · exact ⟨⟨(sv, [k], p), ⟨by simp only [List.length_cons, List.length_nil]; omega, by simp only [List.length_cons, List.length_nil]; omega, last_con (by omega) (by assumption)⟩⟩, rfl, ent_e⟩
      · exact wq_next (k - 1) (by omega) (by omega) (by kernel_rfl) ent_e
      · exact ⟨⟨(sv, [-1], p), ⟨by simp only [List.length_cons, List.length_nil]; omega, by simp only [List.length_cons, List.length_nil]; omega, last_var (by omega)⟩⟩, rfl, ent_e⟩
    · exact ⟨⟨(sv, [-1 - r.1.1], r.1.2), ⟨by simp only [List.length_cons, List.length_nil]; omega, by simp only [List.length_cons, List.length_nil]; omega, last_var (by omega)⟩⟩, rfl, ent_e⟩
    · refine wc_loop_c [9] [34, 35, 38, 39, 40, 41, 42, 43, 44, 45, 8, 36, 37] (ι := Int) (fun k => [.int .i64 k]) (fun k => -1 ≤ k ∧ k < a.length) (fun k => (k + 1).toNat) ((a.length : Int) - 1) (by kernel_rfl) (by omega) ?_
      intro k u l' hl' hk
      simp only [patch, List.map_cons, List.map_nil, List.set_cons_zero, List.set_cons_succ] at hl'
      subst hl'
      repeat' (first | refine red ?_ | refine redf fun hbi => ?_ | refine reds ?_ | refine redv fun sv => ?_ | (refine redi (fun hc => ?_) (fun hc => ?_) <;> try first | (exfalso; omega) | exact absurd rfl hc) | fail)
      · exact ⟨⟨(sv, [k], r.2), ⟨by simp only [List.length_cons, List.length_nil]; omega, by simp only [List.length_cons, List.length_nil]; omega, last_con (by omega) (by assumption)⟩⟩, rfl, ent_e⟩
      · exact wq_next (k - 1) (by omega) (by omega) (by kernel_rfl) ent_e
      · exact ⟨⟨(sv, [-1], r.2), ⟨by simp only [List.length_cons, List.length_nil]; omega, by simp only [List.length_cons, List.length_nil]; omega, last_var (by omega)⟩⟩, rfl, ent_e⟩
    · refine wc_loop_c [9] [34, 35, 38, 39, 40, 41, 42, 43, 44, 45, 8, 36, 37] (ι := Int) (fun k => [.int .i64 k]) (fun k => -1 ≤ k ∧ k < a.length) (fun k => (k + 1).toNat) ((a.length : Int) - 1) (by kernel_rfl) (by omega) ?_
      intro k u l' hl' hk
      simp only [patch, List.map_cons, List.map_nil, List.set_cons_zero, List.set_cons_succ] at hl'
      subst hl'
      repeat' (first | refine red ?_ | refine redf fun hbi => ?_ | refine reds ?_ | refine redv fun sv => ?_ | (refine redi (fun hc => ?_) (fun hc => ?_) <;> try first | (exfalso; omega) | exact absurd rfl hc) | fail)
      · exact ⟨⟨(sv, [k], r.2), ⟨by simp only [List.length_cons, List.length_nil]; omega, by simp only [List.length_cons, List.length_nil]; omega, last_con (by omega) (by assumption)⟩⟩, rfl, ent_e⟩
      · exact wq_next (k - 1) (by omega) (by omega) (by kernel_rfl) ent_e
      · exact ⟨⟨(sv, [-1], r.2), ⟨by simp only [List.length_cons, List.length_nil]; omega, by simp only [List.length_cons, List.length_nil]; omega, last_var (by omega)⟩⟩, rfl, ent_e⟩
    · have hak := sigOk_get h.ok (k := r.1.1.toNat) (by omega)
      have hD : DrT N (d - 1) a v := ⟨h.ok, by omega, h.vs⟩
      have hm : a.getD r.1.1.toNat 0 * ((M : Int) - 1) ≤ 3 * ((M : Int) - 1) := Int.mul_le_mul_of_nonneg_right hak.2 (by omega)
      refine wc_loop_p [11, 12] [59, 60, 63, 64, 65, 66, 67, 68, 69, 70, 61, 62] (ι := Value × List Int × Int × CurS code) (fun k => [k.1, .int .i64 k.2.2.1]) (fun k => [.ow [k.1] k.2.1, .bk bc (cur vb k.2.2.2)]) (fun k => 0 ≤ k.2.2.1 ∧ k.2.2.1 ≤ 3 ∧ 1 ≤ k.2.1.length ∧ 2 * (k.2.1.length : Int) + k.2.2.1 * ((M : Int) - 1) ≤ 3 * M - 1 ∧ (LastOk a k.2.1 ∨ k.2.1 = [r.1.1] ∧ k.2.2.1 = a.getD r.1.1.toNat 0)) (fun k => k.2.2.1.toNat) (sv, [r.1.1], a.getD r.1.1.toNat 0, r.1.2) [.ow [sv] [r.1.1], .bk bc (cur vb r.1.2)] (by kernel_rfl) ⟨by simp only; omega, by simp only; omega, by simp, by simp only [List.length_cons, List.length_nil]; omega, .inr ⟨rfl, rfl⟩⟩ rfl ?_
      intro ⟨sw, o, k, p0⟩ u l' hl' ⟨hk0, hk3, hol, hk, hlo⟩
      have hf0 : 0 ≤ r.1.1 ∧ r.1.1 < a.length := by omega
      simp only [patch, List.map_cons, List.map_nil, List.set_cons_zero, List.set_cons_succ] at hl'
      subst hl'
      simp only [List.cons_append, List.nil_append] at hk0 hk3 hol hk hlo ⊢
      have hk1 : 0 ≤ k * ((M : Int) - 1) := Int.mul_nonneg hk0 (by omega)
      repeat' (first | refine red ?_ | refine reds ?_ | (refine redc fun r => ?_; try have hr := Subtype.property r) | refine redv fun sv => ?_ | (refine redi (fun hc => ?_) (fun hc => ?_) <;> try first | (exfalso; omega) | exact absurd rfl hc) | fail)
      · have e : (k - 1) * ((M : Int) - 1) = k * ((M : Int) - 1) - ((M : Int) - 1) := by rw [Int.sub_mul, Int.one_mul]
        exact wq_next (sv, o ++ r.1.2.1, k - 1, r.1.2.2) ⟨by simp only; omega, by simp only; omega, by simp only [List.length_append]; omega, by simp only [List.length_append]; rw [e]; omega, .inl (lastOk_append (by omega) r.2.2.2)⟩ (by simp only; omega) (by kernel_rfl) ent_e
      · exact ⟨⟨(sw, o, p0), ⟨by simp only; omega, by simp only; omega, by
          rcases hlo with h1 | ⟨h1, h2⟩
          · exact h1
          · rw [h1]; exact last_con hf0 (by omega)⟩⟩, rfl, ent_e⟩
theorem l1DrawTermL_spec {w0 : World} {Γ Δ : List Atom} {bc : Nat} {vb va : Value} {code : List UInt8} {p : CurS code} {a : List Int} {d v : Int} [hb : PullBk Γ bc (cur vb p) Δ] [hv : HasRd (List UInt8) repList Δ [vb] code] [ha : HasRd (List Int) repList Δ [va] a] (h : sigOk a = true ∧ 1 ≤ d ∧ d ≤ 4 ∧ 0 ≤ v ∧ v ≤ 24) :
    CJ Try.prog 50 [.pointer (some ⟨bc, 0, none⟩), .agg #[va], .int .i64 d, .int .i64 v] w0 Γ (fun q : { q : Value × List Int × CurS code // (1 ≤ q.2.1.length ∧ q.2.1.length ≤ 40) ∧ LastOk a q.2.1 } => q.1.1) (fun q => .ow [q.1.1] q.1.2.1 :: .bk bc (cur vb q.1.2.2) :: Δ) := by
  exact cj_mono (l1DrawTermL_rec 4 (p := p) ⟨h.1, by omega, by omega⟩) (fun q => ⟨⟨q.1, ⟨q.2.1, by have := q.2.2.1; omega⟩, q.2.2.2⟩, rfl, fun w h => h⟩)
instance l1DrawTermL_ctr {Γ Δ : List Atom} {bc : Nat} {vb va : Value} {code : List UInt8} {p : CurS code} {a : List Int} {d v : Int} [hb : PullBk Γ bc (cur vb p) Δ] [hv : HasRd (List UInt8) repList Δ [vb] code] [ha : HasRd (List Int) repList Δ [va] a] :
    CtrC Try.prog 50 [.pointer (some ⟨bc, 0, none⟩), .agg #[va], .int .i64 d, .int .i64 v] Γ (sigOk a = true ∧ 1 ≤ d ∧ d ≤ 4 ∧ 0 ≤ v ∧ v ≤ 24) ({ q : Value × List Int × CurS code // (1 ≤ q.2.1.length ∧ q.2.1.length ≤ 40) ∧ LastOk a q.2.1 }) (fun q : { q : Value × List Int × CurS code // (1 ≤ q.2.1.length ∧ q.2.1.length ≤ 40) ∧ LastOk a q.2.1 } => q.1.1) (fun q => .ow [q.1.1] q.1.2.1 :: .bk bc (cur vb q.1.2.2) :: Δ) := ⟨fun s w0 => l1DrawTermL_spec s⟩

attribute [local instance 2000] l1DrawTermL_ctr
theorem end_last {a t : List Int} (h1 : 1 ≤ t.length) (h : LastOk a t) : endOf a (badS a) t (t.length - 1) = t.length := by
  unfold endOf
  have hd : t.drop (t.length - 1) = [t.getD (t.length - 1) 0] := by
    rw [drop_get (by omega), List.drop_of_length_le (by omega)]
  have hk : skp a (badS a) [t.getD (t.length - 1) 0] 1 = (true, 1) := by unfold skp; rw [if_neg (by rw [h.1]; decide), h.2]; rfl
  rw [hd, hk, if_pos rfl]
  omega
theorem l1SubL_spec {w0 : World} {Γ : List Atom} {v v' : Value} {a t : List Int} {at_ : Int} {k0 : Nat} [hm : ToN at_ k0] [h : HasRd (List Int) repList Γ [v] a] [h' : HasIm (List Int) repList Γ [v'] t] (hs : sigOk a = true ∧ LastOk a t ∧ (1 ≤ t.length ∧ t.length ≤ 200) ∧ at_ = (t.length : Int) - 1) :
    CJ Try.prog 74 [.agg #[v], v', .int .i64 at_] w0 Γ (fun p : { q : Value × List Int // q.2.length ≤ 200 } => p.1.1) (fun p => .ow [p.1.1] p.1.2 :: Γ) := by
  obtain ⟨h1, h2, h3, h5⟩ := hs
  obtain rfl : k0 = t.length - 1 := by have := hm.eq; omega
  have he := end_last h3.1 h2
  refine cj_enter Try.func74 Try.ntmps74 ?_
  repeat' (first | refine red ?_ | (refine redc fun r => ?_; try have hr := Subtype.property r) | refine redv fun sv => ?_ | refine redn fun b => ?_ | fail)
  exact ⟨⟨(r, (t.take (endOf a (badS a) t (t.length - 1)).toNat).drop (t.length - 1)), by simp only [List.length_drop, List.length_take]; omega⟩, rfl, ent_e⟩
instance l1SubL_ctr {Γ : List Atom} {v v' : Value} {a t : List Int} {at_ : Int} {k0 : Nat} [hm : ToN at_ k0] [h : HasRd (List Int) repList Γ [v] a] [h' : HasIm (List Int) repList Γ [v'] t] :
    CtrC Try.prog 74 [.agg #[v], v', .int .i64 at_] Γ (sigOk a = true ∧ LastOk a t ∧ (1 ≤ t.length ∧ t.length ≤ 200) ∧ at_ = (t.length : Int) - 1) ({ q : Value × List Int // q.2.length ≤ 200 }) (fun p : { q : Value × List Int // q.2.length ≤ 200 } => p.1.1) (fun p => .ow [p.1.1] p.1.2 :: Γ) := ⟨fun s w0 => l1SubL_spec s⟩

attribute [local instance 2000] l1SubL_ctr
abbrev RlB (r : SRule) : Prop := r.1.length ≤ 200 ∧ r.2.length ≤ 200
theorem l6DrawRule_spec {w0 : World} {Γ Δ : List Atom} {bc : Nat} {vb va : Value} {code : List UInt8} {p : CurS code} {a : List Int} [hb : PullBk Γ bc (cur vb p) Δ] [hv : HasRd (List UInt8) repList Δ [vb] code] [ha : HasRd (List Int) repList Δ [va] a] (h : sigOk a = true) :
    CJ Try.prog 47 [.pointer (some ⟨bc, 0, none⟩), .agg #[va]] w0 Γ (fun q : { q : Value × Value × SRule × CurS code // RlB q.2.2.1 } => .agg #[q.1.1, q.1.2.1]) (fun q => .rd [q.1.1] q.1.2.2.1.1 :: .rd [q.1.2.1] q.1.2.2.1.2 :: .bk bc (cur vb q.1.2.2.2) :: Δ) := by
  refine cj_perm hb.perm ?_
  have hal := sigOk_len h
  refine cj_enter Try.func47 Try.ntmps47 ?_
  repeat' (first | refine red ?_ | refine redf fun hbi => ?_ | refine reds ?_ | (refine redc fun r => ?_; try have hr := Subtype.property r) | refine redv fun sv => ?_ | refine redn fun b => ?_ | (refine redi (fun hc => ?_) (fun hc => ?_) <;> try first | (exfalso; omega) | exact absurd rfl hc) | ((refine wa_beginc 1 [false, false, false, false, false, false, false] [] ?_ <;> refine wa_p 0 ?_ <;> refine wa_p 1 ?_ <;> refine wa_p 2 ?_ <;> (refine wa_do 3 ?_ <;> (repeat' (first | refine red ?_ | (refine redc fun r => ?_; try have hr := Subtype.property r) | fail))) <;> (first | refine wa_p 4 ?_ | fail) <;> (refine wa_do 5 ?_ <;> (repeat' (first | refine red ?_ | (refine redc fun r => ?_; try have hr := Subtype.property r) | fail))) <;> refine wa_p 6 ?_) <;> (refine wa_end ?_)) | ((refine wa_beginc 9 [false, false, false, false, false, false, false] [] ?_ <;> refine wa_p 0 ?_ <;> refine wa_p 1 ?_ <;> refine wa_p 2 ?_ <;> (refine wa_do 3 ?_ <;> (repeat' (first | refine red ?_ | (refine redc fun r => ?_; try have hr := Subtype.property r) | fail))) <;> (first | refine wa_p 4 ?_ | fail) <;> (refine wa_do 5 ?_ <;> (repeat' (first | refine red ?_ | (refine redc fun r => ?_; try have hr := Subtype.property r) | fail))) <;> refine wa_p 6 ?_) <;> (refine wa_end ?_)) | fail)
  · have hak := sigOk_get h (k := r.1.1.toNat) (by omega)
    have hf0 : 0 ≤ r.1.1 ∧ r.1.1 < a.length := by omega
    refine wc_loop_p [5, 7] [33, 34, 37, 38, 39, 40, 41, 35, 36] (ι := Value × List Int × Int × CurS code) (fun k => [k.1, .int .i64 k.2.2.1]) (fun k => [.ow [k.1] k.2.1, .bk bc (cur vb k.2.2.2)]) (fun k => 0 ≤ k.2.2.1 ∧ k.2.2.1 ≤ 3 ∧ 1 ≤ k.2.1.length ∧ k.2.1.length + 40 * k.2.2.1 ≤ 121 ∧ (LastOk a k.2.1 ∨ k.2.1 = [r.1.1] ∧ k.2.2.1 = a.getD r.1.1.toNat 0)) (fun k => k.2.2.1.toNat) (sv, [r.1.1], a.getD r.1.1.toNat 0, r.1.2) [.ow [sv] [r.1.1], .bk bc (cur vb r.1.2)] (by kernel_rfl) ⟨by simp only; omega, by simp only; omega, by simp, by simp only [List.length_cons, List.length_nil]; omega, .inr ⟨rfl, rfl⟩⟩ rfl ?_
    intro ⟨lv, lt, k, p0⟩ u l' hl' ⟨hk0, hk3, hol, hk, hlo⟩
    simp only [patch, List.map_cons, List.map_nil, List.set_cons_zero, List.set_cons_succ] at hl'
    subst hl'
    simp only [List.cons_append, List.nil_append] at hk0 hk3 hol hk hlo ⊢
    repeat' (first | refine red ?_ | refine reds ?_ | (refine redc fun r => ?_; try have hr := Subtype.property r) | refine redv fun sv => ?_ | (refine redi (fun hc => ?_) (fun hc => ?_) <;> try first | (exfalso; omega) | exact absurd rfl hc) | ((refine wa_beginc 9 [false, false, false, false, false, false, false] [] ?_ <;> refine wa_p 0 ?_ <;> refine wa_p 1 ?_ <;> refine wa_p 2 ?_ <;> (refine wa_do 3 ?_ <;> (repeat' (first | refine red ?_ | (refine redc fun r => ?_; try have hr := Subtype.property r) | fail))) <;> (first | refine wa_p 4 ?_ | fail) <;> (refine wa_do 5 ?_ <;> (repeat' (first | refine red ?_ | (refine redc fun r => ?_; try have hr := Subtype.property r) | fail))) <;> refine wa_p 6 ?_) <;> (refine wa_end ?_)) | fail)
    · exact wq_next (sv, lt ++ r.1.2.1, k - 1, r.1.2.2) ⟨by simp only; omega, by simp only; omega, by simp only [List.length_append]; omega, by simp only [List.length_append]; omega, .inl (lastOk_append (by omega) r.2.2)⟩ (by simp only; omega) (by kernel_rfl) ent_e
    have hla : LastOk a lt := by
      rcases hlo with h1 | ⟨h1, h2⟩
      · exact h1
      · rw [h1]; exact last_con hf0 (by omega)
    obtain ⟨⟨wv, wt, wp⟩, hw1, hw2⟩ := r
    simp only at hw1 hw2 ⊢
    refine wc_share lv ?_
    have hll : 1 ≤ (lt).length ∧ (lt).length ≤ 121 := by omega
    haveI : ToN (((lt).length : Int) - 1) ((lt).length - 1) := ⟨by omega⟩
    have hsub : sigOk a = true ∧ LastOk a (lt) ∧ (1 ≤ (lt).length ∧ (lt).length ≤ 200) ∧ ((lt).length : Int) - 1 = ((lt).length : Int) - 1 := ⟨h, hla, by omega, rfl⟩
    refine wc_loop_p [9] [48, 49, 50, 51, 54, 55, 56, 57, 58, 59, 60, 61, 62, 63, 64, 65, 66, 67, 68, 69, 10, 70, 71, 72, 73, 74, 75, 76, 77, 78, 79, 80, 81, 82, 83, 84, 85, 86, 52, 53] (ι := Nat × List Int) (fun k => [.int .i64 k.1]) (fun k => [.ow [wv] k.2]) (fun k => k.1 ≤ k.2.length ∧ k.2.length = wt.length) (fun k => wt.length - k.1) (0, wt) [.ow [wv] wt] (by kernel_rfl) ⟨Nat.zero_le _, rfl⟩ rfl ?_
    intro ⟨i, rt⟩ u l' hl' ⟨hi1, hi2⟩
    simp only [patch, List.map_cons, List.map_nil, List.set_cons_zero, List.set_cons_succ] at hl'
    subst hl'
    simp only [List.cons_append, List.nil_append] at hi1 hi2 ⊢
    have hol := ordTo_len (lt) (lt).length
    repeat' (first | refine red ?_ | refine redf fun hbi => ?_ | refine reds ?_ | (refine redc fun r => ?_; try have hr := Subtype.property r) | (refine redi (fun hc => ?_) (fun hc => ?_) <;> try first | (exfalso; omega) | exact absurd rfl hc) | fail)
    all_goals first
      | exact ⟨⟨(lv, r.1.1, (lt, r.1.2), wp), ⟨by simp only; omega, by simp only; omega⟩⟩, rfl, ent_rd r.1.1 ent_e⟩
      | exact wq_next (i + 1, rt.set i ((ordTo (lt) (lt).length).getD 0 0)) ⟨by simp only [List.length_set]; omega, by simp only [List.length_set]; omega⟩ (by simp only; omega) (by kernel_rfl) ent_e
      | exact wq_next (i + 1, rt) ⟨by simp only; omega, by simp only; omega⟩ (by simp only; omega) (by kernel_rfl) ent_e
      | exact ⟨⟨(lv, wv, (lt, rt), wp), ⟨by simp only; omega, by simp only; omega⟩⟩, rfl, ent_rd wv ent_e⟩
      | fail
  · rename_i r1 hr1 _ _
    obtain ⟨⟨lv, lt, lp⟩, hlt, hla⟩ := r1
    simp only at hlt hla ⊢
    obtain ⟨⟨wv, wt, wp⟩, hw1, hw2⟩ := r
    simp only at hw1 hw2 ⊢
    refine wc_share lv ?_
    have hll : 1 ≤ (lt).length ∧ (lt).length ≤ 121 := by omega
    haveI : ToN (((lt).length : Int) - 1) ((lt).length - 1) := ⟨by omega⟩
    have hsub : sigOk a = true ∧ LastOk a (lt) ∧ (1 ≤ (lt).length ∧ (lt).length ≤ 200) ∧ ((lt).length : Int) - 1 = ((lt).length : Int) - 1 := ⟨h, hla, by omega, rfl⟩
    refine wc_loop_p [9] [48, 49, 50, 51, 54, 55, 56, 57, 58, 59, 60, 61, 62, 63, 64, 65, 66, 67, 68, 69, 10, 70, 71, 72, 73, 74, 75, 76, 77, 78, 79, 80, 81, 82, 83, 84, 85, 86, 52, 53] (ι := Nat × List Int) (fun k => [.int .i64 k.1]) (fun k => [.ow [wv] k.2]) (fun k => k.1 ≤ k.2.length ∧ k.2.length = wt.length) (fun k => wt.length - k.1) (0, wt) [.ow [wv] wt] (by kernel_rfl) ⟨Nat.zero_le _, rfl⟩ rfl ?_
    intro ⟨i, rt⟩ u l' hl' ⟨hi1, hi2⟩
    simp only [patch, List.map_cons, List.map_nil, List.set_cons_zero, List.set_cons_succ] at hl'
    subst hl'
    simp only [List.cons_append, List.nil_append] at hi1 hi2 ⊢
    have hol := ordTo_len (lt) (lt).length
    repeat' (first | refine red ?_ | refine redf fun hbi => ?_ | refine reds ?_ | (refine redc fun r => ?_; try have hr := Subtype.property r) | (refine redi (fun hc => ?_) (fun hc => ?_) <;> try first | (exfalso; omega) | exact absurd rfl hc) | fail)
    all_goals first
      | exact ⟨⟨(lv, r.1.1, (lt, r.1.2), wp), ⟨by simp only; omega, by simp only; omega⟩⟩, rfl, ent_rd r.1.1 ent_e⟩
      | exact wq_next (i + 1, rt.set i ((ordTo (lt) (lt).length).getD 0 0)) ⟨by simp only [List.length_set]; omega, by simp only [List.length_set]; omega⟩ (by simp only; omega) (by kernel_rfl) ent_e
      | exact wq_next (i + 1, rt) ⟨by simp only; omega, by simp only; omega⟩ (by simp only; omega) (by kernel_rfl) ent_e
      | exact ⟨⟨(lv, wv, (lt, rt), wp), ⟨by simp only; omega, by simp only; omega⟩⟩, rfl, ent_rd wv ent_e⟩
      | fail
instance l6DrawRule_ctr {Γ Δ : List Atom} {bc : Nat} {vb va : Value} {code : List UInt8} {p : CurS code} {a : List Int} [hb : PullBk Γ bc (cur vb p) Δ] [hv : HasRd (List UInt8) repList Δ [vb] code] [ha : HasRd (List Int) repList Δ [va] a] :
    CtrC Try.prog 47 [.pointer (some ⟨bc, 0, none⟩), .agg #[va]] Γ (sigOk a = true) ({ q : Value × Value × SRule × CurS code // RlB q.2.2.1 }) (fun q : { q : Value × Value × SRule × CurS code // RlB q.2.2.1 } => .agg #[q.1.1, q.1.2.1]) (fun q => .rd [q.1.1] q.1.2.2.1.1 :: .rd [q.1.2.1] q.1.2.2.1.2 :: .bk bc (cur vb q.1.2.2.2) :: Δ) := ⟨fun s w0 => l6DrawRule_spec s⟩

abbrev KnF (x : SSystem) : Prop := x.1.length ≤ 4 ∧ x.2.length ≤ 3 ∧ ∀ r ∈ x.2, RlB r
abbrev KnS : Type := { q : Value × Value × SSystem // KnF q.2.2 }
theorem l6Known_spec {w0 : World} {Γ : List Atom} {k : Int} :
    CJ Try.prog 45 [.int .i64 k] w0 Γ (fun q : KnS => .agg #[q.1.1, q.1.2.1]) (fun q => .ow [q.1.1] q.1.2.2.1 :: .ow [q.1.2.1] q.1.2.2.2 :: Γ) := by
  refine cj_enter Try.func45 Try.ntmps45 ?_
  repeat' (first | refine red ?_ | refine redv fun sv => ?_ | refine redn fun b => ?_ | (refine redi (fun hc => ?_) (fun hc => ?_) <;> try first | (exfalso; omega) | exact absurd rfl hc) | fail)
  all_goals first
    | exact ⟨⟨(_, _, ([2, 1, 0], [([0, 2, -1], [-1]), ([0, 1, -1, -2], [1, 0, -1, -2])])), (show KnF ([2, 1, 0], [([0, 2, -1], [-1]), ([0, 1, -1, -2], [1, 0, -1, -2])]) by decide)⟩, rfl, ent_e⟩
    | exact ⟨⟨(_, _, ([2, 1, 0], [([0, 0, -1, -2, -3], [0, -1, 0, -2, -3])])), (show KnF ([2, 1, 0], [([0, 0, -1, -2, -3], [0, -1, 0, -2, -3])]) by decide)⟩, rfl, ent_e⟩
    | exact ⟨⟨(_, _, ([2, 1, 0], [([1, 1, -1], [-1])])), (show KnF ([2, 1, 0], [([1, 1, -1], [-1])]) by decide)⟩, rfl, ent_e⟩
    | exact ⟨⟨(_, _, ([2, 1, 0], [([1, -1], [1, 1, -1])])), (show KnF ([2, 1, 0], [([1, -1], [1, 1, -1])]) by decide)⟩, rfl, ent_e⟩
    | exact ⟨⟨(_, _, ([2, 1, 0], [([0, -1, -2], [-1]), ([0, -1, -2], [-2])])), (show KnF ([2, 1, 0], [([0, -1, -2], [-1]), ([0, -1, -2], [-2])]) by decide)⟩, rfl, ent_e⟩
    | exact ⟨⟨(_, _, ([2, 1, 0], [([0, -1, -2], [0, -2, -1])])), (show KnF ([2, 1, 0], [([0, -1, -2], [0, -2, -1])]) by decide)⟩, rfl, ent_e⟩
    | exact ⟨⟨(_, _, ([2, 1, 0], [([0, 2, -1], [-1]), ([0, 1, -1, -1], [2]), ([0, 0, -1, -2, -3], [0, -1, 0, -2, -3])])), (show KnF ([2, 1, 0], [([0, 2, -1], [-1]), ([0, 1, -1, -1], [2]), ([0, 0, -1, -2, -3], [0, -1, 0, -2, -3])]) by decide)⟩, rfl, ent_e⟩
instance l6Known_ctr {Γ : List Atom} {k : Int} :
    CtrC Try.prog 45 [.int .i64 k] Γ (True) (KnS) (fun q : KnS => .agg #[q.1.1, q.1.2.1]) (fun q => .ow [q.1.1] q.1.2.2.1 :: .ow [q.1.2.1] q.1.2.2.2 :: Γ) := ⟨fun s w0 => l6Known_spec⟩

abbrev DsT (n : Nat) (code : List UInt8) : Type := { q : Value × Value × List Int × List (Sh SRule) × CurS code // q.2.2.1.length ≤ 9 ∧ q.2.2.2.1.length ≤ n ∧ ∀ r ∈ q.2.2.2.1, RlB r.v }
theorem rl_snoc {xs : List (Sh SRule)} {r : SRule} (h : ∀ r ∈ xs, RlB r.v) (hr : RlB r) : ∀ r' ∈ xs ++ [Sh.mk r], RlB r'.v := fun r' hr' => by
  rcases List.mem_append.1 hr' with h1 | h1
  · exact h r' h1
  · rw [List.mem_singleton] at h1; rw [h1]; exact hr
theorem l6Draw_spec {w0 : World} {Γ Δ : List Atom} {bc : Nat} {vb : Value} {code : List UInt8} {p : CurS code} [hb : PullBk Γ bc (cur vb p) Δ] [hv : HasRd (List UInt8) repList Δ [vb] code] :
    CJ Try.prog 31 [.pointer (some ⟨bc, 0, none⟩)] w0 Γ (fun q : DsT 3 code => .agg #[q.1.1, q.1.2.1]) (fun q => .ow [q.1.1] q.1.2.2.1 :: .ow [q.1.2.1] q.1.2.2.2.1 :: .bk bc (cur vb q.1.2.2.2.2) :: Δ) := by
  refine cj_perm hb.perm ?_
  refine cj_enter Try.func31 Try.ntmps31 ?_
  repeat' (first | refine red ?_ | (refine redc fun r => ?_; try have hr := Subtype.property r) | refine redn fun b => ?_ | (refine redi (fun hc => ?_) (fun hc => ?_) <;> try first | (exfalso; omega) | exact absurd rfl hc) | fail)
  · rename_i r1 _
    exact ⟨⟨(r.1.1, r.1.2.1, r.1.2.2.1, r.1.2.2.2.map Sh.mk, r1.1.2), ⟨by simp only; omega, by simp only [List.length_map]; omega, fun x hx => by
      obtain ⟨y, hy, e⟩ := List.mem_map.1 hx
      rw [← e]; exact r.2.2.2 y hy⟩⟩, rfl, fun w hs => (ent_e (Γ := Atom.ow [r.1.2.1] (r.1.2.2.2.map Sh.mk) :: _)) w (ent_toSh r.1.2.1 w hs)⟩
  · rename_i r1 hr1
    obtain ⟨⟨va, a, pa⟩, ha⟩ := r1
    simp only at ha ⊢
    have hsg := ha.ok
    have hal := ha.len
    refine wc_loop_p [4] [15, 16, 19, 20, 21, 22, 23, 24, 25, 26, 27, 17, 18] (ι := Int × Value × List (Sh SRule) × CurS code) (fun k => [.int .i64 k.1]) (fun k => [.bk b [va, k.2.1], .ow [k.2.1] k.2.2.1, .bk bc (cur vb k.2.2.2)]) (fun k => 0 ≤ k.1 ∧ k.1 + k.2.2.1.length ≤ 3 ∧ ∀ r ∈ k.2.2.1, RlB r.v) (fun k => k.1.toNat) (r.1.1, .slice none 0 0, [], r.1.2) [.bk b [va, .slice none 0 0], .ow [.slice none 0 0] ([] : List (Sh SRule)), .bk bc (cur vb r.1.2)] (by kernel_rfl) ⟨by simp only; omega, by simp only [List.length_nil]; omega, fun x hx => by cases hx⟩ rfl ?_
    intro ⟨n, rv, rs, p0⟩ u l' hl' ⟨hn, hnl, hrs⟩
    simp only [patch, List.map_cons, List.map_nil, List.set_cons_zero, List.set_cons_succ] at hl'
    subst hl'
    simp only [List.cons_append, List.nil_append] at hn hnl hrs ⊢
    repeat' (first | refine red ?_ | refine reds ?_ | (refine redi (fun hc => ?_) (fun hc => ?_) <;> try first | (exfalso; omega) | exact absurd rfl hc) | ((refine wa_beginc 7 [false, false, false, false, false, false, false, false, false, false] [7, 9] ?_ <;> (first | refine wa_p 0 ?_ | fail) <;> (first | refine wa_p 1 ?_ | fail) <;> refine wa_p 2 ?_ <;> (first | refine wa_p 3 ?_ | fail) <;> refine wa_p 4 ?_ <;> (refine wa_do 5 ?_ <;> (repeat' (first | refine red ?_ | (refine redc fun r => ?_; try have hr := Subtype.property r) | fail))) <;> (refine wa_do 6 ?_ <;> (repeat' (first | refine red ?_ | refine redv fun sv => ?_ | fail))) <;> (refine wa_do 7 ?_ <;> (repeat' (first | refine red ?_ | refine redv fun sv => ?_ | fail))) <;> (first | refine wa_p0 8 ?_ | fail) <;> (refine wa_do 9 ?_ <;> (repeat' (first | refine red ?_ | fail)))) <;> (refine wa_end ?_)) | fail)
    · simp only [List.map_cons, List.map_nil]
      exact wq_next (n - 1, sv, rs ++ [Sh.mk (r.1.2.2.1.1, r.1.2.2.1.2)], r.1.2.2.2) ⟨by simp only; omega, by simp only [List.length_append, List.length_cons, List.length_nil]; omega, rl_snoc hrs hr⟩ (by simp only; omega) (by kernel_rfl) ent_e
    · exact ⟨⟨(va, rv, a, rs, p0), ⟨by simp only; omega, by simp only; omega, hrs⟩⟩, rfl, ent_e⟩
instance l6Draw_ctr {Γ Δ : List Atom} {bc : Nat} {vb : Value} {code : List UInt8} {p : CurS code} [hb : PullBk Γ bc (cur vb p) Δ] [hv : HasRd (List UInt8) repList Δ [vb] code] :
    CtrC Try.prog 31 [.pointer (some ⟨bc, 0, none⟩)] Γ (True) (DsT 3 code) (fun q : DsT 3 code => .agg #[q.1.1, q.1.2.1]) (fun q => .ow [q.1.1] q.1.2.2.1 :: .ow [q.1.2.1] q.1.2.2.2.1 :: .bk bc (cur vb q.1.2.2.2.2) :: Δ) := ⟨fun s w0 => l6Draw_spec⟩

theorem l6DrawAny_sh {w0 : World} {Γ Δ : List Atom} {bc : Nat} {vb : Value} {code : List UInt8} {p : CurS code} [hb : PullBk Γ bc (cur vb p) Δ] [hv : HasRd (List UInt8) repList Δ [vb] code] :
    CJ Try.prog 18 [.pointer (some ⟨bc, 0, none⟩)] w0 Γ (fun q : DsT 13 code => .agg #[q.1.1, q.1.2.1]) (fun q => .ow [q.1.1] q.1.2.2.1 :: .ow [q.1.2.1] q.1.2.2.2.1 :: .bk bc (cur vb q.1.2.2.2.2) :: Δ) := by
  refine cj_perm hb.perm ?_
  refine cj_enter Try.func18 Try.ntmps18 ?_
  repeat' (first | refine red ?_ | (refine redc fun r => ?_; try have hr := Subtype.property r) | refine redv fun sv => ?_ | refine redn fun b => ?_ | (refine redi (fun hc => ?_) (fun hc => ?_) <;> try first | (exfalso; omega) | exact absurd rfl hc) | ((refine wa_beginc 5 [false, false, false, false, false, false, false, false, false, false, false, false, false, false, false] [12, 14] ?_ <;> (first | refine wa_p 0 ?_ | fail) <;> (first | refine wa_p 1 ?_ | fail) <;> refine wa_p 2 ?_ <;> (first | refine wa_p 3 ?_ | fail) <;> refine wa_p 4 ?_ <;> refine wa_p 6 ?_ <;> (first | refine wa_p 7 ?_ | fail) <;> refine wa_p 8 ?_ <;> (refine wa_do 5 ?_ <;> (repeat' (first | refine red ?_ | (refine redc fun r => ?_; try have hr := Subtype.property r) | fail))) <;> (refine wa_do 9 ?_ <;> (repeat' (first | refine red ?_ | (refine redc fun r => ?_; try have hr := Subtype.property r) | fail))) <;> (refine wa_do 10 ?_ <;> (repeat' (first | refine red ?_ | fail))) <;> (refine wa_do 11 ?_ <;> (repeat' (first | refine red ?_ | refine redv fun sv => ?_ | fail))) <;> (refine wa_do 12 ?_ <;> (repeat' (first | refine red ?_ | refine redv fun sv => ?_ | fail))) <;> (first | refine wa_p0 13 ?_ | fail) <;> (refine wa_do 14 ?_ <;> (repeat' (first | refine red ?_ | fail)))) <;> (refine wa_end ?_)) | fail)
  · rename_i bb d hd _ _ _ _ e he _
    obtain ⟨hd1, hd2, hd3⟩ := hd
    simp only [List.map_cons, List.map_nil]
    exact ⟨⟨(d.1.1, sv, d.1.2.2.1, d.1.2.2.2.1 ++ [Sh.mk (e.1.2.1, r.1.2.1)], r.1.2.2), ⟨hd1, by simp only [List.length_append, List.length_cons, List.length_nil]; omega, rl_snoc hd3 ⟨by simp only; omega, by simp only; omega⟩⟩⟩, rfl, ent_e⟩
  · rename_i bb d hd _ _ _ _ _
    obtain ⟨hd1, hd2, hd3⟩ := hd
    exact ⟨⟨(r.1.1, d.1.2.1, r.1.2.1, d.1.2.2.2.1, r.1.2.2), ⟨hr, by simp only; omega, hd3⟩⟩, rfl, ent_e⟩
  · rename_i bb d hd _ _ _ _
    obtain ⟨⟨va, rv0, a, rs0, p0⟩, hd1, hd2, hd3⟩ := d
    simp only at hd1 hd2 hd3 ⊢
    refine wc_loop_p [] [33, 34, 35, 36, 37, 38, 39, 40, 41, 42, 43, 44] (ι := Value × List (Sh SRule)) (fun k => []) (fun k => [.bk b [va, k.1], .ow [k.1] k.2]) (fun k => k.2.length ≤ 13 ∧ ∀ r ∈ k.2, RlB r.v) (fun k => 13 - k.2.length) (rv0, rs0) [.bk b [va, rv0], .ow [rv0] rs0] (by kernel_rfl) ⟨by simp only; omega, hd3⟩ rfl ?_
    intro ⟨rv, rs⟩ u l' hl' ⟨hk1, hk2⟩
    simp only [patch, List.map_cons, List.map_nil, List.set_cons_zero, List.set_cons_succ] at hl'
    subst hl'
    simp only [List.cons_append, List.nil_append] at hk1 hk2 ⊢
    repeat' (first | refine red ?_ | refine redv fun sv => ?_ | (refine redi (fun hc => ?_) (fun hc => ?_) <;> try first | (exfalso; omega) | exact absurd rfl hc) | fail)
    · refine wl_toSh sv ?_
      simp only [List.map_cons, List.map_nil]
      repeat' (first | refine red ?_ | refine redv fun sv => ?_ | fail)
      exact wq_next (sv, rs ++ [Sh.mk ([2], [2])]) ⟨by simp only [List.length_append, List.length_cons, List.length_nil]; omega, rl_snoc hk2 (by decide)⟩ (by simp only [List.length_append, List.length_cons, List.length_nil]; omega) (by kernel_rfl) ent_e
    · exact ⟨⟨(va, rv, a, rs, r.1.2), ⟨hd1, hk1, hk2⟩⟩, rfl, ent_e⟩
  · rename_i bb d hd _ _ _ _ _ _ _
    obtain ⟨hd1, hd2, hd3⟩ := hd
    refine wl_toSh sv ?_
    simp only [List.map_cons, List.map_nil]
    repeat' (first | refine red ?_ | refine redv fun sv => ?_ | fail)
    exact ⟨⟨(d.1.1, sv, d.1.2.2.1, d.1.2.2.2.1 ++ [Sh.mk ([-1], [-1])], r.1.2), ⟨hd1, by simp only [List.length_append, List.length_cons, List.length_nil]; omega, rl_snoc hd3 (by decide)⟩⟩, rfl, ent_e⟩
  · rename_i bb d
    obtain ⟨hd1, hd2, hd3⟩ := hr
    exact ⟨⟨(d.1.1, d.1.2.1, d.1.2.2.1, d.1.2.2.2.1, r.2), ⟨hd1, by simp only; omega, hd3⟩⟩, rfl, ent_e⟩
abbrev DaT (code : List UInt8) : Type := { q : Value × Value × SSystem × CurS code // q.2.2.1.1.length ≤ 9 ∧ q.2.2.1.2.length ≤ 13 ∧ ∀ r ∈ q.2.2.1.2, RlB r }
theorem sh_backR (ts : List (Sh SRule)) : (ts.map Sh.v).map Sh.mk = ts := by
  rw [List.map_map]
  exact (List.map_congr_left (fun _ _ => rfl)).trans (List.map_id ts)
theorem l6DrawAny_spec {w0 : World} {Γ Δ : List Atom} {bc : Nat} {vb : Value} {code : List UInt8} {p : CurS code} [hb : PullBk Γ bc (cur vb p) Δ] [hv : HasRd (List UInt8) repList Δ [vb] code] :
    CJ Try.prog 18 [.pointer (some ⟨bc, 0, none⟩)] w0 Γ (fun q : DaT code => .agg #[q.1.1, q.1.2.1]) (fun q => .rd [q.1.2.1] q.1.2.2.1.2 :: .rd [q.1.1] q.1.2.2.1.1 :: .bk bc (cur vb q.1.2.2.2) :: Δ) := by
  refine cj_mono (l6DrawAny_sh (p := p)) (fun q => ⟨⟨(q.1.1, q.1.2.1, (q.1.2.2.1, q.1.2.2.2.1.map Sh.v), q.1.2.2.2.2), ⟨q.2.1, by simp only [List.length_map]; exact q.2.2.1, fun r hr => by
    obtain ⟨y, hy, e⟩ := List.mem_map.1 hr
    rw [← e]; exact q.2.2.2 y hy⟩⟩, rfl, fun w hs => ?_⟩)
  rw [← sh_backR q.1.2.2.2.1] at hs
  have h2 : Ent w0 (.ow [q.1.1] q.1.2.2.1 :: .ow [q.1.2.1] ((q.1.2.2.2.1.map Sh.v).map Sh.mk) :: .bk bc (cur vb q.1.2.2.2.2) :: Δ) (.rd [q.1.2.1] (q.1.2.2.2.1.map Sh.v) :: .rd [q.1.1] q.1.2.2.1 :: .bk bc (cur vb q.1.2.2.2.2) :: Δ) :=
    ent_unsh (ys := q.1.2.2.2.1.map Sh.v) q.1.2.1 (ent_rd q.1.1 ent_e)
  exact h2 w hs
instance l6DrawAny_ctr {Γ Δ : List Atom} {bc : Nat} {vb : Value} {code : List UInt8} {p : CurS code} [hb : PullBk Γ bc (cur vb p) Δ] [hv : HasRd (List UInt8) repList Δ [vb] code] :
    CtrC Try.prog 18 [.pointer (some ⟨bc, 0, none⟩)] Γ (True) (DaT code) (fun q : DaT code => .agg #[q.1.1, q.1.2.1]) (fun q => .rd [q.1.2.1] q.1.2.2.1.2 :: .rd [q.1.1] q.1.2.2.1.1 :: .bk bc (cur vb q.1.2.2.2) :: Δ) := ⟨fun s w0 => l6DrawAny_spec⟩

end Go.Proofs.Ytjblieilblcdnaa
