/- The law FnTraceNumbers: a trace is recovered from its numbers. -/
import Derived.Test.YtjblieilblcdnaaTraQ
import Derived.Test.YtjblieilblcdnaaRdr
import Derived.Test.YtjblieilblcdnaaLike
namespace Go.Proofs.Ytjblieilblcdnaa
open Go Go.Eng
set_option linter.unusedVariables false
set_option linter.unusedSimpArgs false
set_option synthInstance.maxHeartbeats 400000
set_option synthInstance.maxSize 1000
set_option maxHeartbeats 4000000
set_option maxRecDepth 20000

structure EncC (xs : List SPairStep) : Prop where
  z : Siz.size xs ≤ 1000000
  l : (encAll xs).length ≤ 200
structure EncN (xs : List SPairStep) : Prop where
  z : Siz.size xs ≤ 1000000
  l : ¬ (encAll xs).length ≤ 200
instance : FiS Try.prog 29 1 1 := ⟨_, _, Try.underlying29, rfl, rfl, fun w => (inferInstance : Sc Try.prog 26).agg w⟩
structure GateT : Prop where
  x : False
theorem pairsYes_i {w0 : World} {Γ : List Atom} {v : Value} {xs : List SPairStep} [h : HasRd (List SPairStep) repList Γ [v] xs] (hs : EncC xs) :
    CJ Try.prog 6 [v] w0 Γ (fun p : Value × Value × Value => .agg #[.int .i64 12, p.1, p.2.1, p.2.2]) (fun p => .rd [p.1] (encAll xs) :: .ow [p.2.1] (pairsOf xs).2.2.1 :: .ow [p.2.2] (pairsOf xs).2.2.2 :: Γ) := by
  have h := impl_PairsNode_spec (w0 := w0) (Γ := Γ) (v := v) (xs := xs) (by have := hs.z; omega)
  rw [show (pairsOf xs).1 = 12 by rw [pairs_yes hs.l], show (pairsOf xs).2.1 = encAll xs by rw [pairs_yes hs.l]] at h
  exact cj_mono h (fun q => ⟨q, rfl, ent_rd q.1 ent_e⟩)
theorem pairsYes_s {w0 : World} {Γ : List Atom} {v : Value} {xs : List SPairStep} [h : HasRd (List SPairStep) repList Γ [v] xs] (hs : EncC xs) :
    CJ Try.prog 7 [v] w0 Γ (fun p : Value × Value × Value => .agg #[.int .i64 12, p.1, p.2.1, p.2.2]) (fun p => .rd [p.1] (encAll xs) :: .ow [p.2.1] (pairsOf xs).2.2.1 :: .ow [p.2.2] (pairsOf xs).2.2.2 :: Γ) := by
  have h := spec_PairsNode_spec (w0 := w0) (Γ := Γ) (v := v) (xs := xs) (by have := hs.z; omega)
  rw [show (pairsOf xs).1 = 12 by rw [pairs_yes hs.l], show (pairsOf xs).2.1 = encAll xs by rw [pairs_yes hs.l]] at h
  exact cj_mono h (fun q => ⟨q, rfl, ent_rd q.1 ent_e⟩)
theorem pairsNo_i {w0 : World} {Γ : List Atom} {v : Value} {xs : List SPairStep} [h : HasRd (List SPairStep) repList Γ [v] xs] (hs : EncN xs) :
    CJ Try.prog 6 [v] w0 Γ (fun p : Value × Value × Value => .agg #[.int .i64 0, p.1, p.2.1, p.2.2]) (fun p => .rd [p.1] ([] : List Int) :: .ow [p.2.1] (pairsOf xs).2.2.1 :: .ow [p.2.2] (pairsOf xs).2.2.2 :: Γ) := by
  have h := impl_PairsNode_spec (w0 := w0) (Γ := Γ) (v := v) (xs := xs) (by have := hs.z; omega)
  rw [show (pairsOf xs).1 = 0 by rw [pairs_no (by have := hs.l; omega)], show (pairsOf xs).2.1 = [] by rw [pairs_no (by have := hs.l; omega)]] at h
  exact cj_mono h (fun q => ⟨q, rfl, ent_rd q.1 ent_e⟩)
theorem pairsNo_s {w0 : World} {Γ : List Atom} {v : Value} {xs : List SPairStep} [h : HasRd (List SPairStep) repList Γ [v] xs] (hs : EncN xs) :
    CJ Try.prog 7 [v] w0 Γ (fun p : Value × Value × Value => .agg #[.int .i64 0, p.1, p.2.1, p.2.2]) (fun p => .rd [p.1] ([] : List Int) :: .ow [p.2.1] (pairsOf xs).2.2.1 :: .ow [p.2.2] (pairsOf xs).2.2.2 :: Γ) := by
  have h := spec_PairsNode_spec (w0 := w0) (Γ := Γ) (v := v) (xs := xs) (by have := hs.z; omega)
  rw [show (pairsOf xs).1 = 0 by rw [pairs_no (by have := hs.l; omega)], show (pairsOf xs).2.1 = [] by rw [pairs_no (by have := hs.l; omega)]] at h
  exact cj_mono h (fun q => ⟨q, rfl, ent_rd q.1 ent_e⟩)
theorem FnTraceNumbers_spec {w0 : World} {Γ : List Atom} {v : Value} {code : List UInt8} [hv : HasRd (List UInt8) repList Γ [v] code] :
    CJ Try.prog 3 [v] w0 Γ (fun _ : Unit => .bool true) (fun _ => Γ) := by
  haveI hG1 : ∀ (Δ : List Atom) (v : Value) (xs : List SPairStep) [HasRd (List SPairStep) repList Δ [v] xs], CtrC Try.prog 6 [v] Δ GateT (Value × Value × Value) (fun p => .agg #[.int .i64 0, p.1, p.2.1, p.2.2]) (fun p => Δ) := fun Δ v xs _ => ⟨fun h => h.x.elim⟩
  refine cj_enter Try.func3 Try.ntmps3 ?_
  repeat' (first | refine red ?_ | (refine redc fun r => ?_; try have hr := Subtype.property r) | (refine redi (fun hc => ?_) (fun hc => ?_) <;> try first | (exfalso; omega) | with_reducible first | exact absurd rfl hc | exact absurd hc Bool.false_ne_true | exact absurd hc Bool.false_ne_true.symm) | fail)
  · exact ⟨(), rfl, ent_e⟩
  obtain ⟨vx, xs, hx⟩ := r
  simp only
  by_cases hl : (encAll xs).length ≤ 200
  · have hec : EncC xs := ⟨hx, hl⟩
    have hge := encAll_ge xs
    haveI hG2 : ∀ (Δ : List Atom) (v : Value) (xs : List SPairStep) [HasRd (List SPairStep) repList Δ [v] xs], CtrC Try.prog 6 [v] Δ (EncC xs) (Value × Value × Value) (fun p => .agg #[.int .i64 12, p.1, p.2.1, p.2.2]) (fun p => .rd [p.1] (encAll xs) :: .ow [p.2.1] (pairsOf xs).2.2.1 :: .ow [p.2.2] (pairsOf xs).2.2.2 :: Δ) := fun Δ v xs _ => ⟨fun h w0 => pairsYes_i h⟩
    haveI hG3 : ∀ (Δ : List Atom) (v : Value) (xs : List SPairStep) [HasRd (List SPairStep) repList Δ [v] xs], CtrC Try.prog 7 [v] Δ (EncC xs) (Value × Value × Value) (fun p => .agg #[.int .i64 12, p.1, p.2.1, p.2.2]) (fun p => .rd [p.1] (encAll xs) :: .ow [p.2.1] (pairsOf xs).2.2.1 :: .ow [p.2.2] (pairsOf xs).2.2.2 :: Δ) := fun Δ v xs _ => ⟨fun h w0 => pairsYes_s h⟩
    repeat' (first | refine red ?_ | (refine redc fun r => ?_; try have hr := Subtype.property r) | refine redn fun b => ?_ | (refine redi (fun hc => ?_) (fun hc => ?_) <;> try first | (exfalso; omega) | with_reducible first | exact absurd rfl hc | exact absurd hc Bool.false_ne_true | exact absurd hc Bool.false_ne_true.symm) | fail)
    refine wc_share r ?_
    simp only [eq_self]
    refine wc_loop_c [8] [52, 53, 54, 55, 58, 59, 60, 61, 62, 63, 64, 65, 66, 67, 68, 69, 70, 71, 72, 73, 74, 75, 76, 77, 78, 79, 80, 81, 82, 83, 84, 85, 86, 87, 88, 89, 90, 91, 92, 93, 94, 95, 96, 97, 98, 99, 100, 101, 102, 103, 104, 105, 106, 107, 108, 109, 110, 111, 112, 2, 56, 57] (ι := Nat) (fun i => [.int .i64 i]) (fun i => i ≤ xs.length) (fun i => xs.length - i) 0 (by kernel_rfl) (Nat.zero_le _) ?_
    intro k u l' hl' hk
    simp only [patch, List.map_cons, List.map_nil, List.set_cons_zero, List.set_cons_succ] at hl'
    subst hl'
    by_cases hkl : k < xs.length
    · repeat' (first | refine red ?_ | refine reds ?_ | (refine redi (fun hc => ?_) (fun hc => ?_) <;> try first | (exfalso; omega) | with_reducible first | exact absurd rfl hc | exact absurd hc Bool.false_ne_true | exact absurd hc Bool.false_ne_true.symm) | ((refine wa_begin 16 [false, false, false, false, false, false, false, false, false, false, false, false, false, false, false, false, false, false, false, false, false, false, false, false, false, false, false, false, false, false, false, false, false, false, false, false, false, false, false, false, false, false, false, false, false, false, false, false, false, false, false, false, false, false, false] [] ?_ <;> refine wa_p 0 ?_ <;> refine wa_p 1 ?_ <;> (first | (refine wa_deep 2 fun p cs as_ asb_ hcs has hasb hf => ?_; simp only [Un.cells, Un.atoms, Un.fact, List.cons_append, List.nil_append] at hcs has hasb hf; subst hcs has hasb) | fail) <;> (first | refine wa_p 3 ?_ | fail) <;> (first | refine wa_p 4 ?_ | fail) <;> refine wa_p 5 ?_ <;> refine wa_p 6 ?_ <;> (first | (refine wa_deep 7 fun p cs as_ asb_ hcs has hasb hf => ?_; simp only [Un.cells, Un.atoms, Un.fact, List.cons_append, List.nil_append] at hcs has hasb hf; subst hcs has hasb) | fail) <;> (first | refine wa_p 8 ?_ | fail) <;> (first | refine wa_p 9 ?_ | fail) <;> (refine wa_do 10 ?_ <;> (repeat' (first | refine red ?_ | (refine redc fun r => ?_; try have hr := Subtype.property r) | fail))) <;> (first | refine wa_p 11 ?_ | fail) <;> refine wa_p 12 ?_ <;> (first | (refine wa_if 70 (fun hc => ?_) (fun hc => ?_) <;> (try first | (exfalso; omega) | with_reducible first | exact absurd rfl hc | exact absurd hc Bool.false_ne_true | exact absurd hc Bool.false_ne_true.symm) <;> first | refine wa_pg 13 ?_ | refine wa_no 13 ?_) | fail) <;> (first | refine wa_pg 14 ?_ | fail) <;> (first | refine wa_pg 15 ?_ | fail) <;> (first | refine wa_pg 16 ?_ | fail) <;> (first | refine wa_pg 17 ?_ | fail) <;> (first | refine wa_pg 18 ?_ | fail) <;> (first | refine wa_pg 19 ?_ | fail) <;> (first | refine wa_pg 20 ?_ | fail) <;> (first | refine wa_pg 21 ?_ | fail) <;> (first | refine wa_pg 22 ?_ | fail) <;> (refine wa_do 23 ?_ <;> (repeat' (first | refine red ?_ | (refine redc fun r => ?_; try have hr := Subtype.property r) | fail))) <;> (first | refine wa_pg 24 ?_ | fail) <;> (first | refine wa_p 25 ?_ | fail) <;> refine wa_p 26 ?_ <;> (first | (refine wa_if 84 (fun hc => ?_) (fun hc => ?_) <;> (try first | (exfalso; omega) | with_reducible first | exact absurd rfl hc | exact absurd hc Bool.false_ne_true | exact absurd hc Bool.false_ne_true.symm) <;> first | refine wa_pg 27 ?_ | refine wa_no 27 ?_) | fail) <;> (first | refine wa_pg 28 ?_ | fail) <;> (first | refine wa_pg 29 ?_ | fail) <;> (first | refine wa_pg 30 ?_ | fail) <;> (first | refine wa_pg 31 ?_ | fail) <;> (first | refine wa_pg 32 ?_ | fail) <;> (first | refine wa_pg 33 ?_ | fail) <;> (first | refine wa_pg 34 ?_ | fail) <;> (first | refine wa_pg 35 ?_ | fail) <;> (first | refine wa_pg 36 ?_ | fail) <;> (refine wa_do 37 ?_ <;> (repeat' (first | refine red ?_ | (refine redc fun r => ?_; try have hr := Subtype.property r) | fail))) <;> (first | refine wa_pg 38 ?_ | fail) <;> (first | refine wa_p 39 ?_ | fail) <;> refine wa_p 40 ?_ <;> (first | (refine wa_if 98 (fun hc => ?_) (fun hc => ?_) <;> (try first | (exfalso; omega) | with_reducible first | exact absurd rfl hc | exact absurd hc Bool.false_ne_true | exact absurd hc Bool.false_ne_true.symm) <;> first | refine wa_pg 41 ?_ | refine wa_no 41 ?_) | fail) <;> (first | refine wa_pg 42 ?_ | fail) <;> (first | refine wa_pg 43 ?_ | fail) <;> (first | refine wa_pg 44 ?_ | fail) <;> (first | refine wa_pg 45 ?_ | fail) <;> (first | refine wa_pg 46 ?_ | fail) <;> (first | refine wa_pg 47 ?_ | fail) <;> (first | refine wa_pg 48 ?_ | fail) <;> (first | refine wa_pg 49 ?_ | fail) <;> (first | refine wa_pg 50 ?_ | fail) <;> (first | refine wa_pg 51 ?_ | fail) <;> (first | refine wa_pg 52 ?_ | fail) <;> (first | refine wa_pg 53 ?_ | fail) <;> (first | refine wa_p 54 ?_ | fail)) <;> (refine wa_end ?_)) | fail)
      exact wq_next (k + 1) (by omega) (by omega) (by kernel_rfl) ent_e
    · obtain rfl : k = xs.length := by omega
      repeat' (first | refine red ?_ | (refine redi (fun hc => ?_) (fun hc => ?_) <;> try first | (exfalso; omega) | with_reducible first | exact absurd rfl hc | exact absurd hc Bool.false_ne_true | exact absurd hc Bool.false_ne_true.symm) | ((refine wa_begin 18 [false, false, false, false, false, false, false] [] ?_ <;> refine wa_p 0 ?_ <;> (first | refine wa_p 3 ?_ | fail) <;> (first | refine wa_p 4 ?_ | fail) <;> (refine wa_do 1 ?_ <;> (repeat' (first | refine red ?_ | (refine redc fun r => ?_; try have hr := Subtype.property r) | fail))) <;> (first | refine wa_p 2 ?_ | fail) <;> (refine wa_do 5 ?_ <;> (repeat' (first | refine red ?_ | (refine redc fun r => ?_; try have hr := Subtype.property r) | fail))) <;> refine wa_p 6 ?_) <;> (refine wa_end ?_)) | fail)
      exact ⟨(), ret_bool (decide_eq_true rfl).symm, ent_e⟩
  · have hen : EncN xs := ⟨hx, hl⟩
    haveI hG2 : ∀ (Δ : List Atom) (v : Value) (xs : List SPairStep) [HasRd (List SPairStep) repList Δ [v] xs], CtrC Try.prog 6 [v] Δ (EncN xs) (Value × Value × Value) (fun p => .agg #[.int .i64 0, p.1, p.2.1, p.2.2]) (fun p => .rd [p.1] ([] : List Int) :: .ow [p.2.1] (pairsOf xs).2.2.1 :: .ow [p.2.2] (pairsOf xs).2.2.2 :: Δ) := fun Δ v xs _ => ⟨fun h w0 => pairsNo_i h⟩
    haveI hG3 : ∀ (Δ : List Atom) (v : Value) (xs : List SPairStep) [HasRd (List SPairStep) repList Δ [v] xs], CtrC Try.prog 7 [v] Δ (EncN xs) (Value × Value × Value) (fun p => .agg #[.int .i64 0, p.1, p.2.1, p.2.2]) (fun p => .rd [p.1] ([] : List Int) :: .ow [p.2.1] (pairsOf xs).2.2.1 :: .ow [p.2.2] (pairsOf xs).2.2.2 :: Δ) := fun Δ v xs _ => ⟨fun h w0 => pairsNo_s h⟩
    repeat' (first | refine red ?_ | (refine redc fun r => ?_; try have hr := Subtype.property r) | refine redn fun b => ?_ | (refine redi (fun hc => ?_) (fun hc => ?_) <;> try first | (exfalso; omega) | with_reducible first | exact absurd rfl hc | exact absurd hc Bool.false_ne_true | exact absurd hc Bool.false_ne_true.symm) | fail)
    exact ⟨(), rfl, ent_e⟩
theorem FnTraceNumbers_law {w0 : World} {Γ : List Atom} {x0 : List UInt8} {v0_0 : Value} [h0_0 : HasRd (List UInt8) repList Γ [v0_0] x0] (hf0 : x0.length ≤ 9223372036854775807) :
    CJ Try.prog 3 [v0_0] w0 Γ (fun _ : Unit => .bool true) (fun _ => Γ) := FnTraceNumbers_spec
end Go.Proofs.Ytjblieilblcdnaa
