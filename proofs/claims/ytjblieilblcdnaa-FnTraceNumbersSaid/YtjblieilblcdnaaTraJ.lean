/- Lists that are looked through: the reference. -/
import Derived.Test.YtjblieilblcdnaaTraH
namespace Go.Proofs.Ytjblieilblcdnaa
open Go Go.Eng
set_option linter.unusedVariables false
set_option linter.unusedSimpArgs false
set_option synthInstance.maxHeartbeats 400000
set_option synthInstance.maxSize 1000
set_option maxHeartbeats 4000000
set_option maxRecDepth 20000

theorem l16Times_spec {w0 : World} {Γ : List Atom} {n m : Int} (hs : -1 ≤ n ∧ n ≤ 20000 ∧ 0 ≤ m ∧ m ≤ 100) :
    CJ Try.prog 66 [.int .i64 n, .int .i64 m] w0 Γ (fun q : { z : Int // -1 ≤ z ∧ z ≤ 20000 } => .int .i64 q.1) (fun _ => Γ) := by
  have h1 : n * m ≤ 20000 * 100 := by
    by_cases h : 0 ≤ n
    · exact Int.mul_le_mul hs.2.1 hs.2.2.2 hs.2.2.1 (by decide)
    · have : n * m ≤ 0 := Int.mul_nonpos_of_nonpos_of_nonneg (by omega) hs.2.2.1
      omega
  have h2 : -100 ≤ n * m := by
    have : (-1) * m ≤ n * m := Int.mul_le_mul_of_nonneg_right hs.1 hs.2.2.1
    omega
  have h3 : 0 ≤ n → 0 ≤ n * m := fun h => Int.mul_nonneg h hs.2.2.1
  refine cj_enter Try.func66 Try.ntmps66 ?_
  repeat' (first | refine red ?_ | refine reds ?_ | (refine redi (fun hc => ?_) (fun hc => ?_) <;> try first | (exfalso; omega) | with_reducible first | exact absurd rfl hc | exact absurd hc Bool.false_ne_true | exact absurd hc Bool.false_ne_true.symm) | fail)
  all_goals first
    | exact ⟨⟨-1, by decide⟩, rfl, ent_e⟩
    | exact ⟨⟨n * m, by have := h3 (by omega); omega⟩, rfl, ent_e⟩
instance l16Times_ctr {Γ : List Atom} {n m : Int} :
    CtrC Try.prog 66 [.int .i64 n, .int .i64 m] Γ (-1 ≤ n ∧ n ≤ 20000 ∧ 0 ≤ m ∧ m ≤ 100) ({ z : Int // -1 ≤ z ∧ z ≤ 20000 }) (fun q : { z : Int // -1 ≤ z ∧ z ≤ 20000 } => .int .i64 q.1) (fun _ => Γ) := ⟨fun s w0 => l16Times_spec s⟩

/-- Numbers 0 and 1. -/
def Dg1 (s : List Int) : Prop := ∀ q ∈ s, 0 ≤ q ∧ q ≤ 1
theorem Dg1.dig {s : List Int} (h : Dg1 s) : Dig s := fun q hq => by have := h q hq; omega
theorem dg1_set {t : List Int} {k : Nat} {q : Int} (h : Dg1 t) (hq : 0 ≤ q ∧ q ≤ 1) : Dg1 (t.set k q) := fun z hz => by
  rcases List.mem_or_eq_of_mem_set hz with h1 | h1
  · exact h z h1
  · rw [h1]; exact hq
structure NxC (xs ys : List Int) : Prop where
  l : xs.length = ys.length
  le : ys.length ≤ 64
  d : Dg1 xs
  d' : Dg1 ys
abbrev NxT (xs : List Int) : Type := { t : List Int × Bool // t.1.length = xs.length ∧ Dg1 t.1 ∧ (t.2 = true → val4 xs < val4 t.1) }
theorem l18Next_spec {w0 : World} {Γ : List Atom} {v1 v2 : Value} {xs ys : List Int} [h1 : HasRd (List Int) repList Γ [v1] xs] [h2 : HasRd (List Int) repList Γ [v2] ys] (hs : NxC xs ys) :
    CJ Try.prog 70 [v1, v2] w0 Γ (fun q : Value × NxT xs => .tuple #[q.1, .bool q.2.1.2]) (fun q => .ow [q.1] q.2.1.1 :: Γ) := by
  refine cj_lift (R := [.rd [v1] xs, .rd [v2] ys]) (A := fun q : Value × NxT xs => [.ow [q.1] q.2.1.1]) (fun w1 => ?_) (reads_cons h1 (reads_cons h2 (inferInstance))) (fun _ => inferInstance)
  simp only [List.cons_append, List.nil_append]
  obtain ⟨hl, hle, hd, hd'⟩ := hs
  refine cj_enter Try.func70 Try.ntmps70 ?_
  repeat' (first | refine red ?_ | refine reds ?_ | (refine redc fun r => ?_; try have hr := Subtype.property r) | fail)
  refine wc_loop_p [7] [13, 14, 17, 18, 19, 20, 21, 22, 23, 24, 25, 26, 27, 28, 29, 30, 31, 32, 4, 5, 33, 34, 35, 15, 16] (ι := List Int × Nat) (fun k => [.int .i64 ((k.2 : Int) - 1)]) (fun k => [.ow [r] k.1]) (fun k => UpI xs k.1 k.2 false ∧ Dg1 k.1) (fun k => k.2) (xs, xs.length) [.ow [r] xs] (by kernel_rfl) ⟨up_start hd.dig, hd⟩ rfl ?_
  intro ⟨t, k⟩ u l' hl' ⟨hU, hdt⟩
  simp only [patch, List.map_cons, List.map_nil, List.set_cons_zero, List.set_cons_succ] at hl'
  subst hl'
  simp only [List.cons_append, List.nil_append] at hU hdt ⊢
  have hul := hU.len
  have huk := hU.le
  cases k with
  | zero =>
    repeat' (first | refine red ?_ | (refine redi (fun hc => ?_) (fun hc => ?_) <;> try first | (exfalso; omega) | with_reducible first | exact absurd rfl hc | exact absurd hc Bool.false_ne_true | exact absurd hc Bool.false_ne_true.symm) | fail)
    exact ⟨(r, ⟨(t, false), hul, hdt, fun h => nomatch h⟩), rfl, ent_e⟩
  | succ j =>
    rw [show ((j + 1 : Nat) : Int) - 1 = (j : Int) by omega]
    have hdj := hdt _ (getD_mem (t := t) (k := j) (by omega))
    have hyj := hd' _ (getD_mem (t := ys) (k := j) (by omega))
    repeat' (first | refine red ?_ | refine redf fun hbi => ?_ | refine reds ?_ | (refine redi (fun hc => ?_) (fun hc => ?_) <;> try first | (exfalso; omega) | with_reducible first | exact absurd rfl hc | exact absurd hc Bool.false_ne_true | exact absurd hc Bool.false_ne_true.symm) | ((refine wa_begin 5 [false, false, false, false, false, false, false, false, false] [] ?_ <;> refine wa_p 0 ?_ <;> refine wa_p 1 ?_ <;> refine wa_p 2 ?_ <;> (first | refine wa_f 3 fun hbi => ?_ | fail) <;> refine wa_p 4 ?_ <;> refine wa_p 5 ?_ <;> refine wa_p 6 ?_ <;> (first | refine wa_f 7 fun hbi => ?_ | fail) <;> refine wa_p 8 ?_) <;> (refine wa_end ?_)) | fail)
    · have hU2 := up_inc hU hd.dig (by omega)
      exact ⟨(r, ⟨(t.set j (t.getD j 0 + 1), true), hU2.len, dg1_set hdt (by omega), hU2.up⟩), rfl, ent_e⟩
    · exact wq_next (t.set j 0, j) ⟨up_zero hU, dg1_set hdt (by omega)⟩ (by simp only; omega) (by kernel_rfl) ent_e
instance l18Next_ctr {Γ : List Atom} {v1 v2 : Value} {xs ys : List Int} [h1 : HasRd (List Int) repList Γ [v1] xs] [h2 : HasRd (List Int) repList Γ [v2] ys] :
    CtrC Try.prog 70 [v1, v2] Γ (NxC xs ys) (Value × NxT xs) (fun q : Value × NxT xs => .tuple #[q.1, .bool q.2.1.2]) (fun q => .ow [q.1] q.2.1.1 :: Γ) := ⟨fun s w0 => l18Next_spec s⟩

/-- So many numbers have the Polys of the first k symbols. -/
def numN (a : List Int) : Nat → Nat
  | 0 => 0
  | k + 1 => numN a k + 1 + (a.getD k 0).toNat
theorem numN_le (a : List Int) (k : Nat) : ∀ j, numN a k ≤ numN a (k + j)
  | 0 => Nat.le_refl _
  | j + 1 => Nat.le_trans (numN_le a k j) (by show _ ≤ numN a (k + j) + 1 + _; omega)
theorem numN_max {a : List Int} (h : sigOk a = true) : ∀ k, k ≤ a.length → numN a k ≤ 4 * k
  | 0, _ => Nat.le_refl _
  | k + 1, hk => by
    have h1 := numN_max h k (by omega)
    have h2 := sigOk_get h (k := k) (by omega)
    show numN a k + 1 + _ ≤ _
    omega
structure PlC (a xs : List Int) : Prop where
  ok : sigOk a = true
  l : xs.length = numN a a.length
  d : Dg1 xs
abbrev PlT (a : List Int) : Type := { ps : List SPoly // PolysP a ps }
theorem l16Polys_spec {w0 : World} {Γ : List Atom} {v1 v2 : Value} {a xs : List Int} [h1 : HasRd (List Int) repList Γ [v1] a] [h2 : HasRd (List Int) repList Γ [v2] xs] (hs : PlC a xs) :
    CJ Try.prog 67 [.agg #[v1], v2] w0 Γ (fun q : Value × PlT a => q.1) (fun q => .ow [q.1] q.2.1 :: Γ) := by
  refine cj_lift (R := [.rd [v1] a, .rd [v2] xs]) (A := fun q : Value × PlT a => [.ow [q.1] q.2.1]) (fun w1 => ?_) (reads_cons h1 (reads_cons h2 (inferInstance))) (fun _ => inferInstance)
  simp only [List.cons_append, List.nil_append]
  obtain ⟨hok, hl, hd⟩ := hs
  have hsg := sigOk_len hok
  have hmx := numN_max hok a.length (Nat.le_refl _)
  refine cj_enter Try.func67 Try.ntmps67 ?_
  repeat' (first | refine red ?_ | refine redv fun sv => ?_ | refine redn fun b => ?_ | fail)
  refine wc_loop_p [5, 6, 7] [9, 10, 11, 12, 13, 16, 17, 18, 19, 20, 21, 22, 23, 24, 25, 26, 27, 28, 29, 30, 31, 32, 33, 34, 35, 36, 37, 38, 39, 40, 41, 42, 43, 44, 14, 15] (ι := Value × List SPoly × Nat) (fun k => [k.1, .int .i64 (numN a k.2.2), .int .i64 k.2.2]) (fun k => [.ow [k.1] k.2.1]) (fun k => k.2.2 ≤ a.length ∧ k.2.1.length = k.2.2 ∧ ∀ i, i < k.2.2 → PolyP (k.2.1.getD i default) (a.getD i 0)) (fun k => a.length - k.2.2) (sv, [], 0) [.ow [sv] ([] : List SPoly)] (by kernel_rfl) ⟨Nat.zero_le _, rfl, fun i hi => absurd hi (Nat.not_lt_zero i)⟩ rfl ?_
  intro ⟨so, ps, f⟩ u l' hl' ⟨hf, hpl, hI⟩
  simp only [patch, List.map_cons, List.map_nil, List.set_cons_zero, List.set_cons_succ] at hl'
  subst hl'
  simp only [List.cons_append, List.nil_append] at hf hpl hI ⊢
  by_cases hfl : f < a.length
  · have haf := sigOk_get hok hfl
    have hn1 := numN_le a (f + 1) (a.length - (f + 1))
    rw [show f + 1 + (a.length - (f + 1)) = a.length by omega] at hn1
    have hn2 : numN a (f + 1) = numN a f + 1 + (a.getD f 0).toNat := rfl
    repeat' (first | refine red ?_ | refine redf fun hbi => ?_ | refine reds ?_ | (refine redi (fun hc => ?_) (fun hc => ?_) <;> try first | (exfalso; omega) | with_reducible first | exact absurd rfl hc | exact absurd hc Bool.false_ne_true | exact absurd hc Bool.false_ne_true.symm) | ((refine wa_begin 6 [false, false, false, false, false, false, false, false, false, false, false, false, false, false, false, false, false, false, false, false, false, false] [20] ?_ <;> refine wa_p 0 ?_ <;> refine wa_p 1 ?_ <;> refine wa_p 2 ?_ <;> refine wa_p 3 ?_ <;> (first | refine wa_f 4 fun hbi => ?_ | fail) <;> refine wa_p 5 ?_ <;> refine wa_p 6 ?_ <;> (first | refine wa_p 7 ?_ | fail) <;> refine wa_p 8 ?_ <;> (first | refine wa_p 9 ?_ | fail) <;> (first | refine wa_p 10 ?_ | fail) <;> (first | refine wa_p 11 ?_ | fail) <;> refine wa_p 12 ?_ <;> refine wa_p 13 ?_ <;> (first | refine wa_f 14 fun hbi => ?_ | fail) <;> (first | refine wa_p 15 ?_ | fail) <;> (refine wa_do 16 ?_ <;> (repeat' (first | refine red ?_ | refine redv fun sv => ?_ | fail))) <;> (refine wa_do 17 ?_ <;> (repeat' (first | refine red ?_ | (refine redc fun r => ?_; try have hr := Subtype.property r) | fail))) <;> (refine wa_do 18 ?_ <;> (repeat' (first | refine red ?_ | fail))) <;> (refine wa_do 19 ?_ <;> (repeat' (first | refine red ?_ | refine redv fun sv => ?_ | fail))) <;> (refine wa_do 20 ?_ <;> (repeat' (first | refine red ?_ | refine redv fun sv => ?_ | fail))) <;> refine wa_p0 21 ?_) <;> (refine wa_end ?_)) | fail)
    have hNe : ((numN a f : Nat) : Int) + 1 + a.getD f 0 = ((numN a (f + 1) : Nat) : Int) := by omega
    simp only [hNe, Int.toNat_natCast]
    have hx0 := hd _ (getD_mem (t := xs) (k := numN a f) (by omega))
    have hnew : PolyP (xs.getD (numN a f) 0, (xs.take (numN a (f + 1))).drop (numN a f + 1)) (a.getD f 0) := by
      refine ⟨by simp only; omega, by simp only [List.length_drop, List.length_take]; omega, fun i hi => ?_⟩
      have := hd _ (List.mem_of_mem_take (List.mem_of_mem_drop (getD_mem hi)))
      simp only at this ⊢
      omega
    exact wq_next (sv, ps ++ [(xs.getD (numN a f) 0, (xs.take (numN a (f + 1))).drop (numN a f + 1))], f + 1) ⟨by simp only; omega, by simp only [List.length_append, List.length_cons, List.length_nil]; omega, fun i hi => by
      have h9 : i < f + 1 := hi
      by_cases e : i = f
      · subst e
        rw [List.getD_eq_getElem?_getD, List.getElem?_append_right (by omega), hpl, Nat.sub_self]
        exact hnew
      · rw [List.getD_eq_getElem?_getD, List.getElem?_append_left (by omega), ← List.getD_eq_getElem?_getD]
        exact hI i (by omega)⟩ (by simp only; omega) (by kernel_rfl) ent_e
  · obtain rfl : f = a.length := by omega
    repeat' (first | refine red ?_ | (refine redi (fun hc => ?_) (fun hc => ?_) <;> try first | (exfalso; omega) | with_reducible first | exact absurd rfl hc | exact absurd hc Bool.false_ne_true | exact absurd hc Bool.false_ne_true.symm) | fail)
    exact ⟨(so, ⟨ps, hok, hpl, fun i hi => hI i (by omega)⟩), rfl, ent_e⟩
end Go.Proofs.Ytjblieilblcdnaa
