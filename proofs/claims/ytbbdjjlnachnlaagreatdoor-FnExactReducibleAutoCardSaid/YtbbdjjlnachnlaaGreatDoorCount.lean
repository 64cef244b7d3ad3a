/- Numbers are counted up in place. -/
import Derived.Test.YtbbdjjlnachnlaaGreatDoorRept
import Derived.Test.YtbbdjjlnachnlaaGreatDoorSetS
namespace Go.Proofs.YtbbdjjlnachnlaaGreatDoor
open Go Go.Eng Go.RowKit
set_option linter.unusedVariables false
set_option linter.unusedSimpArgs false
set_option synthInstance.maxHeartbeats 400000
set_option synthInstance.maxSize 1000
set_option maxRecDepth 20000

theorem repeated_spec {w0 : World} {Γ : List Atom} {x n : Int} {k : Nat} [hm : ToN n k] (hn : (0 ≤ n ∧ n ≤ 3) ∧ -9223372036854775808 ≤ x ∧ x ≤ 9223372036854775807) :
    CJ Tryz.prog 166 [.int .i64 x, .int .i64 n] w0 Γ (fun q : Value => q) (fun q => .ow [q] (List.replicate k x) :: Γ) := by
  obtain rfl : n.toNat = k := hm.eq
  refine cj_enter Tryz.func166 Tryz.ntmps166 ?_
  repeat' (first | refine red ?_ | refine redc fun r => ?_ | refine redv fun sv => ?_ | fail)
  exact ⟨r, rfl, ent_e⟩
instance repeated_ctr {Γ : List Atom} {x n : Int} {k : Nat} [hm : ToN n k] :
    CtrC Tryz.prog 166 [.int .i64 x, .int .i64 n] Γ ((0 ≤ n ∧ n ≤ 3) ∧ -9223372036854775808 ≤ x ∧ x ≤ 9223372036854775807) (Value) (fun q : Value => q) (fun q => .ow [q] (List.replicate k x) :: Γ) := ⟨fun s w0 => repeated_spec s⟩

theorem rep_getD (x : Int) {k j : Nat} (h : j < k) : (List.replicate k x).getD j 0 = x := by
  rw [List.getD_eq_getElem?_getD, List.getElem?_replicate, if_pos h]; rfl
structure NxZ (m k i : Nat) (z : Int) : Prop where
  nx : NxL m k i
  hz : z = (m : Int) - 1
theorem countUp_spec {w0 : World} {Γ Δ : List Atom} {v vl vh : Value} {m k i : Nat} {z : Int} [hp : PullOw (List Int) repList Γ [v] (dig m k i) Δ] [h1 : HasRd (List Int) repList Δ [vl] (List.replicate k 0)] [h2 : HasRd (List Int) repList Δ [vh] (List.replicate k z)] (hs : NxZ m k i z) :
    CJ Tryz.prog 167 [v, vl, vh] w0 Γ (fun _ : Unit => .bool (decide (i + 1 < m ^ k))) (fun _ => .ow [v] (if i + 1 < m ^ k then dig m k (i + 1) else List.replicate k 0) :: Δ) := by
  refine cj_perm hp.perm ?_
  obtain ⟨⟨hm2, hm1, hk, hi⟩, rfl⟩ := hs
  have hxl := dig_len m k i
  have hrl : (List.replicate k (0 : Int)).length = k := List.length_replicate
  have hrh : (List.replicate k ((m : Int) - 1)).length = k := List.length_replicate
  refine cj_enter Tryz.func167 Tryz.ntmps167 ?_
  repeat' (first | refine red ?_ | refine reds ?_ | fail)
  refine wc_loop_p [7] [11, 12, 15, 16, 17, 18, 19, 20, 21, 22, 23, 24, 25, 26, 27, 28, 29, 6, 30, 31, 32, 33, 34, 35, 36, 13, 14] (ι := Nat × Nat × Int) (fun j => [.int .i64 j.2.2]) (fun j => [.ow [v] (dig m (k - j.1) j.2.1 ++ List.replicate j.1 0)]) (fun j => j.1 ≤ k ∧ i + 1 = (j.2.1 + 1) * m ^ j.1 ∧ j.2.1 < m ^ (k - j.1) ∧ j.2.2 = (k : Int) - 1 - (j.1 : Int)) (fun j => k - j.1) (0, i, ((dig m k i).length : Int) - 1) [.ow [v] (dig m k i)] (by kernel_rfl) ⟨Nat.zero_le _, by simp, by simpa using hi, by simp only [hxl]; omega⟩ (by simp) ?_
  intro ⟨j, c, z⟩ u l' hl' ⟨hj, he, hcm, hz⟩
  simp only [patch, List.map_cons, List.map_nil, List.set_cons_zero, List.set_cons_succ] at hl'
  subst hl'
  simp only [List.cons_append, List.nil_append] at hj he hcm hz ⊢
  have hyl : (dig m (k - j) c ++ List.replicate j 0).length = k := by rw [List.length_append, dig_len, List.length_replicate]; omega
  by_cases hjk : j < k
  · obtain ⟨p, hp⟩ : ∃ p, k - j = p + 1 := ⟨k - j - 1, by omega⟩
    have hm0 : 0 < m := by omega
    have hgd : (dig m (k - j) c ++ List.replicate j 0).getD (k - 1 - j) 0 = ((c % m : Nat) : Int) := by
      rw [hp, show k - 1 - j = p by omega]
      unfold dig
      rw [List.getD_eq_getElem?_getD, List.append_assoc, List.getElem?_append_right (by rw [dig_len]; omega), dig_len, Nat.sub_self]
      rfl
    have hst : ∀ z : Int, (dig m (k - j) c ++ List.replicate j 0).set (k - 1 - j) z = dig m p (c / m) ++ z :: List.replicate j 0 := fun z => by
      rw [hp, show k - 1 - j = p by omega]
      conv => lhs; unfold dig
      rw [List.append_assoc, List.set_append_right _ _ (by rw [dig_len]; omega), dig_len, Nat.sub_self]
      rfl
    have hst2 : ∀ z y : Int, (dig m p (c / m) ++ z :: List.replicate j 0).set (k - 1 - j) y = dig m p (c / m) ++ y :: List.replicate j 0 := fun z y => by
      rw [List.set_append_right _ _ (by rw [dig_len]; omega), dig_len, show k - 1 - j - p = 0 by omega]
      rfl
    have hgd2 : ∀ z : Int, (dig m p (c / m) ++ z :: List.replicate j 0).getD (k - 1 - j) 0 = z := fun z => by
      rw [List.getD_eq_getElem?_getD, List.getElem?_append_right (by rw [dig_len]; omega), dig_len, show k - 1 - j - p = 0 by omega]
      rfl
    have hyl2 : ∀ z : Int, (dig m p (c / m) ++ z :: List.replicate j 0).length = k := fun z => by rw [← hst z, List.length_set, hyl]
    have hlt := Nat.mod_lt c hm0
    have hgH : (List.replicate k ((m : Int) - 1)).getD (k - 1 - j) 0 = (m : Int) - 1 := rep_getD _ (by omega)
    have hgL : (List.replicate k (0 : Int)).getD (k - 1 - j) 0 = 0 := rep_getD _ (by omega)
    have hdm := Nat.div_add_mod c m
    haveI : ToN z (k - 1 - j) := ⟨by omega⟩
    have hpw : m ^ (k - j) = m ^ p * m := by rw [hp, Nat.pow_succ]
    have hpk : m ^ k = m ^ (k - j) * m ^ j := by rw [← Nat.pow_add]; congr 1; omega
    repeat' (first | refine red ?_ | refine redf fun hbi => ?_ | refine reds ?_ | (refine redi (fun hc => ?_) (fun hc => ?_) <;> try first | (exfalso; omega) | with_reducible first | exact absurd rfl hc | exact absurd hc Bool.false_ne_true | exact absurd hc Bool.false_ne_true.symm) | ((refine wa_begin 4 [false, false, false, false, false, false, false, false, false] [] ?_ <;> refine wa_p 0 ?_ <;> refine wa_p 1 ?_ <;> refine wa_p 2 ?_ <;> (first | refine wa_f 3 fun hbi => ?_ | fail) <;> refine wa_p 4 ?_ <;> refine wa_p 5 ?_ <;> refine wa_p 6 ?_ <;> (first | refine wa_f 7 fun hbi => ?_ | fail) <;> refine wa_p 8 ?_) <;> (refine wa_end ?_)) | fail)
    · have hlt1 : c % m + 1 < m := by rw [hgd, hgH] at hc; omega
      have hinc := dig_inc p c hlt1
      have hc1 : c + 1 < m ^ (k - j) := by
        have h1 : c / m < m ^ p := Nat.div_lt_of_lt_mul (by rw [Nat.mul_comm, ← hpw]; exact hcm)
        have h2 := Nat.mul_le_mul_left m (show c / m + 1 ≤ m ^ p by omega)
        rw [Nat.mul_add, Nat.mul_one, Nat.mul_comm m (m ^ p), ← hpw] at h2
        omega
      have hlt2 : i + 1 < m ^ k := by
        rw [he, hpk]
        exact Nat.mul_lt_mul_of_pos_right hc1 (Nat.pow_pos hm0)
      rw [if_pos hlt2, decide_eq_true hlt2, hgd, hst, show dig m p (c / m) ++ ((c % m : Nat) + 1 : Int) :: List.replicate j 0 = dig m k (i + 1) by
        rw [he, show k = (p + 1) + j by omega, dig_mul hm0, hinc, List.append_assoc]; rfl]
      exact ⟨(), rfl, ent_e⟩
    · have hlt1 : c % m + 1 = m := by rw [hgd, hgH] at hc; omega
      rw [hgL, hst]
      refine wq_next (j + 1, c / m, z - 1) ⟨by simp only; omega, ?_, ?_, by simp only; omega⟩ (by simp only; omega) (by kernel_rfl) (by
        simp only
        rw [show k - (j + 1) = p by omega, show (List.replicate (j + 1) 0 : List Int) = 0 :: List.replicate j 0 from rfl]
        exact ent_e)
      · simp only
        rw [he, Nat.pow_succ, Nat.mul_comm (m ^ j) m, ← Nat.mul_assoc]
        congr 1
        rw [Nat.add_mul, Nat.one_mul, Nat.mul_comm (c / m) m]
        omega
      · simp only
        rw [show k - (j + 1) = p by omega]
        exact Nat.div_lt_of_lt_mul (by rw [Nat.mul_comm, ← hpw]; exact hcm)
  · obtain rfl : j = k := by omega
    rw [Nat.sub_self, Nat.pow_zero] at hcm
    obtain rfl : c = 0 := by omega
    have hno : ¬ (i + 1 < m ^ j) := by omega
    rw [if_neg hno, decide_eq_false hno, Nat.sub_self, show dig m 0 0 = [] from rfl, List.nil_append]
    repeat' (first | refine red ?_ | (refine redi (fun hc => ?_) (fun hc => ?_) <;> try first | (exfalso; omega) | with_reducible first | exact absurd rfl hc | exact absurd hc Bool.false_ne_true | exact absurd hc Bool.false_ne_true.symm) | fail)
    exact ⟨(), rfl, ent_e⟩
instance countUp_ctr {Γ Δ : List Atom} {v vl vh : Value} {m k i : Nat} {z : Int} [hp : PullOw (List Int) repList Γ [v] (dig m k i) Δ] [h1 : HasRd (List Int) repList Δ [vl] (List.replicate k 0)] [h2 : HasRd (List Int) repList Δ [vh] (List.replicate k z)] :
    CtrC Tryz.prog 167 [v, vl, vh] Γ (NxZ m k i z) (Unit) (fun _ : Unit => .bool (decide (i + 1 < m ^ k))) (fun _ => .ow [v] (if i + 1 < m ^ k then dig m k (i + 1) else List.replicate k 0) :: Δ) := ⟨fun s w0 => countUp_spec s⟩

end Go.Proofs.YtbbdjjlnachnlaaGreatDoor
