/- Numbers are counted up in place. -/
import Derived.Test.YtbbdjjlnachnlaaGreatDoorRept
import Derived.Test.YtbbdjjlnachnlaaGreatDoorDraw6
import Derived.Test.YtbbdjjlnachnlaaGreatDoorNrmJ
namespace Go.Proofs.YtbbdjjlnachnlaaGreatDoor
open Go Go.Eng Go.RowKit
set_option linter.unusedVariables false
set_option linter.unusedSimpArgs false
set_option synthInstance.maxHeartbeats 400000
set_option synthInstance.maxSize 1000
set_option maxRecDepth 20000

theorem repeated_spec {w0 : World} {Γ : List Atom} {x n : Int} {k : Nat} [hm : ToN n k] (hn : (0 ≤ n ∧ n ≤ 3) ∧ -9223372036854775808 ≤ x ∧ x ≤ 9223372036854775807) :
    CJ Tryz.prog 166 [.int .i64 x, .int .i64 n] w0 Γ (fun q : Value => q) (fun q => .ow [q] (List.replicate k x) :: Γ) := by
  obtain rfl : n.toNat = k := hm.eq
  refine cj_enter Tryz.func166 Tryz.ntmps166 ?_
  repeat' (first | refine red ?_ | refine redc fun r => ?_ | refine redv fun sv => ?_ | fail)
  exact ⟨r, rfl, ent_e⟩
instance repeated_ctr {Γ : List Atom} {x n : Int} {k : Nat} [hm : ToN n k] :
    CtrC Tryz.prog 166 [.int .i64 x, .int .i64 n] Γ ((0 ≤ n ∧ n ≤ 3) ∧ -9223372036854775808 ≤ x ∧ x ≤ 9223372036854775807) (Value) (fun q : Value => q) (fun q => .ow [q] (List.replicate k x) :: Γ) := ⟨fun s w0 => repeated_spec s⟩

theorem rep_getD (x : Int) {k j : Nat} (h : j < k) : (List.replicate k x).getD j 0 = x := by
  rw [List.getD_eq_getElem?_getD, List.getElem?_replicate, if_pos h]; rfl
structure NxZ (m k i : Nat) (z : Int) : Prop where
  nx : NxL m k i
  hz : z = (m : Int) - 1
theorem countUp_spec {w0 : World} {Γ Δ : List Atom} {v vl vh : Value} {m k i : Nat} {z : Int} [hp : PullOw (List Int) repList Γ [v] (dig m k i) Δ] [h1 : HasRd (List Int) repList Δ [vl] (List.replicate k 0)] [h2 : HasRd (List Int) repList Δ [vh] (List.replicate k z)] (hs : NxZ m k i z) :
    CJ Tryz.prog 167 [v, vl, vh] w0 Γ (fun _ : Unit => .bool (decide (i + 1 < m ^ k))) (fun _ => .ow [v] (if i + 1 < m ^ k then dig m k (i + 1) else List.replicate k 0) :: Δ) := by
  refine cj_perm hp.perm ?_
  obtain ⟨⟨hm2, hm1, hk, hi⟩, rfl⟩ := hs
  have hxl := dig_len m k i
  have hrl : (List.replicate k (0 : Int)).length = k := List.length_replicate
  have hrh : (List.replicate k ((m : Int) - 1)).length = k := List.length_replicate
  refine cj_enter Tryz.func167 Tryz.ntmps167 ?_
  repeat' (first | refine red ?_ | refine reds ?_ | fail)
  refine wc_loop_p [7] [11, 12, 15, 16, 17, 18, 19, 20, 21, 22, 23, 24, 25, 26, 27, 28, 29, 6, 30, 31, 32, 33, 34, 35, 36, 13, 14] (ι := Nat × Nat × Int) (fun j => [.int .i64 j.2.2]) (fun j => [.ow [v] (dig m (k - j.1) j.2.1 ++ List.replicate j.1 0)]) (fun j => j.1 ≤ k ∧ i + 1 = (j.2.1 + 1) * m ^ j.1 ∧ j.2.1 < m ^ (k - j.1) ∧ j.2.2 = (k : Int) - 1 - (j.1 : Int)) (fun j => k - j.1) (0, i, ((dig m k i).length : Int) - 1) [.ow [v] (dig m k i)] (by kernel_rfl) ⟨Nat.zero_le _, by simp, by simpa using hi, by simp only [hxl]; omega⟩ (by simp) ?_
  intro ⟨j, c, z⟩ u l' hl' ⟨hj, he, hcm, hz⟩
  simp only [patch, List.map_cons, List.map_nil, List.set_cons_zero, List.set_cons_succ] at hl'
  subst hl'
  simp only [List.cons_append, List.nil_append] at hj he hcm hz ⊢
  have hyl : (dig m (k - j) c ++ List.replicate j 0).length = k := by rw [List.length_append, dig_len, List.length_replicate]; omega
  by_cases hjk : j < k
  · obtain ⟨p, hp⟩ : ∃ p, k - j = p + 1 := ⟨k - j - 1, by omega⟩
    have hm0 : 0 < m := by omega
    have hgd : (dig m (k - j) c ++ List.replicate j 0).getD (k - 1 - j) 0 = ((c % m : Nat) : Int) := by
      rw [hp, show k - 1 - j = p by omega]
      unfold dig
      rw [List.getD_eq_getElem?_getD, List.append_assoc, List.getElem?_append_right (by rw [dig_len]; omega), dig_len, Nat.sub_self]
      rfl
    have hst : ∀ z : Int, (dig m (k - j) c ++ List.replicate j 0).set (k - 1 - j) z = dig m p (c / m) ++ z :: List.replicate j 0 := fun z => by
      rw [hp, show k - 1 - j = p by omega]
      conv => lhs; unfold dig
      rw [List.append_assoc, List.set_append_right _ _ (by rw [dig_len]; omega), dig_len, Nat.sub_self]
      rfl
    have hst2 : ∀ z y : Int, (dig m p (c / m) ++ z :: List.replicate j 0).set (k - 1 - j) y = dig m p (c / m) ++ y :: List.replicate j 0 := fun z y => by
      rw [List.set_append_right _ _ (by rw [dig_len]; omega), dig_len, show k - 1 - j - p = 0 by omega]
      rfl
    have hgd2 : ∀ z : Int, (dig m p (c / m) ++ z :: List.replicate j 0).getD (k - 1 - j) 0 = z := fun z => by
      rw [List.getD_eq_getElem?_getD, List.getElem?_append_right (by rw [dig_len]; omega), dig_len, show k - 1 - j - p = 0 by omega]
      rfl
    have hyl2 : ∀ z : Int, (dig m p (c / m) ++ z :: List.replicate j 0).length = k := fun z => by rw [← hst z, List.length_set, hyl]
    have hlt := Nat.mod_lt c hm0
    have hgH : (List.replicate k ((m : Int) - 1)).getD (k - 1 - j) 0 = (m : Int) - 1 := rep_getD _ (by omega)
    have hgL : (List.replicate k (0 : Int)).getD (k - 1 - j) 0 = 0 := rep_getD _ (by omega)
    have hdm := Nat.div_add_mod c m
    haveI : ToN z (k - 1 - j) := ⟨by omega⟩
    have hpw : m ^ (k - j) = m ^ p * m := by rw [hp, Nat.pow_succ]
    have hpk : m ^ k = m ^ (k - j) * m ^ j := by rw [← Nat.pow_add]; congr 1; omega
    repeat' (first | refine red ?_ | refine redf fun hbi => ?_ | refine reds ?_ | (refine redi (fun hc => ?_) (fun hc => ?_) <;> try first | (exfalso; omega) | with_reducible first | exact absurd rfl hc | exact absurd hc Bool.false_ne_true | exact absurd hc Bool.false_ne_true.symm) | ((refine wa_begin 4 [false, false, false, false, false, false, false, false, false] [] ?_ <;> refine wa_p 0 ?_ <;> refine wa_p 1 ?_ <;> refine wa_p 2 ?_ <;> (first | refine wa_f 3 fun hbi => ?_ | fail) <;> refine wa_p 4 ?_ <;> refine wa_p 5 ?_ <;> refine wa_p 6 ?_ <;> (first | refine wa_f 7 fun hbi => ?_ | fail) <;> refine wa_p 8 ?_) <;> (refine wa_end ?_)) | fail)
    · have hlt1 : c % m + 1 < m := by rw [hgd, hgH] at hc; omega
      have hinc := dig_inc p c hlt1
      have hc1 : c + 1 < m ^ (k - j) := by
        have h1 : c / m < m ^ p := Nat.div_lt_of_lt_mul (by rw [Nat.mul_comm, ← hpw]; exact hcm)
        have h2 := Nat.mul_le_mul_left m (show c / m + 1 ≤ m ^ p by omega)
        rw [Nat.mul_add, Nat.mul_one, Nat.mul_comm m (m ^ p), ← hpw] at h2
        omega
      have hlt2 : i + 1 < m ^ k := by
        rw [he, hpk]
        exact Nat.mul_lt_mul_of_pos_right hc1 (Nat.pow_pos hm0)
      rw [if_pos hlt2, decide_eq_true hlt2, hgd, hst, show dig m p (c / m) ++ ((c % m : Nat) + 1 : Int) :: List.replicate j 0 = dig m k (i + 1) by
        rw [he, show k = (p + 1) + j by omega, dig_mul hm0, hinc, List.append_assoc]; rfl]
      exact ⟨(), rfl, ent_e⟩
    · have hlt1 : c % m + 1 = m := by rw [hgd, hgH] at hc; omega
      rw [hgL, hst]
      refine wq_next (j + 1, c / m, z - 1) ⟨by simp only; omega, ?_, ?_, by simp only; omega⟩ (by simp only; omega) (by kernel_rfl) (by
        simp only
        rw [show k - (j + 1) = p by omega, show (List.replicate (j + 1) 0 : List Int) = 0 :: List.replicate j 0 from rfl]
        exact ent_e)
      · simp only
        rw [he, Nat.pow_succ, Nat.mul_comm (m ^ j) m, ← Nat.mul_assoc]
        congr 1
        rw [Nat.add_mul, Nat.one_mul, Nat.mul_comm (c / m) m]
        omega
      · simp only
        rw [show k - (j + 1) = p by omega]
        exact Nat.div_lt_of_lt_mul (by rw [Nat.mul_comm, ← hpw]; exact hcm)
  · obtain rfl : j = k := by omega
    rw [Nat.sub_self, Nat.pow_zero] at hcm
    obtain rfl : c = 0 := by omega
    have hno : ¬ (i + 1 < m ^ j) := by omega
    rw [if_neg hno, decide_eq_false hno, Nat.sub_self, show dig m 0 0 = [] from rfl, List.nil_append]
    repeat' (first | refine red ?_ | (refine redi (fun hc => ?_) (fun hc => ?_) <;> try first | (exfalso; omega) | with_reducible first | exact absurd rfl hc | exact absurd hc Bool.false_ne_true | exact absurd hc Bool.false_ne_true.symm) | fail)
    exact ⟨(), rfl, ent_e⟩
instance countUp_ctr {Γ Δ : List Atom} {v vl vh : Value} {m k i : Nat} {z : Int} [hp : PullOw (List Int) repList Γ [v] (dig m k i) Δ] [h1 : HasRd (List Int) repList Δ [vl] (List.replicate k 0)] [h2 : HasRd (List Int) repList Δ [vh] (List.replicate k z)] :
    CtrC Tryz.prog 167 [v, vl, vh] Γ (NxZ m k i z) (Unit) (fun _ : Unit => .bool (decide (i + 1 < m ^ k))) (fun _ => .ow [v] (if i + 1 < m ^ k then dig m k (i + 1) else List.replicate k 0) :: Δ) := ⟨fun s w0 => countUp_spec s⟩

end Go.Proofs.YtbbdjjlnachnlaaGreatDoor
namespace Go.Proofs.YtbbdjjlnachnlaaGreatDoor
open Go Go.Eng
set_option linter.unusedVariables false
set_option linter.unusedSimpArgs false
set_option synthInstance.maxHeartbeats 400000
set_option synthInstance.maxSize 1000
set_option maxHeartbeats 4000000
set_option maxRecDepth 20000

noncomputable def autD (im : ImO) (a : List Int) : SAuto := (autG im a).getD (0, [], [])
theorem autD_none {im : ImO} {a : List Int} (h : autG im a = none) : autD im a = (0, [], []) := by unfold autD; rw [h]; rfl
theorem autD_some {im : ImO} {a : List Int} {y : SAuto} (h : autG im a = some y) : autD im a = y := by unfold autD; rw [h]; rfl
theorem trRG_none {im : ImO} {ar : List Int} {sets : List (List Int)} {f i : Nat} {out : List STrans} (h : im f (listed sets (dig sets.length (arN ar f) i)) = none) : trRG im ar sets f out (i + 1) = trRG im ar sets f out i := by
  show _ ++ trO f _ sets (im f _) = _
  rw [h]; exact List.append_nil _
theorem trRG_some {im : ImO} {ar : List Int} {sets : List (List Int)} {f i : Nat} {out : List STrans} {s : List Int} (h : im f (listed sets (dig sets.length (arN ar f) i)) = some s) : trRG im ar sets f out (i + 1) = trRG im ar sets f out i ++ [((f : Int), dig sets.length (arN ar f) i, placeOf sets s)] := by
  show _ ++ trO f _ sets (im f _) = _
  rw [h]; rfl
theorem l24Auto_spec {w0 : World} {Γ : List Atom} {v vh vl vs : Value} {a : List Int} {sh ls : List (List Int)} [h0 : HasRd (List Int) repList Γ [v] a] [h1 : HasIm (List (List Int)) repList Γ [vh] sh] [h2 : HasIm (List (List Int)) repList Γ [vl] ls] [h3 : HasRd (List Int) repList Γ [vs] (upTo a.length)] (hs : NC a sh ls) :
    CJ Tryz.prog 34 [.agg #[v], vh, vl, vs] w0 Γ (fun q : Value × Value => .tuple #[.agg #[.int .i64 (autD (imN a sh ls) a).1, q.1, q.2], .bool (autG (imN a sh ls) a).isSome]) (fun q => .ow [q.1] (autD (imN a sh ls) a).2.1 :: .ow [q.2] (autD (imN a sh ls) a).2.2 :: Γ) := by
  obtain ⟨im, him⟩ : ∃ im, im = imN a sh ls := ⟨_, rfl⟩
  rw [← him]
  have hsg := sigOk_len hs.sg
  have hul := upTo_len a.length
  refine cj_enter Tryz.func34 Tryz.ntmps34 ?_
  repeat' (first | refine red ?_ | (refine redc fun r => ?_; try have hr := Subtype.property r) | refine redv fun sv => ?_ | refine redn fun b => ?_ | (refine redi (fun hc => ?_) (fun hc => ?_) <;> try first | (exfalso; omega) | with_reducible first | exact absurd rfl hc | exact absurd hc Bool.false_ne_true | exact absurd hc Bool.false_ne_true.symm) | fail)
  · have h5 : autG im a = none := autG_none (by rw [him]; exact r.2.2.2.2 hc)
    rw [autD_none h5, h5]
    exact ⟨(.slice none 0 0, .slice none 0 0), rfl, ent_e⟩
  · rename_i hok
    have h5 : autG im a = none := autG_none (by rw [him, r.2.2.2.1 hok, if_pos (List.length_eq_zero_iff.1 (by omega))])
    rw [autD_none h5, h5]
    exact ⟨(.slice none 0 0, .slice none 0 0), rfl, ent_e⟩
  rename_i hok
  have hfx := r.2.2.2.1 hok
  have hs16 := r.2.2.1
  obtain ⟨vt, ⟨⟨s, ok⟩, hr⟩⟩ := r
  simp only at hok hfx hs16 hc ⊢
  rw [if_neg (fun e => hc (by rw [e]; rfl))] at hfx
  rw [← him] at hfx
  have hsp : 1 ≤ s.length := by omega
  refine wc_loop_p [14] [40, 41, 42, 45, 46, 47, 48, 49, 50, 43, 44] (ι := Value × Nat) (fun k => [.int .i64 k.2]) (fun k => [.bk b [.int .i64 s.length, .slice none 0 0, k.1], .ow [k.1] (upTo k.2)]) (fun k => k.2 ≤ s.length) (fun k => s.length - k.2) (sv, 0) [.bk b [.int .i64 s.length, .slice none 0 0, sv], .ow [sv] ([] : List Int)] (by kernel_rfl) (Nat.zero_le _) rfl ?_
  intro ⟨fv, i⟩ u l' hl' hi
  simp only [patch, List.map_cons, List.map_nil, List.set_cons_zero, List.set_cons_succ] at hl'
  subst hl'
  simp only [List.cons_append, List.nil_append] at hi ⊢
  have hui := upTo_len i
  repeat' (first | refine red ?_ | refine reds ?_ | refine redv fun sv => ?_ | (refine redi (fun hc => ?_) (fun hc => ?_) <;> try first | (exfalso; omega) | with_reducible first | exact absurd rfl hc | exact absurd hc Bool.false_ne_true | exact absurd hc Bool.false_ne_true.symm) | fail)
  · rw [← upTo_succ]
    exact wq_next (sv, i + 1) (by simp only; omega) (by simp only; omega) (by kernel_rfl) ent_e
  obtain rfl : i = s.length := by omega
  refine wc_loop_p [15] [51, 52, 53, 54, 57, 58, 59, 60, 16, 61, 62, 63, 64, 65, 66, 17, 18, 67, 74, 75, 76, 19, 77, 78, 79, 80, 81, 82, 83, 84, 85, 86, 87, 9, 88, 89, 90, 91, 92, 93, 94, 95, 96, 97, 98, 99, 100, 101, 102, 103, 69, 70, 71, 68, 72, 73, 55, 56] (ι := Value × Nat) (fun k => [.int .i64 k.2]) (fun k => [.bk b [.int .i64 s.length, k.1, fv], .ow [k.1] (trSG im a s k.2)]) (fun k => k.2 ≤ a.length ∧ (trSG im a s k.2).length ≤ 300) (fun k => a.length - k.2) (.slice none 0 0, 0) [.bk b [.int .i64 s.length, .slice none 0 0, fv], .ow [.slice none 0 0] ([] : List STrans)] (by kernel_rfl) ⟨Nat.zero_le _, Nat.zero_le _⟩ rfl ?_
  intro ⟨rv, f⟩ u l' hl' ⟨hf, hfl⟩
  simp only [patch, List.map_cons, List.map_nil, List.set_cons_zero, List.set_cons_succ] at hl'
  subst hl'
  simp only [List.cons_append, List.nil_append] at hf hfl ⊢
  by_cases hfa : f < a.length
  · obtain ⟨hf0, hf3⟩ := sig_el hs.sg hfa
    have harN : a.getD f 0 = ((arN a f : Nat) : Int) := by unfold arN; omega
    have hpos : 0 < s.length ^ arN a f := Nat.pow_pos (by omega)
    have hnk := pow_4096 hs16 (show arN a f ≤ 3 by omega)
    have hug : (upTo a.length).getD f 0 = (f : Int) := upTo_get hfa
    haveI : ToN ((upTo a.length).getD f 0) f := ⟨by omega⟩
    repeat' (first | refine red ?_ | refine redf fun hbi => ?_ | refine reds ?_ | refine redv fun sv => ?_ | (refine redi (fun hc => ?_) (fun hc => ?_) <;> try first | (exfalso; omega) | with_reducible first | exact absurd rfl hc | exact absurd hc Bool.false_ne_true | exact absurd hc Bool.false_ne_true.symm) | fail)
    simp only [hug]
    refine wc_loop_p [17, 18] [67, 74, 75, 76, 19, 77, 78, 79, 80, 81, 82, 83, 84, 85, 86, 87, 9, 88, 89, 90, 91, 92, 93, 94, 95, 96, 97, 98, 99, 100, 101, 102, 103, 69, 70, 71, 68, 72, 73] (ι := Value × Value × Nat) (fun k => [k.2.1, .bool (decide (k.2.2 < s.length ^ arN a f))]) (fun k => [.bk b [.int .i64 s.length, k.1, fv], .ow [k.1] (trRG im a s f (trSG im a s f) k.2.2), .ow [k.2.1] (if k.2.2 < s.length ^ arN a f then dig s.length (arN a f) k.2.2 else List.replicate (arN a f) (0 : Int))]) (fun k => k.2.2 ≤ s.length ^ arN a f ∧ (trRG im a s f (trSG im a s f) k.2.2).length ≤ 300) (fun k => s.length ^ arN a f - k.2.2) (rv, sv, 0) [.bk b [.int .i64 s.length, rv, fv], .ow [rv] (trSG im a s f), .ow [sv] (List.replicate (a.getD f 0).toNat (0 : Int))] (by simp only [decide_eq_true hpos]; kernel_rfl) ⟨Nat.zero_le _, hfl⟩ (by simp only [if_pos hpos, dig_zero]; rfl) ?_
    intro ⟨rv, lv, i⟩ u l' hl' ⟨hi, hil⟩
    simp only [patch, List.map_cons, List.map_nil, List.set_cons_zero, List.set_cons_succ] at hl'
    subst hl'
    simp only [List.cons_append, List.nil_append] at hi hil ⊢
    by_cases hlt : i < s.length ^ arN a f
    · simp only [if_pos hlt, decide_eq_true hlt]
      have hdl := dig_len s.length (arN a f) i
      have hls : (dig s.length (arN a f) i).length ≤ 10 ∧ ∀ q ∈ dig s.length (arN a f) i, 0 ≤ q ∧ q < s.length := ⟨by omega, dig_el hlt⟩
      have hnx : NxL s.length (arN a f) i := ⟨by omega, dig_pow hlt, by omega, hlt⟩
      have hra := rowG_all (im := im) (sets := s) hfa (i := i + 1) (by omega)
      have hargl : (listed s (dig s.length (arN a f) i)).length = arN a f := by rw [listed_len, hdl]
      have hfl1 : FitA a ls (f : Int) (listed s (dig s.length (arN a f) i)) := fitA_of hs.lok (by have := hs.llen; omega) hargl
      have hfs1 : FitA a sh (f : Int) (listed s (dig s.length (arN a f) i)) := fitA_of hs.sok hs.slen hargl
      have hplb := place_bd s (comesN a sh f (listed s (dig s.length (arN a f) i)))
      repeat' (first | refine red ?_ | (refine redc fun r => ?_; try have hr := Subtype.property r) | (refine redi (fun hc => ?_) (fun hc => ?_) <;> try first | (exfalso; omega) | with_reducible first | exact absurd rfl hc | exact absurd hc Bool.false_ne_true | exact absurd hc Bool.false_ne_true.symm) | ((refine wa_begin 22 [false, false, false, false, false, false, false, false, false, false, false, false, false, false, false, false, false] [14, 16] ?_ <;> (first | refine wa_p 0 ?_ | fail) <;> (first | refine wa_p 1 ?_ | fail) <;> refine wa_p 2 ?_ <;> refine wa_p 3 ?_ <;> refine wa_p 5 ?_ <;> refine wa_p 6 ?_ <;> refine wa_p 7 ?_ <;> refine wa_p 8 ?_ <;> refine wa_p 9 ?_ <;> (refine wa_do 4 ?_ <;> (repeat' (first | refine red ?_ | (refine redc fun r => ?_; try have hr := Subtype.property r) | fail))) <;> (refine wa_do 10 ?_ <;> (repeat' (first | refine red ?_ | (refine redc fun r => ?_; try have hr := Subtype.property r) | fail))) <;> (refine wa_do 11 ?_ <;> (repeat' (first | refine red ?_ | (refine redc fun r => ?_; try have hr := Subtype.property r) | fail))) <;> (refine wa_do 12 ?_ <;> (repeat' (first | refine red ?_ | fail))) <;> (refine wa_do 13 ?_ <;> (repeat' (first | refine red ?_ | refine redv fun sv => ?_ | fail))) <;> (refine wa_do 14 ?_ <;> (repeat' (first | refine red ?_ | refine redv fun sv => ?_ | fail))) <;> (first | refine wa_p0 15 ?_ | fail) <;> (refine wa_do 16 ?_ <;> (repeat' (first | refine red ?_ | fail)))) <;> (refine wa_end ?_)) | fail)
      · have hsc : trRG im a s f (trSG im a s f) (i + 1) = trRG im a s f (trSG im a s f) i := trRG_none (by rw [him]; exact imN_no hc)
        rw [← hsc]
        exact wq_next (rv, r, i + 1) ⟨by simp only; omega, by simp only; rw [hsc]; exact hil⟩ (by simp only; omega) (by kernel_rfl) ent_e
      · have hsc : trRG im a s f (trSG im a s f) (i + 1) = trRG im a s f (trSG im a s f) i ++ [((f : Int), dig s.length (arN a f) i, placeOf s (comesN a sh f (listed s (dig s.length (arN a f) i))))] := trRG_some (by rw [him]; exact imN_yes (by assumption))
        have hmany : 300 < (allG im a s).length := by rw [hsc, List.length_append, List.length_singleton] at hra; omega
        have h5 := autG_many hfx hmany
        rw [autD_none h5, h5]
        exact ⟨(.slice none 0 0, .slice none 0 0), rfl, ent_e⟩
      · have hsc : trRG im a s f (trSG im a s f) (i + 1) = trRG im a s f (trSG im a s f) i ++ [((f : Int), dig s.length (arN a f) i, placeOf s (comesN a sh f (listed s (dig s.length (arN a f) i))))] := trRG_some (by rw [him]; exact imN_yes (by assumption))
        rw [← hsc]
        exact wq_next (sv, r, i + 1) ⟨by simp only; omega, by simp only; rw [hsc, List.length_append, List.length_singleton]; omega⟩ (by simp only; omega) (by kernel_rfl) ent_e
    · simp only [if_neg hlt, decide_eq_false hlt]
      obtain rfl : i = s.length ^ arN a f := by omega
      repeat' (first | refine red ?_ | refine reds ?_ | fail)
      exact wq_next (rv, f + 1) ⟨by simp only; omega, hil⟩ (by simp only; omega) (by kernel_rfl) (by show Ent _ _ (.bk b [.int .i64 s.length, rv, fv] :: .ow [rv] (trRG im a s f (trSG im a s f) (s.length ^ arN a f)) :: _); exact ent_e)
  · obtain rfl : f = a.length := by omega
    repeat' (first | refine red ?_ | (refine redi (fun hc => ?_) (fun hc => ?_) <;> try first | (exfalso; omega) | with_reducible first | exact absurd rfl hc | exact absurd hc Bool.false_ne_true | exact absurd hc Bool.false_ne_true.symm) | fail)
    have h5 := autG_some hfx hfl
    rw [autD_some h5, h5]
    exact ⟨(rv, fv), rfl, by show Ent _ _ (.ow [rv] (trSG im a s a.length) :: .ow [fv] (upTo s.length) :: _); exact ent_e⟩
instance l24Auto_ctr {Γ : List Atom} {v vh vl vs : Value} {a : List Int} {sh ls : List (List Int)} [h0 : HasRd (List Int) repList Γ [v] a] [h1 : HasIm (List (List Int)) repList Γ [vh] sh] [h2 : HasIm (List (List Int)) repList Γ [vl] ls] [h3 : HasRd (List Int) repList Γ [vs] (upTo a.length)] :
    CtrC Tryz.prog 34 [.agg #[v], vh, vl, vs] Γ (NC a sh ls) (Value × Value) (fun q : Value × Value => .tuple #[.agg #[.int .i64 (autD (imN a sh ls) a).1, q.1, q.2], .bool (autG (imN a sh ls) a).isSome]) (fun q => .ow [q.1] (autD (imN a sh ls) a).2.1 :: .ow [q.2] (autD (imN a sh ls) a).2.2 :: Γ) := ⟨fun s w0 => l24Auto_spec s⟩

noncomputable def normD (x : SSystem) : SAuto := (normA x).getD (0, [], [])
theorem normD_none {x : SSystem} (h : normA x = none) : normD x = (0, [], []) := by unfold normD; rw [h]; rfl
theorem normD_yes {x : SSystem} (h : LlP x) : normD x = autD (imN x.1 (shapesOf x.1 (leftsL x)) (leftsL x)) x.1 := by unfold normD autD; rw [norm_yes h]
theorem lsC_of {x : SSystem} (h : LlP x) : LsC x.1 (leftsL x) := ⟨fun k hk => by
  rw [leftsL_len] at hk
  rw [leftsL_get hk]
  exact (sys_leftN h.1 hk).1, by rw [leftsL_len]; exact (sysOk_iff.1 h.1).1.2⟩
theorem lefts_ok {x : SSystem} (h : LlP x) : ∀ l ∈ leftsL x, termOk x.1 l = true := fun l hl => by
  obtain ⟨k, hk, rfl⟩ := List.getElem_of_mem hl
  have := (lsC_of h).ok k hk
  rw [List.getD_eq_getElem?_getD, List.getElem?_eq_getElem hk] at this
  exact this
theorem nc_of {x : SSystem} (h : LlP x) (hS : ShpF x.1 (leftsL x)) : NC x.1 (shapesOf x.1 (leftsL x)) (leftsL x) := ⟨(sysOk_iff.1 h.1).1.1, fun k hk => by
  have h1 : IsShape x.1 (leftsL x) ((shapesOf x.1 (leftsL x)).getD k default) := (hS.shp.mem _).1 (getD_memD hk)
  exact (shape_closed (lefts_ok h) (fun s hs => (hS.shp.mem s).2 hs) h1).1, by have := hS.len; omega, (lsC_of h).ok, (lsC_of h).len⟩
theorem spec_NormalAuto_spec {w0 : World} {Γ : List Atom} {v0 v1 : Value} {x : SSystem} [h0 : HasRd (List Int) repList Γ [v0] x.1] [h1 : HasRd (List SRule) repList Γ [v1] x.2] :
    CJ Tryz.prog 9 [.agg #[v0, v1]] w0 Γ (fun q : Value × Value => .tuple #[.agg #[.int .i64 (normD x).1, q.1, q.2], .bool (normA x).isSome]) (fun q => .ow [q.1] (normD x).2.1 :: .ow [q.2] (normD x).2.2 :: Γ) := by
  refine cj_lift (R := [.rd [v0] x.1, .rd [v1] x.2]) (A := fun q : Value × Value => [.ow [q.1] (normD x).2.1, .ow [q.2] (normD x).2.2]) (fun w1 => ?_) (reads_cons h0 (reads_cons h1 (inferInstance))) (fun _ => inferInstance)
  simp only [List.cons_append, List.nil_append]
  by_cases hL : LlP x
  · rw [normD_yes hL, norm_yes hL]
    have hls := lsC_of hL
    have hll := hls.len
    rw [leftsL_len] at hll
    have hsl := sigOk_len (sysOk_iff.1 hL.1).1.1
    have hnc := nc_of hL (shpF_of hls)
    refine cj_enter Tryz.func9 Tryz.ntmps9 ?_
    repeat' (first | refine red ?_ | (refine redc fun r => ?_; try have hr := Subtype.property r) | refine redn fun b => ?_ | (refine redi (fun hc => ?_) (fun hc => ?_) <;> try first | (exfalso; omega) | with_reducible first | exact absurd rfl hc | exact absurd hc Bool.false_ne_true | exact absurd hc Bool.false_ne_true.symm) | ((refine wa_begin 4 [false, false, false, false, false, false, false, false, false, false, false, false, false, false, false] [13] ?_ <;> (first | refine wa_p 0 ?_ | fail) <;> refine wa_p 1 ?_ <;> (first | refine wa_p 2 ?_ | fail) <;> refine wa_p 3 ?_ <;> refine wa_p 4 ?_ <;> refine wa_p 6 ?_ <;> (first | refine wa_p 7 ?_ | fail) <;> refine wa_p 8 ?_ <;> (refine wa_do 5 ?_ <;> (repeat' (first | refine red ?_ | (refine redc fun r => ?_; try have hr := Subtype.property r) | fail))) <;> (refine wa_do 9 ?_ <;> (repeat' (first | refine red ?_ | (refine redc fun r => ?_; try have hr := Subtype.property r) | fail))) <;> (refine wa_do 10 ?_ <;> (repeat' (first | refine red ?_ | (refine redc fun r => ?_; try have hr := Subtype.property r) | fail))) <;> refine wa_p 11 ?_ <;> refine wa_p 12 ?_ <;> (refine wa_do 13 ?_ <;> (repeat' (first | refine red ?_ | fail))) <;> refine wa_p0 14 ?_) <;> (refine wa_end ?_)) | fail)
    · exact absurd hL hc
    exact ⟨r, rfl, ent_e⟩
  · rw [normD_none (norm_no hL), norm_no hL]
    refine cj_enter Tryz.func9 Tryz.ntmps9 ?_
    repeat' (first | refine red ?_ | (refine redc fun r => ?_; try have hr := Subtype.property r) | refine redn fun b => ?_ | (refine redi (fun hc => ?_) (fun hc => ?_) <;> try first | (exfalso; omega) | with_reducible first | exact absurd rfl hc | exact absurd hc Bool.false_ne_true | exact absurd hc Bool.false_ne_true.symm) | fail)
    · exact ⟨(.slice none 0 0, .slice none 0 0), rfl, ent_e⟩
    · exact absurd hc hL
instance spec_NormalAuto_ctr {Γ : List Atom} {v0 v1 : Value} {x : SSystem} [h0 : HasRd (List Int) repList Γ [v0] x.1] [h1 : HasRd (List SRule) repList Γ [v1] x.2] :
    CtrC Tryz.prog 9 [.agg #[v0, v1]] Γ (True) (Value × Value) (fun q : Value × Value => .tuple #[.agg #[.int .i64 (normD x).1, q.1, q.2], .bool (normA x).isSome]) (fun q => .ow [q.1] (normD x).2.1 :: .ow [q.2] (normD x).2.2 :: Γ) := ⟨fun s w0 => spec_NormalAuto_spec⟩

end Go.Proofs.YtbbdjjlnachnlaaGreatDoor
