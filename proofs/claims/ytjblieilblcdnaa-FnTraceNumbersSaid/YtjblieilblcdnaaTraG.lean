/- The first projection by which something goes: the reference. -/
import Derived.Test.YtjblieilblcdnaaTraF
namespace Go.Proofs.Ytjblieilblcdnaa
open Go Go.Eng
set_option linter.unusedVariables false
set_option linter.unusedSimpArgs false
set_option synthInstance.maxHeartbeats 400000
set_option synthInstance.maxSize 1000
set_option maxHeartbeats 4000000
set_option maxRecDepth 20000

/-- Numbers from -1 to 2, as one number. -/
def val4 : List Int → Nat
  | [] => 0
  | q :: s => (q + 1).toNat * 4 ^ s.length + val4 s
def Dig (s : List Int) : Prop := ∀ q ∈ s, -1 ≤ q ∧ q ≤ 2
theorem val4_lt : ∀ {s : List Int}, Dig s → val4 s < 4 ^ s.length
  | [], _ => by simp [val4]
  | q :: s, h => by
    have h1 := val4_lt (s := s) fun z hz => h z (by simp [hz])
    have h2 := h q (by simp)
    have h3 : (q + 1).toNat * 4 ^ s.length ≤ 3 * 4 ^ s.length := Nat.mul_le_mul_right _ (by omega)
    simp only [val4, List.length_cons, Nat.pow_succ]
    omega
theorem val4_app : ∀ (s t : List Int), val4 (s ++ t) = val4 s * 4 ^ t.length + val4 t
  | [], t => by simp [val4]
  | q :: s, t => by
    show (q + 1).toNat * 4 ^ (s ++ t).length + val4 (s ++ t) = ((q + 1).toNat * 4 ^ s.length + val4 s) * 4 ^ t.length + val4 t
    rw [val4_app s t, List.length_append, Nat.pow_add, Nat.add_mul, Nat.mul_assoc, Nat.add_assoc]
theorem split_at {s : List Int} {k : Nat} (hk : k < s.length) : s = s.take k ++ (s.getD k 0 :: s.drop (k + 1)) := by
  rw [← drop_get hk, List.take_append_drop]
theorem val4_up {s t : List Int} {k : Nat} (hk : k < s.length) (hl : t.length = s.length) (hp : t.take k = s.take k) (hd : Dig s) (hu : t.getD k 0 = s.getD k 0 + 1) : val4 s < val4 t := by
  have e1 := split_at hk
  have e2 := split_at (s := t) (k := k) (by omega)
  have hds : Dig (s.drop (k + 1)) := fun q hq => hd q (List.mem_of_mem_drop hq)
  have h1 := val4_lt hds
  have h2 := hd _ (getD_mem hk)
  rw [e1, e2, val4_app, val4_app, hp, hu]
  have hdl : (t.drop (k + 1)).length = (s.drop (k + 1)).length := by rw [List.length_drop, List.length_drop, hl]
  have e4 : (s.getD k 0 + 1 + 1).toNat = (s.getD k 0 + 1).toNat + 1 := by omega
  simp only [val4, List.length_cons, hdl, e4, Nat.add_mul, Nat.one_mul]
  omega
/-- From the list o the list t is being made: those up to k are still as they were. -/
structure UpI (o t : List Int) (k : Nat) (mo : Bool) : Prop where
  len : t.length = o.length
  dig : Dig t
  le : k ≤ o.length
  same : mo = false → t.take k = o.take k
  up : mo = true → val4 o < val4 t
theorem up_start {o : List Int} (h : Dig o) : UpI o o o.length false := ⟨rfl, h, Nat.le_refl _, fun _ => rfl, fun h => nomatch h⟩
theorem take_set_ge {t : List Int} {k : Nat} {q : Int} : (t.set k q).take k = t.take k := by
  rw [List.take_set_of_le (Nat.le_refl _)]
theorem dig_set {t : List Int} {k : Nat} {q : Int} (h : Dig t) (hq : -1 ≤ q ∧ q ≤ 2) : Dig (t.set k q) := fun z hz => by
  rcases List.mem_or_eq_of_mem_set hz with h1 | h1
  · exact h z h1
  · rw [h1]; exact hq
theorem take_le {o t : List Int} {k : Nat} (h : t.take (k + 1) = o.take (k + 1)) : t.take k = o.take k := by
  have := congrArg (List.take k) h
  rw [List.take_take, List.take_take, Nat.min_eq_left (by omega)] at this
  exact this
theorem up_inc {o t : List Int} {k : Nat} (h : UpI o t (k + 1) false) (ho : Dig o) (hq : t.getD k 0 ≤ 1) : UpI o (t.set k (t.getD k 0 + 1)) k true := by
  have hk := h.le
  have hs := h.same rfl
  have hl := h.len
  have hdk := h.dig _ (getD_mem (t := t) (k := k) (by omega))
  have e : t.getD k 0 = o.getD k 0 := by
    have := congrArg (fun z => z[k]?) hs
    simp only [List.getElem?_take, if_pos (Nat.lt_succ_self k)] at this
    rw [List.getD_eq_getElem?_getD, List.getD_eq_getElem?_getD, this]
  refine ⟨by rw [List.length_set]; exact hl, dig_set h.dig (by omega), by omega, fun h => (nomatch h), fun _ => ?_⟩
  refine val4_up (k := k) (by omega) (by rw [List.length_set]; exact hl) ?_ ho ?_
  · rw [take_set_ge]; exact take_le hs
  · rw [List.getD_eq_getElem?_getD, List.getElem?_set_self (by omega), ← e]; rfl
theorem up_zero {o t : List Int} {k : Nat} (h : UpI o t (k + 1) false) : UpI o (t.set k 0) k false := by
  have hk := h.le
  refine ⟨by rw [List.length_set]; exact h.len, dig_set h.dig (by omega), by omega, fun _ => ?_, fun h => (nomatch h)⟩
  rw [take_set_ge]; exact take_le (h.same rfl)
theorem up_skip {o t : List Int} {k : Nat} (h : UpI o t (k + 1) false) : UpI o t k false := by
  have hk := h.le
  exact ⟨h.len, h.dig, by omega, fun _ => take_le (h.same rfl), fun h => (nomatch h)⟩
abbrev FpT (x : SSystem) (s : List Int) : Type := { q : List Int × Bool // q.1.length ≤ 8 ∧ (q.2 = true → PrjP x s q.1 ∧ 0 < (prjD x s q.1).length) }
theorem FirstProj_spec {w0 : World} {Γ : List Atom} {v0 v1 vs : Value} {x : SSystem} {s : List Int} [h0 : HasRd (List Int) repList Γ [v0] x.1] [h1 : HasRd (List SRule) repList Γ [v1] x.2] [h2 : HasRd (List Int) repList Γ [vs] s] :
    CJ Try.prog 41 [.agg #[v0, v1], vs] w0 Γ (fun q : Value × FpT x s => .tuple #[q.1, .bool q.2.1.2]) (fun q => .ow [q.1] q.2.1.1 :: Γ) := by
  refine cj_lift (R := [.rd [v0] x.1, .rd [v1] x.2, .rd [vs] s]) (A := fun q : Value × FpT x s => [.ow [q.1] q.2.1.1]) (fun w1 => ?_) (reads_cons h0 (reads_cons h1 (reads_cons h2 (inferInstance)))) (fun _ => inferInstance)
  simp only [List.cons_append, List.nil_append]
  have hpl := pairsD_len x
  by_cases hP : PairsP x ∧ StC (pairsD x).length s
  · obtain ⟨hok, hst⟩ := hP
    have hph := pairs_good hok
    have hsl := hst.len
    have hsa := (sysOk_iff.1 hok.1).1.1
    have hsg := sigOk_len hsa
    have hhd : HdC (pairsD x) s := ⟨hpl, hst, fun k hk => by
      have h := hph.c.tm k hk
      have h1 := termOk_len h.1
      have h2 := termOk_len h.2
      omega⟩
    refine cj_enter Try.func41 Try.ntmps41 ?_
    repeat' (first | refine red ?_ | (refine redc fun r => ?_; try have hr := Subtype.property r) | refine redv fun sv => ?_ | refine redn fun b => ?_ | (refine redi (fun hc => ?_) (fun hc => ?_) <;> try first | (exfalso; omega) | with_reducible first | exact absurd rfl hc | exact absurd hc Bool.false_ne_true | exact absurd hc Bool.false_ne_true.symm) | fail)
    · exact absurd hok hc
    · exact absurd hst hc
    · rename Value × { ys : List Int // ys.length ≤ 128 } => hds
      obtain ⟨vh, hd, hdl⟩ := hds
      simp only
      refine wc_loop_p [9, 10] [34, 35, 36, 37, 38, 39, 42, 43, 44, 45, 46, 47, 48, 49, 50, 51, 52, 4, 5, 53, 54, 55, 56, 57, 58, 40, 41] (ι := Value × List Int × Nat) (fun k => [k.1, .int .i64 k.2.2]) (fun k => [.ow [k.1] k.2.1]) (fun k => k.2.2 ≤ x.1.length ∧ k.2.1.length = k.2.2 ∧ Dig k.2.1) (fun k => x.1.length - k.2.2) (sv, [], 0) [.ow [sv] ([] : List Int)] (by kernel_rfl) ⟨Nat.zero_le _, rfl, fun q hq => absurd hq (by simp)⟩ rfl ?_
      intro ⟨sp, proj, f⟩ u l' hl' ⟨hf, hpl2, hdg⟩
      simp only [patch, List.map_cons, List.map_nil, List.set_cons_zero, List.set_cons_succ] at hl'
      subst hl'
      simp only [List.cons_append, List.nil_append] at hf hpl2 hdg ⊢
      have hcl : ∀ q : Int, (proj ++ [q]).length = f + 1 := fun q => by rw [List.length_append, hpl2]; rfl
      have hcd : ∀ q : Int, -1 ≤ q ∧ q ≤ 2 → Dig (proj ++ [q]) := fun q hq z hz => by
        rcases List.mem_append.1 hz with h | h
        · exact hdg z h
        · rw [List.mem_singleton] at h; rw [h]; exact hq
      by_cases hfl : f < x.1.length
      · have hzf := hcd 0 (by omega)
        have hnf := hcd (-1) (by omega)
        repeat' (first | refine red ?_ | refine redf fun hbi => ?_ | refine reds ?_ | (refine redc fun r => ?_; try have hr := Subtype.property r) | refine redv fun sv => ?_ | (refine redi (fun hc => ?_) (fun hc => ?_) <;> try first | (exfalso; omega) | with_reducible first | exact absurd rfl hc | exact absurd hc Bool.false_ne_true | exact absurd hc Bool.false_ne_true.symm) | fail)
        · exact ⟨(sv, ⟨([], false), by simp, fun h => nomatch h⟩), rfl, ent_e⟩
        · exact wq_next (sv, proj ++ [0], f + 1) ⟨by simp only; omega, hcl 0, hzf⟩ (by simp only; omega) (by kernel_rfl) ent_e
        · exact wq_next (sv, proj ++ [-1], f + 1) ⟨by simp only; omega, hcl (-1), hnf⟩ (by simp only; omega) (by kernel_rfl) ent_e
      · obtain rfl : f = x.1.length := by omega
        repeat' (first | refine red ?_ | (refine redi (fun hc => ?_) (fun hc => ?_) <;> try first | (exfalso; omega) | with_reducible first | exact absurd rfl hc | exact absurd hc Bool.false_ne_true | exact absurd hc Bool.false_ne_true.symm) | fail)
        refine wc_loop_p [9, 11] [59, 61, 62, 63, 64, 60, 65, 66, 12, 13, 67, 68, 69, 70, 71, 72, 73, 4, 5, 74, 75, 76, 14, 77, 78, 79, 80, 81, 82, 85, 86, 87, 88, 89, 90, 91, 92, 93, 94, 95, 96, 97, 98, 99, 100, 101, 102, 103, 104, 105, 106, 107, 108, 109, 110, 111, 112, 113, 114, 115, 116, 117, 83, 84] (ι := Value × List Int × Bool) (fun k => [k.1, .bool k.2.2]) (fun k => [.ow [k.1] k.2.1]) (fun k => k.2.1.length = x.1.length ∧ Dig k.2.1) (fun k => if k.2.2 = true then 4 ^ x.1.length - val4 k.2.1 + 1 else 0) (sp, proj, true) [.ow [sp] proj] (by kernel_rfl) ⟨hpl2, hdg⟩ rfl ?_
        intro ⟨sq, pj, mo⟩ u l' hl' ⟨hpl3, hdg3⟩
        simp only [patch, List.map_cons, List.map_nil, List.set_cons_zero, List.set_cons_succ] at hl'
        subst hl'
        simp only [List.cons_append, List.nil_append] at hpl3 hdg3 ⊢
        have hv3 := val4_lt hdg3
        rw [hpl3] at hv3
        cases mo with
        | false =>
          repeat' (first | refine red ?_ | refine redv fun sv => ?_ | fail)
          exact ⟨(sv, ⟨([], false), by simp, fun h => nomatch h⟩), rfl, ent_e⟩
        | true =>
          repeat' (first | refine red ?_ | refine reds ?_ | (refine redc fun r => ?_; try have hr := Subtype.property r) | (refine redi (fun hc => ?_) (fun hc => ?_) <;> try first | (exfalso; omega) | with_reducible first | exact absurd rfl hc | exact absurd hc Bool.false_ne_true | exact absurd hc Bool.false_ne_true.symm) | fail)
          · exact ⟨(sq, ⟨(pj, true), by simp only; omega, fun _ => ⟨by assumption, by simp only; omega⟩⟩), rfl, ent_e⟩
          all_goals
            refine wc_loop_p [9, 11, 14] [77, 78, 79, 80, 81, 82, 85, 86, 87, 88, 89, 90, 91, 92, 93, 94, 95, 96, 97, 98, 99, 100, 101, 102, 103, 104, 105, 106, 107, 108, 109, 110, 111, 112, 113, 114, 115, 116, 117, 83, 84] (ι := Value × List Int × Bool × Nat) (fun k => [k.1, .bool k.2.2.1, .int .i64 ((k.2.2.2 : Int) - 1)]) (fun k => [.ow [k.1] k.2.1]) (fun k => UpI pj k.2.1 k.2.2.2 k.2.2.1) (fun k => k.2.2.2) (sq, pj, false, pj.length) [.ow [sq] pj] (by kernel_rfl) (up_start hdg3) rfl ?_
            intro ⟨sr, t, mo, k⟩ u l' hl' hU
            simp only [patch, List.map_cons, List.map_nil, List.set_cons_zero, List.set_cons_succ] at hl'
            subst hl'
            simp only [List.cons_append, List.nil_append] at hU ⊢
            have hul := hU.len
            have huk := hU.le
            cases mo with
            | true =>
              have hup := hU.up rfl
              have hvt := val4_lt hU.dig
              rw [hul, hpl3] at hvt
              repeat' (first | refine red ?_ | (refine redi (fun hc => ?_) (fun hc => ?_) <;> try first | (exfalso; omega) | with_reducible first | exact absurd rfl hc | exact absurd hc Bool.false_ne_true | exact absurd hc Bool.false_ne_true.symm) | fail)
              all_goals exact wq_next (sr, t, true) ⟨by simp only; omega, hU.dig⟩ (by simp only [if_true]; omega) (by kernel_rfl) ent_e
            | false =>
              cases k with
              | zero =>
                repeat' (first | refine red ?_ | (refine redi (fun hc => ?_) (fun hc => ?_) <;> try first | (exfalso; omega) | with_reducible first | exact absurd rfl hc | exact absurd hc Bool.false_ne_true | exact absurd hc Bool.false_ne_true.symm) | fail)
                exact wq_next (sr, t, false) ⟨by simp only; omega, hU.dig⟩ (by simp only [if_true, Bool.false_eq_true, if_false]; omega) (by kernel_rfl) ent_e
              | succ j =>
                rw [show ((j + 1 : Nat) : Int) - 1 = (j : Int) by omega]
                have haj := sigOk_get hsa (k := j) (by omega)
                have hdj := hU.dig _ (getD_mem (t := t) (k := j) (by omega))
                repeat' (first | refine red ?_ | refine redf fun hbi => ?_ | refine reds ?_ | (refine redi (fun hc => ?_) (fun hc => ?_) <;> try first | (exfalso; omega) | with_reducible first | exact absurd rfl hc | exact absurd hc Bool.false_ne_true | exact absurd hc Bool.false_ne_true.symm) | ((refine wa_begin 23 [false, false, false, false, false, false, false, false, false, false, false, false, false, false, false, false, false, false, false] [] ?_ <;> refine wa_p 0 ?_ <;> refine wa_p 1 ?_ <;> refine wa_p 2 ?_ <;> (first | refine wa_f 3 fun hbi => ?_ | fail) <;> refine wa_p 4 ?_ <;> refine wa_p 5 ?_ <;> (first | (refine wa_if 90 (fun hc => ?_) (fun hc => ?_) <;> (try first | (exfalso; omega) | with_reducible first | exact absurd rfl hc | exact absurd hc Bool.false_ne_true | exact absurd hc Bool.false_ne_true.symm) <;> first | refine wa_pg 6 ?_ | refine wa_no 6 ?_) | fail) <;> (first | refine wa_pg 7 ?_ | refine wa_no 7 ?_ | fail) <;> (first | refine wa_pg 8 ?_ | refine wa_no 8 ?_ | fail) <;> (first | refine wa_pg 9 ?_ | refine wa_no 9 ?_ | fail) <;> (first | refine wa_pg 10 ?_ | refine wa_no 10 ?_ | fail) <;> (first | refine wa_pg 11 ?_ | refine wa_no 11 ?_ | fail) <;> (first | refine wa_pg 12 ?_ | refine wa_no 12 ?_ | fail) <;> (first | refine wa_pg 13 ?_ | refine wa_no 13 ?_ | fail) <;> (first | refine wa_pg 14 ?_ | refine wa_no 14 ?_ | fail) <;> (first | refine wa_pg 15 ?_ | refine wa_no 15 ?_ | fail) <;> (first | refine wa_pg 16 ?_ | refine wa_no 16 ?_ | fail) <;> (first | refine wa_pg 17 ?_ | refine wa_no 17 ?_ | fail) <;> (first | refine wa_p 18 ?_ | fail)) <;> (refine wa_end ?_)) | fail)
                all_goals first
                  | exact wq_next (sr, t.set j (t.getD j 0 + 1), true, j) (up_inc hU hdg3 (by omega)) (by simp only; omega) (by kernel_rfl) ent_e
                  | exact wq_next (sr, t.set j 0, false, j) (up_zero hU) (by simp only; omega) (by kernel_rfl) ent_e
                  | exact wq_next (sr, t, false, j) (up_skip hU) (by simp only; omega) (by kernel_rfl) ent_e
  · refine cj_enter Try.func41 Try.ntmps41 ?_
    repeat' (first | refine red ?_ | (refine redc fun r => ?_; try have hr := Subtype.property r) | refine redv fun sv => ?_ | refine redn fun b => ?_ | (refine redi (fun hc => ?_) (fun hc => ?_) <;> try first | (exfalso; omega) | with_reducible first | exact absurd rfl hc | exact absurd hc Bool.false_ne_true | exact absurd hc Bool.false_ne_true.symm) | fail)
    · exact ⟨(sv, ⟨([], false), by simp, fun h => nomatch h⟩), rfl, ent_e⟩
    · exact ⟨(sv, ⟨([], false), by simp, fun h => nomatch h⟩), rfl, ent_e⟩
    · exact absurd ⟨by assumption, by assumption⟩ hP
instance FirstProj_ctr {Γ : List Atom} {v0 v1 vs : Value} {x : SSystem} {s : List Int} [h0 : HasRd (List Int) repList Γ [v0] x.1] [h1 : HasRd (List SRule) repList Γ [v1] x.2] [h2 : HasRd (List Int) repList Γ [vs] s] :
    CtrC Try.prog 41 [.agg #[v0, v1], vs] Γ (True) (Value × FpT x s) (fun q : Value × FpT x s => .tuple #[q.1, .bool q.2.1.2]) (fun q => .ow [q.1] q.2.1.1 :: Γ) := ⟨fun s w0 => FirstProj_spec⟩

end Go.Proofs.Ytjblieilblcdnaa
