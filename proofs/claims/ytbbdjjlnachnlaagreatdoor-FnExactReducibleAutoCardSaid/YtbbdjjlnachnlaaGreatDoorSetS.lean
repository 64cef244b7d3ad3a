/- The subset construction: the reference's side. -/
import Derived.Test.YtbbdjjlnachnlaaGreatDoorSetP
import Derived.Test.YtbbdjjlnachnlaaGreatDoorEngY
namespace Go.Proofs.YtbbdjjlnachnlaaGreatDoor
open Go Go.Eng
set_option linter.unusedVariables false
set_option linter.unusedSimpArgs false
set_option synthInstance.maxHeartbeats 400000
set_option synthInstance.maxSize 1000
theorem mem_takeL {xs : List (List Int)} {k : Nat} {v : List Int} (h : k < xs.length) : v ∈ xs.take (k + 1) ↔ v = xs.getD k default ∨ v ∈ xs.take k := by
  rw [List.take_add_one, List.getElem?_eq_getElem h, List.mem_append, List.getD_eq_getElem?_getD, List.getElem?_eq_getElem h]
  simp [or_comm]
theorem idx_atL : ∀ {xs : List (List Int)} {k : Nat} {v : List Int}, k < xs.length → v ∉ xs.take k → xs.getD k default = v → xs.idxOf v = k
  | [], k, v, h, _, _ => by simp at h
  | x :: xs, 0, v, _, _, h => by
    have : x = v := h
    rw [this, List.idxOf_cons_self]
  | x :: xs, k + 1, v, hk, hn, h => by
    rw [List.take_succ_cons, List.mem_cons] at hn
    rw [List.idxOf_cons, idx_atL (xs := xs) (by simpa using hk) (fun hm => hn (.inr hm)) h, show (x == v) = false from beq_false_of_ne (fun e => hn (.inl e.symm))]; rfl
theorem l1TermPlace_spec {w0 : World} {Γ : List Atom} {v v1 : Value} {xs : List (List Int)} {t : List Int} [h : HasRd (List (List Int)) repList Γ [v] xs] [h1 : HasRd (List Int) repList Γ [v1] t] :
    CJ Tryz.prog 89 [v, v1] w0 Γ (fun _ : Unit => .int .i64 (placeOf xs t)) (fun _ => Γ) := by
  refine cj_lift (R := [.rd [v] xs, .rd [v1] t]) (A := fun _ => []) (fun w1 => ?_) (reads_cons h (reads_cons h1 (inferInstance))) (fun _ => inferInstance)
  simp only [List.cons_append, List.nil_append]
  refine cj_len v fun hlx => ?_
  refine cj_enter Tryz.func89 Tryz.ntmps89 ?_
  repeat' (first | refine red ?_ | fail)
  refine wc_loop_c [5] [6, 7, 8, 9, 12, 13, 14, 15, 16, 17, 18, 4, 10, 11] (ι := Nat) (fun k => [.int .i64 k]) (fun k => k ≤ xs.length ∧ t ∉ xs.take k) (fun k => xs.length - k) 0 (by kernel_rfl) ⟨Nat.zero_le _, by simp⟩ ?_
  intro k u l' hl' ⟨hk, hkk⟩
  simp only [patch, List.map_cons, List.map_nil, List.set_cons_zero, List.set_cons_succ] at hl'
  subst hl'
  repeat' (first | refine red ?_ | refine reds ?_ | refine redc fun r => ?_ | (refine redd fun p cs as_ hcs has hf => ?_; simp only [Un.cells, Un.atoms, Un.fact, List.cons_append, List.nil_append] at hcs has hf; subst hcs has) | (refine redi (fun hc => ?_) (fun hc => ?_) <;> try first | (exfalso; omega) | exact absurd rfl hc) | fail)
  · refine ⟨(), ?_, ent_e⟩
    have hm : t ∈ xs := List.mem_of_mem_take ((mem_takeL (k := k) (by omega)).2 (.inl hc.symm))
    unfold placeOf
    rw [if_pos hm, idx_atL (by omega) hkk hc]
  · exact wq_next (k + 1) ⟨by omega, fun hm => by rcases (mem_takeL (by omega)).1 hm with h | h; exact hc h.symm; exact hkk h⟩ (by omega) (by kernel_rfl) ent_e
  · refine ⟨(), ?_, ent_e⟩
    unfold placeOf
    rw [if_neg (by rw [List.take_of_length_le (by omega)] at hkk; exact hkk)]
instance l1TermPlace_ctr {Γ : List Atom} {v v1 : Value} {xs : List (List Int)} {t : List Int} [h : HasRd (List (List Int)) repList Γ [v] xs] [h1 : HasRd (List Int) repList Γ [v1] t] :
    CtrC Tryz.prog 89 [v, v1] Γ (True) (Unit) (fun _ : Unit => .int .i64 (placeOf xs t)) (fun _ => Γ) := ⟨fun s w0 => l1TermPlace_spec⟩

theorem l1TermPlaceSh_spec {w0 : World} {Γ : List Atom} {v v1 : Value} {ys : List (Sh (List Int))} {t : List Int} [h : HasRd (List (Sh (List Int))) repList Γ [v] ys] [h1 : HasRd (List Int) repList Γ [v1] t] :
    CJ Tryz.prog 89 [v, v1] w0 Γ (fun _ : Unit => .int .i64 (placeOf (ys.map Sh.v) t)) (fun _ => Γ) := by
  haveI : HasRd (List (List Int)) repList Γ [v] (ys.map Sh.v) := ⟨fun hs => rd_unsh (by
    have := h.get hs
    rw [List.map_map, show (Sh.mk ∘ Sh.v : Sh (List Int) → Sh (List Int)) = id from rfl, List.map_id]
    exact this)⟩
  exact l1TermPlace_spec
instance l1TermPlaceSh_ctr {Γ : List Atom} {v v1 : Value} {ys : List (Sh (List Int))} {t : List Int} [h : HasRd (List (Sh (List Int))) repList Γ [v] ys] [h1 : HasRd (List Int) repList Γ [v1] t] :
    CtrC Tryz.prog 89 [v, v1] Γ (True) (Unit) (fun _ : Unit => .int .i64 (placeOf (ys.map Sh.v) t)) (fun _ => Γ) := ⟨fun s w0 => l1TermPlaceSh_spec⟩

theorem getD_ltI {l : List Int} {i : Nat} (h : i < l.length) : l.getD i 0 = l[i] := by rw [List.getD_eq_getElem?_getD, List.getElem?_eq_getElem h]; rfl
theorem listed_succ (sets : List (List Int)) {l : List Int} {k : Nat} (hk : k < l.length) : listed sets (l.take (k + 1)) = listed sets (l.take k) ++ [sets.getD (l.getD k 0).toNat default] := by
  unfold listed
  rw [List.take_add_one, List.getElem?_eq_getElem hk, List.map_append, getD_ltI hk]
  rfl
theorem l23Listed_spec {w0 : World} {Γ : List Atom} {v v1 : Value} {sets : List (List Int)} {list : List Int} [h : HasIm (List (List Int)) repList Γ [v] sets] [h1 : HasRd (List Int) repList Γ [v1] list] (hin : list.length ≤ 10 ∧ ∀ q ∈ list, 0 ≤ q ∧ q < sets.length) :
    CJ Tryz.prog 86 [v, v1] w0 Γ (fun q : Value => q) (fun q => .rd [q] (listed sets list) :: Γ) := by
  obtain ⟨hll, hin⟩ := hin
  refine cj_len v fun hlx => ?_
  refine cj_enter Tryz.func86 Tryz.ntmps86 ?_
  repeat' (first | refine red ?_ | refine redv fun sv => ?_ | fail)
  refine wc_ow0 (α := List Int) (β := Sh (List Int)) sv rfl ?_
  refine wc_loop_p [5, 6] [8, 9, 10, 11, 14, 15, 16, 17, 18, 19, 20, 21, 22, 23, 12, 13] (ι := Value × Nat) (fun k => [k.1, .int .i64 k.2]) (fun k => [.ow [k.1] ((listed sets (list.take k.2)).map Sh.mk)]) (fun k => k.2 ≤ list.length) (fun k => list.length - k.2) (sv, 0) [.ow [sv] ([] : List (Sh (List Int)))] (by kernel_rfl) (Nat.zero_le _) rfl ?_
  intro ⟨so, k⟩ u l' hl' hk
  simp only [patch, List.map_cons, List.map_nil, List.set_cons_zero, List.set_cons_succ] at hl'
  subst hl'
  simp only [List.cons_append, List.nil_append] at hk ⊢
  have hle : ((listed sets (list.take k)).map Sh.mk).length = k := by rw [List.length_map, listed_len, List.length_take]; omega
  by_cases hkl : k < list.length
  · have hq := hin _ (getK hkl)
    repeat' (first | refine red ?_ | refine redf fun hbi => ?_ | refine reds ?_ | refine redv fun sv => ?_ | (refine redd fun p cs as_ hcs has hf => ?_; simp only [Un.cells, Un.atoms, Un.fact, List.cons_append, List.nil_append] at hcs has hf; subst hcs has) | (refine redi (fun hc => ?_) (fun hc => ?_) <;> try first | (exfalso; omega) | exact absurd rfl hc) | fail)
    rw [← List.map_append, ← listed_succ sets hkl]
    exact wq_next (sv, k + 1) (by simp only; omega) (by simp only; omega) (by kernel_rfl) ent_e
  · repeat' (first | refine red ?_ | (refine redi (fun hc => ?_) (fun hc => ?_) <;> try first | (exfalso; omega) | exact absurd rfl hc) | fail)
    rw [show list.take k = list from List.take_of_length_le (by omega)]
    exact ⟨so, rfl, ent_unsh (ys := listed sets list) so ent_e⟩
instance l23Listed_ctr {Γ : List Atom} {v v1 : Value} {sets : List (List Int)} {list : List Int} [h : HasIm (List (List Int)) repList Γ [v] sets] [h1 : HasRd (List Int) repList Γ [v1] list] :
    CtrC Tryz.prog 86 [v, v1] Γ (list.length ≤ 10 ∧ ∀ q ∈ list, 0 ≤ q ∧ q < sets.length) (Value) (fun q : Value => q) (fun q => .rd [q] (listed sets list) :: Γ) := ⟨fun s w0 => l23Listed_spec s⟩

/-- The list behind one. -/
structure NxL (m k i : Nat) : Prop where
  hn : m ≤ 1000
  hm : 1 ≤ m ∨ k = 0
  hk : k ≤ 10
  hi : i < m ^ k
theorem l23NextList_spec {w0 : World} {Γ : List Atom} {v : Value} {m k i : Nat} [h : HasRd (List Int) repList Γ [v] (dig m k i)] (hs : NxL m k i) :
    CJ Tryz.prog 85 [v, .int .i64 (m : Int)] w0 Γ (fun q : Value => .tuple #[q, .bool (decide (i + 1 < m ^ k))]) (fun q => .ow [q] (if i + 1 < m ^ k then dig m k (i + 1) else List.replicate k 0) :: Γ) := by
  refine cj_lift (R := [.rd [v] (dig m k i)]) (A := fun q : Value => [.ow [q] (if i + 1 < m ^ k then dig m k (i + 1) else List.replicate k 0)]) (fun w1 => ?_) (reads_cons h (inferInstance)) (fun _ => inferInstance)
  simp only [List.cons_append, List.nil_append]
  obtain ⟨hm2, hm1, hk, hi⟩ := hs
  have hxl := dig_len m k i
  refine cj_enter Tryz.func85 Tryz.ntmps85 ?_
  repeat' (first | refine red ?_ | refine reds ?_ | refine redc fun r => ?_ | fail)
  refine wc_loop_p [7] [13, 14, 17, 18, 19, 20, 21, 22, 23, 24, 25, 26, 27, 28, 29, 30, 31, 4, 5, 32, 33, 34, 15, 16] (ι := Nat × Nat × Int) (fun j => [.int .i64 j.2.2]) (fun j => [.ow [r] (dig m (k - j.1) j.2.1 ++ List.replicate j.1 0)]) (fun j => j.1 ≤ k ∧ i + 1 = (j.2.1 + 1) * m ^ j.1 ∧ j.2.1 < m ^ (k - j.1) ∧ j.2.2 = (k : Int) - 1 - (j.1 : Int)) (fun j => k - j.1) (0, i, ((dig m k i).length : Int) - 1) [.ow [r] (dig m k i)] (by kernel_rfl) ⟨Nat.zero_le _, by simp, by simpa using hi, by simp only [hxl]; omega⟩ (by simp) ?_
  intro ⟨j, c, z⟩ u l' hl' ⟨hj, he, hcm, hz⟩
  simp only [patch, List.map_cons, List.map_nil, List.set_cons_zero, List.set_cons_succ] at hl'
  subst hl'
  simp only [List.cons_append, List.nil_append] at hj he hcm hz ⊢
  have hyl : (dig m (k - j) c ++ List.replicate j 0).length = k := by rw [List.length_append, dig_len, List.length_replicate]; omega
  by_cases hjk : j < k
  · obtain ⟨p, hp⟩ : ∃ p, k - j = p + 1 := ⟨k - j - 1, by omega⟩
    have hm0 : 0 < m := by omega
    have hgd : (dig m (k - j) c ++ List.replicate j 0).getD (k - 1 - j) 0 = ((c % m : Nat) : Int) := by
      rw [hp, show k - 1 - j = p by omega]
      unfold dig
      rw [List.getD_eq_getElem?_getD, List.append_assoc, List.getElem?_append_right (by rw [dig_len]; omega), dig_len, Nat.sub_self]
      rfl
    have hst : ∀ z : Int, (dig m (k - j) c ++ List.replicate j 0).set (k - 1 - j) z = dig m p (c / m) ++ z :: List.replicate j 0 := fun z => by
      rw [hp, show k - 1 - j = p by omega]
      conv => lhs; unfold dig
      rw [List.append_assoc, List.set_append_right _ _ (by rw [dig_len]; omega), dig_len, Nat.sub_self]
      rfl
    have hst2 : ∀ z y : Int, (dig m p (c / m) ++ z :: List.replicate j 0).set (k - 1 - j) y = dig m p (c / m) ++ y :: List.replicate j 0 := fun z y => by
      rw [List.set_append_right _ _ (by rw [dig_len]; omega), dig_len, show k - 1 - j - p = 0 by omega]
      rfl
    have hgd2 : ∀ z : Int, (dig m p (c / m) ++ z :: List.replicate j 0).getD (k - 1 - j) 0 = z := fun z => by
      rw [List.getD_eq_getElem?_getD, List.getElem?_append_right (by rw [dig_len]; omega), dig_len, show k - 1 - j - p = 0 by omega]
      rfl
    have hyl2 : ∀ z : Int, (dig m p (c / m) ++ z :: List.replicate j 0).length = k := fun z => by rw [← hst z, List.length_set, hyl]
    have hlt := Nat.mod_lt c hm0
    have hdm := Nat.div_add_mod c m
    haveI : ToN z (k - 1 - j) := ⟨by omega⟩
    have hyl3 : ((dig m (k - j) c ++ List.replicate j 0).set (k - 1 - j) ((dig m (k - j) c ++ List.replicate j 0).getD (k - 1 - j) 0 + 1)).length = k := by rw [List.length_set, hyl]
    have hpw : m ^ (k - j) = m ^ p * m := by rw [hp, Nat.pow_succ]
    have hpk : m ^ k = m ^ (k - j) * m ^ j := by rw [← Nat.pow_add]; congr 1; omega
    have hg5 : ((dig m (k - j) c ++ List.replicate j 0).set (k - 1 - j) ((dig m (k - j) c ++ List.replicate j 0).getD (k - 1 - j) 0 + 1)).getD (k - 1 - j) 0 = ((c % m : Nat) : Int) + 1 := by rw [hgd, hst, hgd2]
    repeat' (first | refine red ?_ | refine redf fun hbi => ?_ | refine reds ?_ | (refine redi (fun hc => ?_) (fun hc => ?_) <;> try first | (exfalso; omega) | exact absurd rfl hc) | fail)
    · have hlt1 : c % m + 1 < m := by rw [hg5] at hc; omega
      have hinc := dig_inc p c hlt1
      have hc1 : c + 1 < m ^ (k - j) := by
        have h1 : c / m < m ^ p := Nat.div_lt_of_lt_mul (by rw [Nat.mul_comm, ← hpw]; exact hcm)
        have h2 := Nat.mul_le_mul_left m (show c / m + 1 ≤ m ^ p by omega)
        rw [Nat.mul_add, Nat.mul_one, Nat.mul_comm m (m ^ p), ← hpw] at h2
        omega
      have hlt2 : i + 1 < m ^ k := by
        rw [he, hpk]
        exact Nat.mul_lt_mul_of_pos_right hc1 (Nat.pow_pos hm0)
      rw [if_pos hlt2, decide_eq_true hlt2, hgd, hst, show dig m p (c / m) ++ ((c % m : Nat) + 1 : Int) :: List.replicate j 0 = dig m k (i + 1) by
        rw [he, show k = (p + 1) + j by omega, dig_mul hm0, hinc, List.append_assoc]; rfl]
      exact ⟨r, rfl, ent_e⟩
    · have hlt1 : c % m + 1 = m := by rw [hg5] at hc; omega
      rw [hgd, hst, hst2]
      refine wq_next (j + 1, c / m, z - 1) ⟨by simp only; omega, ?_, ?_, by simp only; omega⟩ (by simp only; omega) (by kernel_rfl) (by
        simp only
        rw [show k - (j + 1) = p by omega, show (List.replicate (j + 1) 0 : List Int) = 0 :: List.replicate j 0 from rfl]
        exact ent_e)
      · simp only
        rw [he, Nat.pow_succ, Nat.mul_comm (m ^ j) m, ← Nat.mul_assoc]
        congr 1
        rw [Nat.add_mul, Nat.one_mul, Nat.mul_comm (c / m) m]
        omega
      · simp only
        rw [show k - (j + 1) = p by omega]
        exact Nat.div_lt_of_lt_mul (by rw [Nat.mul_comm, ← hpw]; exact hcm)
  · obtain rfl : j = k := by omega
    rw [Nat.sub_self, Nat.pow_zero] at hcm
    obtain rfl : c = 0 := by omega
    have hno : ¬ (i + 1 < m ^ j) := by omega
    rw [if_neg hno, decide_eq_false hno, Nat.sub_self, show dig m 0 0 = [] from rfl, List.nil_append]
    repeat' (first | refine red ?_ | (refine redi (fun hc => ?_) (fun hc => ?_) <;> try first | (exfalso; omega) | exact absurd rfl hc) | fail)
    exact ⟨r, rfl, ent_e⟩
instance l23NextList_ctr {Γ : List Atom} {v : Value} {m k i : Nat} [h : HasRd (List Int) repList Γ [v] (dig m k i)] :
    CtrC Tryz.prog 85 [v, .int .i64 (m : Int)] Γ (NxL m k i) (Value) (fun q : Value => .tuple #[q, .bool (decide (i + 1 < m ^ k))]) (fun q => .ow [q] (if i + 1 < m ^ k then dig m k (i + 1) else List.replicate k 0) :: Γ) := ⟨fun s w0 => l23NextList_spec s⟩

abbrev RndT (rs : List STrans) (ar : List Int) (sets : List (List Int)) : Type := { p : List (List Int) × Bool // (p.2 = true → p.1 = rndS rs ar sets ∧ p.1.length ≤ 16) ∧ (p.2 = false → 16 < (rndS rs ar sets).length) }
theorem place_neg {xs : List (List Int)} {t : List Int} : placeOf xs t < 0 ↔ t ∉ xs := by
  unfold placeOf
  split
  · rename_i h; exact ⟨fun h' => by omega, fun h' => absurd h h'⟩
  · rename_i h; exact ⟨fun _ => h, fun _ => by omega⟩
theorem unSh (xs : List (List Int)) : (xs.map Sh.mk).map Sh.v = xs := by rw [List.map_map]; exact List.map_id _
theorem sig_el {a : List Int} (h : sigOk a = true) {f : Nat} (hf : f < a.length) : 0 ≤ a.getD f 0 ∧ a.getD f 0 ≤ 3 := by
  unfold sigOk at h
  rw [Bool.and_eq_true, List.all_eq_true] at h
  have := h.2 _ (getK hf)
  rw [decide_eq_true_iff] at this
  exact this
theorem dig_pow {n k i : Nat} (hk : i < n ^ k) : 1 ≤ n ∨ k = 0 := by
  by_cases h : n = 0
  · right
    cases k with
    | zero => rfl
    | succ k => rw [h, Nat.zero_pow (by omega)] at hk; omega
  · left; omega
theorem dig_el {n k i : Nat} (hk : i < n ^ k) : ∀ q ∈ dig n k i, 0 ≤ q ∧ q < n := by
  rcases dig_pow hk with h | h
  · exact dig_in h k i
  · rw [h]; intro q hq; cases hq
structure ARi (ar : List Int) (x : SAuto) (f : Nat) : Prop where
  au : AutoP ar x
  hf : f < ar.length
theorem ARi.img {ar : List Int} {x : SAuto} {f : Nat} (h : ARi ar x f) {sets : List (List Int)} {l : List Int} (hl : l.length = arN ar f) : InS x.2.1 ∧ ∀ j, j < x.2.1.length → (x.2.1.getD j default).1 = (f : Int) → (x.2.1.getD j default).2.1.length = (listed sets l).length := by
  refine ⟨inS_of h.au, fun j hj e => ?_⟩
  have t1 := (h.au.2.2.2.2 j hj).1.2.1
  rw [e] at t1
  rw [listed_len, hl]
  unfold arN
  rw [Int.toNat_natCast] at t1
  omega
theorem l23Round_spec {w0 : World} {Γ : List Atom} {v v0 v1 vs : Value} {ar : List Int} {x : SAuto} {sets : List (List Int)} [h : HasRd (List Int) repList Γ [v] ar] [h0 : HasRd (List STrans) repList Γ [v0] x.2.1] [h1 : HasRd (List Int) repList Γ [v1] x.2.2] [h2 : HasIm (List (List Int)) repList Γ [vs] sets] (hs : AutoP ar x ∧ sets.length ≤ 16) :
    CJ Tryz.prog 175 [.agg #[v], .agg #[.int .i64 x.1, v0, v1], vs] w0 Γ (fun q : Value × RndT x.2.1 ar sets => .tuple #[q.1, .bool q.2.1.2]) (fun q => .rd [q.1] q.2.1.1 :: Γ) := by
  obtain ⟨hau, hsl⟩ := hs
  have hsg := sigOk_len hau.1
  refine cj_enter Tryz.func175 Tryz.ntmps175 ?_
  repeat' (first | refine red ?_ | refine redv fun sv => ?_ | refine redn fun b => ?_ | fail)
  refine wl_toSh sv ?_
  simp only [List.map_nil]
  repeat' (first | refine red ?_ | refine redv fun sv => ?_ | fail)
  simp only [List.nil_append]
  refine wc_loop_p [8, 10] [19, 20, 21, 22, 23, 26, 27, 28, 29, 30, 31, 32, 33, 34, 35, 36, 37, 38, 39, 40, 41, 11, 12, 42, 49, 50, 51, 52, 53, 54, 13, 55, 56, 57, 58, 59, 60, 61, 62, 63, 64, 65, 66, 6, 7, 44, 45, 46, 43, 47, 48, 24, 25] (ι := Value × Nat) (fun k => [k.1, .int .i64 k.2]) (fun k => [.ow [k.1] ((symS x.2.1 ar sets k.2).map Sh.mk)]) (fun k => k.2 ≤ ar.length ∧ (symS x.2.1 ar sets k.2).length ≤ 16) (fun k => ar.length - k.2) (sv, 0) [.ow [sv] (sets.map Sh.mk)] (by kernel_rfl) ⟨Nat.zero_le _, hsl⟩ rfl ?_
  intro ⟨so, f⟩ u l' hl' ⟨hf, hfl⟩
  simp only [patch, List.map_cons, List.map_nil, List.set_cons_zero, List.set_cons_succ] at hl'
  subst hl'
  simp only [List.cons_append, List.nil_append] at hf hfl ⊢
  have hol : ((symS x.2.1 ar sets f).map Sh.mk).length ≤ 16 := by rw [List.length_map]; exact hfl
  by_cases hfa : f < ar.length
  · obtain ⟨hf0, hf3⟩ := sig_el hau.1 hfa
    have harN : ar.getD f 0 = ((arN ar f : Nat) : Int) := by unfold arN; omega
    have hARi : ARi ar x f := ⟨hau, hfa⟩
    have hpos : sets.length = 0 ∧ 0 < ar.getD f 0 ∨ 0 < sets.length ^ arN ar f := by
      by_cases h1 : sets.length = 0
      · by_cases h2 : arN ar f = 0
        · right; rw [h2, Nat.pow_zero]; decide
        · left; exact ⟨h1, by omega⟩
      · right; exact Nat.pow_pos (by omega)
    have hnk : sets.length ^ arN ar f ≤ 4096 := by
      have h1 : arN ar f ≤ 3 := by omega
      have h2 : sets.length ^ arN ar f ≤ 16 ^ arN ar f := Nat.pow_le_pow_left hsl _
      have h3 : 16 ^ arN ar f ≤ 16 ^ 3 := Nat.pow_le_pow_right (by decide) h1
      have h4 : 16 ^ 3 = 4096 := rfl
      omega
    repeat' (first | refine red ?_ | refine redf fun hbi => ?_ | refine reds ?_ | refine redv fun sv => ?_ | (refine redi (fun hc => ?_) (fun hc => ?_) <;> try first | (exfalso; omega) | exact absurd rfl hc) | fail)
    · have hs1 : symS x.2.1 ar sets (f + 1) = symS x.2.1 ar sets f := by
        show rowS x.2.1 ar sets f (symS x.2.1 ar sets f) (sets.length ^ arN ar f) = _
        rw [show sets.length ^ arN ar f = 0 by rw [show sets.length = 0 by omega, Nat.zero_pow (by omega)]]
        rfl
      exact wq_next (so, f + 1) ⟨by simp only; omega, by simp only; rw [hs1]; exact hfl⟩ (by simp only; omega) (by kernel_rfl) (by simp only [hs1]; exact ent_e)
    · have hpos' : 0 < sets.length ^ arN ar f := by rcases hpos with h | h <;> omega
      refine wc_loop_p [8, 11, 12] [42, 49, 50, 51, 52, 53, 54, 13, 55, 56, 57, 58, 59, 60, 61, 62, 63, 64, 65, 66, 6, 7, 44, 45, 46, 43, 47, 48] (ι := Value × Value × Nat) (fun k => [k.1, k.2.1, .bool (decide (k.2.2 < sets.length ^ arN ar f))]) (fun k => [.ow [k.1] ((rowS x.2.1 ar sets f (symS x.2.1 ar sets f) k.2.2).map Sh.mk), .ow [k.2.1] (if k.2.2 < sets.length ^ arN ar f then dig sets.length (arN ar f) k.2.2 else List.replicate (arN ar f) (0 : Int))]) (fun k => k.2.2 ≤ sets.length ^ arN ar f ∧ (rowS x.2.1 ar sets f (symS x.2.1 ar sets f) k.2.2).length ≤ 16) (fun k => sets.length ^ arN ar f - k.2.2) (so, sv, 0) [.ow [so] ((symS x.2.1 ar sets f).map Sh.mk), .ow [sv] (List.replicate (ar.getD f 0).toNat (0 : Int))] (by simp only [decide_eq_true hpos']; kernel_rfl) ⟨Nat.zero_le _, hfl⟩ (by simp only [if_pos hpos', dig_zero]; rfl) ?_
      intro ⟨sp, lv, i⟩ u l' hl' ⟨hi, hil⟩
      simp only [patch, List.map_cons, List.map_nil, List.set_cons_zero, List.set_cons_succ] at hl'
      subst hl'
      simp only [List.cons_append, List.nil_append] at hi hil ⊢
      have hol2 : ((rowS x.2.1 ar sets f (symS x.2.1 ar sets f) i).map Sh.mk).length ≤ 16 := by rw [List.length_map]; exact hil
      by_cases hlt : i < sets.length ^ arN ar f
      · simp only [if_pos hlt, decide_eq_true hlt]
        have hdl := dig_len sets.length (arN ar f) i
        have himg := hARi.img (sets := sets) hdl
        have hls : (dig sets.length (arN ar f) i).length ≤ 10 ∧ ∀ q ∈ dig sets.length (arN ar f) i, 0 ≤ q ∧ q < sets.length := ⟨by omega, dig_el hlt⟩
        have hnx : NxL sets.length (arN ar f) i := ⟨by omega, dig_pow hlt, by omega, hlt⟩
        have hsc := rowS_sh x.2.1 ar sets f (symS x.2.1 ar sets f) i
        have hrr := (row_rnd (rs := x.2.1) (sets := sets) hfa (i := i + 1) (by omega)).length_le
        repeat' (first | refine red ?_ | refine redc fun r => ?_ | refine redv fun sv => ?_ | (refine redi (fun hc => ?_) (fun hc => ?_) <;> try first | (exfalso; omega) | exact absurd rfl hc) | ((refine wa_begin 11 [false, false, false, false, false, false, false] [] ?_ <;> (first | refine wa_p 0 ?_ | fail) <;> refine wa_p 1 ?_ <;> refine wa_p 2 ?_ <;> refine wa_p 3 ?_ <;> (refine wa_do 4 ?_ <;> (repeat' (first | refine red ?_ | refine redc fun r => ?_ | fail))) <;> (refine wa_do 5 ?_ <;> (repeat' (first | refine red ?_ | refine redc fun r => ?_ | fail))) <;> refine wa_p 6 ?_) <;> (refine wa_end ?_)) | fail)
        · rename_i r2
          have himl := imgL_of himg.1 r2.2
          rw [unSh] at hc
          have hnew := place_neg.1 hc
          rw [himl] at hnew
          rw [addNew, if_neg hnew, ← himl] at hsc
          have hscl : (rowS x.2.1 ar sets f (symS x.2.1 ar sets f) (i + 1)).length = (rowS x.2.1 ar sets f (symS x.2.1 ar sets f) i).length + 1 := by rw [hsc, List.length_append]; rfl
          have hscm : ((rowS x.2.1 ar sets f (symS x.2.1 ar sets f) i).map Sh.mk ++ [Sh.mk r2.2.1]) = (rowS x.2.1 ar sets f (symS x.2.1 ar sets f) (i + 1)).map Sh.mk := by rw [hsc, List.map_append]; rfl
          refine wl_toSh sv ?_
          simp only [List.map_cons, List.map_nil]
          repeat' (first | refine red ?_ | refine redc fun r => ?_ | refine redv fun sv => ?_ | (refine redi (fun hc => ?_) (fun hc => ?_) <;> try first | (exfalso; omega) | exact absurd rfl hc) | fail)
          · rw [hscm]
            rw [List.length_append, List.length_map, List.length_singleton] at hc
            refine ⟨(sv, ⟨(rowS x.2.1 ar sets f (symS x.2.1 ar sets f) (i + 1), false), ⟨fun h => Bool.noConfusion (show false = true from h), fun _ => by omega⟩⟩), rfl, ?_⟩
            exact ent_unsh (ys := rowS x.2.1 ar sets f (symS x.2.1 ar sets f) (i + 1)) sv ent_e
          · rw [hscm]
            rw [List.length_append, List.length_map, List.length_singleton] at hc
            exact wq_next (sv, r, i + 1) ⟨by simp only; omega, by simp only; omega⟩ (by simp only; omega) (by kernel_rfl) ent_e
        · rename_i r2 _ hc1
          have himl := imgL_of himg.1 r2.2
          rw [unSh] at hc1
          have hold : r2.2.1 ∈ rowS x.2.1 ar sets f (symS x.2.1 ar sets f) i := Classical.byContradiction fun hn => by
            have := place_neg.2 hn
            omega
          rw [himl] at hold
          rw [addNew, if_pos hold] at hsc
          rw [← hsc]
          exact wq_next (sp, r, i + 1) ⟨by simp only; omega, by simp only; rw [hsc]; exact hil⟩ (by simp only; omega) (by kernel_rfl) ent_e
      · simp only [if_neg hlt, decide_eq_false hlt]
        obtain rfl : i = sets.length ^ arN ar f := by omega
        repeat' (first | refine red ?_ | refine reds ?_ | fail)
        exact wq_next (sp, f + 1) ⟨by simp only; omega, hil⟩ (by simp only; omega) (by kernel_rfl) (by show Ent _ _ (.ow [sp] ((rowS x.2.1 ar sets f (symS x.2.1 ar sets f) (sets.length ^ arN ar f)).map Sh.mk) :: _); exact ent_e)
    · have hpos' : 0 < sets.length ^ arN ar f := by rcases hpos with h | h <;> omega
      refine wc_loop_p [8, 11, 12] [42, 49, 50, 51, 52, 53, 54, 13, 55, 56, 57, 58, 59, 60, 61, 62, 63, 64, 65, 66, 6, 7, 44, 45, 46, 43, 47, 48] (ι := Value × Value × Nat) (fun k => [k.1, k.2.1, .bool (decide (k.2.2 < sets.length ^ arN ar f))]) (fun k => [.ow [k.1] ((rowS x.2.1 ar sets f (symS x.2.1 ar sets f) k.2.2).map Sh.mk), .ow [k.2.1] (if k.2.2 < sets.length ^ arN ar f then dig sets.length (arN ar f) k.2.2 else List.replicate (arN ar f) (0 : Int))]) (fun k => k.2.2 ≤ sets.length ^ arN ar f ∧ (rowS x.2.1 ar sets f (symS x.2.1 ar sets f) k.2.2).length ≤ 16) (fun k => sets.length ^ arN ar f - k.2.2) (so, sv, 0) [.ow [so] ((symS x.2.1 ar sets f).map Sh.mk), .ow [sv] (List.replicate (ar.getD f 0).toNat (0 : Int))] (by simp only [decide_eq_true hpos']; kernel_rfl) ⟨Nat.zero_le _, hfl⟩ (by simp only [if_pos hpos', dig_zero]; rfl) ?_
      intro ⟨sp, lv, i⟩ u l' hl' ⟨hi, hil⟩
      simp only [patch, List.map_cons, List.map_nil, List.set_cons_zero, List.set_cons_succ] at hl'
      subst hl'
      simp only [List.cons_append, List.nil_append] at hi hil ⊢
      have hol2 : ((rowS x.2.1 ar sets f (symS x.2.1 ar sets f) i).map Sh.mk).length ≤ 16 := by rw [List.length_map]; exact hil
      by_cases hlt : i < sets.length ^ arN ar f
      · simp only [if_pos hlt, decide_eq_true hlt]
        have hdl := dig_len sets.length (arN ar f) i
        have himg := hARi.img (sets := sets) hdl
        have hls : (dig sets.length (arN ar f) i).length ≤ 10 ∧ ∀ q ∈ dig sets.length (arN ar f) i, 0 ≤ q ∧ q < sets.length := ⟨by omega, dig_el hlt⟩
        have hnx : NxL sets.length (arN ar f) i := ⟨by omega, dig_pow hlt, by omega, hlt⟩
        have hsc := rowS_sh x.2.1 ar sets f (symS x.2.1 ar sets f) i
        have hrr := (row_rnd (rs := x.2.1) (sets := sets) hfa (i := i + 1) (by omega)).length_le
        repeat' (first | refine red ?_ | refine redc fun r => ?_ | refine redv fun sv => ?_ | (refine redi (fun hc => ?_) (fun hc => ?_) <;> try first | (exfalso; omega) | exact absurd rfl hc) | ((refine wa_begin 11 [false, false, false, false, false, false, false] [] ?_ <;> (first | refine wa_p 0 ?_ | fail) <;> refine wa_p 1 ?_ <;> refine wa_p 2 ?_ <;> refine wa_p 3 ?_ <;> (refine wa_do 4 ?_ <;> (repeat' (first | refine red ?_ | refine redc fun r => ?_ | fail))) <;> (refine wa_do 5 ?_ <;> (repeat' (first | refine red ?_ | refine redc fun r => ?_ | fail))) <;> refine wa_p 6 ?_) <;> (refine wa_end ?_)) | fail)
        · rename_i r2
          have himl := imgL_of himg.1 r2.2
          rw [unSh] at hc
          have hnew := place_neg.1 hc
          rw [himl] at hnew
          rw [addNew, if_neg hnew, ← himl] at hsc
          have hscl : (rowS x.2.1 ar sets f (symS x.2.1 ar sets f) (i + 1)).length = (rowS x.2.1 ar sets f (symS x.2.1 ar sets f) i).length + 1 := by rw [hsc, List.length_append]; rfl
          have hscm : ((rowS x.2.1 ar sets f (symS x.2.1 ar sets f) i).map Sh.mk ++ [Sh.mk r2.2.1]) = (rowS x.2.1 ar sets f (symS x.2.1 ar sets f) (i + 1)).map Sh.mk := by rw [hsc, List.map_append]; rfl
          refine wl_toSh sv ?_
          simp only [List.map_cons, List.map_nil]
          repeat' (first | refine red ?_ | refine redc fun r => ?_ | refine redv fun sv => ?_ | (refine redi (fun hc => ?_) (fun hc => ?_) <;> try first | (exfalso; omega) | exact absurd rfl hc) | fail)
          · rw [hscm]
            rw [List.length_append, List.length_map, List.length_singleton] at hc
            refine ⟨(sv, ⟨(rowS x.2.1 ar sets f (symS x.2.1 ar sets f) (i + 1), false), ⟨fun h => Bool.noConfusion (show false = true from h), fun _ => by omega⟩⟩), rfl, ?_⟩
            exact ent_unsh (ys := rowS x.2.1 ar sets f (symS x.2.1 ar sets f) (i + 1)) sv ent_e
          · rw [hscm]
            rw [List.length_append, List.length_map, List.length_singleton] at hc
            exact wq_next (sv, r, i + 1) ⟨by simp only; omega, by simp only; omega⟩ (by simp only; omega) (by kernel_rfl) ent_e
        · rename_i r2 _ hc1
          have himl := imgL_of himg.1 r2.2
          rw [unSh] at hc1
          have hold : r2.2.1 ∈ rowS x.2.1 ar sets f (symS x.2.1 ar sets f) i := Classical.byContradiction fun hn => by
            have := place_neg.2 hn
            omega
          rw [himl] at hold
          rw [addNew, if_pos hold] at hsc
          rw [← hsc]
          exact wq_next (sp, r, i + 1) ⟨by simp only; omega, by simp only; rw [hsc]; exact hil⟩ (by simp only; omega) (by kernel_rfl) ent_e
      · simp only [if_neg hlt, decide_eq_false hlt]
        obtain rfl : i = sets.length ^ arN ar f := by omega
        repeat' (first | refine red ?_ | refine reds ?_ | fail)
        exact wq_next (sp, f + 1) ⟨by simp only; omega, hil⟩ (by simp only; omega) (by kernel_rfl) (by show Ent _ _ (.ow [sp] ((rowS x.2.1 ar sets f (symS x.2.1 ar sets f) (sets.length ^ arN ar f)).map Sh.mk) :: _); exact ent_e)
  · obtain rfl : f = ar.length := by omega
    repeat' (first | refine red ?_ | (refine redi (fun hc => ?_) (fun hc => ?_) <;> try first | (exfalso; omega) | exact absurd rfl hc) | fail)
    refine ⟨(so, ⟨(symS x.2.1 ar sets ar.length, true), ⟨fun _ => ⟨rfl, hfl⟩, fun h => Bool.noConfusion (show true = false from h)⟩⟩), rfl, ?_⟩
    exact ent_unsh (ys := symS x.2.1 ar sets ar.length) so ent_e
instance l23Round_ctr {Γ : List Atom} {v v0 v1 vs : Value} {ar : List Int} {x : SAuto} {sets : List (List Int)} [h : HasRd (List Int) repList Γ [v] ar] [h0 : HasRd (List STrans) repList Γ [v0] x.2.1] [h1 : HasRd (List Int) repList Γ [v1] x.2.2] [h2 : HasIm (List (List Int)) repList Γ [vs] sets] :
    CtrC Tryz.prog 175 [.agg #[v], .agg #[.int .i64 x.1, v0, v1], vs] Γ (AutoP ar x ∧ sets.length ≤ 16) (Value × RndT x.2.1 ar sets) (fun q : Value × RndT x.2.1 ar sets => .tuple #[q.1, .bool q.2.1.2]) (fun q => .rd [q.1] q.2.1.1 :: Γ) := ⟨fun s w0 => l23Round_spec s⟩

end Go.Proofs.YtbbdjjlnachnlaaGreatDoor
