/- The product of automata: the program. -/
import Derived.Test.YtbbdjjlnachnlaaGreatBothI
import Derived.Test.YtbbdjjlnachnlaaGreatCmp
namespace Go.Proofs.YtbbdjjlnachnlaaGreat
open Go Go.Eng
set_option linter.unusedVariables false
set_option linter.unusedSimpArgs false
set_option synthInstance.maxHeartbeats 400000
set_option synthInstance.maxSize 1000
set_option maxHeartbeats 2000000
set_option maxRecDepth 20000


/-- There is a product that is small enough. -/
def BothOk (a : List Int) (x y : SAuto) : Prop := AutoP a x ∧ AutoP a y ∧ (1 ≤ (prL x y).length ∧ (prL x y).length ≤ 16) ∧ (allI x y x.2.1).length ≤ 300
/-- What the product answers. -/
abbrev BothT (a : List Int) (x y : SAuto) : Type := { p : Value × Value × SAuto // (BothOk a x y → BothW a x y p.2.2) ∧ (¬ BothOk a x y → p.2.2 = (0, [], [])) }
theorem both_no {a : List Int} {x y : SAuto} (h : ¬ BothOk a x y) : ∃ q : BothT a x y, Value.tuple #[.agg #[.int .i64 q.1.2.2.1, q.1.1, q.1.2.1], .bool (decC (BothOk a x y))] = Value.tuple #[.agg #[.int .i64 0, .slice none 0 0, .slice none 0 0], .bool false] ∧ q.1.1 = .slice none 0 0 ∧ q.1.2.1 = .slice none 0 0 ∧ q.1.2.2 = (0, [], []) :=
  ⟨⟨(.slice none 0 0, .slice none 0 0, (0, [], [])), fun h2 => absurd h2 h, fun _ => rfl⟩, by rw [decC_f h], rfl, rfl, rfl⟩
/-- The numbers of the first n pairs. -/
def NumI (ps : List (Int × Int)) (h : Nat → Int) (n : Nat) : Prop := ∀ i, i < n → h ((ps.getD i default).1.toNat * 16 + (ps.getD i default).2.toNat) = (i : Int)
theorem numI_add {a : List Int} {x y : SAuto} (hx : AutoP a x) (hy : AutoP a y) {h : Nat → Int} {n p q : Nat} (hN : NumI (prL x y) h n) (hn : n < (prL x y).length) (hz : (prL x y).getD n default = ((p : Int), (q : Int))) : NumI (prL x y) (upF h (p * 16 + q) (n : Int)) (n + 1) := by
  have hb : ∀ i, i < (prL x y).length → (0 ≤ ((prL x y).getD i default).1 ∧ ((prL x y).getD i default).1 < 16) ∧ 0 ≤ ((prL x y).getD i default).2 ∧ ((prL x y).getD i default).2 < 16 := fun i hi => by
    have hm : (prL x y).getD i default ∈ prL x y := by rw [List.getD_eq_getElem?_getD, List.getElem?_eq_getElem hi]; exact List.getElem_mem hi
    have h1 := pr2_in hx hy ((prL_mem hx hy).1 (show (((prL x y).getD i default).1, ((prL x y).getD i default).2) ∈ _ from hm))
    have h2 := hx.2.1
    have h3 := hy.2.1
    omega
  intro i hi
  have hbn := hb n hn
  rw [hz] at hbn
  simp only at hbn
  by_cases e : i = n
  · rw [e, hz]
    simp only [Int.toNat_natCast]
    rw [upF_same]
  · have hbi := hb i (by omega)
    unfold upF
    rw [if_neg, hN i (by omega)]
    intro e2
    have e3 : (prL x y).getD i default = (prL x y).getD n default := by
      rw [hz]
      refine Prod.ext ?_ ?_
      · show _ = (p : Int); omega
      · show _ = (q : Int); omega
    have h4 := idx_of (prL_nd x y) (show i < (prL x y).length by omega)
    rw [e3, idx_of (prL_nd x y) hn] at h4
    exact e h4.symm
theorem numI_get {a : List Int} {x y : SAuto} (hx : AutoP a x) (hy : AutoP a y) {h : Nat → Int} (hN : NumI (prL x y) h (prL x y).length) {p q : Int} (hp : PR x y p q) : h (p.toNat * 16 + q.toNat) = numP x y p q := by
  obtain ⟨h1, h2, h3⟩ := numP_in hx hy hp
  have h4 := hN (numP x y p q).toNat (by omega)
  rw [h3] at h4
  rw [h4]; omega
theorem fit_iff {x y : SAuto} {g : Nat → Bool} (hg : ∀ p q : Int, 0 ≤ p ∧ p < 16 → 0 ≤ q ∧ q < 16 → (g (p.toNat * 16 + q.toNat) = true ↔ PR x y p q)) {a : List Int} (hx : AutoP a x) (hy : AutoP a y) {r s : STrans} (hr : r ∈ x.2.1) (hs : s ∈ y.2.1) : FitG g r s r.2.1.length ↔ FitsP (PR x y) r s := by
  refine and_congr_right fun e => forall_congr' fun i => forall_congr' fun hi => ?_
  have hl := auto_len hx hy hr hs e
  exact hg _ _ ((auto16 hx hr).1 _ (getK hi)) ((auto16 hy hs).1 _ (getK (show i < s.2.1.length by omega)))
theorem allI_take {x y : SAuto} {k : Nat} (h : k < x.2.1.length) : allI x y (x.2.1.take (k + 1)) = allI x y (x.2.1.take k) ++ rowI x y (x.2.1.getD k default) y.2.1 := by
  unfold allI
  rw [List.take_succ_eq_append_getElem h, List.flatMap_append, List.getD_eq_getElem?_getD, List.getElem?_eq_getElem h]; simp
theorem rowI_take {x y : SAuto} {r : STrans} {ss : List STrans} {k : Nat} (h : k < ss.length) : rowI x y r (ss.take (k + 1)) = rowI x y r (ss.take k) ++ cellI x y r (ss.getD k default) := by
  unfold rowI
  rw [List.take_succ_eq_append_getElem h, List.flatMap_append, List.getD_eq_getElem?_getD, List.getElem?_eq_getElem h]; simp
theorem rowI_len (x y : SAuto) (r : STrans) (ss : List STrans) : (rowI x y r ss).length ≤ ss.length := by
  unfold rowI
  induction ss with
  | nil => simp
  | cons s ss ih =>
    rw [List.flatMap_cons, List.length_append, List.length_cons]
    have : (cellI x y r s).length ≤ 1 := by unfold cellI; split <;> simp
    omega
theorem allI_len (x y : SAuto) (rs : List STrans) : (allI x y rs).length ≤ rs.length * y.2.1.length := by
  unfold allI
  induction rs with
  | nil => simp
  | cons r rs ih =>
    rw [List.flatMap_cons, List.length_append, List.length_cons, Nat.add_mul, Nat.one_mul]
    have := rowI_len x y r y.2.1
    omega
theorem mapI_take {f : Int → Int → Int} {r s : List Int} {k : Nat} (h : k < r.length) : (mapI f r s).take (k + 1) = (mapI f r s).take k ++ [f (r.getD k 0) (s.getD k 0)] := by
  have hk : k < (mapI f r s).length := by rw [mapI_len]; exact h
  have := mapI_get (f := f) (b := s) h
  rw [getD_lt hk] at this
  rw [List.take_succ_eq_append_getElem hk, this]
theorem BothAuto_spec {w0 : World} {Γ : List Atom} {v va va1 vb vb1 : Value} {a : List Int} {x y : SAuto} [h : HasRd (List Int) repList Γ [v] a] [h0 : HasRd (List STrans) repList Γ [va] x.2.1] [h1 : HasRd (List Int) repList Γ [va1] x.2.2] [h2 : HasRd (List STrans) repList Γ [vb] y.2.1] [h3 : HasRd (List Int) repList Γ [vb1] y.2.2] :
    CJ Tryz.prog 16 [.agg #[v], .agg #[.int .i64 x.1, va, va1], .agg #[.int .i64 y.1, vb, vb1]] w0 Γ (fun q : BothT a x y => .tuple #[.agg #[.int .i64 q.1.2.2.1, q.1.1, q.1.2.1], .bool (decC (BothOk a x y))]) (fun q => .ow [q.1.1] q.1.2.2.2.1 :: .ow [q.1.2.1] q.1.2.2.2.2 :: Γ) := by
  refine cj_lift (R := [.rd [v] a, .rd [va] x.2.1, .rd [va1] x.2.2, .rd [vb] y.2.1, .rd [vb1] y.2.2]) (A := fun q : BothT a x y => [.ow [q.1.1] q.1.2.2.2.1, .ow [q.1.2.1] q.1.2.2.2.2]) (fun w1 => ?_) (reads_cons h (reads_cons h0 (reads_cons h1 (reads_cons h2 (reads_cons h3 (inferInstance)))))) (fun _ => inferInstance)
  simp only [List.cons_append, List.nil_append]
  by_cases hau : AutoP a x ∧ AutoP a y
  · obtain ⟨ax, ay⟩ := hau
    have hGr : GrC x y := ⟨a, ax, ay⟩
    have hxl := ax.2.2.1
    have hyl0 := ay.2.2.1
    have hx16 := ax.2.1
    have hy16 := ay.2.1
    refine cj_enter Tryz.func16 Tryz.ntmps16 ?_
    repeat' (first | refine red ?_ | (refine redc fun r => ?_; try have hr := Subtype.property r) | refine redn fun b => ?_ | (refine redi (fun hc => ?_) (fun hc => ?_) <;> try first | (exfalso; omega) | with_reducible first | exact absurd rfl hc | exact absurd hc Bool.false_ne_true | exact absurd hc Bool.false_ne_true.symm) | fail)
    · exact absurd ax hc
    · exact absurd ay hc
    · obtain ⟨q, e1, e2, e3, e4⟩ := both_no (a := a) (x := x) (y := y) fun h => by have := h.2.2.1.1; omega
      refine ⟨q, e1, ?_⟩; rw [e2, e3, e4]; exact ent_e
    · obtain ⟨q, e1, e2, e3, e4⟩ := both_no (a := a) (x := x) (y := y) fun h => by have := h.2.2.1.2; omega
      refine ⟨q, e1, ?_⟩; rw [e2, e3, e4]; exact ent_e
    rename Nat => bn
    generalize b = bo
    obtain ⟨g, hg⟩ := r
    have hn16 : 1 ≤ (prL x y).length ∧ (prL x y).length ≤ 16 := by omega
    obtain ⟨N, hN⟩ : ∃ n : Nat, x.1 = (n : Int) := ⟨x.1.toNat, by omega⟩
    obtain ⟨M, hM⟩ : ∃ m : Nat, y.1 = (m : Int) := ⟨y.1.toNat, by omega⟩
    have hprl : prL x y = pairsP (PR x y) M N := by unfold prL; rw [hN, hM, Int.toNat_natCast, Int.toNat_natCast]
    refine wc_loop_p [46] [47, 48, 12, 49, 50, 51, 52, 53, 13, 54, 55, 56, 57, 58, 59, 60, 61, 62, 63, 64, 65, 66, 67, 68, 69, 70, 71, 72, 73, 74, 75, 76, 77, 78, 79, 80, 81, 82, 83, 84, 85, 86, 87, 88, 89, 90, 91] (ι := (Nat → Int) × Value × Nat) (fun k => [.int .i64 k.2.2]) (fun k => [.bk bn (intV k.1), .bk bo [.int .i64 ((pairsP (PR x y) M k.2.2).length : Int), .slice none 0 0, k.2.1], .ow [k.2.1] (finB (prL x y) x.2.2 y.2.2 (pairsP (PR x y) M k.2.2).length)]) (fun k => k.2.2 ≤ N ∧ NumI (prL x y) k.1 (pairsP (PR x y) M k.2.2).length) (fun k => N - k.2.2) (fun _ => 0, .slice none 0 0, 0) [.bk bn (intV fun _ => 0), .bk bo [.int .i64 0, .slice none 0 0, .slice none 0 0], .ow [.slice none 0 0] ([] : List Int)] (by kernel_rfl) ⟨Nat.zero_le _, fun i hi => absurd hi (Nat.not_lt_zero _)⟩ rfl ?_
    intro ⟨nf, fv, p⟩ u l' hl' ⟨hp, hnum⟩
    simp only [patch, List.map_cons, List.map_nil, List.set_cons_zero, List.set_cons_succ] at hl'
    subst hl'
    simp only [List.cons_append, List.nil_append] at hp hnum ⊢
    by_cases hpl : p < N
    · repeat' (first | refine red ?_ | (refine redi (fun hc => ?_) (fun hc => ?_) <;> try first | (exfalso; omega) | with_reducible first | exact absurd rfl hc | exact absurd hc Bool.false_ne_true | exact absurd hc Bool.false_ne_true.symm) | fail)
      refine wc_loop_p [51] [52, 53, 13, 54, 55, 56, 57, 58, 59, 60, 61, 62, 63, 64, 65, 66, 67, 68, 69, 70, 71, 72, 73, 74, 75, 76, 77, 78, 79, 80, 81, 82, 83, 84, 85, 86, 87, 88, 89, 90] (ι := (Nat → Int) × Value × Nat) (fun k => [.int .i64 k.2.2]) (fun k => [.bk bn (intV k.1), .bk bo [.int .i64 ((pairsP (PR x y) M p ++ pairsTo (PR x y) M p k.2.2).length : Int), .slice none 0 0, k.2.1], .ow [k.2.1] (finB (prL x y) x.2.2 y.2.2 (pairsP (PR x y) M p ++ pairsTo (PR x y) M p k.2.2).length)]) (fun k => k.2.2 ≤ M ∧ NumI (prL x y) k.1 (pairsP (PR x y) M p ++ pairsTo (PR x y) M p k.2.2).length) (fun k => M - k.2.2) (nf, fv, 0) [.bk bn (intV nf), .bk bo [.int .i64 ((pairsP (PR x y) M p).length : Int), .slice none 0 0, fv], .ow [fv] (finB (prL x y) x.2.2 y.2.2 (pairsP (PR x y) M p).length)] (by kernel_rfl) ⟨Nat.zero_le _, by simp only [pairsTo, List.append_nil]; exact hnum⟩ (by simp only [pairsTo, List.append_nil]) ?_
      intro ⟨nf, fv, j⟩ u l' hl' ⟨hj, hnum⟩
      simp only [patch, List.map_cons, List.map_nil, List.set_cons_zero, List.set_cons_succ] at hl'
      subst hl'
      simp only [List.cons_append, List.nil_append] at hj hnum ⊢
      by_cases hjl : j < M
      · have hsu : pairsTo (PR x y) M p (j + 1) = pairsTo (PR x y) M p j ++ (if decC (PR x y (p : Int) (j : Int)) = true then [((p : Int), (j : Int))] else []) := rfl
        have hpre := pairs_pre (P := PR x y) (m := M) (q := j + 1) hpl (by omega)
        rw [← hprl] at hpre
        have hgi := hg (p : Int) (j : Int) (by omega) (by omega)
        have hjj : ((j : Nat) : Int).toNat = j := Int.toNat_natCast j
        have hpp : ((p : Nat) : Int).toNat = p := Int.toNat_natCast p
        have hfl := finB_len (prL x y) x.2.2 y.2.2 (pairsP (PR x y) M p ++ pairsTo (PR x y) M p j).length
        have hpl2 := hpre.length_le
        have hp16 : p < 16 := by omega
        have hj16 : (j : Int).toNat < 16 := by omega
        by_cases hP : PR x y (p : Int) (j : Int)
        · rw [if_pos (decC_t hP)] at hsu
          rw [hsu, ← List.append_assoc] at hpre
          obtain ⟨hnl, hng⟩ := pre_get hpre
          have hnum2 := numI_add ax ay hnum hnl hng
          have hgt := hgi.2 hP
          rw [hpp] at hgt
          have hlen : (pairsP (PR x y) M p ++ pairsTo (PR x y) M p (j + 1)).length = (pairsP (PR x y) M p ++ pairsTo (PR x y) M p j).length + 1 := by rw [hsu, ← List.append_assoc, List.length_append]; rfl
          have hfin : finB (prL x y) x.2.2 y.2.2 ((pairsP (PR x y) M p ++ pairsTo (PR x y) M p j).length + 1) = finB (prL x y) x.2.2 y.2.2 (pairsP (PR x y) M p ++ pairsTo (PR x y) M p j).length ++ (if (p : Int) ∈ x.2.2 ∧ (j : Int) ∈ y.2.2 then [(((pairsP (PR x y) M p ++ pairsTo (PR x y) M p j).length : Nat) : Int)] else []) := by
            conv => lhs; unfold finB
            rw [hng]
          generalize (pairsP (PR x y) M p ++ pairsTo (PR x y) M p j).length = n at hnum hfl hnl hng hnum2 hlen hfin ⊢
          generalize finB (prL x y) x.2.2 y.2.2 n = fz at hfl hfin ⊢
          have hn17 : n ≤ 16 := by omega
          clear hpre hpl2 hsu
          repeat' (first | refine red ?_ | refine reds ?_ | (refine redc fun r => ?_; try have hr := Subtype.property r) | refine redv fun sv => ?_ | (refine redi (fun hc => ?_) (fun hc => ?_) <;> try first | (exfalso; omega) | with_reducible first | exact absurd rfl hc | exact absurd hc Bool.false_ne_true | exact absurd hc Bool.false_ne_true.symm) | ((refine wa_begin 16 [false, false, false, false, false, false, false] [6] ?_ <;> refine wa_p 0 ?_ <;> refine wa_p 1 ?_ <;> (first | refine wa_p 2 ?_ | fail) <;> (first | refine wa_p 3 ?_ | fail) <;> (first | refine wa_p 4 ?_ | fail) <;> (first | refine wa_p 5 ?_ | fail) <;> (refine wa_do 6 ?_ <;> (repeat' (first | refine red ?_ | refine reds ?_ | fail)))) <;> (refine wa_end ?_)) | fail)
          all_goals first
            | (rw [hgt] at hc; cases hc; done)
            | (rw [if_pos ⟨‹(p : Int) ∈ x.2.2›, ‹(j : Int) ∈ y.2.2›⟩] at hfin
               refine wq_next (upF nf (p * 16 + j) (n : Int), sv, j + 1) ⟨by simp only; omega, by simp only [hlen]; exact hnum2⟩ (by simp only; omega) (by kernel_rfl) ?_
               simp only [hlen, hfin]
               rw [show ((n : Int) + 1) = ((n + 1 : Nat) : Int) from rfl]
               exact ent_e)
            | (rw [if_neg (by first | exact fun h => ‹¬ (j : Int) ∈ y.2.2› h.2 | exact fun h => ‹¬ (p : Int) ∈ x.2.2› h.1), List.append_nil] at hfin
               refine wq_next (upF nf (p * 16 + j) (n : Int), fv, j + 1) ⟨by simp only; omega, by simp only [hlen]; exact hnum2⟩ (by simp only; omega) (by kernel_rfl) ?_
               simp only [hlen, hfin]
               rw [show ((n : Int) + 1) = ((n + 1 : Nat) : Int) from rfl]
               exact ent_e)
            | fail
        · have hgf : g (p * 16 + (j : Int).toNat) = false := by
            cases e : g (p * 16 + (j : Int).toNat)
            · rfl
            · rw [hpp] at hgi; exact absurd (hgi.1 e) hP
          rw [if_neg (fun h => hP (decC_iff.1 h)), List.append_nil] at hsu
          have hlen : (pairsP (PR x y) M p ++ pairsTo (PR x y) M p (j + 1)).length = (pairsP (PR x y) M p ++ pairsTo (PR x y) M p j).length := by rw [hsu]
          rw [hlen] at hpl2
          generalize (pairsP (PR x y) M p ++ pairsTo (PR x y) M p j).length = n at hnum hfl hlen hpl2 ⊢
          generalize hfz : finB (prL x y) x.2.2 y.2.2 n = fz at hfl ⊢
          have hn17 : n ≤ 16 := by omega
          clear hpre hpl2 hsu
          repeat' (first | refine red ?_ | refine reds ?_ | (refine redc fun r => ?_; try have hr := Subtype.property r) | refine redv fun sv => ?_ | (refine redi (fun hc => ?_) (fun hc => ?_) <;> try first | (exfalso; omega) | with_reducible first | exact absurd rfl hc | exact absurd hc Bool.false_ne_true | exact absurd hc Bool.false_ne_true.symm) | ((refine wa_begin 16 [false, false, false, false, false, false, false] [6] ?_ <;> refine wa_p 0 ?_ <;> refine wa_p 1 ?_ <;> (first | refine wa_p 2 ?_ | fail) <;> (first | refine wa_p 3 ?_ | fail) <;> (first | refine wa_p 4 ?_ | fail) <;> (first | refine wa_p 5 ?_ | fail) <;> (refine wa_do 6 ?_ <;> (repeat' (first | refine red ?_ | refine reds ?_ | fail)))) <;> (refine wa_end ?_)) | fail)
          all_goals first
            | exact absurd ‹g (p * 16 + (j : Int).toNat) = true› (by rw [hgf]; decide)
            | (refine wq_next (nf, fv, j + 1) ⟨by simp only; omega, by simp only [hlen]; exact hnum⟩ (by simp only; omega) (by kernel_rfl) ?_
               simp only [hlen, hfz]
               exact ent_e)
            | fail
      · obtain rfl : j = M := by omega
        repeat' (first | refine red ?_ | refine reds ?_ | (refine redi (fun hc => ?_) (fun hc => ?_) <;> try first | (exfalso; omega) | with_reducible first | exact absurd rfl hc | exact absurd hc Bool.false_ne_true | exact absurd hc Bool.false_ne_true.symm) | fail)
        exact wq_next (nf, fv, p + 1) ⟨by simp only; omega, hnum⟩ (by simp only; omega) (by kernel_rfl) (by
          show Ent _ _ (.bk bn (intV nf) :: .bk bo [.int .i64 ((pairsP (PR x y) j p ++ pairsTo (PR x y) j p j).length : Int), .slice none 0 0, fv] :: .ow [fv] (finB (prL x y) x.2.2 y.2.2 (pairsP (PR x y) j p ++ pairsTo (PR x y) j p j).length) :: _)
          exact ent_e)
    obtain rfl : p = N := by omega
    rw [← hprl] at hnum ⊢
    have hfit : ∀ k m, k < x.2.1.length → m < y.2.1.length → (FitG g (x.2.1.getD k default) (y.2.1.getD m default) (x.2.1.getD k default).2.1.length ↔ FitsP (PR x y) (x.2.1.getD k default) (y.2.1.getD m default)) := fun k m hk hm => fit_iff hg ax ay (getT hk) (getT hm)
    have hfinl := finB_len (prL x y) x.2.2 y.2.2 (prL x y).length
    repeat' (first | refine red ?_ | (refine redi (fun hc => ?_) (fun hc => ?_) <;> try first | (exfalso; omega) | with_reducible first | exact absurd rfl hc | exact absurd hc Bool.false_ne_true | exact absurd hc Bool.false_ne_true.symm) | fail)
    refine wc_loop_p [95] [96, 97, 98, 15, 99, 100, 101, 102, 103, 104, 105, 17, 106, 107, 108, 109, 110, 111, 112, 113, 114, 115, 116, 117, 118, 119, 120, 18, 121, 122, 123, 124, 125, 126, 19, 127, 128, 129, 130, 131, 132, 133, 134, 135, 136, 137, 138, 139, 140, 141, 142, 143, 144, 145, 146, 147, 148, 149, 150, 151, 152, 153] (ι := Value × Nat) (fun k => [.int .i64 k.2]) (fun k => [.bk bo [.int .i64 ((prL x y).length : Int), k.1, fv], .ow [k.1] (allI x y (x.2.1.take k.2))]) (fun k => k.2 ≤ x.2.1.length) (fun k => x.2.1.length - k.2) (.slice none 0 0, 0) [.bk bo [.int .i64 ((prL x y).length : Int), .slice none 0 0, fv], .ow [.slice none 0 0] ([] : List STrans)] (by kernel_rfl) (Nat.zero_le _) rfl ?_
    intro ⟨rv, k⟩ u l' hl' hk
    simp only [patch, List.map_cons, List.map_nil, List.set_cons_zero, List.set_cons_succ] at hl'
    subst hl'
    simp only [List.cons_append, List.nil_append] at hk ⊢
    have hal : ∀ k, (allI x y (x.2.1.take k)).length ≤ 90000 := fun k => by
      have h1 := allI_len x y (x.2.1.take k)
      have h2 : (x.2.1.take k).length ≤ 300 := by have := ax.2.2.1; rw [List.length_take]; omega
      have h3 := Nat.mul_le_mul h2 ay.2.2.1
      omega
    by_cases hkl : k < x.2.1.length
    · have hrm := getT hkl
      have hr16 := auto16 ax hrm
      have hkt := allI_take (x := x) (y := y) hkl
      have halk := hal k
      repeat' (first | refine red ?_ | refine redn fun b => ?_ | (refine redd fun p cs as_ hcs has hf => ?_; simp only [Un.cells, Un.atoms, Un.fact, List.cons_append, List.nil_append] at hcs has hf; subst hcs has) | (refine redi (fun hc => ?_) (fun hc => ?_) <;> try first | (exfalso; omega) | with_reducible first | exact absurd rfl hc | exact absurd hc Bool.false_ne_true | exact absurd hc Bool.false_ne_true.symm) | fail)
      refine wc_loop_p [102] [103, 104, 105, 17, 106, 107, 108, 109, 110, 111, 112, 113, 114, 115, 116, 117, 118, 119, 120, 18, 121, 122, 123, 124, 125, 126, 19, 127, 128, 129, 130, 131, 132, 133, 134, 135, 136, 137, 138, 139, 140, 141, 142, 143, 144, 145, 146, 147, 148, 149, 150, 151, 152] (ι := Value × Nat) (fun m => [.int .i64 m.2]) (fun m => [.bk bo [.int .i64 ((prL x y).length : Int), m.1, fv], .ow [m.1] (allI x y (x.2.1.take k) ++ rowI x y (x.2.1.getD k default) (y.2.1.take m.2))]) (fun m => m.2 ≤ y.2.1.length) (fun m => y.2.1.length - m.2) (rv, 0) [.bk bo [.int .i64 ((prL x y).length : Int), rv, fv], .ow [rv] (allI x y (x.2.1.take k))] (by kernel_rfl) (Nat.zero_le _) (by simp only [List.take_zero, rowI, List.flatMap_nil, List.append_nil]) ?_
      intro ⟨rv, m⟩ u l' hl' hm
      simp only [patch, List.map_cons, List.map_nil, List.set_cons_zero, List.set_cons_succ] at hl'
      subst hl'
      simp only [List.cons_append, List.nil_append] at hm ⊢
      by_cases hml : m < y.2.1.length
      · have hsm := getT hml
        have hs16 := auto16 ay hsm
        have hfc : FitC (x.2.1.getD k default) (y.2.1.getD m default) := ⟨fun e => auto_len ax ay hrm hsm e, hr16.1, hs16.1⟩
        have hmt := rowI_take (x := x) (y := y) (r := x.2.1.getD k default) hml
        have hrl := rowI_len x y (x.2.1.getD k default) (y.2.1.take m)
        rw [List.length_take] at hrl
        have hfi := hfit k m hkl hml
        have hyl := ay.2.2.1
        repeat' (first | refine red ?_ | refine reds ?_ | (refine redc fun r => ?_; try have hr := Subtype.property r) | refine redn fun b => ?_ | (refine redd fun p cs as_ hcs has hf => ?_; simp only [Un.cells, Un.atoms, Un.fact, List.cons_append, List.nil_append] at hcs has hf; subst hcs has) | (refine redi (fun hc => ?_) (fun hc => ?_) <;> try first | (exfalso; omega) | with_reducible first | exact absurd rfl hc | exact absurd hc Bool.false_ne_true | exact absurd hc Bool.false_ne_true.symm) | ((refine wa_begin 29 [false, false, false, false, false, false, false, false, false, false, false, false] [] ?_ <;> (first | refine wa_p 0 ?_ | fail) <;> (first | refine wa_p 1 ?_ | fail) <;> (first | refine wa_p 2 ?_ | fail) <;> (first | refine wa_p 3 ?_ | fail) <;> (first | refine wa_p 4 ?_ | fail) <;> (first | refine wa_p 5 ?_ | fail) <;> (first | refine wa_p 6 ?_ | fail) <;> (first | refine wa_p 7 ?_ | fail) <;> (first | refine wa_p 8 ?_ | fail) <;> (refine wa_two 9 10 ?_ ?_; rotate_right; (focus ((repeat' (first | refine red ?_ | refine redn fun b => ?_ | fail)) <;> (refine wa_do 9 ?_ <;> (repeat' (first | refine red ?_ | fail))) <;> (refine wa_do 11 ?_ <;> (repeat' (first | refine red ?_ | fail))))); rotate_right; (focus ((repeat' (first | refine red ?_ | fail)) <;> (refine wa_do 10 ?_ <;> (repeat' (first | refine red ?_ | refine redn fun b => ?_ | fail))) <;> (refine wa_do 11 ?_ <;> (repeat' (first | refine red ?_ | fail))))))) <;> (refine wa_end ?_)) | fail)
        all_goals first
          | (have hce : cellI x y (x.2.1.getD k default) (y.2.1.getD m default) = [] := by unfold cellI; rw [if_neg fun h => hc (hfi.2 (decC_iff.1 h))]
             rw [hce, List.append_nil] at hmt
             refine wq_next (rv, m + 1) (by simp only; omega) (by simp only; omega) (by kernel_rfl) ?_
             simp only [hmt]
             exact ent_e)
          | (
             rename Nat => bt
             have hfP := hfi.1 hc
             have hto := numI_get ax ay hnum (fits_to hrm hsm hfP)
             have hce : cellI x y (x.2.1.getD k default) (y.2.1.getD m default) = [mkR x y (x.2.1.getD k default) (y.2.1.getD m default)] := by unfold cellI; rw [if_pos (decC_t hfP)]
             have hl2 := hfc.len hfP.1
             have hml2 := mapI_len (numP x y) (x.2.1.getD k default).2.1 (y.2.1.getD m default).2.1
             rw [hto]
             refine wc_loop_p [124] [125, 126, 19, 127, 128, 129, 130, 131, 132, 133, 134, 135, 136, 137, 138, 139, 140, 141, 142, 143, 144, 145] (ι := Value × Nat) (fun i => [.int .i64 i.2]) (fun i => [.bk bt [.int .i64 (x.2.1.getD k default).1, i.1, .int .i64 (numP x y (x.2.1.getD k default).2.2 (y.2.1.getD m default).2.2)], .ow [i.1] ((mapI (numP x y) (x.2.1.getD k default).2.1 (y.2.1.getD m default).2.1).take i.2)]) (fun i => i.2 ≤ (x.2.1.getD k default).2.1.length) (fun i => (x.2.1.getD k default).2.1.length - i.2) (.slice none 0 0, 0) [.bk bt [.int .i64 (x.2.1.getD k default).1, .slice none 0 0, .int .i64 (numP x y (x.2.1.getD k default).2.2 (y.2.1.getD m default).2.2)], .ow [.slice none 0 0] ([] : List Int)] (by kernel_rfl) (Nat.zero_le _) rfl ?_
             intro ⟨av, i⟩ u l' hl' hi
             simp only [patch, List.map_cons, List.map_nil, List.set_cons_zero, List.set_cons_succ] at hl'
             subst hl'
             simp only [List.cons_append, List.nil_append] at hi ⊢
             have htl : ((mapI (numP x y) (x.2.1.getD k default).2.1 (y.2.1.getD m default).2.1).take i).length ≤ 3 := by
               have h3 := (auto_tr ax hrm).2.1
               have h4 := (auto_tr ax hrm).1
               have h5 := (arN_eq ax.1 (f := (x.2.1.getD k default).1.toNat) (by omega))
               rw [List.length_take, hml2]
               omega
             have htl2 := htl
             rw [List.length_take] at htl2
             by_cases hil : i < (x.2.1.getD k default).2.1.length
             · have hri := hr16.1 _ (getK hil)
               have hsi := hs16.1 _ (getK (show i < (y.2.1.getD m default).2.1.length by omega))
               have hni := numI_get ax ay hnum (hfP.2 i hil)
               have hnb := numP_in ax ay (hfP.2 i hil)
               have hnb2 : 0 ≤ nf (((x.2.1.getD k default).2.1.getD i 0).toNat * 16 + ((y.2.1.getD m default).2.1.getD i 0).toNat) ∧ nf (((x.2.1.getD k default).2.1.getD i 0).toNat * 16 + ((y.2.1.getD m default).2.1.getD i 0).toNat) < 16 := by rw [hni]; omega
               have hmt2 := mapI_take (f := numP x y) (s := (y.2.1.getD m default).2.1) hil
               repeat' (first | refine red ?_ | refine reds ?_ | (refine redi (fun hc => ?_) (fun hc => ?_) <;> try first | (exfalso; omega) | with_reducible first | exact absurd rfl hc | exact absurd hc Bool.false_ne_true | exact absurd hc Bool.false_ne_true.symm) | ((refine wa_begin 33 [false, false, false, false, false, false, false, false, false, false, false, false, false, false, false, false, false, false, false] [16, 18] ?_ <;> (first | refine wa_p 0 ?_ | fail) <;> (first | refine wa_p 1 ?_ | fail) <;> (first | refine wa_p 2 ?_ | fail) <;> (first | refine wa_p 3 ?_ | fail) <;> refine wa_p 4 ?_ <;> refine wa_p 5 ?_ <;> (first | refine wa_f 6 fun hbi => ?_ | fail) <;> (first | refine wa_p 7 ?_ | fail) <;> (first | refine wa_p 8 ?_ | fail) <;> refine wa_p 9 ?_ <;> refine wa_p 10 ?_ <;> (first | refine wa_f 11 fun hbi => ?_ | fail) <;> (first | refine wa_p 12 ?_ | fail) <;> (first | refine wa_p 13 ?_ | fail) <;> (first | refine wa_p 14 ?_ | fail) <;> (refine wa_do 15 ?_ <;> (repeat' (first | refine red ?_ | refine redv fun sv => ?_ | fail))) <;> (refine wa_do 16 ?_ <;> (repeat' (first | refine red ?_ | refine redv fun sv => ?_ | fail))) <;> (first | refine wa_p0 17 ?_ | fail) <;> (refine wa_do 18 ?_ <;> (repeat' (first | refine red ?_ | fail)))) <;> (refine wa_end ?_)) | fail)
               all_goals
                rw [hni, ← hmt2]
                exact wq_next (sv, i + 1) (by simp only; omega) (by simp only; omega) (by kernel_rfl) ent_e
             · have hie : (mapI (numP x y) (x.2.1.getD k default).2.1 (y.2.1.getD m default).2.1).take i = mapI (numP x y) (x.2.1.getD k default).2.1 (y.2.1.getD m default).2.1 := List.take_of_length_le (by omega)
               rw [hie]
               rw [hce] at hmt
               have hcat : allI x y (x.2.1.take k) ++ rowI x y (x.2.1.getD k default) (y.2.1.take (m + 1)) = allI x y (x.2.1.take k) ++ rowI x y (x.2.1.getD k default) (y.2.1.take m) ++ [((x.2.1.getD k default).1, mapI (numP x y) (x.2.1.getD k default).2.1 (y.2.1.getD m default).2.1, numP x y (x.2.1.getD k default).2.2 (y.2.1.getD m default).2.2)] := by rw [hmt, List.append_assoc]; rfl
               have hnb := numP_in ax ay (fits_to hrm hsm hfP)
               repeat' (first | refine red ?_ | refine reds ?_ | refine redv fun sv => ?_ | (refine redi (fun hc => ?_) (fun hc => ?_) <;> try first | (exfalso; omega) | with_reducible first | exact absurd rfl hc | exact absurd hc Bool.false_ne_true | exact absurd hc Bool.false_ne_true.symm) | fail)
               refine wq_next (sv, m + 1) (by simp only; omega) (by simp only; omega) (by kernel_rfl) ?_
               simp only [hcat]
               exact ent_e
             )
      · have htm : y.2.1.take m = y.2.1 := List.take_of_length_le (by omega)
        rw [htm, ← hkt]
        have hkn := hal (k + 1)
        repeat' (first | refine red ?_ | refine reds ?_ | (refine redi (fun hc => ?_) (fun hc => ?_) <;> try first | (exfalso; omega) | with_reducible first | exact absurd rfl hc | exact absurd hc Bool.false_ne_true | exact absurd hc Bool.false_ne_true.symm) | fail)
        exact wq_next (rv, k + 1) (by simp only; omega) (by simp only; omega) (by kernel_rfl) ent_e
    have hta : allI x y (x.2.1.take k) = allI x y x.2.1 := by rw [List.take_of_length_le (by omega)]
    have halk := hal k
    rw [hta] at halk ⊢
    repeat' (first | refine red ?_ | (refine redc fun r => ?_; try have hr := Subtype.property r) | (refine redi (fun hc => ?_) (fun hc => ?_) <;> try first | (exfalso; omega) | with_reducible first | exact absurd rfl hc | exact absurd hc Bool.false_ne_true | exact absurd hc Bool.false_ne_true.symm) | fail)
    · obtain ⟨q, e1, e2, e3, e4⟩ := both_no (a := a) (x := x) (y := y) fun h => by have := h.2.2.2; omega
      refine ⟨q, e1, ?_⟩; rw [e2, e3, e4]; exact ent_e
    · refine ⟨⟨(rv, fv, (((prL x y).length : Nat) : Int), r.1, finB (prL x y) x.2.2 y.2.2 (prL x y).length), fun _ => ⟨ax, ay, hn16, by omega, rfl, hr.1, rfl⟩, fun h => absurd ⟨ax, ay, hn16, by omega⟩ h⟩, ?_, ent_e⟩
      rw [decC_t ⟨ax, ay, hn16, by omega⟩]
  · have hno : ¬ BothOk a x y := fun h => hau ⟨h.1, h.2.1⟩
    obtain ⟨q, e1, e2, e3, e4⟩ := both_no hno
    refine cj_enter Tryz.func16 Tryz.ntmps16 ?_
    repeat' (first | refine red ?_ | (refine redc fun r => ?_; try have hr := Subtype.property r) | refine redn fun b => ?_ | (refine redi (fun hc => ?_) (fun hc => ?_) <;> try first | (exfalso; omega) | with_reducible first | exact absurd rfl hc | exact absurd hc Bool.false_ne_true | exact absurd hc Bool.false_ne_true.symm) | fail)
    all_goals first
      | (refine ⟨q, e1, ?_⟩; rw [e2, e3, e4]; exact ent_e)
      | (exfalso; exact hau ⟨by assumption, by assumption⟩)
      | fail
instance BothAuto_ctr {Γ : List Atom} {v va va1 vb vb1 : Value} {a : List Int} {x y : SAuto} [h : HasRd (List Int) repList Γ [v] a] [h0 : HasRd (List STrans) repList Γ [va] x.2.1] [h1 : HasRd (List Int) repList Γ [va1] x.2.2] [h2 : HasRd (List STrans) repList Γ [vb] y.2.1] [h3 : HasRd (List Int) repList Γ [vb1] y.2.2] :
    CtrC Tryz.prog 16 [.agg #[v], .agg #[.int .i64 x.1, va, va1], .agg #[.int .i64 y.1, vb, vb1]] Γ (True) (BothT a x y) (fun q : BothT a x y => .tuple #[.agg #[.int .i64 q.1.2.2.1, q.1.1, q.1.2.1], .bool (decC (BothOk a x y))]) (fun q => .ow [q.1.1] q.1.2.2.2.1 :: .ow [q.1.2.1] q.1.2.2.2.2 :: Γ) := ⟨fun s w0 => BothAuto_spec⟩

end Go.Proofs.YtbbdjjlnachnlaaGreat
