/- The product of automata: whether the reference has one. -/
import Derived.Test.YtbbdjjlnachnlaaGreatBothJ
import Derived.Test.YtbbdjjlnachnlaaGreatBothS
namespace Go.Proofs.YtbbdjjlnachnlaaGreat
open Go Go.Eng
set_option linter.unusedVariables false
set_option linter.unusedSimpArgs false
set_option synthInstance.maxHeartbeats 400000
set_option synthInstance.maxSize 1000
set_option maxHeartbeats 2000000
set_option maxRecDepth 20000


theorem getP {xs : List P2} {k : Nat} (h : k < xs.length) : xs.getD k default ∈ xs := by
  rw [List.getD_eq_getElem?_getD, List.getElem?_eq_getElem h]; exact List.getElem_mem h
theorem l23Finals_spec {w0 : World} {Γ : List Atom} {v va vb : Value} {xs : List P2} {fa fb : List Int} [h : HasRd (List P2) repList Γ [v] xs] [h0 : HasRd (List Int) repList Γ [va] fa] [h1 : HasRd (List Int) repList Γ [vb] fb] (hl : xs.length ≤ 1000) :
    CJ Tryz.prog 61 [v, va, vb] w0 Γ (fun q : Value => q) (fun q => .ow [q] (finB xs fa fb xs.length) :: Γ) := by
  refine cj_lift (R := [.rd [v] xs, .rd [va] fa, .rd [vb] fb]) (A := fun q : Value => [.ow [q] (finB xs fa fb xs.length)]) (fun w1 => ?_) (reads_cons h (reads_cons h0 (reads_cons h1 (inferInstance)))) (fun _ => inferInstance)
  simp only [List.cons_append, List.nil_append]
  refine cj_enter Tryz.func61 Tryz.ntmps61 ?_
  repeat' (first | refine red ?_ | refine redv fun sv => ?_ | fail)
  refine wc_loop_p [7, 8] [10, 11, 12, 13, 16, 17, 18, 19, 20, 21, 22, 23, 24, 25, 26, 27, 28, 29, 30, 31, 32, 33, 34, 35, 14, 15] (ι := Value × Nat) (fun k => [k.1, .int .i64 k.2]) (fun k => [.ow [k.1] (finB xs fa fb k.2)]) (fun k => k.2 ≤ xs.length) (fun k => xs.length - k.2) (sv, 0) [.ow [sv] ([] : List Int)] (by kernel_rfl) (Nat.zero_le _) rfl ?_
  intro ⟨sy, k⟩ u l' hl' hk
  simp only [patch, List.map_cons, List.map_nil, List.set_cons_zero, List.set_cons_succ] at hl'
  subst hl'
  simp only [List.cons_append, List.nil_append] at hk ⊢
  have hfl := finB_len xs fa fb k
  have hfs : finB xs fa fb (k + 1) = finB xs fa fb k ++ (if (xs.getD k default).1 ∈ fa ∧ (xs.getD k default).2 ∈ fb then [(k : Int)] else []) := rfl
  by_cases hkl : k < xs.length
  · repeat' (first | refine red ?_ | refine reds ?_ | (refine redc fun r => ?_; try have hr := Subtype.property r) | refine redv fun sv => ?_ | (refine redd fun p cs as_ hcs has hf => ?_; simp only [Un.cells, Un.atoms, Un.fact, List.cons_append, List.nil_append] at hcs has hf; subst hcs has) | (refine redi (fun hc => ?_) (fun hc => ?_) <;> try first | (exfalso; omega) | with_reducible first | exact absurd rfl hc | exact absurd hc Bool.false_ne_true | exact absurd hc Bool.false_ne_true.symm) | fail)
    · rw [if_pos ⟨‹_ ∈ fa›, ‹_ ∈ fb›⟩] at hfs
      exact wq_next (sv, k + 1) (by simp only; omega) (by simp only; omega) (by kernel_rfl) (by simp only [hfs]; exact ent_e)
    · rw [if_neg (fun h => hc h.2), List.append_nil] at hfs
      exact wq_next (sy, k + 1) (by simp only; omega) (by simp only; omega) (by kernel_rfl) (by simp only [hfs]; exact ent_e)
    · rw [if_neg (fun h => hc h.1), List.append_nil] at hfs
      exact wq_next (sy, k + 1) (by simp only; omega) (by simp only; omega) (by kernel_rfl) (by simp only [hfs]; exact ent_e)
  · repeat' (first | refine red ?_ | (refine redi (fun hc => ?_) (fun hc => ?_) <;> try first | (exfalso; omega) | with_reducible first | exact absurd rfl hc | exact absurd hc Bool.false_ne_true | exact absurd hc Bool.false_ne_true.symm) | fail)
    rw [show xs.length = k by omega]
    exact ⟨_, rfl, ent_e⟩
instance l23Finals_ctr {Γ : List Atom} {v va vb : Value} {xs : List P2} {fa fb : List Int} [h : HasRd (List P2) repList Γ [v] xs] [h0 : HasRd (List Int) repList Γ [va] fa] [h1 : HasRd (List Int) repList Γ [vb] fb] :
    CtrC Tryz.prog 61 [v, va, vb] Γ (xs.length ≤ 1000) (Value) (fun q : Value => q) (fun q => .ow [q] (finB xs fa fb xs.length) :: Γ) := ⟨fun s w0 => l23Finals_spec s⟩

/-! ### The rules, one by one -/
noncomputable def mkS (x y : SAuto) (f : Nat) (l : List Int) (p q : Int) : STrans := ((f : Int), l, numP x y p q)
noncomputable def cellP (x y : SAuto) (f : Nat) (l : List Int) (ps qs : List Int) (i j : Nat) : List STrans := ((ps.take i).flatMap fun p => qs.map (mkS x y f l p)) ++ (qs.take j).map (mkS x y f l (ps.getD i 0))
theorem cellP_zero (x y : SAuto) (f : Nat) (l ps qs : List Int) : cellP x y f l ps qs 0 0 = [] := by simp [cellP]
theorem cellP_col {x y : SAuto} {f : Nat} {l ps qs : List Int} {i j : Nat} (hj : j < qs.length) : cellP x y f l ps qs i (j + 1) = cellP x y f l ps qs i j ++ [mkS x y f l (ps.getD i 0) (qs.getD j 0)] := by
  unfold cellP
  rw [List.take_succ_eq_append_getElem hj, List.map_append, ← List.append_assoc, getD_lt hj]; rfl
theorem cellP_row {x y : SAuto} {f : Nat} {l ps qs : List Int} {i : Nat} (hi : i < ps.length) : cellP x y f l ps qs i qs.length = cellP x y f l ps qs (i + 1) 0 := by
  unfold cellP
  rw [List.take_length, List.take_succ_eq_append_getElem hi, List.flatMap_append, getD_lt hi]; simp
theorem cellP_all (x y : SAuto) (f : Nat) (l : List Int) : cellP x y f l (imgL x.2.1 f (lefts (prL x y) l)) (imgL y.2.1 f (rights (prL x y) l)) (imgL x.2.1 f (lefts (prL x y) l)).length 0 = cellS x y f l := by
  unfold cellP cellS
  rw [List.take_length]; simp only [List.take_zero, List.map_nil, List.append_nil]; rfl
theorem cellP_pre {x y : SAuto} {f : Nat} {l : List Int} {i j : Nat} (hi : i < (imgL x.2.1 f (lefts (prL x y) l)).length) (hj : j ≤ (imgL y.2.1 f (rights (prL x y) l)).length) : cellP x y f l (imgL x.2.1 f (lefts (prL x y) l)) (imgL y.2.1 f (rights (prL x y) l)) i j <+: cellS x y f l := by
  generalize hps : imgL x.2.1 f (lefts (prL x y) l) = ps at hi ⊢
  generalize hqs : imgL y.2.1 f (rights (prL x y) l) = qs at hj ⊢
  unfold cellS cellP
  rw [hps, hqs]
  show _ <+: ps.flatMap fun p => qs.map (mkS x y f l p)
  refine ⟨(qs.drop j).map (mkS x y f l (ps.getD i 0)) ++ (ps.drop (i + 1)).flatMap fun p => qs.map (mkS x y f l p), ?_⟩
  have h1 : ps = ps.take i ++ (ps.getD i 0 :: ps.drop (i + 1)) := by
    conv => lhs; rw [← List.take_append_drop i ps, List.drop_eq_getElem_cons hi]
    rw [getD_lt hi]
  conv => rhs; rw [h1]
  rw [List.flatMap_append, List.flatMap_cons, List.append_assoc]
  congr 1
  rw [← List.append_assoc, ← List.map_append, List.take_append_drop]
theorem rowB_pre (a : List Int) (x y : SAuto) (f i : Nat) : ∀ d, rowB a x y f i <+: rowB a x y f (i + d)
  | 0 => List.prefix_rfl
  | d + 1 => (rowB_pre a x y f i d).trans (by rw [← Nat.add_assoc, rowB_succ]; exact List.prefix_append _ _)
theorem allB_pre (a : List Int) (x y : SAuto) (f : Nat) : ∀ d, allB a x y f <+: allB a x y (f + d)
  | 0 => List.prefix_rfl
  | d + 1 => (allB_pre a x y f d).trans (by rw [← Nat.add_assoc, allB_succ]; exact List.prefix_append _ _)
theorem part_len {a : List Int} {x y : SAuto} {f i : Nat} (hf : f < a.length) (hi : i < (prL x y).length ^ arN a f) {p q : Nat} (hp : p < (imgL x.2.1 f (lefts (prL x y) (dig (prL x y).length (arN a f) i))).length) (hq : q ≤ (imgL y.2.1 f (rights (prL x y) (dig (prL x y).length (arN a f) i))).length) :
    (allB a x y f ++ rowB a x y f i ++ cellP x y f (dig (prL x y).length (arN a f) i) (imgL x.2.1 f (lefts (prL x y) (dig (prL x y).length (arN a f) i))) (imgL y.2.1 f (rights (prL x y) (dig (prL x y).length (arN a f) i))) p q).length ≤ (allB a x y a.length).length := by
  have h1 := (cellP_pre hp hq).length_le
  have h2 := (rowB_pre a x y f (i + 1) ((prL x y).length ^ arN a f - (i + 1))).length_le
  rw [show i + 1 + ((prL x y).length ^ arN a f - (i + 1)) = (prL x y).length ^ arN a f by omega, rowB_succ, List.length_append] at h2
  have h3 := (allB_pre a x y (f + 1) (a.length - (f + 1))).length_le
  rw [show f + 1 + (a.length - (f + 1)) = a.length by omega, allB_succ, List.length_append] at h3
  simp only [List.length_append]
  omega
structure BkC (a : List Int) (x y : SAuto) : Prop where
  ax : AutoP a x
  ay : AutoP a y
theorem img_both {a : List Int} {x : SAuto} (h : AutoP a x) {f : Nat} (hf : f < a.length) {args : List (List Int)} (hl : args.length = arN a f) : InS x.2.1 ∧ ∀ j, j < x.2.1.length → (x.2.1.getD j default).1 = (f : Int) → (x.2.1.getD j default).2.1.length = args.length := by
  refine ⟨inS_of h, fun j hj he => ?_⟩
  have h1 := (auto_tr h (getT hj)).2.1
  rw [he, Int.toNat_natCast] at h1
  rw [hl]; unfold arN; omega
theorem SBothAuto_spec {w0 : World} {Γ : List Atom} {v va va1 vb vb1 : Value} {a : List Int} {x y : SAuto} [h : HasRd (List Int) repList Γ [v] a] [h0 : HasRd (List STrans) repList Γ [va] x.2.1] [h1 : HasRd (List Int) repList Γ [va1] x.2.2] [h2 : HasRd (List STrans) repList Γ [vb] y.2.1] [h3 : HasRd (List Int) repList Γ [vb1] y.2.2] :
    CJ Tryz.prog 20 [.agg #[v], .agg #[.int .i64 x.1, va, va1], .agg #[.int .i64 y.1, vb, vb1]] w0 Γ (fun q : Value × Value × SAuto => .tuple #[.agg #[.int .i64 q.2.2.1, q.1, q.2.1], .bool (decC (BothOk a x y))]) (fun q => .ow [q.1] q.2.2.2.1 :: .ow [q.2.1] q.2.2.2.2 :: Γ) := by
  refine cj_lift (R := [.rd [v] a, .rd [va] x.2.1, .rd [va1] x.2.2, .rd [vb] y.2.1, .rd [vb1] y.2.2]) (A := fun q : Value × Value × SAuto => [.ow [q.1] q.2.2.2.1, .ow [q.2.1] q.2.2.2.2]) (fun w1 => ?_) (reads_cons h (reads_cons h0 (reads_cons h1 (reads_cons h2 (reads_cons h3 (inferInstance)))))) (fun _ => inferInstance)
  simp only [List.cons_append, List.nil_append]
  by_cases hau : AutoP a x ∧ AutoP a y
  · obtain ⟨ax, ay⟩ := hau
    have hGr : ∃ a, AutoP a x ∧ AutoP a y := ⟨a, ax, ay⟩
    have hsg := sigOk_len ax.1
    refine cj_enter Tryz.func20 Tryz.ntmps20 ?_
    repeat' (first | refine red ?_ | (refine redc fun r => ?_; try have hr := Subtype.property r) | refine redn fun b => ?_ | (refine redi (fun hc => ?_) (fun hc => ?_) <;> try first | (exfalso; omega) | with_reducible first | exact absurd rfl hc | exact absurd hc Bool.false_ne_true | exact absurd hc Bool.false_ne_true.symm) | fail)
    · exact absurd ax hc
    · exact absurd ay hc
    · exact ⟨(.slice none 0 0, .slice none 0 0, ((0 : Int), ([] : List STrans), ([] : List Int))), by rw [decC_f fun h => hc (by have := h.2.2.1; omega)], ent_e⟩
    rename_i pv ru
    generalize r = fv
    generalize b = bo
    have hn16 : 1 ≤ (prL x y).length ∧ (prL x y).length ≤ 16 := by omega
    have hbl := both_len ax ay (by omega)
    obtain ⟨n, hn⟩ : ∃ n, n = (prL x y).length := ⟨_, rfl⟩
    refine wc_share pv ?_
    refine wc_loop_p [11] [49, 50, 51, 52, 53, 56, 57, 58, 59, 60, 61, 12, 13, 62, 69, 14, 70, 15, 16, 71, 72, 73, 74, 77, 78, 79, 80, 81, 82, 83, 84, 85, 86, 87, 88, 89, 90, 91, 92, 93, 94, 95, 96, 97, 98, 99, 100, 75, 76, 101, 102, 103, 104, 17, 105, 106, 107, 108, 18, 19, 109, 110, 111, 112, 20, 115, 116, 117, 118, 121, 122, 123, 124, 125, 7, 126, 127, 128, 129, 130, 131, 132, 133, 134, 135, 136, 137, 138, 139, 140, 141, 142, 143, 144, 145, 119, 120, 113, 114, 64, 65, 66, 63, 67, 68, 54, 55] (ι := Value × Nat) (fun k => [.int .i64 k.2]) (fun k => [.bk bo [.int .i64 ((prL x y).length : Int), k.1, fv], .ow [k.1] (allB a x y k.2)]) (fun k => k.2 ≤ a.length ∧ (allB a x y k.2).length ≤ 300) (fun k => a.length - k.2) (.slice none 0 0, 0) [.bk bo [.int .i64 ((prL x y).length : Int), .slice none 0 0, fv], .ow [.slice none 0 0] ([] : List STrans)] (by kernel_rfl) ⟨Nat.zero_le _, Nat.zero_le _⟩ rfl ?_
    intro ⟨rv, f⟩ u l' hl' ⟨hf, hfl⟩
    simp only [patch, List.map_cons, List.map_nil, List.set_cons_zero, List.set_cons_succ] at hl'
    subst hl'
    simp only [List.cons_append, List.nil_append] at hf hfl ⊢
    by_cases hfa : f < a.length
    · obtain ⟨hf0, hf3⟩ := sig_el ax.1 hfa
      have harN : a.getD f 0 = ((arN a f : Nat) : Int) := by unfold arN; omega
      have hpos : 0 < n ^ arN a f := Nat.pow_pos (by omega)
      have hnk : n ^ arN a f ≤ 4096 := by
        have h1 : arN a f ≤ 3 := by omega
        have h2 : n ^ arN a f ≤ 16 ^ arN a f := Nat.pow_le_pow_left (by omega) _
        have h3 : 16 ^ arN a f ≤ 16 ^ 3 := Nat.pow_le_pow_right (by decide) h1
        have h4 : 16 ^ 3 = 4096 := rfl
        omega
      have hr0 : rowB a x y f 0 = [] := rfl
      repeat' (first | refine red ?_ | refine redf fun hbi => ?_ | refine reds ?_ | refine redv fun sv => ?_ | (refine redi (fun hc => ?_) (fun hc => ?_) <;> try first | (exfalso; omega) | with_reducible first | exact absurd rfl hc | exact absurd hc Bool.false_ne_true | exact absurd hc Bool.false_ne_true.symm) | fail)
      rw [← hn]
      refine wc_loop_p [12, 13] [62, 69, 14, 70, 15, 16, 71, 72, 73, 74, 77, 78, 79, 80, 81, 82, 83, 84, 85, 86, 87, 88, 89, 90, 91, 92, 93, 94, 95, 96, 97, 98, 99, 100, 75, 76, 101, 102, 103, 104, 17, 105, 106, 107, 108, 18, 19, 109, 110, 111, 112, 20, 115, 116, 117, 118, 121, 122, 123, 124, 125, 7, 126, 127, 128, 129, 130, 131, 132, 133, 134, 135, 136, 137, 138, 139, 140, 141, 142, 143, 144, 145, 119, 120, 113, 114, 64, 65, 66, 63, 67, 68] (ι := Value × Value × Nat) (fun k => [k.2.1, .bool (decide (k.2.2 < n ^ arN a f))]) (fun k => [.bk bo [.int .i64 (n : Int), k.1, fv], .ow [k.1] (allB a x y f ++ rowB a x y f k.2.2), .ow [k.2.1] (if k.2.2 < n ^ arN a f then dig n (arN a f) k.2.2 else List.replicate (arN a f) (0 : Int))]) (fun k => k.2.2 ≤ n ^ arN a f ∧ (allB a x y f ++ rowB a x y f k.2.2).length ≤ 300) (fun k => n ^ arN a f - k.2.2) (rv, sv, 0) [.bk bo [.int .i64 (n : Int), rv, fv], .ow [rv] (allB a x y f), .ow [sv] (List.replicate (a.getD f 0).toNat (0 : Int))] (by simp only [decide_eq_true hpos]; kernel_rfl) ⟨Nat.zero_le _, by simp only [hr0, List.append_nil]; exact hfl⟩ (by simp only [if_pos hpos, dig_zero, hr0, List.append_nil]; rfl) ?_
      intro ⟨rv, lv, i⟩ u l' hl' ⟨hi, hil⟩
      simp only [patch, List.map_cons, List.map_nil, List.set_cons_zero, List.set_cons_succ] at hl'
      subst hl'
      simp only [List.cons_append, List.nil_append] at hi hil ⊢
      by_cases hlt : i < n ^ arN a f
      · simp only [if_pos hlt, decide_eq_true hlt]
        have hdl := dig_len n (arN a f) i
        have hdi := dig_in (show 0 < n by omega) (arN a f) i
        obtain ⟨l, hl⟩ : ∃ l, l = dig n (arN a f) i := ⟨_, rfl⟩
        rw [← hl] at hdl hdi ⊢
        repeat' (first | refine red ?_ | refine redv fun sv => ?_ | fail)
        rename_i lsv
        generalize sv = rsv
        refine wc_loop_p [14, 15, 16] [71, 72, 73, 74, 77, 78, 79, 80, 81, 82, 83, 84, 85, 86, 87, 88, 89, 90, 91, 92, 93, 94, 95, 96, 97, 98, 99, 100, 75, 76] (ι := Value × Value × Nat) (fun k => [k.1, k.2.1, .int .i64 k.2.2]) (fun k => [.ow [k.1] (lefts (prL x y) (l.take k.2.2)), .ow [k.2.1] (rights (prL x y) (l.take k.2.2))]) (fun k => k.2.2 ≤ l.length) (fun k => l.length - k.2.2) (lsv, rsv, 0) [.ow [lsv] ([] : List (List Int)), .ow [rsv] ([] : List (List Int))] (by kernel_rfl) (Nat.zero_le _) rfl ?_
        intro ⟨lf, rt, k⟩ u l' hl' hk
        simp only [patch, List.map_cons, List.map_nil, List.set_cons_zero, List.set_cons_succ] at hl'
        subst hl'
        simp only [List.cons_append, List.nil_append] at hk ⊢
        have hll : (lefts (prL x y) (l.take k)).length = k := by unfold lefts; rw [List.length_map, List.length_take]; omega
        have hrl : (rights (prL x y) (l.take k)).length = k := by unfold rights; rw [List.length_map, List.length_take]; omega
        by_cases hkl : k < l.length
        · have hq := hdi _ (getK hkl)
          have hls : lefts (prL x y) (l.take (k + 1)) = lefts (prL x y) (l.take k) ++ [[((prL x y).getD (l.getD k 0).toNat default).1]] := by
            unfold lefts; rw [List.take_succ_eq_append_getElem hkl, List.map_append, getD_lt hkl]; rfl
          have hrs : rights (prL x y) (l.take (k + 1)) = rights (prL x y) (l.take k) ++ [[((prL x y).getD (l.getD k 0).toNat default).2]] := by
            unfold rights; rw [List.take_succ_eq_append_getElem hkl, List.map_append, getD_lt hkl]; rfl
          repeat' (first | refine red ?_ | refine redf fun hbi => ?_ | refine reds ?_ | refine redv fun sv => ?_ | (refine redd fun p cs as_ hcs has hf => ?_; simp only [Un.cells, Un.atoms, Un.fact, List.cons_append, List.nil_append] at hcs has hf; subst hcs has) | (refine redi (fun hc => ?_) (fun hc => ?_) <;> try first | (exfalso; omega) | with_reducible first | exact absurd rfl hc | exact absurd hc Bool.false_ne_true | exact absurd hc Bool.false_ne_true.symm) | fail)
          rename_i sl s1 s2
          exact wq_next (sl, sv, k + 1) (by simp only; omega) (by simp only; omega) (by kernel_rfl) (by simp only [hls, hrs]; exact ent_e)
        rw [show l.take k = l from List.take_of_length_le (by omega)] at hll hrl ⊢
        have hix := img_both ax hfa (args := lefts (prL x y) l) (by omega)
        have hiy := img_both ay hfa (args := rights (prL x y) l) (by omega)
        repeat' (first | refine red ?_ | (refine redc fun r => ?_; try have hr := Subtype.property r) | (refine redi (fun hc => ?_) (fun hc => ?_) <;> try first | (exfalso; omega) | with_reducible first | exact absurd rfl hc | exact absurd hc Bool.false_ne_true | exact absurd hc Bool.false_ne_true.symm) | fail)
        rename_i rp
        obtain ⟨pvv, ps, hps⟩ := rp
        obtain ⟨qvv, qs, hqs⟩ := r
        simp only
        have hpe : imgL x.2.1 f (lefts (prL x y) l) = ps := (imgL_of hix.1 ⟨ps, hps⟩).symm
        have hqe : imgL y.2.1 f (rights (prL x y) l) = qs := (imgL_of hiy.1 ⟨qs, hqs⟩).symm
        have hplen : ps.length ≤ 16 := by rw [← hpe]; exact imgL_len _ _ _
        have hqlen : qs.length ≤ 16 := by rw [← hqe]; exact imgL_len _ _ _
        have hPr : ∀ p ∈ ps, ∀ q ∈ qs, PR x y p q := fun p hp q hq => by
          rw [← hpe] at hp
          rw [← hqe] at hq
          obtain ⟨r, hr, s, hs, hfit, r1, rfl, rfl, hm⟩ := img_pair ax ay (f := f) (l := l) hdl (by rw [← hn]; exact hdi) hp hq
          exact fits_to hr hs hfit
        have hpt : ∀ p q, p < ps.length → q ≤ qs.length → (allB a x y f ++ rowB a x y f i ++ cellP x y f l ps qs p q).length ≤ (allB a x y a.length).length := fun p q hp hq => by
          have := part_len (x := x) (y := y) (p := p) (q := q) hfa (i := i) (by rw [← hn]; exact hlt)
          rw [← hn, ← hl, hpe, hqe] at this
          exact this hp hq
        have hcz := cellP_zero x y f l ps qs
        refine wc_loop_p [19] [109, 110, 111, 112, 20, 115, 116, 117, 118, 121, 122, 123, 124, 125, 7, 126, 127, 128, 129, 130, 131, 132, 133, 134, 135, 136, 137, 138, 139, 140, 141, 142, 143, 144, 145, 119, 120, 113, 114] (ι := Value × Nat) (fun k => [.int .i64 k.2]) (fun k => [.bk bo [.int .i64 (n : Int), k.1, fv], .ow [k.1] (allB a x y f ++ rowB a x y f i ++ cellP x y f l ps qs k.2 0)]) (fun k => k.2 ≤ ps.length ∧ (allB a x y f ++ rowB a x y f i ++ cellP x y f l ps qs k.2 0).length ≤ 300) (fun k => ps.length - k.2) (rv, 0) [.bk bo [.int .i64 (n : Int), rv, fv], .ow [rv] (allB a x y f ++ rowB a x y f i)] (by kernel_rfl) ⟨Nat.zero_le _, by simp only [hcz, List.append_nil]; exact hil⟩ (by simp only [hcz, List.append_nil]) ?_
        intro ⟨rv, p1⟩ u l' hl' ⟨hp1, hpl1⟩
        simp only [patch, List.map_cons, List.map_nil, List.set_cons_zero, List.set_cons_succ] at hl'
        subst hl'
        simp only [List.cons_append, List.nil_append] at hp1 hpl1 ⊢
        by_cases hpk : p1 < ps.length
        · repeat' (first | refine red ?_ | (refine redi (fun hc => ?_) (fun hc => ?_) <;> try first | (exfalso; omega) | with_reducible first | exact absurd rfl hc | exact absurd hc Bool.false_ne_true | exact absurd hc Bool.false_ne_true.symm) | fail)
          refine wc_loop_p [20] [115, 116, 117, 118, 121, 122, 123, 124, 125, 7, 126, 127, 128, 129, 130, 131, 132, 133, 134, 135, 136, 137, 138, 139, 140, 141, 142, 143, 144, 145, 119, 120] (ι := Value × Nat) (fun k => [.int .i64 k.2]) (fun k => [.bk bo [.int .i64 (n : Int), k.1, fv], .ow [k.1] (allB a x y f ++ rowB a x y f i ++ cellP x y f l ps qs p1 k.2)]) (fun k => k.2 ≤ qs.length ∧ (allB a x y f ++ rowB a x y f i ++ cellP x y f l ps qs p1 k.2).length ≤ 300) (fun k => qs.length - k.2) (rv, 0) [.bk bo [.int .i64 (n : Int), rv, fv], .ow [rv] (allB a x y f ++ rowB a x y f i ++ cellP x y f l ps qs p1 0)] (by kernel_rfl) ⟨Nat.zero_le _, hpl1⟩ rfl ?_
          intro ⟨rv, q1⟩ u l' hl' ⟨hq1, hql1⟩
          simp only [patch, List.map_cons, List.map_nil, List.set_cons_zero, List.set_cons_succ] at hl'
          subst hl'
          simp only [List.cons_append, List.nil_append] at hq1 hql1 ⊢
          by_cases hqk : q1 < qs.length
          · have hcol := cellP_col (x := x) (y := y) (f := f) (l := l) (ps := ps) (i := p1) hqk
            have hnx := hpt p1 (q1 + 1) hpk (by omega)
            rw [hcol, ← List.append_assoc] at hnx
            have hP := hPr _ (getK hpk) _ (getK hqk)
            have hpn : placeP (prL x y) (ps.getD p1 0, qs.getD q1 0) = numP x y (ps.getD p1 0) (qs.getD q1 0) := by unfold placeP numP; rw [if_pos ((prL_mem ax ay).2 hP)]
            have hnb := numP_in ax ay hP
            generalize hLL : allB a x y f ++ rowB a x y f i ++ cellP x y f l ps qs p1 q1 = LL at hql1 hnx ⊢
            rw [List.length_append] at hnx
            repeat' (first | refine red ?_ | refine reds ?_ | (refine redi (fun hc => ?_) (fun hc => ?_) <;> try first | (exfalso; omega) | with_reducible first | exact absurd rfl hc | exact absurd hc Bool.false_ne_true | exact absurd hc Bool.false_ne_true.symm) | ((refine wa_begin 32 [false, false, false, false, false, false, false, false, false, false, false, false, false, false, false, false, false, false, false, false, false] [18, 20] ?_ <;> (first | refine wa_p 0 ?_ | fail) <;> (first | refine wa_p 1 ?_ | fail) <;> refine wa_p 2 ?_ <;> refine wa_p 3 ?_ <;> refine wa_p 5 ?_ <;> refine wa_p 6 ?_ <;> refine wa_p 7 ?_ <;> refine wa_p 8 ?_ <;> (first | refine wa_f 9 fun hbi => ?_ | fail) <;> refine wa_p 10 ?_ <;> refine wa_p 11 ?_ <;> refine wa_p 12 ?_ <;> (first | refine wa_f 13 fun hbi => ?_ | fail) <;> (refine wa_two 4 14 ?_ ?_; rotate_right; (focus ((repeat' (first | refine red ?_ | fail)) <;> (refine wa_do 4 ?_ <;> (repeat' (first | refine red ?_ | (refine redc fun r => ?_; try have hr := Subtype.property r) | fail))) <;> (refine wa_do 15 ?_ <;> (repeat' (first | refine red ?_ | (refine redc fun r => ?_; try have hr := Subtype.property r) | fail))) <;> (refine wa_do 16 ?_ <;> (repeat' (first | refine red ?_ | fail))) <;> (refine wa_do 17 ?_ <;> (repeat' (first | refine red ?_ | refine redv fun sv => ?_ | fail))) <;> (refine wa_do 18 ?_ <;> (repeat' (first | refine red ?_ | refine redv fun sv => ?_ | fail))) <;> (first | refine wa_p0 19 ?_ | fail) <;> (refine wa_do 20 ?_ <;> (repeat' (first | refine red ?_ | fail))))); rotate_right; (focus ((repeat' (first | refine red ?_ | (refine redc fun r => ?_; try have hr := Subtype.property r) | fail)) <;> (refine wa_do 14 ?_ <;> (repeat' (first | refine red ?_ | fail))) <;> (refine wa_do 15 ?_ <;> (repeat' (first | refine red ?_ | (refine redc fun r => ?_; try have hr := Subtype.property r) | fail))) <;> (refine wa_do 16 ?_ <;> (repeat' (first | refine red ?_ | fail))) <;> (refine wa_do 17 ?_ <;> (repeat' (first | refine red ?_ | refine redv fun sv => ?_ | fail))) <;> (refine wa_do 18 ?_ <;> (repeat' (first | refine red ?_ | refine redv fun sv => ?_ | fail))) <;> (first | refine wa_p0 19 ?_ | fail) <;> (refine wa_do 20 ?_ <;> (repeat' (first | refine red ?_ | fail))))))) <;> (refine wa_end ?_)) | fail)
            · refine ⟨(.slice none 0 0, .slice none 0 0, ((0 : Int), ([] : List STrans), ([] : List Int))), ?_, ent_e⟩
              rw [decC_f fun h => ?_]
              have h4 := h.2.2.2
              rw [hbl] at h4
              have h5 : [mkS x y f l (ps.getD p1 0) (qs.getD q1 0)].length = 1 := rfl
              omega
            all_goals
              rw [hpn]
              have h6 : LL ++ [((f : Int), l, numP x y (ps.getD p1 0) (qs.getD q1 0))] = allB a x y f ++ rowB a x y f i ++ cellP x y f l ps qs p1 (q1 + 1) := by rw [hcol, ← List.append_assoc, hLL]; rfl
              rw [h6]
              refine wq_next (sv, q1 + 1) ⟨by simp only; omega, ?_⟩ (by simp only; omega) (by kernel_rfl) ent_e
              simp only
              rw [← h6, List.length_append]
              show LL.length + 1 ≤ 300
              omega
          · have hqe2 : q1 = qs.length := by omega
            have hrow := cellP_row (x := x) (y := y) (f := f) (l := l) (ps := ps) (qs := qs) hpk
            rw [hqe2, hrow] at hql1
            repeat' (first | refine red ?_ | refine reds ?_ | (refine redi (fun hc => ?_) (fun hc => ?_) <;> try first | (exfalso; omega) | with_reducible first | exact absurd rfl hc | exact absurd hc Bool.false_ne_true | exact absurd hc Bool.false_ne_true.symm) | fail)
            refine wq_next (rv, p1 + 1) ⟨by simp only; omega, hql1⟩ (by simp only; omega) (by kernel_rfl) ?_
            simp only [← hrow, ← hqe2]
            exact ent_e
        · have hpe2 : p1 = ps.length := by omega
          have hall := cellP_all x y f l
          rw [hpe, hqe, ← hpe2, hl, hn] at hall
          have hsr := rowB_succ a x y f i
          rw [← hall, ← hn, ← hl] at hsr
          rw [List.append_assoc, ← hsr] at hpl1 ⊢
          have hnx : NxL n (arN a f) i := ⟨by omega, .inl (by omega), by omega, hlt⟩
          subst hl
          repeat' (first | refine red ?_ | (refine redc fun r => ?_; try have hr := Subtype.property r) | (refine redi (fun hc => ?_) (fun hc => ?_) <;> try first | (exfalso; omega) | with_reducible first | exact absurd rfl hc | exact absurd hc Bool.false_ne_true | exact absurd hc Bool.false_ne_true.symm) | fail)
          exact wq_next (rv, r, i + 1) ⟨by simp only; omega, hpl1⟩ (by simp only; omega) (by kernel_rfl) ent_e
      · simp only [if_neg hlt, decide_eq_false hlt]
        obtain rfl : i = n ^ arN a f := by omega
        repeat' (first | refine red ?_ | refine reds ?_ | fail)
        have hab := allB_succ a x y f
        rw [← hn] at hab
        rw [← hab] at hil
        refine wq_next (rv, f + 1) ⟨by simp only; omega, hil⟩ (by simp only; omega) (by kernel_rfl) ?_
        simp only [← hn, hab]
        exact ent_e
    · repeat' (first | refine red ?_ | (refine redi (fun hc => ?_) (fun hc => ?_) <;> try first | (exfalso; omega) | with_reducible first | exact absurd rfl hc | exact absurd hc Bool.false_ne_true | exact absurd hc Bool.false_ne_true.symm) | fail)
      have hfe : a.length = f := by omega
      refine ⟨(rv, fv, (((prL x y).length : Int), allB a x y f, finB (prL x y) x.2.2 y.2.2 (prL x y).length)), ?_, ent_e⟩
      rw [decC_t ⟨ax, ay, hn16, by rw [hbl, hfe]; exact hfl⟩]
  · have hno : ¬ BothOk a x y := fun h => hau ⟨h.1, h.2.1⟩
    refine cj_enter Tryz.func20 Tryz.ntmps20 ?_
    repeat' (first | refine red ?_ | (refine redc fun r => ?_; try have hr := Subtype.property r) | refine redn fun b => ?_ | (refine redi (fun hc => ?_) (fun hc => ?_) <;> try first | (exfalso; omega) | with_reducible first | exact absurd rfl hc | exact absurd hc Bool.false_ne_true | exact absurd hc Bool.false_ne_true.symm) | fail)
    all_goals first
      | (refine ⟨(.slice none 0 0, .slice none 0 0, ((0 : Int), ([] : List STrans), ([] : List Int))), ?_, ent_e⟩; rw [decC_f hno])
      | (exfalso; exact hau ⟨by assumption, by assumption⟩)
      | fail
instance SBothAuto_ctr {Γ : List Atom} {v va va1 vb vb1 : Value} {a : List Int} {x y : SAuto} [h : HasRd (List Int) repList Γ [v] a] [h0 : HasRd (List STrans) repList Γ [va] x.2.1] [h1 : HasRd (List Int) repList Γ [va1] x.2.2] [h2 : HasRd (List STrans) repList Γ [vb] y.2.1] [h3 : HasRd (List Int) repList Γ [vb1] y.2.2] :
    CtrC Tryz.prog 20 [.agg #[v], .agg #[.int .i64 x.1, va, va1], .agg #[.int .i64 y.1, vb, vb1]] Γ (True) (Value × Value × SAuto) (fun q : Value × Value × SAuto => .tuple #[.agg #[.int .i64 q.2.2.1, q.1, q.2.1], .bool (decC (BothOk a x y))]) (fun q => .ow [q.1] q.2.2.2.1 :: .ow [q.2.1] q.2.2.2.2 :: Γ) := ⟨fun s w0 => SBothAuto_spec⟩

end Go.Proofs.YtbbdjjlnachnlaaGreat
