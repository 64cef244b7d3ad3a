/- The union of automata: both sides. -/
import Derived.Test.YtbbdjjlnachnlaaGreatAutL
import Derived.Test.YtbbdjjlnachnlaaGreatAuto2
import Derived.Test.YtbbdjjlnachnlaaGreatSurI
import Derived.Test.YtbbdjjlnachnlaaGreatBothI
namespace Go.Proofs.YtbbdjjlnachnlaaGreat
open Go Go.Eng
set_option linter.unusedVariables false
set_option linter.unusedSimpArgs false
set_option synthInstance.maxHeartbeats 400000
set_option synthInstance.maxSize 1000
set_option maxHeartbeats 2000000
set_option maxRecDepth 20000


structure EitOk (a : List Int) (x y : SAuto) : Prop where
  ax : AutoP a x
  ay : AutoP a y
  st : x.1 + y.1 ≤ 16
  rl : x.2.1.length + y.2.1.length ≤ 300
noncomputable def eitV (a : List Int) (x y : SAuto) : SAuto := if decC (EitOk a x y) = true then eitD x y else (0, [], [])
theorem eitV_yes {a : List Int} {x y : SAuto} (h : EitOk a x y) : eitV a x y = eitD x y := by unfold eitV; rw [if_pos (decC_t h)]
theorem eitV_no {a : List Int} {x y : SAuto} (h : ¬ EitOk a x y) : eitV a x y = (0, [], []) := by unfold eitV; rw [if_neg fun h2 => h (decC_iff.1 h2)]
theorem mapS_take {n : Int} {xs : List Int} {k : Nat} (h : k < xs.length) : (xs.take (k + 1)).map (fun q => q + n) = (xs.take k).map (fun q => q + n) ++ [xs.getD k 0 + n] := by
  rw [List.take_succ_eq_append_getElem h, List.map_append, List.getD_eq_getElem?_getD, List.getElem?_eq_getElem h]; rfl
theorem mapT_take {n : Int} {xs : List STrans} {k : Nat} (h : k < xs.length) : (xs.take (k + 1)).map (shT n) = (xs.take k).map (shT n) ++ [shT n (xs.getD k default)] := by
  rw [List.take_succ_eq_append_getElem h, List.map_append, List.getD_eq_getElem?_getD, List.getElem?_eq_getElem h]; rfl
theorem takeT {xs : List STrans} {k : Nat} (h : k < xs.length) : xs.take (k + 1) = xs.take k ++ [xs.getD k default] := by
  rw [List.take_succ_eq_append_getElem h, List.getD_eq_getElem?_getD, List.getElem?_eq_getElem h]; rfl
theorem arg3 {a : List Int} {x : SAuto} (ax : AutoP a x) {r : STrans} (hr : r ∈ x.2.1) : r.2.1.length ≤ 3 := by
  have h3 := (auto_tr ax hr).2.1
  have h4 := (auto_tr ax hr).1
  have h5 := (arN_eq ax.1 (f := r.1.toNat) (by omega))
  omega
theorem EitherAuto_spec {w0 : World} {Γ : List Atom} {v va va1 vb vb1 : Value} {a : List Int} {x y : SAuto} [h : HasRd (List Int) repList Γ [v] a] [h0 : HasRd (List STrans) repList Γ [va] x.2.1] [h1 : HasRd (List Int) repList Γ [va1] x.2.2] [h2 : HasRd (List STrans) repList Γ [vb] y.2.1] [h3 : HasRd (List Int) repList Γ [vb1] y.2.2] :
    CJ Tryz.prog 17 [.agg #[v], .agg #[.int .i64 x.1, va, va1], .agg #[.int .i64 y.1, vb, vb1]] w0 Γ (fun q : Value × Value => .tuple #[.agg #[.int .i64 (eitV a x y).1, q.1, q.2], .bool (decC (EitOk a x y))]) (fun q => .ow [q.1] (eitV a x y).2.1 :: .ow [q.2] (eitV a x y).2.2 :: Γ) := by
  refine cj_lift (R := [.rd [v] a, .rd [va] x.2.1, .rd [va1] x.2.2, .rd [vb] y.2.1, .rd [vb1] y.2.2]) (A := fun q : Value × Value => [.ow [q.1] (eitV a x y).2.1, .ow [q.2] (eitV a x y).2.2]) (fun w1 => ?_) (reads_cons h (reads_cons h0 (reads_cons h1 (reads_cons h2 (reads_cons h3 (inferInstance)))))) (fun _ => inferInstance)
  simp only [List.cons_append, List.nil_append]
  by_cases hok : EitOk a x y
  · obtain ⟨ax, ay, hst, hrl⟩ := hok
    rw [eitV_yes ⟨ax, ay, hst, hrl⟩, decC_t (show EitOk a x y from ⟨ax, ay, hst, hrl⟩)]
    have hx16 := ax.2.1
    have hy16 := ay.2.1
    have hxf := setP_len ax.2.2.2.1 (by omega)
    have hyf := setP_len ay.2.2.2.1 (by omega)
    refine cj_enter Tryz.func17 Tryz.ntmps17 ?_
    repeat' (first | refine red ?_ | refine reds ?_ | (refine redc fun r => ?_; try have hr := Subtype.property r) | refine redn fun b => ?_ | (refine redi (fun hc => ?_) (fun hc => ?_) <;> try first | (exfalso; omega) | with_reducible first | exact absurd rfl hc | exact absurd hc Bool.false_ne_true | exact absurd hc Bool.false_ne_true.symm) | ((refine wa_begin 3 [false, false, false, false, false, false, false, false, false, false, false] [] ?_ <;> (first | refine wa_p 0 ?_ | fail) <;> (first | refine wa_p 1 ?_ | fail) <;> (first | refine wa_p 2 ?_ | fail) <;> (first | refine wa_p 3 ?_ | fail) <;> (first | refine wa_p 4 ?_ | fail) <;> (first | refine wa_p 5 ?_ | fail) <;> (first | refine wa_p 6 ?_ | fail) <;> (refine wa_two 7 9 ?_ ?_; rotate_right; (focus ((repeat' (first | refine red ?_ | refine redn fun b => ?_ | fail)) <;> (refine wa_do 7 ?_ <;> (repeat' (first | refine red ?_ | (refine redc fun r => ?_; try have hr := Subtype.property r) | fail))) <;> (refine wa_do 8 ?_ <;> (repeat' (first | refine red ?_ | fail))) <;> (refine wa_do 10 ?_ <;> (repeat' (first | refine red ?_ | fail))))); rotate_right; (focus ((repeat' (first | refine red ?_ | (refine redc fun r => ?_; try have hr := Subtype.property r) | fail)) <;> (refine wa_two 8 9 ?_ ?_; rotate_right; (focus ((repeat' (first | refine red ?_ | refine redn fun b => ?_ | fail)) <;> (refine wa_do 8 ?_ <;> (repeat' (first | refine red ?_ | fail))) <;> (refine wa_do 10 ?_ <;> (repeat' (first | refine red ?_ | fail))))); rotate_right; (focus ((repeat' (first | refine red ?_ | fail)) <;> (refine wa_do 9 ?_ <;> (repeat' (first | refine red ?_ | refine redn fun b => ?_ | fail))) <;> (refine wa_do 10 ?_ <;> (repeat' (first | refine red ?_ | fail)))))))))) <;> (refine wa_end ?_)) | fail)
    · exact absurd ax hc
    · exact absurd ay hc
    all_goals
     have hxl := ax.2.2.1
     have hyl := ay.2.2.1
     rename Nat => bo0
     generalize bo0 = bo
     refine wc_loop_p [59] [60, 61, 62, 10, 63, 64, 65, 66, 67, 68, 69, 70, 71, 72, 73, 74, 75, 76] (ι := Value × Nat) (fun k => [.int .i64 k.2]) (fun k => [.bk bo [.int .i64 (x.1 + y.1), k.1, r], .ow [k.1] (x.2.1.take k.2)]) (fun k => k.2 ≤ x.2.1.length) (fun k => x.2.1.length - k.2) (.slice none 0 0, 0) [.bk bo [.int .i64 (x.1 + y.1), .slice none 0 0, r], .ow [.slice none 0 0] ([] : List STrans)] (by kernel_rfl) (Nat.zero_le _) rfl ?_
     intro ⟨rv, k⟩ u l' hl' hk
     simp only [patch, List.map_cons, List.map_nil, List.set_cons_zero, List.set_cons_succ] at hl'
     subst hl'
     simp only [List.cons_append, List.nil_append] at hk ⊢
     have htk : (x.2.1.take k).length ≤ 300 := by rw [List.length_take]; omega
     have htk2 := htk
     rw [List.length_take] at htk2
     by_cases hkl : k < x.2.1.length
     · have hrm := getT hkl
       have hr16 := auto16 ax hrm
       have hra := arg3 ax hrm
       have hcat : x.2.1.take k ++ [((x.2.1.getD k default).1, (x.2.1.getD k default).2.1, (x.2.1.getD k default).2.2)] = x.2.1.take (k + 1) := (takeT hkl).symm
       repeat' (first | refine red ?_ | refine reds ?_ | refine redn fun b => ?_ | (refine redd fun p cs as_ hcs has hf => ?_; simp only [Un.cells, Un.atoms, Un.fact, List.cons_append, List.nil_append] at hcs has hf; subst hcs has) | (refine redi (fun hc => ?_) (fun hc => ?_) <;> try first | (exfalso; omega) | with_reducible first | exact absurd rfl hc | exact absurd hc Bool.false_ne_true | exact absurd hc Bool.false_ne_true.symm) | ((refine wa_begin 7 [false, false, false, false, false, false, false, false, false, false, false, false, false, false] [11, 13] ?_ <;> (first | refine wa_p 0 ?_ | fail) <;> (first | refine wa_p 1 ?_ | fail) <;> (first | refine wa_p 2 ?_ | fail) <;> (first | refine wa_p 3 ?_ | fail) <;> (first | refine wa_p 4 ?_ | fail) <;> (first | refine wa_p 5 ?_ | fail) <;> (first | refine wa_p 7 ?_ | fail) <;> (first | refine wa_p 8 ?_ | fail) <;> (refine wa_do 6 ?_ <;> (repeat' (first | refine red ?_ | (refine redc fun r => ?_; try have hr := Subtype.property r) | fail))) <;> (refine wa_do 9 ?_ <;> (repeat' (first | refine red ?_ | fail))) <;> (refine wa_do 10 ?_ <;> (repeat' (first | refine red ?_ | refine redv fun sv => ?_ | fail))) <;> (refine wa_do 11 ?_ <;> (repeat' (first | refine red ?_ | refine redv fun sv => ?_ | fail))) <;> (first | refine wa_p0 12 ?_ | fail) <;> (refine wa_do 13 ?_ <;> (repeat' (first | refine red ?_ | fail)))) <;> (refine wa_end ?_)) | fail)
       refine wq_next (sv, k + 1) (by first | (simp only; omega) | omega) (by first | (simp only; omega) | omega) (by kernel_rfl) ?_
       simp only [hcat]
       exact ent_e
     have hte : x.2.1.take k = x.2.1 := List.take_of_length_le (by omega)
     rw [hte] at htk ⊢
     repeat' (first | refine red ?_ | (refine redi (fun hc => ?_) (fun hc => ?_) <;> try first | (exfalso; omega) | with_reducible first | exact absurd rfl hc | exact absurd hc Bool.false_ne_true | exact absurd hc Bool.false_ne_true.symm) | fail)
     refine wc_loop_p [80] [81, 82, 83, 12, 84, 85, 86, 87, 88, 89, 90, 91, 13, 92, 93, 94, 95, 96, 97, 98, 15, 99, 100, 101, 102, 103, 104, 105, 106, 107, 108, 109, 110, 111, 112, 113, 114, 115] (ι := Value × Nat) (fun k => [.int .i64 k.2]) (fun k => [.bk bo [.int .i64 (x.1 + y.1), k.1, r], .ow [k.1] (x.2.1 ++ (y.2.1.take k.2).map (shT x.1))]) (fun k => k.2 ≤ y.2.1.length) (fun k => y.2.1.length - k.2) (rv, 0) [.bk bo [.int .i64 (x.1 + y.1), rv, r], .ow [rv] x.2.1] (by kernel_rfl) (Nat.zero_le _) (by simp only [List.take_zero, List.map_nil, List.append_nil]) ?_
     intro ⟨rv, m⟩ u l' hl' hm
     simp only [patch, List.map_cons, List.map_nil, List.set_cons_zero, List.set_cons_succ] at hl'
     subst hl'
     simp only [List.cons_append, List.nil_append] at hm ⊢
     have hml1 : (x.2.1 ++ (y.2.1.take m).map (shT x.1)).length ≤ 600 := by rw [List.length_append, List.length_map, List.length_take]; omega
     have hml3 := hml1
     simp only [List.length_append] at hml3
     have hml2 := hml1
     simp only [List.length_append, List.length_map, List.length_take] at hml2
     by_cases hml : m < y.2.1.length
     · have hsm := getT hml
       have hs16 := auto16 ay hsm
       have hsa := arg3 ay hsm
       have hsa3 : ((y.2.1.getD m default).2.1.map (fun q => q + x.1)).length ≤ 3 := by rw [List.length_map]; omega
       have hcat : x.2.1 ++ (y.2.1.take m).map (shT x.1) ++ [((y.2.1.getD m default).1, (y.2.1.getD m default).2.1.map (fun q => q + x.1), (y.2.1.getD m default).2.2 + x.1)] = x.2.1 ++ (y.2.1.take (m + 1)).map (shT x.1) := by rw [mapT_take hml, List.append_assoc]; rfl
       repeat' (first | refine red ?_ | refine reds ?_ | refine redn fun b => ?_ | (refine redd fun p cs as_ hcs has hf => ?_; simp only [Un.cells, Un.atoms, Un.fact, List.cons_append, List.nil_append] at hcs has hf; subst hcs has) | (refine redi (fun hc => ?_) (fun hc => ?_) <;> try first | (exfalso; omega) | with_reducible first | exact absurd rfl hc | exact absurd hc Bool.false_ne_true | exact absurd hc Bool.false_ne_true.symm) | fail)
       rename Nat => bt0
       generalize bt0 = bt
       refine wc_loop_p [95] [96, 97, 98, 15, 99, 100, 101, 102, 103, 104, 105, 106, 107, 108] (ι := Value × Nat) (fun i => [.int .i64 i.2]) (fun i => [.bk bt [.int .i64 (y.2.1.getD m default).1, i.1, .int .i64 ((y.2.1.getD m default).2.2 + x.1)], .ow [i.1] (((y.2.1.getD m default).2.1.take i.2).map (fun q => q + x.1))]) (fun i => i.2 ≤ (y.2.1.getD m default).2.1.length) (fun i => (y.2.1.getD m default).2.1.length - i.2) (.slice none 0 0, 0) [.bk bt [.int .i64 (y.2.1.getD m default).1, .slice none 0 0, .int .i64 ((y.2.1.getD m default).2.2 + x.1)], .ow [.slice none 0 0] ([] : List Int)] (by kernel_rfl) (Nat.zero_le _) rfl ?_
       intro ⟨av, i⟩ u l' hl' hi
       simp only [patch, List.map_cons, List.map_nil, List.set_cons_zero, List.set_cons_succ] at hl'
       subst hl'
       simp only [List.cons_append, List.nil_append] at hi ⊢
       have hil1 : (((y.2.1.getD m default).2.1.take i).map (fun q => q + x.1)).length ≤ 3 := by rw [List.length_map, List.length_take]; omega
       have hil2 := hil1
       simp only [List.length_map, List.length_take] at hil2
       by_cases hil : i < (y.2.1.getD m default).2.1.length
       · have hsi := hs16.1 _ (getK hil)
         have hmt := mapS_take (n := x.1) hil
         repeat' (first | refine red ?_ | refine redf fun hbi => ?_ | refine reds ?_ | refine redv fun sv => ?_ | (refine redi (fun hc => ?_) (fun hc => ?_) <;> try first | (exfalso; omega) | with_reducible first | exact absurd rfl hc | exact absurd hc Bool.false_ne_true | exact absurd hc Bool.false_ne_true.symm) | fail)
         rw [← hmt]
         exact wq_next (sv, i + 1) (by first | (simp only; omega) | omega) (by first | (simp only; omega) | omega) (by kernel_rfl) ent_e
       · have hie : (y.2.1.getD m default).2.1.take i = (y.2.1.getD m default).2.1 := List.take_of_length_le (by omega)
         rw [hie]
         repeat' (first | refine red ?_ | refine reds ?_ | refine redv fun sv => ?_ | (refine redi (fun hc => ?_) (fun hc => ?_) <;> try first | (exfalso; omega) | with_reducible first | exact absurd rfl hc | exact absurd hc Bool.false_ne_true | exact absurd hc Bool.false_ne_true.symm) | fail)
         refine wq_next (sv, m + 1) (by first | (simp only; omega) | omega) (by first | (simp only; omega) | omega) (by kernel_rfl) ?_
         simp only [hcat]
         exact ent_e
     have hme : y.2.1.take m = y.2.1 := List.take_of_length_le (by omega)
     rw [hme] at hml1 ⊢
     repeat' (first | refine red ?_ | (refine redi (fun hc => ?_) (fun hc => ?_) <;> try first | (exfalso; omega) | with_reducible first | exact absurd rfl hc | exact absurd hc Bool.false_ne_true | exact absurd hc Bool.false_ne_true.symm) | fail)
     refine wc_loop_p [119] [120, 121, 122, 17, 123, 124, 125, 126, 127, 128, 129, 130, 131, 132] (ι := Value × Nat) (fun k => [.int .i64 k.2]) (fun k => [.bk bo [.int .i64 (x.1 + y.1), rv, k.1], .ow [k.1] (x.2.2 ++ (y.2.2.take k.2).map (fun q => q + x.1))]) (fun k => k.2 ≤ y.2.2.length) (fun k => y.2.2.length - k.2) (r, 0) [.bk bo [.int .i64 (x.1 + y.1), rv, r], .ow [r] x.2.2] (by kernel_rfl) (Nat.zero_le _) (by simp only [List.take_zero, List.map_nil, List.append_nil]) ?_
     intro ⟨fv, j⟩ u l' hl' hj
     simp only [patch, List.map_cons, List.map_nil, List.set_cons_zero, List.set_cons_succ] at hl'
     subst hl'
     simp only [List.cons_append, List.nil_append] at hj ⊢
     have hjl1 : (x.2.2 ++ (y.2.2.take j).map (fun q => q + x.1)).length ≤ 32 := by rw [List.length_append, List.length_map, List.length_take]; omega
     have hjl3 := hjl1
     simp only [List.length_append] at hjl3
     have hjl2 := hjl1
     simp only [List.length_append, List.length_map, List.length_take] at hjl2
     by_cases hjl : j < y.2.2.length
     · have hfj := set_mem ay.2.2.2.1 _ (getK hjl)
       have hcat : x.2.2 ++ (y.2.2.take j).map (fun q => q + x.1) ++ [y.2.2.getD j 0 + x.1] = x.2.2 ++ (y.2.2.take (j + 1)).map (fun q => q + x.1) := by rw [mapS_take hjl, List.append_assoc]
       repeat' (first | refine red ?_ | refine redf fun hbi => ?_ | refine reds ?_ | refine redv fun sv => ?_ | (refine redi (fun hc => ?_) (fun hc => ?_) <;> try first | (exfalso; omega) | with_reducible first | exact absurd rfl hc | exact absurd hc Bool.false_ne_true | exact absurd hc Bool.false_ne_true.symm) | fail)
       refine wq_next (sv, j + 1) (by first | (simp only; omega) | omega) (by first | (simp only; omega) | omega) (by kernel_rfl) ?_
       simp only [hcat]
       exact ent_e
     have hje : y.2.2.take j = y.2.2 := List.take_of_length_le (by omega)
     rw [hje]
     repeat' (first | refine red ?_ | (refine redi (fun hc => ?_) (fun hc => ?_) <;> try first | (exfalso; omega) | with_reducible first | exact absurd rfl hc | exact absurd hc Bool.false_ne_true | exact absurd hc Bool.false_ne_true.symm) | fail)
     simp only [eitD]
     exact ⟨(rv, fv), rfl, ent_e⟩
  · rw [eitV_no hok, decC_f hok]
    by_cases hau : AutoP a x ∧ AutoP a y
    · obtain ⟨ax, ay⟩ := hau
      have hx16 := ax.2.1
      have hy16 := ay.2.1
      have hxl := ax.2.2.1
      have hyl := ay.2.2.1
      refine cj_enter Tryz.func17 Tryz.ntmps17 ?_
      repeat' (first | refine red ?_ | refine reds ?_ | (refine redc fun r => ?_; try have hr := Subtype.property r) | refine redn fun b => ?_ | (refine redi (fun hc => ?_) (fun hc => ?_) <;> try first | (exfalso; omega) | with_reducible first | exact absurd rfl hc | exact absurd hc Bool.false_ne_true | exact absurd hc Bool.false_ne_true.symm) | fail)
      all_goals first
        | exact ⟨(.slice none 0 0, .slice none 0 0), rfl, ent_e⟩
        | (exfalso; exact hok ⟨ax, ay, by omega, by omega⟩)
        | fail
    · refine cj_enter Tryz.func17 Tryz.ntmps17 ?_
      repeat' (first | refine red ?_ | (refine redc fun r => ?_; try have hr := Subtype.property r) | refine redn fun b => ?_ | (refine redi (fun hc => ?_) (fun hc => ?_) <;> try first | (exfalso; omega) | with_reducible first | exact absurd rfl hc | exact absurd hc Bool.false_ne_true | exact absurd hc Bool.false_ne_true.symm) | fail)
      all_goals first
        | exact ⟨(.slice none 0 0, .slice none 0 0), rfl, ent_e⟩
        | (exfalso; exact hau ⟨by assumption, by assumption⟩)
        | fail
instance EitherAuto_ctr {Γ : List Atom} {v va va1 vb vb1 : Value} {a : List Int} {x y : SAuto} [h : HasRd (List Int) repList Γ [v] a] [h0 : HasRd (List STrans) repList Γ [va] x.2.1] [h1 : HasRd (List Int) repList Γ [va1] x.2.2] [h2 : HasRd (List STrans) repList Γ [vb] y.2.1] [h3 : HasRd (List Int) repList Γ [vb1] y.2.2] :
    CtrC Tryz.prog 17 [.agg #[v], .agg #[.int .i64 x.1, va, va1], .agg #[.int .i64 y.1, vb, vb1]] Γ (True) (Value × Value) (fun q : Value × Value => .tuple #[.agg #[.int .i64 (eitV a x y).1, q.1, q.2], .bool (decC (EitOk a x y))]) (fun q => .ow [q.1] (eitV a x y).2.1 :: .ow [q.2] (eitV a x y).2.2 :: Γ) := ⟨fun s w0 => EitherAuto_spec⟩

end Go.Proofs.YtbbdjjlnachnlaaGreat
