/- Numbers are read back: the program. -/
import Derived.Test.YtjblieilblcdnaaPairs
namespace Go.Proofs.Ytjblieilblcdnaa
open Go Go.Eng
set_option linter.unusedVariables false
set_option linter.unusedSimpArgs false
theorem rd_one_spec {w0 : World} {Γ Δ : List Atom} {b : Nat} {v : Value} {n : Int} {xs : List Int} [hb : PullBk Γ b [v, .bool true] Δ] [h : HasIm (List Int) repList Δ [v] (n :: xs)] :
    CJ Try.prog 23 [.pointer (some ⟨b, 0, none⟩)] w0 Γ (fun _ : Value => .int .i64 n) (fun p => .rd [p] xs :: .bk b [p, .bool true] :: Δ) := by
  refine cj_perm hb.perm ?_
  refine cj_len v fun hlx => ?_
  have hl1 : (n :: xs).length = xs.length + 1 := rfl
  refine cj_enter Try.func23 Try.ntmps23 ?_
  repeat' (first | refine red ?_ | refine redf fun hbi => ?_ | refine reds ?_ | refine redv fun sv => ?_ | (refine redi (fun hc => ?_) (fun hc => ?_) <;> try first | (exfalso; omega) | exact absurd rfl hc) | fail)
  simp only [List.drop_succ_cons, List.drop_zero, List.getD_cons_zero]
  exact ⟨sv, trivial, ent_e⟩
instance rd_one_ctr {Γ Δ : List Atom} {b : Nat} {v : Value} {n : Int} {xs : List Int} [hb : PullBk Γ b [v, .bool true] Δ] [h : HasIm (List Int) repList Δ [v] (n :: xs)] :
    CtrC Try.prog 23 [.pointer (some ⟨b, 0, none⟩)] Γ (True) (Value) (fun _ : Value => .int .i64 n) (fun p => .rd [p] xs :: .bk b [p, .bool true] :: Δ) := ⟨fun s w0 => rd_one_spec⟩

theorem rd_list_spec {w0 : World} {Γ Δ : List Atom} {b : Nat} {v : Value} {xs ys : List Int} [hb : PullBk Γ b [v, .bool true] Δ] [h : HasIm (List Int) repList Δ [v] (cnted xs ++ ys)] (hx : xs.length ≤ 4096) :
    CJ Try.prog 15 [.pointer (some ⟨b, 0, none⟩)] w0 Γ (fun p : Value × Value => p.2) (fun p => .rd [p.1] ys :: .ow [p.2] xs :: .bk b [p.1, .bool true] :: Δ) := by
  refine cj_perm hb.perm ?_
  refine cj_len v fun hlx => ?_
  have hl1 : (cnted xs ++ ys).length = 1 + xs.length + ys.length := by rw [List.length_append, cnted_len]
  have hl2 : (xs ++ ys).length = xs.length + ys.length := List.length_append
  have hl3 : ((xs ++ ys).take xs.length) = xs := by rw [List.take_append_of_le_length (Nat.le_refl _), List.take_length]
  have hl5 : ((xs ++ ys).take xs.length).length = xs.length := by rw [hl3]
  have hl4 : ((xs ++ ys).drop xs.length) = ys := by rw [List.drop_append_of_le_length (Nat.le_refl _), List.drop_length, List.nil_append]
  haveI : HasIm (List Int) repList Δ [v] ((xs.length : Int) :: (xs ++ ys)) := h
  refine cj_enter Try.func15 Try.ntmps15 ?_
  repeat' (first | refine red ?_ | refine redc fun r => ?_ | refine redv fun sv => ?_ | (refine redi (fun hc => ?_) (fun hc => ?_) <;> try first | (exfalso; omega) | exact absurd rfl hc) | fail)
  simp only [Int.toNat_natCast, hl3, hl4]
  exact ⟨(sv, r), rfl, ent_e⟩
instance rd_list_ctr {Γ Δ : List Atom} {b : Nat} {v : Value} {xs ys : List Int} [hb : PullBk Γ b [v, .bool true] Δ] [h : HasIm (List Int) repList Δ [v] (cnted xs ++ ys)] :
    CtrC Try.prog 15 [.pointer (some ⟨b, 0, none⟩)] Γ (xs.length ≤ 4096) (Value × Value) (fun p : Value × Value => p.2) (fun p => .rd [p.1] ys :: .ow [p.2] xs :: .bk b [p.1, .bool true] :: Δ) := ⟨fun s w0 => rd_list_spec s⟩

theorem encPolys_drop {ps : List SPoly} {k : Nat} (h : k < ps.length) : encPolys (ps.drop k) = (ps.getD k default).1 :: (cnted (ps.getD k default).2 ++ encPolys (ps.drop (k + 1))) := by
  unfold encPolys
  rw [List.drop_eq_getElem_cons h, List.map_cons, List.flatten_cons, List.getD_eq_getElem?_getD, List.getElem?_eq_getElem h]
  simp [encPoly]
theorem encAll_drop {xs : List SPairStep} {k : Nat} (h : k < xs.length) : encAll (xs.drop k) = cnted (xs.getD k default).1 ++ (cnted (xs.getD k default).2.1 ++ (((xs.getD k default).2.2.1.length : Int) :: (encPolys (xs.getD k default).2.2.1 ++ (cnted (xs.getD k default).2.2.2 ++ encAll (xs.drop (k + 1)))))) := by
  unfold encAll
  rw [List.drop_eq_getElem_cons h, List.map_cons, List.flatten_cons, List.getD_eq_getElem?_getD, List.getElem?_eq_getElem h]
  simp [encStep]
theorem getP {α : Type} [Inhabited α] {xs : List α} {k : Nat} (h : k < xs.length) : xs.getD k default ∈ xs := by
  rw [List.getD_eq_getElem?_getD, List.getElem?_eq_getElem h]; exact List.getElem_mem h
theorem take_snoc {α : Type} [Inhabited α] {xs : List α} {k : Nat} (h : k < xs.length) : xs.take k ++ [xs.getD k default] = xs.take (k + 1) := by
  rw [List.take_succ_eq_append_getElem h, List.getD_eq_getElem?_getD, List.getElem?_eq_getElem h]
  rfl
theorem rd_polys_spec {w0 : World} {Γ Δ : List Atom} {b : Nat} {v : Value} {ps : List SPoly} {ys : List Int} [hb : PullBk Γ b [v, .bool true] Δ] [h : HasIm (List Int) repList Δ [v] ((ps.length : Int) :: (encPolys ps ++ ys))] (hx : (encPolys ps).length ≤ 200) :
    CJ Try.prog 16 [.pointer (some ⟨b, 0, none⟩)] w0 Γ (fun p : Value × Value => p.2) (fun p => .rd [p.1] ys :: .ow [p.2] ps :: .bk b [p.1, .bool true] :: Δ) := by
  refine cj_perm hb.perm ?_
  have hge := encPolys_ge ps
  refine cj_in64 v fun h64 => ?_
  refine cj_enter Try.func16 Try.ntmps16 ?_
  repeat' (first | refine red ?_ | refine redc fun r => ?_ | (refine redi (fun hc => ?_) (fun hc => ?_) <;> try first | (exfalso; omega) | exact absurd rfl hc) | fail)
  refine wc_loop_p [3, 4] [16, 17, 18, 19, 20, 21, 22, 23, 26, 27, 28, 29, 30, 31, 32, 33, 24, 25] (ι := Value × Value × Nat) (fun k => [.int .i64 ((ps.length : Int) - k.2.2), k.2.1]) (fun k => [.rd [k.1] (encPolys (ps.drop k.2.2) ++ ys), .ow [k.2.1] (ps.take k.2.2), .bk b [k.1, .bool true]]) (fun k => k.2.2 ≤ ps.length) (fun k => ps.length - k.2.2) (r, .slice none 0 0, 0) [.rd [r] (encPolys ps ++ ys), .ow [.slice none 0 0] ([] : List SPoly), .bk b [r, .bool true]] (by kernel_rfl) (Nat.zero_le _) rfl ?_
  intro ⟨rv, ov, k⟩ u l' hl' hk
  simp only [patch, List.map_cons, List.map_nil, List.set_cons_zero, List.set_cons_succ] at hl'
  subst hl'
  simp only [List.cons_append, List.nil_append] at hk ⊢
  by_cases hkl : k < ps.length
  · have he := encPolys_drop hkl
    have hel := congrArg List.length he
    have hle := mflat_le encPoly ps (k + 1)
    have hsl : (encPolys ps).length = (encPolys (ps.take k)).length + (encPolys (ps.drop k)).length := by
      unfold encPolys
      conv => lhs; rw [← List.take_append_drop k ps, List.map_append, List.flatten_append, List.length_append]
    rw [List.length_cons, List.length_append, cnted_len] at hel
    rw [he, List.cons_append, List.append_assoc]
    have hi : -9223372036854775808 ≤ (ps.getD k default).1 ∧ (ps.getD k default).1 ≤ 9223372036854775807 := h64 _ (List.mem_cons_of_mem _ (List.mem_append_left _ (List.mem_flatten.2 ⟨encPoly (ps.getD k default), List.mem_map.2 ⟨_, getP hkl, rfl⟩, by simp [encPoly]⟩)))
    repeat' (first | refine red ?_ | refine reds ?_ | refine redc fun r => ?_ | refine redv fun sv => ?_ | (refine redi (fun hc => ?_) (fun hc => ?_) <;> try first | (exfalso; omega) | exact absurd rfl hc) | fail)
    rw [take_snoc hkl, show (ps.length : Int) - (k : Int) - 1 = (ps.length : Int) - ((k + 1 : Nat) : Int) by omega]
    exact wq_next (r.1, sv, k + 1) (by simp only; omega) (by simp only; omega) (by kernel_rfl) ent_e
  · rw [show k = ps.length by omega, List.take_length, List.drop_length, show encPolys [] ++ ys = ys from rfl]
    repeat' (first | refine red ?_ | (refine redi (fun hc => ?_) (fun hc => ?_) <;> try first | (exfalso; omega) | exact absurd rfl hc) | fail)
    exact ⟨(rv, ov), rfl, ent_e⟩
instance rd_polys_ctr {Γ Δ : List Atom} {b : Nat} {v : Value} {ps : List SPoly} {ys : List Int} [hb : PullBk Γ b [v, .bool true] Δ] [h : HasIm (List Int) repList Δ [v] ((ps.length : Int) :: (encPolys ps ++ ys))] :
    CtrC Try.prog 16 [.pointer (some ⟨b, 0, none⟩)] Γ ((encPolys ps).length ≤ 200) (Value × Value) (fun p : Value × Value => p.2) (fun p => .rd [p.1] ys :: .ow [p.2] ps :: .bk b [p.1, .bool true] :: Δ) := ⟨fun s w0 => rd_polys_spec s⟩

theorem PairStepsOf_spec {w0 : World} {Γ : List Atom} {v : Value} {xs : List SPairStep} [h : HasIm (List Int) repList Γ [v] (encAll xs)] (hx : (encAll xs).length ≤ 200) :
    CJ Try.prog 9 [v] w0 Γ (fun p : Value => .tuple #[p, .bool true]) (fun p => .ow [p] xs :: Γ) := by
  have hge := encAll_ge xs
  refine cj_enter Try.func9 Try.ntmps9 ?_
  repeat' (first | refine red ?_ | refine redn fun b => ?_ | (refine redi (fun hc => ?_) (fun hc => ?_) <;> try first | (exfalso; omega) | exact absurd rfl hc) | fail)
  refine wc_dup [v] ?_
  refine wc_loop_p [5] [12, 13, 14, 15, 16, 17, 18, 19, 20, 21, 22, 23, 24, 25, 26, 27, 28, 29, 30, 31, 32, 33, 34, 35] (ι := Value × Value × Nat) (fun k => [k.2.1]) (fun k => [.rd [k.1] (encAll (xs.drop k.2.2)), .ow [k.2.1] (xs.take k.2.2), .bk b [k.1, .bool true]]) (fun k => k.2.2 ≤ xs.length) (fun k => xs.length - k.2.2) (v, .slice none 0 0, 0) [.rd [v] (encAll xs), .ow [.slice none 0 0] ([] : List SPairStep), .bk b [v, .bool true]] (by kernel_rfl) (Nat.zero_le _) rfl ?_
  intro ⟨rv, ov, k⟩ u l' hl' hk
  simp only [patch, List.map_cons, List.map_nil, List.set_cons_zero, List.set_cons_succ] at hl'
  subst hl'
  simp only [List.cons_append, List.nil_append] at hk ⊢
  have hsl : (encAll xs).length = (encAll (xs.take k)).length + (encAll (xs.drop k)).length := by
    unfold encAll
    conv => lhs; rw [← List.take_append_drop k xs, List.map_append, List.flatten_append, List.length_append]
  by_cases hkl : k < xs.length
  · have he := encAll_drop hkl
    have hel := congrArg List.length he
    simp only [List.length_cons, List.length_append, cnted_len] at hel
    have hgp := encPolys_ge (xs.getD k default).2.2.1
    have hln : (encAll (xs.drop k)).length = (cnted (xs.getD k default).1 ++ (cnted (xs.getD k default).2.1 ++ (((xs.getD k default).2.2.1.length : Int) :: (encPolys (xs.getD k default).2.2.1 ++ (cnted (xs.getD k default).2.2.2 ++ encAll (xs.drop (k + 1))))))).length := congrArg List.length he
    rw [he]
    repeat' (first | refine red ?_ | refine redc fun r => ?_ | refine redv fun sv => ?_ | (refine redi (fun hc => ?_) (fun hc => ?_) <;> try first | (exfalso; omega) | exact absurd rfl hc) | fail)
    rw [show List.take k xs ++ [((xs.getD k default).1, (xs.getD k default).2.1, (xs.getD k default).2.2.1, (xs.getD k default).2.2.2)] = xs.take (k + 1) from take_snoc hkl]
    exact wq_next (r.1, sv, k + 1) (by simp only; omega) (by simp only; omega) (by kernel_rfl) ent_e
  · rw [show k = xs.length by omega, List.take_length, List.drop_length, show encAll [] = [] from rfl]
    repeat' (first | refine red ?_ | (refine redi (fun hc => ?_) (fun hc => ?_) <;> try first | (exfalso; omega) | exact absurd rfl hc) | fail)
    · exact absurd hc (by decide)
    · exact absurd hc (by decide)
    · exact ⟨ov, rfl, ent_e⟩
instance PairStepsOf_ctr {Γ : List Atom} {v : Value} {xs : List SPairStep} [h : HasIm (List Int) repList Γ [v] (encAll xs)] :
    CtrC Try.prog 9 [v] Γ ((encAll xs).length ≤ 200) (Value) (fun p : Value => .tuple #[p, .bool true]) (fun p => .ow [p] xs :: Γ) := ⟨fun s w0 => PairStepsOf_spec s⟩

end Go.Proofs.Ytjblieilblcdnaa
