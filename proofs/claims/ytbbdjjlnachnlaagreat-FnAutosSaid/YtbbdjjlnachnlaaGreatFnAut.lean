/- The law FnAutos: the product, the union, the sure automaton and its complement take what they shall. -/
import Derived.Test.YtbbdjjlnachnlaaGreatDrawB
import Derived.Test.YtbbdjjlnachnlaaGreatLike
import Derived.Test.YtbbdjjlnachnlaaGreatBothJ
import Derived.Test.YtbbdjjlnachnlaaGreatBothK
import Derived.Test.YtbbdjjlnachnlaaGreatEitS
import Derived.Test.YtbbdjjlnachnlaaGreatOthI
import Derived.Test.YtbbdjjlnachnlaaGreatWhole
import Derived.Test.YtbbdjjlnachnlaaGreatGrd
import Derived.Test.YtbbdjjlnachnlaaGreatAccN
namespace Go.Proofs.YtbbdjjlnachnlaaGreat
open Go Go.Eng
set_option linter.unusedVariables false
set_option linter.unusedSimpArgs false
set_option synthInstance.maxHeartbeats 4000000
set_option synthInstance.maxSize 20000
set_option maxHeartbeats 0
set_option maxRecDepth 20000

theorem au_both {a t : List Int} {x y z : SAuto} (ht : GrP a t) (h : BothOk a x y → BothW a x y z) : BothOk a x y → accN a z t = (accN a x t && accN a y t) := fun h1 => (h h1).acc ht
theorem au_eit {a t : List Int} {x y : SAuto} (ht : GrP a t) : EitOk a x y → accN a (eitV a x y) t = (accN a x t || accN a y t) := fun h => by
  rw [eitV_yes h]
  exact eit_acc h.ax h.ay (eit_auto h.ax h.ay h.st h.rl) ht
theorem au_sure {a t : List Int} {x : SAuto} (ht : GrP a t) : (sureOf a x).isSome = true → accN a (sureD a x) t = accN a x t := fun h => by
  obtain ⟨z, hz⟩ := Option.isSome_iff_exists.1 h
  obtain ⟨sets, hw⟩ := sureOf_w hz
  rw [sureD_some hz]
  exact hw.acc ht
theorem au_oth {a t : List Int} {x : SAuto} (ht : GrP a t) : (sureOf a x).isSome = true → accN a (othD a x) t = !accN a x t := fun h => by
  obtain ⟨z, hz⟩ := Option.isSome_iff_exists.1 h
  obtain ⟨sets, hw⟩ := sureOf_w hz
  unfold othD
  rw [sureD_some hz]
  exact oth_acc hw ht
theorem au_whole {a : List Int} {x : SAuto} : (sureOf a x).isSome = true → wholeB a (sureD a x) = true := fun h => by
  obtain ⟨z, hz⟩ := Option.isSome_iff_exists.1 h
  obtain ⟨sets, hw⟩ := sureOf_w hz
  rw [sureD_some hz]
  exact hw.whole hw.sure
theorem au_si {a : List Int} {x : SAuto} : (sureOf a x).isSome = true → AutoP a (sureD a x) ∧ SureTo (sureD a x).2.1 (sureD a x).2.1.length := fun h => by
  obtain ⟨z, hz⟩ := Option.isSome_iff_exists.1 h
  obtain ⟨sets, hw⟩ := sureOf_w hz
  rw [sureD_some hz]
  exact ⟨hw.auto, hw.sure⟩
theorem cl_and {z p q : Bool} (e : z = (p && q)) (h1 : p = true) (h2 : ¬ z = q) : False := h2 (by rw [e, h1, Bool.true_and])
theorem cl_and0 {z p q : Bool} (e : z = (p && q)) (h1 : p = false) (h2 : z = true) : False := by rw [e, h1] at h2; cases h2
theorem cl_and1 {z p q : Bool} (e : z = (p && q)) (h1 : p = false) (h2 : ¬ z = false) : False := h2 (by rw [e, h1, Bool.false_and])
theorem cl_or {z p q : Bool} (e : z = (p || q)) (h1 : p = true) (h2 : ¬ z = true) : False := h2 (by rw [e, h1, Bool.true_or])
theorem cl_or0 {z p q : Bool} (e : z = (p || q)) (h1 : p = false) (h2 : ¬ z = q) : False := h2 (by rw [e, h1, Bool.false_or])
theorem cl_not {z p : Bool} (e : z = !p) (h : z = p) : False := by rw [h] at e; cases p <;> cases e
theorem BothOk.ax {a : List Int} {x y : SAuto} (h : BothOk a x y) : AutoP a x := h.1
theorem BothOk.ay {a : List Int} {x y : SAuto} (h : BothOk a x y) : AutoP a y := h.2.1
theorem FnAutos_spec {w0 : World} {Γ : List Atom} {v : Value} {code : List UInt8} [hv : HasRd (List UInt8) repList Γ [v] code] :
    CJ Tryz.prog 4 [v] w0 Γ (fun _ : Unit => .bool true) (fun _ => Γ) := by
  refine cj_enter Tryz.func4 Tryz.ntmps4 ?_
  repeat' (first | refine red ?_ | (refine redc fun r => ?_; try have hr := Subtype.property r) | refine redn fun b => ?_ | (refine redi (fun hc => ?_) (fun hc => ?_) <;> try first | (exfalso; omega) | exact absurd rfl hc) | fail)
  · exact ⟨(), rfl, ent_e⟩
  all_goals first
    | exact ⟨(), ret_bool (by rw [decC_f fun h => absurd h.ax (by assumption)]; rfl), ent_e⟩
    | exact ⟨(), ret_bool (by rw [decC_f fun h => absurd h.ay (by assumption)]; rfl), ent_e⟩
    | exact absurd (BothOk.ax (by assumption)) (by assumption)
    | exact absurd (BothOk.ay (by assumption)) (by assumption)
    | exact absurd (au_si (by assumption)) (by assumption)
    | exact absurd (au_whole (by assumption)) (by rw [‹wholeB _ _ = false›]; decide)
    | skip
  all_goals
   have hsg := (‹AutoP _ _›).1
   repeat' (first | refine red ?_ | (refine redc fun r => ?_; try have hr := Subtype.property r) | fail)
   obtain ⟨⟨gv, ts, ok⟩, hgt⟩ := r
   simp only at hgt ⊢
   have hgc := hgt.cnt
   refine wc_loop_c [22] [131, 132, 133, 134, 135, 136, 137, 138, 139, 140, 141, 144, 145, 146, 147, 148, 149, 150, 23, 151, 152, 153, 154, 155, 156, 157, 24, 158, 159, 160, 161, 162, 163, 164, 165, 166, 167, 168, 169, 170, 171, 172, 173, 174, 175, 176, 177, 178, 179, 180, 181, 182, 183, 184, 185, 186, 187, 188, 189, 190, 191, 192, 193, 194, 195, 196, 197, 198, 199, 200, 201, 202, 203, 204, 205, 206, 207, 208, 209, 210, 211, 212, 213, 214, 215, 216, 217, 218, 219, 220, 221, 222, 223, 224, 225, 226, 227, 228, 2, 142, 143] (ι := Nat) (fun i => [.int .i64 i]) (fun i => i ≤ ts.length) (fun i => ts.length - i) 0 (by kernel_rfl) (Nat.zero_le _) ?_
   intro i u l' hl' hi
   simp only [patch, List.map_cons, List.map_nil, List.set_cons_zero, List.set_cons_succ] at hl'
   subst hl'
   by_cases hil : i < ts.length
   · have hti := hgt.el _ (getG hil)
     repeat' (first | refine red ?_ | (refine redi (fun hc => ?_) (fun hc => ?_) <;> try first | (exfalso; omega) | exact absurd rfl hc) | ((refine wa_begin 21 [false, false, false, false, false, false, false, false] [] ?_ <;> refine wa_p 0 ?_ <;> (first | refine wa_p 1 ?_ | fail) <;> refine wa_p 2 ?_ <;> refine wa_p 3 ?_ <;> (first | (refine wa_deep 4 fun p cs as_ asb_ hcs has hasb hf => ?_; simp only [Un.cells, Un.atoms, Un.fact, List.cons_append, List.nil_append] at hcs has hasb hf; subst hcs has hasb) | fail) <;> (first | refine wa_p 5 ?_ | fail) <;> (refine wa_do 6 ?_ <;> (repeat' (first | refine red ?_ | (refine redc fun r => ?_; try have hr := Subtype.property r) | fail))) <;> refine wa_p 7 ?_) <;> (refine wa_end ?_)) | ((refine wa_begin 22 [false, false, false, false, false, false, false, false] [] ?_ <;> refine wa_p 0 ?_ <;> (first | refine wa_p 1 ?_ | fail) <;> refine wa_p 2 ?_ <;> refine wa_p 3 ?_ <;> (first | refine wa_p 4 ?_ | fail) <;> (first | refine wa_p 5 ?_ | fail) <;> (refine wa_do 6 ?_ <;> (repeat' (first | refine red ?_ | (refine redc fun r => ?_; try have hr := Subtype.property r) | fail))) <;> refine wa_p 7 ?_) <;> (refine wa_end ?_)) | fail)
     all_goals first
       | exact ⟨(), rfl, ent_e⟩
       | as_aux_lemma =>
          simp only [List.append]
          ((refine wa_begin 23 [false, false, false, false, false, false, false, false, false, false, false, false, false, false, false, false, false, false, false, false, false, false, false, false, false, false, false, false, false, false, false, false, false, false, false, false, false, false, false, false, false, false, false, false, false, false, false, false, false, false, false, false, false, false, false, false, false, false, false, false, false, false, false, false, false, false, false, false, false, false, false] [] ?_ <;> refine wa_p 0 ?_ <;> (first | refine wa_p 1 ?_ | fail) <;> refine wa_p 2 ?_ <;> refine wa_p 3 ?_ <;> (first | refine wa_p 4 ?_ | fail) <;> (first | refine wa_p 5 ?_ | fail) <;> refine wa_p 7 ?_ <;> (refine wa_do 6 ?_ <;> (repeat' (first | refine red ?_ | (refine redc fun r => ?_; try have hr := Subtype.property r) | fail))) <;> (first | refine wa_p 8 ?_ | fail) <;> refine wa_p 9 ?_ <;> (first | (refine wa_if 167 (fun hc => ?_) (fun hc => ?_) <;> (try first | (exfalso; omega) | exact absurd rfl hc) <;> first | refine wa_pg 10 ?_ | refine wa_no 10 ?_) | fail) <;> (first | refine wa_pg 11 ?_ | fail) <;> (first | (refine wa_if 169 (fun hc => ?_) (fun hc => ?_) <;> (try first | (exfalso; omega) | exact absurd rfl hc) <;> first | refine wa_pg 12 ?_ | refine wa_no 12 ?_) | fail) <;> (first | refine wa_pg 13 ?_ | refine wa_no 13 ?_ | fail) <;> (first | refine wa_pg 14 ?_ | refine wa_no 14 ?_ | fail) <;> (first | refine wa_pg 15 ?_ | refine wa_no 15 ?_ | fail) <;> (first | refine wa_pg 16 ?_ | refine wa_no 16 ?_ | fail) <;> (first | refine wa_pg 17 ?_ | refine wa_no 17 ?_ | fail) <;> (first | refine wa_pg 19 ?_ | refine wa_no 19 ?_ | fail) <;> (refine wa_do 18 ?_ <;> (repeat' (first | refine red ?_ | (refine redc fun r => ?_; try have hr := Subtype.property r) | fail))) <;> (first | refine wa_pg 20 ?_ | refine wa_no 20 ?_ | fail) <;> (first | refine wa_no 21 ?_ | (refine wa_if 178 (fun hc => ?_) (fun hc => ?_) <;> (try first | (exfalso; omega) | exact absurd rfl hc) <;> first | refine wa_pg 21 ?_ | refine wa_no 21 ?_) | fail) <;> (first | refine wa_pg 22 ?_ | refine wa_no 22 ?_ | fail) <;> (first | refine wa_pg 23 ?_ | refine wa_no 23 ?_ | fail) <;> (first | refine wa_pg 24 ?_ | fail) <;> (first | refine wa_p 25 ?_ | fail) <;> refine wa_p 26 ?_ <;> (first | refine wa_pg 27 ?_ | (refine wa_if 184 (fun hc => ?_) (fun hc => ?_) <;> (try first | (exfalso; omega) | exact absurd rfl hc) <;> first | refine wa_pg 27 ?_ | refine wa_no 27 ?_) | fail) <;> (first | refine wa_pg 28 ?_ | refine wa_no 28 ?_ | fail) <;> (first | refine wa_no 29 ?_ | (refine wa_if 186 (fun hc => ?_) (fun hc => ?_) <;> (try first | (exfalso; omega) | exact absurd rfl hc) <;> first | refine wa_pg 29 ?_ | refine wa_no 29 ?_) | fail) <;> (first | refine wa_pg 30 ?_ | refine wa_no 30 ?_ | fail) <;> (first | refine wa_pg 31 ?_ | refine wa_no 31 ?_ | fail) <;> (first | refine wa_pg 32 ?_ | refine wa_no 32 ?_ | fail) <;> (first | refine wa_pg 33 ?_ | refine wa_no 33 ?_ | fail) <;> (first | refine wa_pg 34 ?_ | refine wa_no 34 ?_ | fail) <;> (first | refine wa_pg 36 ?_ | refine wa_no 36 ?_ | fail) <;> (refine wa_do 35 ?_ <;> (repeat' (first | refine red ?_ | (refine redc fun r => ?_; try have hr := Subtype.property r) | fail))) <;> (first | refine wa_pg 37 ?_ | refine wa_no 37 ?_ | fail) <;> (first | refine wa_no 38 ?_ | (refine wa_if 195 (fun hc => ?_) (fun hc => ?_) <;> (try first | (exfalso; omega) | exact absurd rfl hc) <;> first | refine wa_pg 38 ?_ | refine wa_no 38 ?_) | fail) <;> (first | refine wa_pg 39 ?_ | refine wa_no 39 ?_ | fail) <;> (first | refine wa_pg 40 ?_ | refine wa_no 40 ?_ | fail) <;> (first | refine wa_pg 41 ?_ | refine wa_no 41 ?_ | fail) <;> (first | refine wa_p 42 ?_ | fail) <;> refine wa_p 43 ?_ <;> (first | refine wa_pg 44 ?_ | refine wa_no 44 ?_ | (refine wa_if 201 (fun hc => ?_) (fun hc => ?_) <;> (try first | (exfalso; omega) | exact absurd rfl hc) <;> first | refine wa_pg 44 ?_ | refine wa_no 44 ?_) | fail) <;> (first | refine wa_pg 45 ?_ | refine wa_no 45 ?_ | fail) <;> (first | refine wa_no 46 ?_ | (refine wa_if 203 (fun hc => ?_) (fun hc => ?_) <;> (try first | (exfalso; omega) | exact absurd rfl hc) <;> first | refine wa_pg 46 ?_ | refine wa_no 46 ?_) | fail) <;> (first | refine wa_pg 47 ?_ | refine wa_no 47 ?_ | fail) <;> (first | refine wa_pg 48 ?_ | refine wa_no 48 ?_ | fail) <;> (first | refine wa_pg 49 ?_ | refine wa_no 49 ?_ | fail) <;> (first | refine wa_pg 50 ?_ | refine wa_no 50 ?_ | fail) <;> (first | refine wa_pg 51 ?_ | refine wa_no 51 ?_ | fail) <;> (first | refine wa_pg 53 ?_ | refine wa_no 53 ?_ | fail) <;> (refine wa_do 52 ?_ <;> (repeat' (first | refine red ?_ | (refine redc fun r => ?_; try have hr := Subtype.property r) | fail))) <;> (first | refine wa_pg 54 ?_ | refine wa_no 54 ?_ | fail) <;> (first | refine wa_pg 55 ?_ | refine wa_no 55 ?_ | fail) <;> (first | refine wa_p 56 ?_ | fail) <;> refine wa_p 57 ?_ <;> (first | refine wa_pg 58 ?_ | refine wa_no 58 ?_ | (refine wa_if 215 (fun hc => ?_) (fun hc => ?_) <;> (try first | (exfalso; omega) | exact absurd rfl hc) <;> first | refine wa_pg 58 ?_ | refine wa_no 58 ?_) | fail) <;> (first | refine wa_pg 59 ?_ | refine wa_no 59 ?_ | fail) <;> (first | refine wa_no 60 ?_ | (refine wa_if 217 (fun hc => ?_) (fun hc => ?_) <;> (try first | (exfalso; omega) | exact absurd rfl hc) <;> first | refine wa_pg 60 ?_ | refine wa_no 60 ?_) | fail) <;> (first | refine wa_pg 61 ?_ | refine wa_no 61 ?_ | fail) <;> (first | refine wa_pg 62 ?_ | refine wa_no 62 ?_ | fail) <;> (first | refine wa_pg 63 ?_ | refine wa_no 63 ?_ | fail) <;> (first | refine wa_pg 64 ?_ | refine wa_no 64 ?_ | fail) <;> (first | refine wa_pg 65 ?_ | refine wa_no 65 ?_ | fail) <;> (first | refine wa_pg 67 ?_ | refine wa_no 67 ?_ | fail) <;> (refine wa_do 66 ?_ <;> (repeat' (first | refine red ?_ | (refine redc fun r => ?_; try have hr := Subtype.property r) | fail))) <;> (first | refine wa_pg 68 ?_ | refine wa_no 68 ?_ | fail) <;> (first | refine wa_pg 69 ?_ | refine wa_no 69 ?_ | fail) <;> (first | refine wa_p 70 ?_ | fail)) <;> (refine wa_end ?_))
          all_goals (repeat' (first | refine red ?_ | refine reds ?_ | (refine redi (fun hc => ?_) (fun hc => ?_) <;> try first | (exfalso; omega) | exact absurd rfl hc) | fail))
          all_goals first
            | exact wq_next (i + 1) (by omega) (by omega) (by as_aux_lemma => kernel_rfl) ent_e
            | (exfalso; exact cl_and (au_both hti (And.left ‹(BothOk _ _ _ → BothW _ _ _ _) ∧ _›) ‹BothOk _ _ _›) (by assumption) (by assumption))
            | (exfalso; exact cl_and0 (au_both hti (And.left ‹(BothOk _ _ _ → BothW _ _ _ _) ∧ _›) ‹BothOk _ _ _›) (by assumption) (by assumption))
            | (exfalso; exact cl_and1 (au_both hti (And.left ‹(BothOk _ _ _ → BothW _ _ _ _) ∧ _›) ‹BothOk _ _ _›) (by assumption) (by assumption))
            | (exfalso; exact cl_or (au_eit hti ‹EitOk _ _ _›) (by assumption) (by assumption))
            | (exfalso; exact cl_or0 (au_eit hti ‹EitOk _ _ _›) (by assumption) (by assumption))
            | (exfalso; exact absurd (au_sure hti ‹(sureOf _ _).isSome = true›) (by assumption))
            | (exfalso; exact cl_not (au_oth hti ‹(sureOf _ _).isSome = true›) (by assumption))
            | fail
   · repeat' (first | refine red ?_ | (refine redi (fun hc => ?_) (fun hc => ?_) <;> try first | (exfalso; omega) | exact absurd rfl hc) | fail)
     all_goals exact ⟨(), rfl, ent_e⟩
instance FnAutos_ctr {Γ : List Atom} {v : Value} {code : List UInt8} [hv : HasRd (List UInt8) repList Γ [v] code] :
    CtrC Tryz.prog 4 [v] Γ (True) (Unit) (fun _ : Unit => .bool true) (fun _ => Γ) := ⟨fun s w0 => FnAutos_spec⟩

theorem FnAutos_law {w0 : World} {Γ : List Atom} {x0 : List UInt8} {v0_0 : Value} [h0_0 : HasRd (List UInt8) repList Γ [v0_0] x0] (hf0 : x0.length ≤ 9223372036854775807) :
    CJ Tryz.prog 4 [v0_0] w0 Γ (fun _ : Unit => .bool true) (fun _ => Γ) := FnAutos_spec
end Go.Proofs.YtbbdjjlnachnlaaGreat
