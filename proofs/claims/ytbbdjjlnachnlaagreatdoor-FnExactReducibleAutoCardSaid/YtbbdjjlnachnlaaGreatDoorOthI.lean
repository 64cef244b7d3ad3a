/- The other automaton: the program and the reference. -/
import Derived.Test.YtbbdjjlnachnlaaGreatDoorSurI
namespace Go.Proofs.YtbbdjjlnachnlaaGreatDoor
open Go Go.Eng
set_option linter.unusedVariables false
set_option linter.unusedSimpArgs false
set_option synthInstance.maxHeartbeats 400000
set_option synthInstance.maxSize 1000
set_option maxHeartbeats 2000000
set_option maxRecDepth 20000


theorem impl_SureAuto_spec {w0 : World} {Γ : List Atom} {v v0 v1 : Value} {ar : List Int} {x : SAuto} [h : HasRd (List Int) repList Γ [v] ar] [h0 : HasRd (List STrans) repList Γ [v0] x.2.1] [h1 : HasRd (List Int) repList Γ [v1] x.2.2] :
    CJ Tryz.prog 94 [.agg #[v], .agg #[.int .i64 x.1, v0, v1]] w0 Γ (fun q : Value × Value => .tuple #[.agg #[.int .i64 (sureD ar x).1, q.1, q.2], .bool (sureOf ar x).isSome]) (fun q => .ow [q.1] (sureD ar x).2.1 :: .ow [q.2] (sureD ar x).2.2 :: Γ) := by
  refine cj_enter Tryz.func94 Tryz.ntmps94 ?_
  repeat' (first | refine red ?_ | (refine redc fun r => ?_; try have hr := Subtype.property r) | refine redn fun b => ?_ | (refine redi (fun hc => ?_) (fun hc => ?_) <;> try first | (exfalso; omega) | with_reducible first | exact absurd rfl hc | exact absurd hc Bool.false_ne_true | exact absurd hc Bool.false_ne_true.symm) | fail)
  · rw [sureD_none (sure_no hc), sure_no hc]
    exact ⟨(.slice none 0 0, .slice none 0 0), rfl, ent_e⟩
  · exact ⟨r, rfl, ent_e⟩
instance impl_SureAuto_ctr {Γ : List Atom} {v v0 v1 : Value} {ar : List Int} {x : SAuto} [h : HasRd (List Int) repList Γ [v] ar] [h0 : HasRd (List STrans) repList Γ [v0] x.2.1] [h1 : HasRd (List Int) repList Γ [v1] x.2.2] :
    CtrC Tryz.prog 94 [.agg #[v], .agg #[.int .i64 x.1, v0, v1]] Γ (True) (Value × Value) (fun q : Value × Value => .tuple #[.agg #[.int .i64 (sureD ar x).1, q.1, q.2], .bool (sureOf ar x).isSome]) (fun q => .ow [q.1] (sureD ar x).2.1 :: .ow [q.2] (sureD ar x).2.2 :: Γ) := ⟨fun s w0 => impl_SureAuto_spec⟩

/-- The numbers below i that are not listed. -/
def compN (fs : List Int) : Nat → List Int
  | 0 => []
  | i + 1 => compN fs i ++ (if (i : Int) ∈ fs then [] else [(i : Int)])
theorem compN_len (fs : List Int) : ∀ i, (compN fs i).length ≤ i
  | 0 => Nat.le_refl _
  | i + 1 => by
    have := compN_len fs i
    unfold compN
    rw [List.length_append]
    split <;> simp <;> omega
/-- The other automaton. -/
noncomputable def othD (ar : List Int) (x : SAuto) : SAuto := ((sureD ar x).1, (sureD ar x).2.1, compN (sureD ar x).2.2 (sureD ar x).1.toNat)
theorem bitN_bd {m : Nat} (h : m ≤ 16) : 1 ≤ bitN m ∧ bitN m ≤ 65536 := by
  unfold bitN
  have h1 : 2 ^ m ≤ 2 ^ 16 := Nat.pow_le_pow_right (by decide) h
  have h2 : 0 < 2 ^ m := Nat.pow_pos (by decide)
  omega
theorem finN_in (sets : List (List Int)) (fs : List Int) : ∀ i, ∀ q ∈ finN sets fs i, 0 ≤ q ∧ q < (i : Int)
  | 0, q, h => by cases h
  | i + 1, q, h => by
    unfold finN at h
    rcases List.mem_append.1 h with h | h
    · have := finN_in sets fs i q h; omega
    · split at h
      · rw [List.mem_singleton] at h; omega
      · cases h
theorem sure_bd {ar : List Int} {x : SAuto} : 0 ≤ (sureD ar x).1 ∧ (sureD ar x).1 ≤ 16 ∧ ∀ q ∈ (sureD ar x).2.2, 0 ≤ q ∧ q < (sureD ar x).1 := by
  cases hso : sureOf ar x with
  | none => rw [sureD_none hso]; exact ⟨by decide, by decide, fun q h => by cases h⟩
  | some y =>
    rw [sureD_some hso]
    unfold sureOf at hso
    split at hso
    · split at hso
      · cases hso
      · rename_i sets hfx
        split at hso
        · injection hso with hso
          subst hso
          have := fixS_len 17 [] (by simp) sets hfx
          exact ⟨by simp only; omega, by simp only; omega, fun q hq => finN_in _ _ _ q hq⟩
        · cases hso
    · cases hso
theorem spec_OtherAuto_spec {w0 : World} {Γ : List Atom} {v v0 v1 : Value} {ar : List Int} {x : SAuto} [h : HasRd (List Int) repList Γ [v] ar] [h0 : HasRd (List STrans) repList Γ [v0] x.2.1] [h1 : HasRd (List Int) repList Γ [v1] x.2.2] :
    CJ Tryz.prog 59 [.agg #[v], .agg #[.int .i64 x.1, v0, v1]] w0 Γ (fun q : Value × Value => .tuple #[.agg #[.int .i64 (othD ar x).1, q.1, q.2], .bool (sureOf ar x).isSome]) (fun q => .ow [q.1] (othD ar x).2.1 :: .ow [q.2] (othD ar x).2.2 :: Γ) := by
  have hbd := sure_bd (ar := ar) (x := x)
  refine cj_enter Tryz.func59 Tryz.ntmps59 ?_
  repeat' (first | refine red ?_ | (refine redc fun r => ?_; try have hr := Subtype.property r) | refine redv fun sv => ?_ | refine redn fun b => ?_ | (refine redi (fun hc => ?_) (fun hc => ?_) <;> try first | (exfalso; omega) | with_reducible first | exact absurd rfl hc | exact absurd hc Bool.false_ne_true | exact absurd hc Bool.false_ne_true.symm) | fail)
  · have hn : sureOf ar x = none := by
      cases hso : sureOf ar x with
      | none => rfl
      | some y => rw [hso] at hc; cases hc
    have ho : othD ar x = (0, [], []) := by unfold othD; rw [sureD_none hn]; rfl
    rw [ho, hn]
    exact ⟨(.slice none 0 0, .slice none 0 0), rfl, ent_e⟩
  obtain ⟨n, hn⟩ : ∃ n : Nat, (sureD ar x).1 = (n : Int) := ⟨(sureD ar x).1.toNat, by omega⟩
  refine wc_loop_p [8, 9] [20, 21, 22, 23, 26, 27, 28, 29, 30, 31, 32, 33, 34, 24, 25] (ι := Value × Nat) (fun k => [k.1, .int .i64 k.2]) (fun k => [.ow [k.1] (compN (sureD ar x).2.2 k.2)]) (fun k => k.2 ≤ n) (fun k => n - k.2) (sv, 0) [.ow [sv] ([] : List Int)] (by kernel_rfl) (Nat.zero_le _) rfl ?_
  intro ⟨cv, i⟩ u l' hl' hi
  simp only [patch, List.map_cons, List.map_nil, List.set_cons_zero, List.set_cons_succ] at hl'
  subst hl'
  simp only [List.cons_append, List.nil_append] at hi ⊢
  have hcl := compN_len (sureD ar x).2.2 i
  have hcs : compN (sureD ar x).2.2 (i + 1) = compN (sureD ar x).2.2 i ++ (if (i : Int) ∈ (sureD ar x).2.2 then [] else [(i : Int)]) := rfl
  repeat' (first | refine red ?_ | refine reds ?_ | (refine redc fun r => ?_; try have hr := Subtype.property r) | refine redv fun sv => ?_ | (refine redi (fun hc => ?_) (fun hc => ?_) <;> try first | (exfalso; omega) | with_reducible first | exact absurd rfl hc | exact absurd hc Bool.false_ne_true | exact absurd hc Bool.false_ne_true.symm) | fail)
  · rw [if_neg hc] at hcs
    exact wq_next (sv, i + 1) (by simp only; omega) (by simp only; omega) (by kernel_rfl) (by simp only [hcs]; exact ent_e)
  · rw [if_pos hc, List.append_nil] at hcs
    exact wq_next (cv, i + 1) (by simp only; omega) (by simp only; omega) (by kernel_rfl) (by simp only [hcs]; exact ent_e)
  · refine ⟨(_, cv), by rw [‹(sureOf ar x).isSome = true›]; rfl, ?_⟩
    unfold othD
    simp only
    rw [show (sureD ar x).1.toNat = i by omega]
    exact ent_e
instance spec_OtherAuto_ctr {Γ : List Atom} {v v0 v1 : Value} {ar : List Int} {x : SAuto} [h : HasRd (List Int) repList Γ [v] ar] [h0 : HasRd (List STrans) repList Γ [v0] x.2.1] [h1 : HasRd (List Int) repList Γ [v1] x.2.2] :
    CtrC Tryz.prog 59 [.agg #[v], .agg #[.int .i64 x.1, v0, v1]] Γ (True) (Value × Value) (fun q : Value × Value => .tuple #[.agg #[.int .i64 (othD ar x).1, q.1, q.2], .bool (sureOf ar x).isSome]) (fun q => .ow [q.1] (othD ar x).2.1 :: .ow [q.2] (othD ar x).2.2 :: Γ) := ⟨fun s w0 => spec_OtherAuto_spec⟩

section
variable {P : Program} {w0 : World} {l : List Value} {Γ : List Atom} {ty : TypeId} {T U : TypeId} {x y : Operand} {a b : Nat}
theorem pu_not32 [hx : Ev l x (.int .u32 (a : Int))] (h : a < 4294967296) : Pu P w0 l Γ (.unOp .xor T x) ty (.int .u32 ((4294967295 ^^^ a : Nat) : Int)) :=
  pu_of (s := Op.unary .xor (.int .u32 (a : Int))) (fun o ho _ => by unfold execOp; rw [ho]; simp only [hx.eq]) (fun w _ => by
    show (Op.intBits .xor .u32 (((4294967295 : Nat) : Int)) (a : Int) : Sem Value).run P w = _
    rw [intBits_xor, u32_xor_nat 4294967295 a (by decide) h, Sem.run_pure])
instance [hx : Ev l x (.int .u32 (a : Int))] : PuS P l Γ (.unOp .xor T x) ty (.int .u32 ((4294967295 ^^^ a : Nat) : Int)) (a < 4294967296) := ⟨fun h _ => pu_not32 h⟩
theorem pu_dec32 [hx : Ev l x (.int .u32 (a : Int))] [hy : Ev l y (.int .u32 1)] (h : 1 ≤ a ∧ a < 4294967296) : Pu P w0 l Γ (.binOp .sub T x y U) ty (.int .u32 ((a - 1 : Nat) : Int)) :=
  pu_bin eqGuard_int (fun w => by
    simp only [binOp, Op.intArith, ne_eq, not_true_eq_false, if_false]
    rw [show IntKind.u32.wrap ((a : Int) - 1) = ((a - 1 : Nat) : Int) from (show IntKind.u32.wrap ((a : Int) - 1) = ((a : Int) - 1) % 4294967296 from rfl).trans (by omega)]
    rfl)
theorem xor_lt {a : Nat} (h : a < 4294967296) : 4294967295 ^^^ a < 4294967296 := Nat.xor_lt_two_pow (n := 32) (by decide) h
instance (priority := 1500) [hx : Ev l x (.int .u32 ((4294967295 ^^^ a : Nat) : Int))] [hy : Ev l y (.int .u32 (b : Int))] : PuS P l Γ (.binOp .and T x y U) ty (.int .u32 (((4294967295 ^^^ a) &&& b : Nat) : Int)) (a < 4294967296 ∧ b < 4294967296) := ⟨fun h _ => pu_and32 ⟨xor_lt h.1, h.2⟩⟩
instance [hx : Ev l x (.int .u32 (a : Int))] [hy : Ev l y (.int .u32 1)] : PuS P l Γ (.binOp .sub T x y U) ty (.int .u32 ((a - 1 : Nat) : Int)) (1 ≤ a ∧ a < 4294967296) := ⟨fun h _ => pu_dec32 h⟩
end
theorem listA_spec {w0 : World} {Γ : List Atom} {a b : Nat} (hs : b < 4294967296) : CJ Tryz.prog 40 [.int .u32 ((a &&& b : Nat) : Int)] w0 Γ (fun q : Value => q) (fun q => .ow [q] (listN (a &&& b) 16) :: Γ) := by
  exact list_spec (Nat.lt_of_le_of_lt Nat.and_le_right hs)
instance listA_ctr {Γ : List Atom} {a b : Nat} :
    CtrC Tryz.prog 40 [.int .u32 ((a &&& b : Nat) : Int)] Γ (b < 4294967296) (Value) (fun q : Value => q) (fun q => .ow [q] (listN (a &&& b) 16) :: Γ) := ⟨fun s w0 => listA_spec s⟩

attribute [local instance 2000] listA_ctr
theorem comp_list {s n : Nat} {fs : List Int} (h : ∀ i : Nat, s.testBit i = true ↔ i < n ∧ (i : Int) ∉ fs) : ∀ j, listN s j = compN fs (min j n)
  | 0 => by rw [Nat.zero_min]; rfl
  | j + 1 => by
    rw [listN_succ, comp_list h j]
    by_cases hj : j < n
    · rw [Nat.min_eq_left (by omega), Nat.min_eq_left (by omega)]
      show _ = compN fs j ++ _
      congr 1
      by_cases hm : (j : Int) ∈ fs
      · rw [if_pos hm, if_neg fun h2 => ((h j).1 h2).2 hm]
      · rw [if_neg hm, if_pos ((h j).2 ⟨hj, hm⟩)]
    · rw [Nat.min_eq_right (by omega), Nat.min_eq_right (by omega), if_neg fun h2 => hj ((h j).1 h2).1, List.append_nil]
theorem comp_bits {s n : Nat} {fs : List Int} (hs : ∀ i : Nat, s.testBit i = true ↔ (i : Int) ∈ fs) (hn : n ≤ 16) : listN ((4294967295 ^^^ s) &&& bitN n - 1) 16 = compN fs n := by
  have := comp_list (s := (4294967295 ^^^ s) &&& bitN n - 1) (n := n) (fs := fs) (fun i => by
    rw [Nat.testBit_and, Nat.testBit_xor, show 4294967295 = 2 ^ 32 - 1 from rfl, Nat.testBit_two_pow_sub_one, show bitN n - 1 = 2 ^ n - 1 from rfl, Nat.testBit_two_pow_sub_one]
    have h1 := hs i
    by_cases hi : i < n
    · have h32 : i < 32 := by omega
      cases hb : s.testBit i <;> simp_all
    · simp [hi]) 16
  rw [this, Nat.min_eq_right hn]
theorem impl_OtherAuto_spec {w0 : World} {Γ : List Atom} {v v0 v1 : Value} {ar : List Int} {x : SAuto} [h : HasRd (List Int) repList Γ [v] ar] [h0 : HasRd (List STrans) repList Γ [v0] x.2.1] [h1 : HasRd (List Int) repList Γ [v1] x.2.2] :
    CJ Tryz.prog 37 [.agg #[v], .agg #[.int .i64 x.1, v0, v1]] w0 Γ (fun q : Value × Value => .tuple #[.agg #[.int .i64 (othD ar x).1, q.1, q.2], .bool (sureOf ar x).isSome]) (fun q => .ow [q.1] (othD ar x).2.1 :: .ow [q.2] (othD ar x).2.2 :: Γ) := by
  have hbd := sure_bd (ar := ar) (x := x)
  refine cj_enter Tryz.func37 Tryz.ntmps37 ?_
  repeat' (first | refine red ?_ | (refine redc fun r => ?_; try have hr := Subtype.property r) | refine redn fun b => ?_ | (refine redi (fun hc => ?_) (fun hc => ?_) <;> try first | (exfalso; omega) | with_reducible first | exact absurd rfl hc | exact absurd hc Bool.false_ne_true | exact absurd hc Bool.false_ne_true.symm) | fail)
  · have hn : sureOf ar x = none := by
      cases hso : sureOf ar x with
      | none => rfl
      | some y => rw [hso] at hc; cases hc
    have ho : othD ar x = (0, [], []) := by unfold othD; rw [sureD_none hn]; rfl
    rw [ho, hn]
    exact ⟨(.slice none 0 0, .slice none 0 0), rfl, ent_e⟩
  have hf16 : ∀ q ∈ (sureD ar x).2.2, 0 ≤ q ∧ q < 16 := fun q hq => by have := hbd.2.2 q hq; omega
  have hbit := bitN_bd (m := (sureD ar x).1.toNat) (by omega)
  ((refine wa_begin 4 [false, false, false, false, false, false, false, false, false, false, false, false, false] [12] ?_ <;> (first | refine wa_p 0 ?_ | fail) <;> (first | refine wa_p 1 ?_ | fail) <;> (first | refine wa_p 4 ?_ | fail) <;> (first | refine wa_p 5 ?_ | fail) <;> (first | refine wa_p 6 ?_ | fail) <;> (first | refine wa_p 7 ?_ | fail) <;> (first | refine wa_p 8 ?_ | fail) <;> (refine wa_do 2 ?_ <;> (repeat' (first | refine red ?_ | (refine redc fun r => ?_; try have hr := Subtype.property r) | fail))) <;> (first | refine wa_p 3 ?_ | fail) <;> (first | refine wa_p 9 ?_ | fail) <;> (refine wa_do 10 ?_ <;> (repeat' (first | refine red ?_ | (refine redc fun r => ?_; try have hr := Subtype.property r) | fail))) <;> (first | refine wa_p 11 ?_ | fail) <;> (refine wa_do 12 ?_ <;> (repeat' (first | refine red ?_ | fail)))) <;> (refine wa_end ?_))
  rename Subtype _ => sr
  repeat' (first | refine red ?_ | fail)
  refine ⟨(_, r), by rw [‹(sureOf ar x).isSome = true›]; rfl, ?_⟩
  unfold othD
  simp only
  rw [← comp_bits hr.2 (by omega)]
  exact ent_e
instance impl_OtherAuto_ctr {Γ : List Atom} {v v0 v1 : Value} {ar : List Int} {x : SAuto} [h : HasRd (List Int) repList Γ [v] ar] [h0 : HasRd (List STrans) repList Γ [v0] x.2.1] [h1 : HasRd (List Int) repList Γ [v1] x.2.2] :
    CtrC Tryz.prog 37 [.agg #[v], .agg #[.int .i64 x.1, v0, v1]] Γ (True) (Value × Value) (fun q : Value × Value => .tuple #[.agg #[.int .i64 (othD ar x).1, q.1, q.2], .bool (sureOf ar x).isSome]) (fun q => .ow [q.1] (othD ar x).2.1 :: .ow [q.2] (othD ar x).2.2 :: Γ) := ⟨fun s w0 => impl_OtherAuto_spec⟩

end Go.Proofs.YtbbdjjlnachnlaaGreatDoor
