/- The sure automaton: the program. -/
import Derived.Test.YtbbdjjlnachnlaaGreatDoorRound
import Derived.Test.YtbbdjjlnachnlaaGreatDoorDraw6
namespace Go.Proofs.YtbbdjjlnachnlaaGreatDoor
open Go Go.Eng
set_option linter.unusedVariables false
set_option linter.unusedSimpArgs false
set_option synthInstance.maxHeartbeats 400000
set_option synthInstance.maxSize 1000
set_option maxHeartbeats 2000000
set_option maxRecDepth 20000

theorem trS_more (rs : List STrans) (ar : List Int) {s t : List (List Int)} (h : s.length ≤ t.length) : ∀ f, (trS rs ar s f).length ≤ (trS rs ar t f).length
  | 0 => Nat.le_refl _
  | f + 1 => by
    show (trR rs ar s f (trS rs ar s f) (s.length ^ arN ar f)).length ≤ (trR rs ar t f (trS rs ar t f) (t.length ^ arN ar f)).length
    rw [trR_len, trR_len]
    exact Nat.add_le_add (trS_more rs ar h f) (Nat.pow_le_pow_left h _)
theorem fixS_ge {rs : List STrans} {ar : List Int} : ∀ (k : Nat) (s t : List (List Int)), fixS rs ar k s = some t → s.length ≤ t.length
  | 0, s, t, h => by cases h
  | k + 1, s, t, h => by
    unfold fixS at h
    split at h
    · cases h
    · split at h
      · split at h
        · cases h
        · injection h with h; rw [h]; exact Nat.le_refl _
      · exact Nat.le_trans (rndS_pre rs ar s).length_le (fixS_ge k _ t h)
/-- A round that fails. -/
theorem sure_fail {ar : List Int} {x : SAuto} {k : Nat} {s : List (List Int)} (hk : fixS x.2.1 ar 17 [] = fixS x.2.1 ar (k + 1) s) (h : 16 < (rndS x.2.1 ar s).length ∨ 300 < (allT x.2.1 ar s).length) : sureOf ar x = none := by
  rcases h with h | h
  · refine sure_none ?_
    rw [hk, fixS, if_pos h]
  · cases hfx : fixS x.2.1 ar 17 [] with
    | none => exact sure_none hfx
    | some t =>
      have hge := fixS_ge _ _ _ (hk ▸ hfx)
      exact sure_many hfx (Nat.lt_of_lt_of_le h (trS_more x.2.1 ar hge ar.length))
/-- An owned list is a slice of its length. -/
theorem wc_shape {P : Program} {Q : Exit → Act → World → Prop} {w0 : World} {c : Code} {l : List Value} {Γ : List Atom} {α : Type} {iα : Rep α} (sv : Value) {xs : List α} [hr : HasRd (List α) repList Γ [sv] xs] (h : ∀ a c', sv = .slice a xs.length c' → WC P Q w0 c l Γ) : WC P Q w0 c l Γ := fun w hs => by
  obtain ⟨a, cap, hsv, _⟩ := hs.rd (hr := hr)
  simp only [List.cons.injEq, and_true] at hsv
  exact h a cap hsv w hs
section
variable {P : Program} {w0 : World} {l : List Value} {Γ : List Atom} {ty : TypeId} {T U : TypeId} {x y : Operand} {a b : Nat}
theorem pu_and32 [hx : Ev l x (.int .u32 (a : Int))] [hy : Ev l y (.int .u32 (b : Int))] (h : a < 4294967296 ∧ b < 4294967296) : Pu P w0 l Γ (.binOp .and T x y U) ty (.int .u32 ((a &&& b : Nat) : Int)) :=
  pu_bin eqGuard_int (fun w => by
    rw [binOp_and, intBits_and, u32_and_nat a b h.1 h.2, Sem.run_pure])
instance [hx : Ev l x (.int .u32 (a : Int))] [hy : Ev l y (.int .u32 (b : Int))] : PuS P l Γ (.binOp .and T x y U) ty (.int .u32 ((a &&& b : Nat) : Int)) (a < 4294967296 ∧ b < 4294967296) := ⟨fun h _ => pu_and32 h⟩
end
theorem fin_in {ar : List Int} {x : SAuto} (h : AutoP ar x) : ∀ q ∈ x.2.2, 0 ≤ q ∧ q < 16 := fun q hq => by
  obtain ⟨i, hi, rfl⟩ := List.getElem_of_mem hq
  have h1 := (h.2.2.2.1 i hi).1
  have h2 := h.2.1.2
  rw [List.getD_eq_getElem?_getD, List.getElem?_eq_getElem hi] at h1
  simp only [Option.getD_some] at h1
  omega
/-- They meet. -/
theorem meets_and {u : U32} (hu : u.n < 65536) {fs : List Int} {s : Nat} (hs : ∀ i : Nat, s.testBit i = true ↔ (i : Int) ∈ fs) (hf : ∀ q ∈ fs, 0 ≤ q ∧ q < 16) : meets (stl u) fs = true ↔ u.n &&& s ≠ 0 := by
  unfold meets
  rw [List.any_eq_true]
  constructor
  · rintro ⟨q, hq, hm⟩
    have hm := of_decide_eq_true hm
    rw [mem_stl] at hq
    intro h0
    have h1 : (u.n &&& s).testBit q.toNat = true := by
      rw [Nat.testBit_and, hq.2.2, (hs q.toNat).2 (by rw [show ((q.toNat : Nat) : Int) = q by omega]; exact hm)]; rfl
    rw [h0, Nat.zero_testBit] at h1
    cases h1
  · intro h0
    obtain ⟨i, hi⟩ := Nat.exists_testBit_of_ne_zero h0
    rw [Nat.testBit_and, Bool.and_eq_true] at hi
    have hm := (hs i).1 hi.2
    have := hf _ hm
    exact ⟨(i : Int), mem_stl.2 ⟨by omega, by omega, by rw [Int.toNat_natCast]; exact hi.1⟩, decide_eq_true hm⟩
theorem sureAuto_spec {w0 : World} {Γ : List Atom} {v v0 v1 : Value} {ar : List Int} {x : SAuto} [h : HasRd (List Int) repList Γ [v] ar] [h0 : HasRd (List STrans) repList Γ [v0] x.2.1] [h1 : HasRd (List Int) repList Γ [v1] x.2.2] (hau : AutoP ar x) :
    CJ Tryz.prog 144 [.agg #[v], .agg #[.int .i64 x.1, v0, v1]] w0 Γ (fun q : Value × Value => .tuple #[.agg #[.int .i64 (sureD ar x).1, q.1, q.2], .bool (sureOf ar x).isSome]) (fun q => .ow [q.1] (sureD ar x).2.1 :: .ow [q.2] (sureD ar x).2.2 :: Γ) := by
  refine cj_enter Tryz.func144 Tryz.ntmps144 ?_
  repeat' (first | refine red ?_ | refine redn fun b => ?_ | fail)
  refine wc_nil_ow (α := U32) (iα := repU32) ?_
  refine wc_loop_p [6] [14, 15, 16, 17, 13, 18, 19, 20, 7, 8, 9, 21, 22, 23, 24, 25, 26, 27, 28, 5, 29, 30, 31, 32, 33, 34, 35, 36, 37, 38, 10, 39, 40, 41, 42, 43, 44, 45, 11, 12, 46, 47, 48, 49, 50, 51, 52, 53, 54, 55, 56, 57, 58, 59] (ι := Value × List U32 × Nat) (fun k => [k.1]) (fun k => [.ow [k.1] k.2.1]) (fun k => RdC ar x k.2.1 ∧ 17 ≤ k.2.2 + k.2.1.length ∧ fixS x.2.1 ar 17 [] = fixS x.2.1 ar k.2.2 (k.2.1.map stl)) (fun k => 17 - k.2.1.length) (.slice none 0 0, [], 17) [.ow [.slice none 0 0] ([] : List U32)] (by kernel_rfl) ⟨⟨hau, RelU.nil, Nat.zero_le _⟩, Nat.le_refl _, rfl⟩ rfl ?_
  intro ⟨sv, ms, fuel⟩ u l' hl' ⟨hC, hfu, hfx⟩
  simp only [patch, List.map_cons, List.map_nil, List.set_cons_zero, List.set_cons_succ] at hl'
  subst hl'
  simp only [List.cons_append, List.nil_append] at hC hfu hfx ⊢
  have hl16 := hC.l16
  obtain ⟨k, rfl⟩ : ∃ k, fuel = k + 1 := ⟨fuel - 1, by omega⟩
  refine wc_shape sv (xs := ms) fun a c' hsv => ?_
  subst hsv
  repeat' (first | refine red ?_ | (refine redc fun r => ?_; try have hr := Subtype.property r) | refine redn fun b => ?_ | (refine redi (fun hc => ?_) (fun hc => ?_) <;> try first | (exfalso; omega) | with_reducible first | exact absurd rfl hc | exact absurd hc Bool.false_ne_true | exact absurd hc Bool.false_ne_true.symm) | fail)
  · have hf := sure_fail hfx (r.1.2.2 hc)
    rw [sureD_none hf, hf]
    exact ⟨(.slice none 0 0, .slice none 0 0), rfl, ent_e⟩
  · obtain ⟨⟨hrel, _⟩, _⟩ := r.1.2.1 ‹_›
    have hl := hrel.len
    have hp := (rndS_pre x.2.1 ar (ms.map stl)).length_le
    have hm0 : ms.map stl = [] := List.eq_nil_of_length_eq_zero (by omega)
    have hf : sureOf ar x = none := sure_none (by
      rw [hfx, fixS, if_neg (by omega), if_pos (by omega), if_pos hm0])
    rw [sureD_none hf, hf]
    exact ⟨(.slice none 0 0, .slice none 0 0), rfl, ent_e⟩
  · obtain ⟨⟨hrel, h16⟩, _⟩ := r.1.2.1 ‹_›
    have hl := hrel.len
    have hms : (ms.map stl).length = ms.length := List.length_map _
    refine wq_next (r.1.1.1, r.1.1.2.1, k) ⟨⟨hau, hrel.eq ▸ hrel, h16⟩, by simp only; omega, ?_⟩ (by simp only; omega) (by kernel_rfl) ent_e
    simp only
    rw [← hrel.eq, hfx, fixS, if_neg (by omega), if_neg (by omega)]
  · obtain ⟨⟨hrel, h16⟩, hall, hsame⟩ := r.1.2.1 ‹_›
    have hl := hrel.len
    have hms : (ms.map stl).length = ms.length := List.length_map _
    have hp := (rndS_pre x.2.1 ar (ms.map stl)).length_le
    obtain ⟨hs1, hs2⟩ := hsame (by omega)
    have hrn : (rndS x.2.1 ar (ms.map stl)).length = (ms.map stl).length := by omega
    rw [if_pos ‹_›, symU_all hrn, hs1, hs2]
    have hfi := fin_in hau
    rename Nat => bo
    refine wc_loop_p [41] [42, 43, 44, 45, 11, 12, 46, 47, 48, 49, 50, 51, 52, 53, 54, 55, 56, 57, 58] (ι := Value × Nat) (fun k => [.int .i64 k.2]) (fun k => [.bk bo [.int .i64 ms.length, r.2, k.1], .ow [k.1] (finN (ms.map stl) x.2.2 k.2)]) (fun k => k.2 ≤ ms.length) (fun k => ms.length - k.2) (.slice none 0 0, 0) [.bk bo [.int .i64 ms.length, r.2, .slice none 0 0], .ow [.slice none 0 0] ([] : List Int)] (by kernel_rfl) (Nat.zero_le _) rfl ?_
    intro ⟨fv, i⟩ u l' hl' hi
    simp only [patch, List.map_cons, List.map_nil, List.set_cons_zero, List.set_cons_succ] at hl'
    subst hl'
    simp only [List.cons_append, List.nil_append] at hi ⊢
    have hfn := finN_len (ms.map stl) x.2.2 i
    have hu16 : i < ms.length → (ms.getD ((i : Nat) : Int).toNat default).n < 65536 := fun hlt => by
      rw [Int.toNat_natCast, List.getD_eq_getElem?_getD, List.getElem?_eq_getElem hlt]
      exact hC.rel.sm _ (List.getElem_mem hlt)
    by_cases hlt : i < ms.length
    · have hu := hu16 hlt
      have hst : (ms.map stl).getD i default = stl (ms.getD ((i : Nat) : Int).toNat default) := by
        rw [Int.toNat_natCast, List.getD_eq_getElem?_getD, List.getD_eq_getElem?_getD, List.getElem?_map, List.getElem?_eq_getElem hlt]; rfl
      have hfs : finN (ms.map stl) x.2.2 (i + 1) = finN (ms.map stl) x.2.2 i ++ (if meets ((ms.map stl).getD i default) x.2.2 = true then [(i : Int)] else []) := rfl
      rw [hst] at hfs
      repeat' (first | refine red ?_ | refine reds ?_ | (refine redc fun r => ?_; try have hr := Subtype.property r) | refine redv fun sv => ?_ | (refine redi (fun hc => ?_) (fun hc => ?_) <;> try first | (exfalso; omega) | with_reducible first | exact absurd rfl hc | exact absurd hc Bool.false_ne_true | exact absurd hc Bool.false_ne_true.symm) | fail)
      · rw [if_pos ((meets_and hu hr.2 hfi).2 (by omega))] at hfs
        exact wq_next (sv, i + 1) (by simp only; omega) (by simp only; omega) (by kernel_rfl) (by simp only [hfs]; exact ent_e)
      · rw [if_neg (fun hm => (meets_and hu hr.2 hfi).1 hm (by omega)), List.append_nil] at hfs
        exact wq_next (fv, i + 1) (by simp only; omega) (by simp only; omega) (by kernel_rfl) (by simp only [hfs]; exact ent_e)
    · obtain rfl : i = ms.length := by omega
      have hne : ¬ ms.map stl = [] := fun h => by rw [h] at hms; simp only [List.length_nil] at hms; omega
      have hsome : fixS x.2.1 ar 17 [] = some (ms.map stl) := by rw [hfx, fixS, if_neg (by omega), if_pos (by omega), if_neg hne]
      rw [sureD_some (sure_some hau hsome hall), sure_some hau hsome hall]
      simp only [hms]
      repeat' (first | refine red ?_ | (refine redi (fun hc => ?_) (fun hc => ?_) <;> try first | (exfalso; omega) | with_reducible first | exact absurd rfl hc | exact absurd hc Bool.false_ne_true | exact absurd hc Bool.false_ne_true.symm) | fail)
      exact ⟨(_, fv), rfl, ent_e⟩
instance sureAuto_ctr {Γ : List Atom} {v v0 v1 : Value} {ar : List Int} {x : SAuto} [h : HasRd (List Int) repList Γ [v] ar] [h0 : HasRd (List STrans) repList Γ [v0] x.2.1] [h1 : HasRd (List Int) repList Γ [v1] x.2.2] :
    CtrC Tryz.prog 144 [.agg #[v], .agg #[.int .i64 x.1, v0, v1]] Γ (AutoP ar x) (Value × Value) (fun q : Value × Value => .tuple #[.agg #[.int .i64 (sureD ar x).1, q.1, q.2], .bool (sureOf ar x).isSome]) (fun q => .ow [q.1] (sureD ar x).2.1 :: .ow [q.2] (sureD ar x).2.2 :: Γ) := ⟨fun s w0 => sureAuto_spec s⟩

end Go.Proofs.YtbbdjjlnachnlaaGreatDoor
namespace Go.Proofs.YtbbdjjlnachnlaaGreatDoor
open Go Go.Eng
set_option linter.unusedVariables false
set_option linter.unusedSimpArgs false
set_option synthInstance.maxHeartbeats 400000
set_option synthInstance.maxSize 1000
set_option maxHeartbeats 2000000
set_option maxRecDepth 20000

theorem impl_SureAuto_spec {w0 : World} {Γ : List Atom} {v v0 v1 : Value} {ar : List Int} {x : SAuto} [h : HasRd (List Int) repList Γ [v] ar] [h0 : HasRd (List STrans) repList Γ [v0] x.2.1] [h1 : HasRd (List Int) repList Γ [v1] x.2.2] :
    CJ Tryz.prog 94 [.agg #[v], .agg #[.int .i64 x.1, v0, v1]] w0 Γ (fun q : Value × Value => .tuple #[.agg #[.int .i64 (sureD ar x).1, q.1, q.2], .bool (sureOf ar x).isSome]) (fun q => .ow [q.1] (sureD ar x).2.1 :: .ow [q.2] (sureD ar x).2.2 :: Γ) := by
  refine cj_enter Tryz.func94 Tryz.ntmps94 ?_
  repeat' (first | refine red ?_ | (refine redc fun r => ?_; try have hr := Subtype.property r) | refine redn fun b => ?_ | (refine redi (fun hc => ?_) (fun hc => ?_) <;> try first | (exfalso; omega) | with_reducible first | exact absurd rfl hc | exact absurd hc Bool.false_ne_true | exact absurd hc Bool.false_ne_true.symm) | fail)
  · rw [sureD_none (sure_no hc), sure_no hc]
    exact ⟨(.slice none 0 0, .slice none 0 0), rfl, ent_e⟩
  · exact ⟨r, rfl, ent_e⟩
instance impl_SureAuto_ctr {Γ : List Atom} {v v0 v1 : Value} {ar : List Int} {x : SAuto} [h : HasRd (List Int) repList Γ [v] ar] [h0 : HasRd (List STrans) repList Γ [v0] x.2.1] [h1 : HasRd (List Int) repList Γ [v1] x.2.2] :
    CtrC Tryz.prog 94 [.agg #[v], .agg #[.int .i64 x.1, v0, v1]] Γ (True) (Value × Value) (fun q : Value × Value => .tuple #[.agg #[.int .i64 (sureD ar x).1, q.1, q.2], .bool (sureOf ar x).isSome]) (fun q => .ow [q.1] (sureD ar x).2.1 :: .ow [q.2] (sureD ar x).2.2 :: Γ) := ⟨fun s w0 => impl_SureAuto_spec⟩

/-- The numbers below i that are not listed. -/
def compN (fs : List Int) : Nat → List Int
  | 0 => []
  | i + 1 => compN fs i ++ (if (i : Int) ∈ fs then [] else [(i : Int)])
theorem compN_len (fs : List Int) : ∀ i, (compN fs i).length ≤ i
  | 0 => Nat.le_refl _
  | i + 1 => by
    have := compN_len fs i
    unfold compN
    rw [List.length_append]
    split <;> simp <;> omega
/-- The other automaton. -/
noncomputable def othD (ar : List Int) (x : SAuto) : SAuto := ((sureD ar x).1, (sureD ar x).2.1, compN (sureD ar x).2.2 (sureD ar x).1.toNat)
theorem bitN_bd {m : Nat} (h : m ≤ 16) : 1 ≤ bitN m ∧ bitN m ≤ 65536 := by
  unfold bitN
  have h1 : 2 ^ m ≤ 2 ^ 16 := Nat.pow_le_pow_right (by decide) h
  have h2 : 0 < 2 ^ m := Nat.pow_pos (by decide)
  omega
theorem finN_in (sets : List (List Int)) (fs : List Int) : ∀ i, ∀ q ∈ finN sets fs i, 0 ≤ q ∧ q < (i : Int)
  | 0, q, h => by cases h
  | i + 1, q, h => by
    unfold finN at h
    rcases List.mem_append.1 h with h | h
    · have := finN_in sets fs i q h; omega
    · split at h
      · rw [List.mem_singleton] at h; omega
      · cases h
theorem sure_bd {ar : List Int} {x : SAuto} : 0 ≤ (sureD ar x).1 ∧ (sureD ar x).1 ≤ 16 ∧ ∀ q ∈ (sureD ar x).2.2, 0 ≤ q ∧ q < (sureD ar x).1 := by
  cases hso : sureOf ar x with
  | none => rw [sureD_none hso]; exact ⟨by decide, by decide, fun q h => by cases h⟩
  | some y =>
    rw [sureD_some hso]
    unfold sureOf at hso
    split at hso
    · split at hso
      · cases hso
      · rename_i sets hfx
        split at hso
        · injection hso with hso
          subst hso
          have := fixS_len 17 [] (by simp) sets hfx
          exact ⟨by simp only; omega, by simp only; omega, fun q hq => finN_in _ _ _ q hq⟩
        · cases hso
    · cases hso
section
variable {P : Program} {w0 : World} {l : List Value} {Γ : List Atom} {ty : TypeId} {T U : TypeId} {x y : Operand} {a b : Nat}
theorem pu_not32 [hx : Ev l x (.int .u32 (a : Int))] (h : a < 4294967296) : Pu P w0 l Γ (.unOp .xor T x) ty (.int .u32 ((4294967295 ^^^ a : Nat) : Int)) :=
  pu_of (s := Op.unary .xor (.int .u32 (a : Int))) (fun o ho _ => by unfold execOp; rw [ho]; simp only [hx.eq]) (fun w _ => by
    show (Op.intBits .xor .u32 (((4294967295 : Nat) : Int)) (a : Int) : Sem Value).run P w = _
    rw [intBits_xor, u32_xor_nat 4294967295 a (by decide) h, Sem.run_pure])
instance [hx : Ev l x (.int .u32 (a : Int))] : PuS P l Γ (.unOp .xor T x) ty (.int .u32 ((4294967295 ^^^ a : Nat) : Int)) (a < 4294967296) := ⟨fun h _ => pu_not32 h⟩
theorem pu_dec32 [hx : Ev l x (.int .u32 (a : Int))] [hy : Ev l y (.int .u32 1)] (h : 1 ≤ a ∧ a < 4294967296) : Pu P w0 l Γ (.binOp .sub T x y U) ty (.int .u32 ((a - 1 : Nat) : Int)) :=
  pu_bin eqGuard_int (fun w => by
    simp only [binOp, Op.intArith, ne_eq, not_true_eq_false, if_false]
    rw [show IntKind.u32.wrap ((a : Int) - 1) = ((a - 1 : Nat) : Int) from (show IntKind.u32.wrap ((a : Int) - 1) = ((a : Int) - 1) % 4294967296 from rfl).trans (by omega)]
    rfl)
theorem xor_lt {a : Nat} (h : a < 4294967296) : 4294967295 ^^^ a < 4294967296 := Nat.xor_lt_two_pow (n := 32) (by decide) h
instance (priority := 1500) [hx : Ev l x (.int .u32 ((4294967295 ^^^ a : Nat) : Int))] [hy : Ev l y (.int .u32 (b : Int))] : PuS P l Γ (.binOp .and T x y U) ty (.int .u32 (((4294967295 ^^^ a) &&& b : Nat) : Int)) (a < 4294967296 ∧ b < 4294967296) := ⟨fun h _ => pu_and32 ⟨xor_lt h.1, h.2⟩⟩
instance [hx : Ev l x (.int .u32 (a : Int))] [hy : Ev l y (.int .u32 1)] : PuS P l Γ (.binOp .sub T x y U) ty (.int .u32 ((a - 1 : Nat) : Int)) (1 ≤ a ∧ a < 4294967296) := ⟨fun h _ => pu_dec32 h⟩
end
theorem listA_spec {w0 : World} {Γ : List Atom} {a b : Nat} (hs : b < 4294967296) : CJ Tryz.prog 40 [.int .u32 ((a &&& b : Nat) : Int)] w0 Γ (fun q : Value => q) (fun q => .ow [q] (listN (a &&& b) 16) :: Γ) := by
  exact list_spec (Nat.lt_of_le_of_lt Nat.and_le_right hs)
instance listA_ctr {Γ : List Atom} {a b : Nat} :
    CtrC Tryz.prog 40 [.int .u32 ((a &&& b : Nat) : Int)] Γ (b < 4294967296) (Value) (fun q : Value => q) (fun q => .ow [q] (listN (a &&& b) 16) :: Γ) := ⟨fun s w0 => listA_spec s⟩

attribute [local instance 2000] listA_ctr
theorem comp_list {s n : Nat} {fs : List Int} (h : ∀ i : Nat, s.testBit i = true ↔ i < n ∧ (i : Int) ∉ fs) : ∀ j, listN s j = compN fs (min j n)
  | 0 => by rw [Nat.zero_min]; rfl
  | j + 1 => by
    rw [listN_succ, comp_list h j]
    by_cases hj : j < n
    · rw [Nat.min_eq_left (by omega), Nat.min_eq_left (by omega)]
      show _ = compN fs j ++ _
      congr 1
      by_cases hm : (j : Int) ∈ fs
      · rw [if_pos hm, if_neg fun h2 => ((h j).1 h2).2 hm]
      · rw [if_neg hm, if_pos ((h j).2 ⟨hj, hm⟩)]
    · rw [Nat.min_eq_right (by omega), Nat.min_eq_right (by omega), if_neg fun h2 => hj ((h j).1 h2).1, List.append_nil]
theorem comp_bits {s n : Nat} {fs : List Int} (hs : ∀ i : Nat, s.testBit i = true ↔ (i : Int) ∈ fs) (hn : n ≤ 16) : listN ((4294967295 ^^^ s) &&& bitN n - 1) 16 = compN fs n := by
  have := comp_list (s := (4294967295 ^^^ s) &&& bitN n - 1) (n := n) (fs := fs) (fun i => by
    rw [Nat.testBit_and, Nat.testBit_xor, show 4294967295 = 2 ^ 32 - 1 from rfl, Nat.testBit_two_pow_sub_one, show bitN n - 1 = 2 ^ n - 1 from rfl, Nat.testBit_two_pow_sub_one]
    have h1 := hs i
    by_cases hi : i < n
    · have h32 : i < 32 := by omega
      cases hb : s.testBit i <;> simp_all
    · simp [hi]) 16
  rw [this, Nat.min_eq_right hn]
theorem impl_OtherAuto_spec {w0 : World} {Γ : List Atom} {v v0 v1 : Value} {ar : List Int} {x : SAuto} [h : HasRd (List Int) repList Γ [v] ar] [h0 : HasRd (List STrans) repList Γ [v0] x.2.1] [h1 : HasRd (List Int) repList Γ [v1] x.2.2] :
    CJ Tryz.prog 37 [.agg #[v], .agg #[.int .i64 x.1, v0, v1]] w0 Γ (fun q : Value × Value => .tuple #[.agg #[.int .i64 (othD ar x).1, q.1, q.2], .bool (sureOf ar x).isSome]) (fun q => .ow [q.1] (othD ar x).2.1 :: .ow [q.2] (othD ar x).2.2 :: Γ) := by
  have hbd := sure_bd (ar := ar) (x := x)
  refine cj_enter Tryz.func37 Tryz.ntmps37 ?_
  repeat' (first | refine red ?_ | (refine redc fun r => ?_; try have hr := Subtype.property r) | refine redn fun b => ?_ | (refine redi (fun hc => ?_) (fun hc => ?_) <;> try first | (exfalso; omega) | with_reducible first | exact absurd rfl hc | exact absurd hc Bool.false_ne_true | exact absurd hc Bool.false_ne_true.symm) | fail)
  · have hn : sureOf ar x = none := by
      cases hso : sureOf ar x with
      | none => rfl
      | some y => rw [hso] at hc; cases hc
    have ho : othD ar x = (0, [], []) := by unfold othD; rw [sureD_none hn]; rfl
    rw [ho, hn]
    exact ⟨(.slice none 0 0, .slice none 0 0), rfl, ent_e⟩
  have hf16 : ∀ q ∈ (sureD ar x).2.2, 0 ≤ q ∧ q < 16 := fun q hq => by have := hbd.2.2 q hq; omega
  have hbit := bitN_bd (m := (sureD ar x).1.toNat) (by omega)
  ((refine wa_begin 4 [false, false, false, false, false, false, false, false, false, false, false, false, false] [12] ?_ <;> (first | refine wa_p 0 ?_ | fail) <;> (first | refine wa_p 1 ?_ | fail) <;> (first | refine wa_p 4 ?_ | fail) <;> (first | refine wa_p 5 ?_ | fail) <;> (first | refine wa_p 6 ?_ | fail) <;> (first | refine wa_p 7 ?_ | fail) <;> (first | refine wa_p 8 ?_ | fail) <;> (refine wa_do 2 ?_ <;> (repeat' (first | refine red ?_ | (refine redc fun r => ?_; try have hr := Subtype.property r) | fail))) <;> (first | refine wa_p 3 ?_ | fail) <;> (first | refine wa_p 9 ?_ | fail) <;> (refine wa_do 10 ?_ <;> (repeat' (first | refine red ?_ | (refine redc fun r => ?_; try have hr := Subtype.property r) | fail))) <;> (first | refine wa_p 11 ?_ | fail) <;> (refine wa_do 12 ?_ <;> (repeat' (first | refine red ?_ | fail)))) <;> (refine wa_end ?_))
  rename Subtype _ => sr
  repeat' (first | refine red ?_ | fail)
  refine ⟨(_, r), by rw [‹(sureOf ar x).isSome = true›]; rfl, ?_⟩
  unfold othD
  simp only
  rw [← comp_bits hr.2 (by omega)]
  exact ent_e
instance impl_OtherAuto_ctr {Γ : List Atom} {v v0 v1 : Value} {ar : List Int} {x : SAuto} [h : HasRd (List Int) repList Γ [v] ar] [h0 : HasRd (List STrans) repList Γ [v0] x.2.1] [h1 : HasRd (List Int) repList Γ [v1] x.2.2] :
    CtrC Tryz.prog 37 [.agg #[v], .agg #[.int .i64 x.1, v0, v1]] Γ (True) (Value × Value) (fun q : Value × Value => .tuple #[.agg #[.int .i64 (othD ar x).1, q.1, q.2], .bool (sureOf ar x).isSome]) (fun q => .ow [q.1] (othD ar x).2.1 :: .ow [q.2] (othD ar x).2.2 :: Γ) := ⟨fun s w0 => impl_OtherAuto_spec⟩

end Go.Proofs.YtbbdjjlnachnlaaGreatDoor
