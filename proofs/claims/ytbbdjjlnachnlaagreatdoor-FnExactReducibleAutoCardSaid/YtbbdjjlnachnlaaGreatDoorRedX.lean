/- The automaton of what can be reduced: the program and the reference. -/
import Derived.Test.YtbbdjjlnachnlaaGreatDoorSurU
import Derived.Test.YtbbdjjlnachnlaaGreatDoorOthI
import Derived.Test.YtbbdjjlnachnlaaGreatDoorNumG
import Derived.LaidSub
import Derived.MakeChecks
namespace Go.Proofs.YtbbdjjlnachnlaaGreatDoor
open Go Go.Eng
set_option linter.unusedVariables false
set_option linter.unusedSimpArgs false
set_option synthInstance.maxHeartbeats 400000
set_option synthInstance.maxSize 1000
set_option maxHeartbeats 0
set_option maxRecDepth 20000


/-- The automaton, if there is one. -/
noncomputable def redD (x : SSystem) : SAuto := if (normA x).isSome = true then othD x.1 (normD x) else (0, [], [])
noncomputable def redF (x : SSystem) : Bool := (normA x).isSome && (sureOf x.1 (normD x)).isSome
theorem redD_yes {x : SSystem} (h : (normA x).isSome = true) : redD x = othD x.1 (normD x) := if_pos h
theorem redD_no {x : SSystem} (h : (normA x).isSome = false) : redD x = (0, [], []) := if_neg (by rw [h]; decide)
theorem redF_yes {x : SSystem} (h : (normA x).isSome = true) : redF x = (sureOf x.1 (normD x)).isSome := by unfold redF; rw [h]; rfl
theorem redF_no {x : SSystem} (h : (normA x).isSome = false) : redF x = false := by unfold redF; rw [h]; rfl
theorem impl_ReducibleAuto_spec {w0 : World} {Γ : List Atom} {v0 v1 : Value} {x : SSystem} [h0 : HasRd (List Int) repList Γ [v0] x.1] [h1 : HasRd (List SRule) repList Γ [v1] x.2] [ht : HasRd (Tab) repTab Γ [tabV] (Tab.mk Lib.pow10Tab)] :
    CJ Tryz.prog 10 [.agg #[v0, v1]] w0 Γ (fun q : Value × Value => .tuple #[.agg #[.int .i64 (redD x).1, q.1, q.2], .bool (redF x)]) (fun q => .ow [q.1] (redD x).2.1 :: .ow [q.2] (redD x).2.2 :: Γ) := by
  refine cj_lift (R := [.rd [v0] x.1, .rd [v1] x.2, .rd [tabV] (Tab.mk Lib.pow10Tab)]) (A := fun q : Value × Value => [.ow [q.1] (redD x).2.1, .ow [q.2] (redD x).2.2]) (fun w1 => ?_) (reads_cons h0 (reads_cons h1 (reads_cons ht (inferInstance)))) (fun _ => inferInstance)
  simp only [List.cons_append, List.nil_append]
  refine cj_enter Tryz.func10 Tryz.ntmps10 ?_
  repeat' (first | refine red ?_ | (refine redc fun r => ?_; try have hr := Subtype.property r) | refine redn fun b => ?_ | (refine redi (fun hc => ?_) (fun hc => ?_) <;> try first | (exfalso; omega) | with_reducible first | exact absurd rfl hc | exact absurd hc Bool.false_ne_true | exact absurd hc Bool.false_ne_true.symm) | fail)
  all_goals first
    | (have hs : (normA x).isSome = true := by assumption
       rw [redD_yes hs, redF_yes hs]
       exact ⟨r, rfl, ent_e⟩)
    | (have hs : (normA x).isSome = false := by assumption
       rw [redD_no hs, redF_no hs]
       exact ⟨(.slice none 0 0, .slice none 0 0), rfl, ent_e⟩)
instance impl_ReducibleAuto_ctr {Γ : List Atom} {v0 v1 : Value} {x : SSystem} [h0 : HasRd (List Int) repList Γ [v0] x.1] [h1 : HasRd (List SRule) repList Γ [v1] x.2] [ht : HasRd (Tab) repTab Γ [tabV] (Tab.mk Lib.pow10Tab)] :
    CtrC Tryz.prog 10 [.agg #[v0, v1]] Γ (True) (Value × Value) (fun q : Value × Value => .tuple #[.agg #[.int .i64 (redD x).1, q.1, q.2], .bool (redF x)]) (fun q => .ow [q.1] (redD x).2.1 :: .ow [q.2] (redD x).2.2 :: Γ) := ⟨fun s w0 => impl_ReducibleAuto_spec⟩

theorem spec_ReducibleAuto_spec {w0 : World} {Γ : List Atom} {v0 v1 : Value} {x : SSystem} [h0 : HasRd (List Int) repList Γ [v0] x.1] [h1 : HasRd (List SRule) repList Γ [v1] x.2] :
    CJ Tryz.prog 22 [.agg #[v0, v1]] w0 Γ (fun q : Value × Value => .tuple #[.agg #[.int .i64 (redD x).1, q.1, q.2], .bool (redF x)]) (fun q => .ow [q.1] (redD x).2.1 :: .ow [q.2] (redD x).2.2 :: Γ) := by
  refine cj_lift (R := [.rd [v0] x.1, .rd [v1] x.2]) (A := fun q : Value × Value => [.ow [q.1] (redD x).2.1, .ow [q.2] (redD x).2.2]) (fun w1 => ?_) (reads_cons h0 (reads_cons h1 (inferInstance))) (fun _ => inferInstance)
  simp only [List.cons_append, List.nil_append]
  refine cj_enter Tryz.func22 Tryz.ntmps22 ?_
  repeat' (first | refine red ?_ | (refine redc fun r => ?_; try have hr := Subtype.property r) | refine redn fun b => ?_ | (refine redi (fun hc => ?_) (fun hc => ?_) <;> try first | (exfalso; omega) | with_reducible first | exact absurd rfl hc | exact absurd hc Bool.false_ne_true | exact absurd hc Bool.false_ne_true.symm) | fail)
  all_goals first
    | (have hs : (normA x).isSome = true := by assumption
       rw [redD_yes hs, redF_yes hs]
       exact ⟨r, rfl, ent_e⟩)
    | (have hs : (normA x).isSome = false := by assumption
       rw [redD_no hs, redF_no hs]
       exact ⟨(.slice none 0 0, .slice none 0 0), rfl, ent_e⟩)
instance spec_ReducibleAuto_ctr {Γ : List Atom} {v0 v1 : Value} {x : SSystem} [h0 : HasRd (List Int) repList Γ [v0] x.1] [h1 : HasRd (List SRule) repList Γ [v1] x.2] :
    CtrC Tryz.prog 22 [.agg #[v0, v1]] Γ (True) (Value × Value) (fun q : Value × Value => .tuple #[.agg #[.int .i64 (redD x).1, q.1, q.2], .bool (redF x)]) (fun q => .ow [q.1] (redD x).2.1 :: .ow [q.2] (redD x).2.2 :: Γ) := ⟨fun s w0 => spec_ReducibleAuto_spec⟩

end Go.Proofs.YtbbdjjlnachnlaaGreatDoor
namespace Go.Proofs.YtbbdjjlnachnlaaGreatDoor
open Go Go.Eng
set_option linter.unusedVariables false
set_option linter.unusedSimpArgs false
set_option maxRecDepth 20000
theorem sumL_tr {m : Nat} : ∀ (xs : List STrans), (∀ t ∈ xs, t.2.1.length ≤ m) → sumL xs ≤ m * xs.length
  | [], _ => Nat.zero_le _
  | x :: xs, h => by
    have h1 := h x List.mem_cons_self
    have h2 := sumL_tr xs fun t ht => h t (List.mem_cons_of_mem _ ht)
    have h3 : Siz.size x = x.2.1.length := by
      rw [siz_pair, siz_pair, siz_ints]
      show 0 + (x.2.1.length + 0) = _
      omega
    simp only [sumL, List.length_cons, Nat.mul_add, Nat.mul_one]
    omega
theorem snoc_len {xs : List STrans} {t : STrans} {m : Nat} (h : ∀ t ∈ xs, t.2.1.length ≤ m) (ht : t.2.1.length ≤ m) : ∀ u ∈ xs ++ [t], u.2.1.length ≤ m := fun u hu => by
  rcases List.mem_append.1 hu with hu | hu
  · exact h u hu
  · rw [List.mem_singleton] at hu; rw [hu]; exact ht
theorem trR_args {rs : List STrans} {ar : List Int} {sets : List (List Int)} {f : Nat} {out : List STrans} (h : ∀ t ∈ out, t.2.1.length ≤ 10) (hf : arN ar f ≤ 10) : ∀ i, ∀ t ∈ trR rs ar sets f out i, t.2.1.length ≤ 10
  | 0 => h
  | i + 1 => snoc_len (trR_args h hf i) (by rw [dig_len]; exact hf)
theorem trS_args {rs : List STrans} {ar : List Int} {sets : List (List Int)} (hs : sigOk ar = true) : ∀ f, f ≤ ar.length → ∀ t ∈ trS rs ar sets f, t.2.1.length ≤ 10
  | 0, _ => fun t ht => by cases ht
  | f + 1, hf => trR_args (trS_args hs f (by omega)) (by have := sig_el hs (f := f) (by omega); unfold arN; omega) _
theorem sureD_args (ar : List Int) (x : SAuto) : (sureD ar x).2.1.length ≤ 300 ∧ ∀ t ∈ (sureD ar x).2.1, t.2.1.length ≤ 10 := by
  unfold sureD sureOf
  split
  · rename_i hau
    cases h : fixS x.2.1 ar 17 [] with
    | none => exact ⟨Nat.zero_le _, fun t ht => by cases ht⟩
    | some sets =>
      simp only
      split
      · exact ⟨by simpa using ‹_›, trS_args (decC_iff.1 hau).1 _ (Nat.le_refl _)⟩
      · exact ⟨Nat.zero_le _, fun t ht => by cases ht⟩
  · exact ⟨Nat.zero_le _, fun t ht => by cases ht⟩
theorem othD_cnt (ar : List Int) (x : SAuto) : cntL (othD ar x).2.1 ≤ 100000 ∧ cntL (othD ar x).2.2 ≤ 100 := by
  obtain ⟨h1, h2⟩ := sureD_args ar x
  have h3 := sumL_tr _ h2
  have h4 := cntL_le (sureD ar x).2.1
  rw [siz_list] at h4
  have h5 := compN_len (sureD ar x).2.2 (sureD ar x).1.toNat
  have h6 := sure_bd (ar := ar) (x := x)
  refine ⟨?_, ?_⟩
  · show cntL (sureD ar x).2.1 ≤ _
    omega
  · rw [cntL_ints]
    show (compN (sureD ar x).2.2 (sureD ar x).1.toNat).length ≤ _
    omega
end Go.Proofs.YtbbdjjlnachnlaaGreatDoor
namespace Go.Proofs.YtbbdjjlnachnlaaGreatDoor
open Go Go.Eng
set_option linter.unusedVariables false
set_option linter.unusedSimpArgs false
set_option maxRecDepth 20000
/-- The table stands in memory where the row lists it. -/
theorem tab_rd {W : World} {l : List (String × DataW Unit)} (h : laidMetH Tryz.prog l W) (hl : (l.filter fun x => x.1 == "internal/strconv.uint64pow10") = [("internal/strconv.uint64pow10", Lib.tabData .u64 Lib.pow10Tab)]) :
    @Rep.rd Tab repTab (fun _ => True) W [tabV] (Tab.mk Lib.pow10Tab) := by
  have h1 := h.filter fun x => x.1 == "internal/strconv.uint64pow10"
  rw [hl, MakeChecks.laidMetH_plain _ _ _ (by kernel_rfl)] at h1
  have h2 := Lib.tabIs_of_head (P := Tryz.prog) (W := W) (name := "internal/strconv.uint64pow10") (k := .u64) (zs := Lib.pow10Tab) (rest := []) (g := 0) tab_named (t := 244) (e := 198) (n := 20) (by kernel_rfl) (by kernel_rfl) (by kernel_rfl) (by kernel_rfl) (by kernel_rfl) h1
  unfold Lib.TabIs World.var? at h2
  rw [tab_named] at h2
  simp only [Option.bind_some] at h2
  split at h2
  · rename_i cs e fz he
    exact ⟨0, e, fz, rfl, trivial, by rw [he]; simp only [Option.some.injEq] at h2; rw [h2]⟩
  · exact absurd h2 (by simp)
end Go.Proofs.YtbbdjjlnachnlaaGreatDoor
namespace Go.Proofs.YtbbdjjlnachnlaaGreatDoor
open Go Go.Eng
set_option linter.unusedVariables false
set_option linter.unusedSimpArgs false
set_option synthInstance.maxHeartbeats 400000
set_option synthInstance.maxSize 1000
set_option maxHeartbeats 0
set_option maxRecDepth 20000

theorem redD_cnt (x : SSystem) : cntL (redD x).2.1 ≤ 100000 ∧ cntL (redD x).2.2 ≤ 100 := by
  unfold redD
  split
  · exact othD_cnt _ _
  · exact ⟨Nat.zero_le _, Nat.zero_le _⟩
set_option maxHeartbeats 0 in
set_option synthInstance.maxHeartbeats 400000 in
set_option synthInstance.maxSize 1000 in
theorem FnExactReducibleAuto_law {w0 : World} {Γ : List Atom} {x0 : SSystem} {v0_0 v0_1 : Value} [h0_0 : HasRd (List Int) repList Γ [v0_0] x0.1] [h0_1 : HasRd (List SRule) repList Γ [v0_1] x0.2] [htab : HasRd (Tab) repTab Γ [tabV] (Tab.mk Lib.pow10Tab)] (hf0 : (x0.1.length ≤ 9223372036854775807) ∧ x0.2.length ≤ 9223372036854775807) :
    CJ Tryz.prog 5 [.agg #[v0_0, v0_1]] w0 Γ (fun _ : Unit => .bool true) (fun _ => Γ) := by
  have hz0 := lft_spec 1048576 (Siz.size x0)
  have hs0 : Siz.size x0 = Siz.size x0.1 + Siz.size x0.2 := by simp only [siz_pair, siz_int, siz_bool, siz_str] <;> omega
  have hb0_0 := cntL_le x0.1
  have hl0_0 := siz_ints x0.1
  have hb0_1 := cntL_le x0.2
  have hn : cntL (redD x0).2.1 ≤ 100000 ∧ cntL (redD x0).2.2 ≤ 100 := redD_cnt x0
  refine cj_enter Tryz.func5 Tryz.ntmps5 ?_
  repeat' (first | refine red ?_ | refine redc fun r => ?_ | refine redn fun b => ?_ | (refine redi (fun hc => ?_) (fun hc => ?_) <;> try first | (exfalso; omega) | with_reducible first | exact absurd rfl hc | exact absurd hc Bool.false_ne_true | exact absurd hc Bool.false_ne_true.symm) | ((refine wa_begin 10 [false, false, false, false, false] [] ?_ <;> (first | refine wa_p 0 ?_ | fail) <;> (first | refine wa_p 1 ?_ | fail) <;> (refine wa_do 2 ?_ <;> (repeat' (first | refine red ?_ | refine redc fun r => ?_ | fail))) <;> (refine wa_do 3 ?_ <;> (repeat' (first | refine red ?_ | refine redc fun r => ?_ | fail))) <;> (first | refine wa_p 4 ?_ | fail)) <;> (refine wa_end ?_)) | fail)
  all_goals exact ⟨(), rfl, ent_e⟩

end Go.Proofs.YtbbdjjlnachnlaaGreatDoor
