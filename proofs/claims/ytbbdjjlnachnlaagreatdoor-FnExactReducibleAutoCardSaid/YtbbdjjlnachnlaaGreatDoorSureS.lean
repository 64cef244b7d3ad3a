/- The sure automaton: the reference's side. -/
import Derived.Test.YtbbdjjlnachnlaaGreatDoorSetS
namespace Go.Proofs.YtbbdjjlnachnlaaGreatDoor
open Go Go.Eng
set_option linter.unusedVariables false
set_option linter.unusedSimpArgs false
set_option synthInstance.maxHeartbeats 400000
set_option synthInstance.maxSize 1000
set_option maxRecDepth 20000
abbrev SetT (rs : List STrans) (ar : List Int) : Type := { p : List (List Int) // ∀ s, fixS rs ar 17 [] = some s → p = s }
theorem fixS_none {rs : List STrans} {ar : List Int} {k : Nat} {s : List (List Int)} (hk : 1 ≤ k) (h : 16 < (rndS rs ar s).length) : fixS rs ar k s = none := by
  obtain ⟨j, rfl⟩ : ∃ j, k = j + 1 := ⟨k - 1, by omega⟩
  unfold fixS; rw [if_pos h]
theorem fixS_same {rs : List STrans} {ar : List Int} {k : Nat} {s : List (List Int)} (hk : 1 ≤ k) (h : (rndS rs ar s).length ≤ 16) (he : (rndS rs ar s).length = s.length) : fixS rs ar k s = if s = [] then none else some s := by
  obtain ⟨j, rfl⟩ : ∃ j, k = j + 1 := ⟨k - 1, by omega⟩
  unfold fixS; rw [if_neg (by omega), if_pos he]
theorem fixS_next {rs : List STrans} {ar : List Int} {k : Nat} {s : List (List Int)} (hk : 1 ≤ k) (h : (rndS rs ar s).length ≤ 16) (he : ¬ (rndS rs ar s).length = s.length) : fixS rs ar k s = fixS rs ar (k - 1) (rndS rs ar s) := by
  obtain ⟨j, rfl⟩ : ∃ j, k = j + 1 := ⟨k - 1, by omega⟩
  conv => lhs; unfold fixS
  rw [if_neg (by omega), if_neg he]; rfl
theorem l23Sets_spec {w0 : World} {Γ : List Atom} {v v0 v1 : Value} {ar : List Int} {x : SAuto} [h : HasRd (List Int) repList Γ [v] ar] [h0 : HasRd (List STrans) repList Γ [v0] x.2.1] [h1 : HasRd (List Int) repList Γ [v1] x.2.2] (hau : AutoP ar x) :
    CJ Tryz.prog 158 [.agg #[v], .agg #[.int .i64 x.1, v0, v1]] w0 Γ (fun q : Value × SetT x.2.1 ar => .tuple #[q.1, .bool (fixS x.2.1 ar 17 []).isSome]) (fun q => .rd [q.1] q.2.1 :: Γ) := by
  refine cj_enter Tryz.func158 Tryz.ntmps158 ?_
  repeat' (first | refine red ?_ | refine redv fun sv => ?_ | refine redn fun b => ?_ | fail)
  refine wc_share sv ?_
  refine wc_loop_p [6] [11, 12, 13, 14, 10, 15, 16, 7, 8, 17, 18, 19, 4, 5, 20, 21, 22, 23, 24, 25, 26, 27, 28, 29] (ι := Value × List (List Int) × Nat) (fun k => [k.1]) (fun k => [.rd [k.1] k.2.1]) (fun k => k.2.1.length ≤ 16 ∧ 17 ≤ k.2.2 + k.2.1.length ∧ fixS x.2.1 ar k.2.2 k.2.1 = fixS x.2.1 ar 17 []) (fun k => 16 - k.2.1.length) (sv, [], 17) [.rd [sv] ([] : List (List Int))] (by kernel_rfl) ⟨by simp, by simp, rfl⟩ rfl ?_
  intro ⟨sw, s, k⟩ u l' hl' ⟨hs, hk, he⟩
  simp only [patch, List.map_cons, List.map_nil, List.set_cons_zero, List.set_cons_succ] at hl'
  subst hl'
  simp only [List.cons_append, List.nil_append] at hs hk he ⊢
  have hpre := (rndS_pre x.2.1 ar s).length_le
  have hcnd : AutoP ar x ∧ s.length ≤ 16 := ⟨hau, hs⟩
  repeat' (first | refine red ?_ | refine redc fun r => ?_ | (refine redi (fun hc => ?_) (fun hc => ?_) <;> try first | (exfalso; omega) | exact absurd rfl hc) | fail)
  · have h5 := fixS_none (rs := x.2.1) (ar := ar) (k := k) (s := s) (by omega) (r.2.2.2 hc)
    rw [he] at h5
    refine ⟨(r.1, ⟨r.2.1.1, fun s hs => by rw [h5] at hs; cases hs⟩), ?_, ent_e⟩
    show Value.tuple #[r.1, .bool (fixS x.2.1 ar 17 []).isSome] = _
    rw [h5]; rfl
  · rename_i hc1
    have h6 := r.2.2.1 hc1
    have h5 := fixS_same (rs := x.2.1) (ar := ar) (k := k) (s := s) (by omega) (by rw [← h6.1]; exact h6.2) (by rw [← h6.1]; omega)
    rw [he] at h5
    refine ⟨(sw, ⟨s, fun s' hs' => by rw [h5] at hs'; split at hs'; cases hs'; injection hs'⟩), ?_, ent_e⟩
    show Value.tuple #[sw, .bool (fixS x.2.1 ar 17 []).isSome] = _
    rw [h5]
    by_cases h7 : s = []
    · rw [if_pos h7, h7]; rfl
    · rw [if_neg h7, decide_eq_true (by have := List.length_pos_iff.2 h7; omega)]; rfl
  · rename_i hc1
    have h6 := r.2.2.1 hc1
    have h5 := fixS_next (rs := x.2.1) (ar := ar) (k := k) (s := s) (by omega) (by rw [← h6.1]; exact h6.2) (by rw [← h6.1]; omega)
    have h8 : r.2.1.1.length = (rndS x.2.1 ar s).length := by rw [h6.1]
    exact wq_next (r.1, r.2.1.1, k - 1) ⟨h6.2, by simp only; omega, by simp only; rw [h6.1, ← h5, he]⟩ (by simp only; omega) (by kernel_rfl) ent_e
instance l23Sets_ctr {Γ : List Atom} {v v0 v1 : Value} {ar : List Int} {x : SAuto} [h : HasRd (List Int) repList Γ [v] ar] [h0 : HasRd (List STrans) repList Γ [v0] x.2.1] [h1 : HasRd (List Int) repList Γ [v1] x.2.2] :
    CtrC Tryz.prog 158 [.agg #[v], .agg #[.int .i64 x.1, v0, v1]] Γ (AutoP ar x) (Value × SetT x.2.1 ar) (fun q : Value × SetT x.2.1 ar => .tuple #[q.1, .bool (fixS x.2.1 ar 17 []).isSome]) (fun q => .rd [q.1] q.2.1 :: Γ) := ⟨fun s w0 => l23Sets_spec s⟩

theorem l23Meets_spec {w0 : World} {Γ : List Atom} {v v1 : Value} {xs ys : List Int} [h : HasRd (List Int) repList Γ [v] xs] [h1 : HasRd (List Int) repList Γ [v1] ys] : CJ Tryz.prog 159 [v, v1] w0 Γ (fun _ : Unit => .bool (meets xs ys)) (fun _ => Γ) := by
  refine cj_lift (R := [.rd [v] xs, .rd [v1] ys]) (A := fun _ => []) (fun w1 => ?_) (reads_cons h (reads_cons h1 (inferInstance))) (fun _ => inferInstance)
  simp only [List.cons_append, List.nil_append]
  refine cj_len v fun hlx => ?_
  refine cj_enter Tryz.func159 Tryz.ntmps159 ?_
  repeat' (first | refine red ?_ | fail)
  refine wc_loop_c [5] [6, 7, 8, 9, 12, 13, 14, 15, 16, 17, 4, 10, 11] (ι := Nat) (fun k => [.int .i64 k]) (fun k => k ≤ xs.length ∧ ∀ q ∈ xs.take k, q ∉ ys) (fun k => xs.length - k) 0 (by kernel_rfl) ⟨Nat.zero_le _, by simp⟩ ?_
  intro k u l' hl' ⟨hk, hkk⟩
  simp only [patch, List.map_cons, List.map_nil, List.set_cons_zero, List.set_cons_succ] at hl'
  subst hl'
  repeat' (first | refine red ?_ | refine redf fun hbi => ?_ | refine reds ?_ | refine redc fun r => ?_ | (refine redi (fun hc => ?_) (fun hc => ?_) <;> try first | (exfalso; omega) | exact absurd rfl hc) | fail)
  · refine ⟨(), ret_bool ?_, ent_e⟩
    unfold meets
    rw [List.any_eq_true]
    exact ⟨_, getK (k := k) (by omega), decide_eq_true hc⟩
  · refine wq_next (k + 1) ⟨by omega, fun q hq => ?_⟩ (by omega) (by kernel_rfl) ent_e
    rcases (mem_take_succK (by omega)).1 hq with h | h
    · rw [h]; exact hc
    · exact hkk q h
  · refine ⟨(), ret_bool ?_, ent_e⟩
    unfold meets
    rw [List.any_eq_false]
    intro q hq
    rw [List.take_of_length_le (by omega)] at hkk
    rw [decide_eq_true_iff]
    exact hkk q hq
instance l23Meets_ctr {Γ : List Atom} {v v1 : Value} {xs ys : List Int} [h : HasRd (List Int) repList Γ [v] xs] [h1 : HasRd (List Int) repList Γ [v1] ys] :
    CtrC Tryz.prog 159 [v, v1] Γ (True) (Unit) (fun _ : Unit => .bool (meets xs ys)) (fun _ => Γ) := ⟨fun s w0 => l23Meets_spec⟩

theorem place_bd (xs : List (List Int)) (t : List Int) : -1 ≤ placeOf xs t ∧ placeOf xs t < xs.length := by
  unfold placeOf
  split
  · rename_i h
    have := List.idxOf_lt_length_of_mem h
    omega
  · omega
noncomputable def sureD (ar : List Int) (x : SAuto) : SAuto := (sureOf ar x).getD (0, [], [])
theorem sureD_none {ar : List Int} {x : SAuto} (h : sureOf ar x = none) : sureD ar x = (0, [], []) := by unfold sureD; rw [h]; rfl
theorem sureD_some {ar : List Int} {x y : SAuto} (h : sureOf ar x = some y) : sureD ar x = y := by unfold sureD; rw [h]; rfl
theorem SureAuto_spec {w0 : World} {Γ : List Atom} {v v0 v1 : Value} {ar : List Int} {x : SAuto} [h : HasRd (List Int) repList Γ [v] ar] [h0 : HasRd (List STrans) repList Γ [v0] x.2.1] [h1 : HasRd (List Int) repList Γ [v1] x.2.2] :
    CJ Tryz.prog 115 [.agg #[v], .agg #[.int .i64 x.1, v0, v1]] w0 Γ (fun q : Value × Value => .tuple #[.agg #[.int .i64 (sureD ar x).1, q.1, q.2], .bool (sureOf ar x).isSome]) (fun q => .ow [q.1] (sureD ar x).2.1 :: .ow [q.2] (sureD ar x).2.2 :: Γ) := by
  refine cj_lift (R := [.rd [v] ar, .rd [v0] x.2.1, .rd [v1] x.2.2]) (A := fun q : Value × Value => [.ow [q.1] (sureD ar x).2.1, .ow [q.2] (sureD ar x).2.2]) (fun w1 => ?_) (reads_cons h (reads_cons h0 (reads_cons h1 inferInstance))) (fun _ => inferInstance)
  simp only [List.cons_append, List.nil_append]
  by_cases hau : AutoP ar x
  · have hsg := sigOk_len hau.1
    cases hfx : fixS x.2.1 ar 17 [] with
    | none =>
      rw [sureD_none (sure_none hfx), sure_none hfx]
      refine cj_enter Tryz.func115 Tryz.ntmps115 ?_
      repeat' (first | refine red ?_ | refine redc fun r => ?_ | refine redn fun b => ?_ | (refine redi (fun hc => ?_) (fun hc => ?_) <;> try first | (exfalso; omega) | exact absurd rfl hc) | fail)
      · exact absurd hau hc
      · exact ⟨(.slice none 0 0, .slice none 0 0), rfl, ent_e⟩
      · exact absurd hc (by rw [hfx]; simp)
    | some sets =>
      obtain ⟨hn1, hn16⟩ := fixS_len 17 [] (by simp) sets hfx
      refine cj_enter Tryz.func115 Tryz.ntmps115 ?_
      repeat' (first | refine red ?_ | refine redc fun r => ?_ | refine redn fun b => ?_ | (refine redi (fun hc => ?_) (fun hc => ?_) <;> try first | (exfalso; omega) | exact absurd rfl hc) | fail)
      · exact absurd hau hc
      · exact absurd hc (by rw [hfx]; simp)
      obtain ⟨vs, sets', hsets⟩ := r
      obtain rfl := hsets sets hfx
      have hnil : Atom.ow [.slice none 0 0] ([] : List STrans) = Atom.ow [.slice none 0 0] (trS x.2.1 ar sets' 0) := rfl
      refine wc_loop_p [10] [33, 34, 35, 36, 37, 40, 41, 42, 43, 44, 45, 11, 12, 46, 53, 54, 55, 56, 57, 5, 58, 59, 60, 61, 62, 63, 64, 65, 13, 66, 67, 68, 69, 70, 71, 72, 73, 74, 75, 48, 49, 50, 47, 51, 52, 38, 39] (ι := Value × Nat) (fun k => [.int .i64 k.2]) (fun k => [.bk b [.int .i64 sets'.length, k.1, .slice none 0 0], .ow [k.1] (trS x.2.1 ar sets' k.2)]) (fun k => k.2 ≤ ar.length ∧ (trS x.2.1 ar sets' k.2).length ≤ 300) (fun k => ar.length - k.2) (.slice none 0 0, 0) [.bk b [.int .i64 sets'.length, .slice none 0 0, .slice none 0 0], .ow [.slice none 0 0] ([] : List STrans)] (by kernel_rfl) ⟨Nat.zero_le _, Nat.zero_le _⟩ rfl ?_
      intro ⟨rv, f⟩ u l' hl' ⟨hf, hfl⟩
      simp only [patch, List.map_cons, List.map_nil, List.set_cons_zero, List.set_cons_succ] at hl'
      subst hl'
      simp only [List.cons_append, List.nil_append] at hf hfl ⊢
      by_cases hfa : f < ar.length
      · obtain ⟨hf0, hf3⟩ := sig_el hau.1 hfa
        have harN : ar.getD f 0 = ((arN ar f : Nat) : Int) := by unfold arN; omega
        have hARi : ARi ar x f := ⟨hau, hfa⟩
        have hpos : 0 < sets'.length ^ arN ar f := Nat.pow_pos (by omega)
        have hnk : sets'.length ^ arN ar f ≤ 4096 := by
          have h1 : arN ar f ≤ 3 := by omega
          have h2 : sets'.length ^ arN ar f ≤ 16 ^ arN ar f := Nat.pow_le_pow_left hn16 _
          have h3 : 16 ^ arN ar f ≤ 16 ^ 3 := Nat.pow_le_pow_right (by decide) h1
          have h4 : 16 ^ 3 = 4096 := rfl
          omega
        repeat' (first | refine red ?_ | refine redf fun hbi => ?_ | refine reds ?_ | refine redv fun sv => ?_ | (refine redi (fun hc => ?_) (fun hc => ?_) <;> try first | (exfalso; omega) | exact absurd rfl hc) | fail)
        refine wc_loop_p [11, 12] [46, 53, 54, 55, 56, 57, 5, 58, 59, 60, 61, 62, 63, 64, 65, 13, 66, 67, 68, 69, 70, 71, 72, 73, 74, 75, 48, 49, 50, 47, 51, 52] (ι := Value × Value × Nat) (fun k => [k.2.1, .bool (decide (k.2.2 < sets'.length ^ arN ar f))]) (fun k => [.bk b [.int .i64 sets'.length, k.1, .slice none 0 0], .ow [k.1] (trR x.2.1 ar sets' f (trS x.2.1 ar sets' f) k.2.2), .ow [k.2.1] (if k.2.2 < sets'.length ^ arN ar f then dig sets'.length (arN ar f) k.2.2 else List.replicate (arN ar f) (0 : Int))]) (fun k => k.2.2 ≤ sets'.length ^ arN ar f ∧ (trR x.2.1 ar sets' f (trS x.2.1 ar sets' f) k.2.2).length ≤ 300) (fun k => sets'.length ^ arN ar f - k.2.2) (rv, sv, 0) [.bk b [.int .i64 sets'.length, rv, .slice none 0 0], .ow [rv] (trS x.2.1 ar sets' f), .ow [sv] (List.replicate (ar.getD f 0).toNat (0 : Int))] (by simp only [decide_eq_true hpos]; kernel_rfl) ⟨Nat.zero_le _, hfl⟩ (by simp only [if_pos hpos, dig_zero]; rfl) ?_
        intro ⟨rv, lv, i⟩ u l' hl' ⟨hi, hil⟩
        simp only [patch, List.map_cons, List.map_nil, List.set_cons_zero, List.set_cons_succ] at hl'
        subst hl'
        simp only [List.cons_append, List.nil_append] at hi hil ⊢
        have htl := trR_len x.2.1 ar sets' f (trS x.2.1 ar sets' f) i
        by_cases hlt : i < sets'.length ^ arN ar f
        · simp only [if_pos hlt, decide_eq_true hlt]
          have hdl := dig_len sets'.length (arN ar f) i
          have himg := hARi.img (sets := sets') hdl
          have hls : (dig sets'.length (arN ar f) i).length ≤ 10 ∧ ∀ q ∈ dig sets'.length (arN ar f) i, 0 ≤ q ∧ q < sets'.length := ⟨by omega, dig_el hlt⟩
          have hnx : NxL sets'.length (arN ar f) i := ⟨by omega, dig_pow hlt, by omega, hlt⟩
          have hra := row_all (rs := x.2.1) (sets := sets') hfa (i := i + 1) (by omega)
          repeat' (first | refine red ?_ | (refine redi (fun hc => ?_) (fun hc => ?_) <;> try first | (exfalso; omega) | exact absurd rfl hc) | ((refine wa_begin 17 [false, false, false, false, false, false, false, false, false] [] ?_ <;> refine wa_p 0 ?_ <;> (first | refine wa_p 1 ?_ | fail) <;> refine wa_p 2 ?_ <;> refine wa_p 3 ?_ <;> refine wa_p 4 ?_ <;> (refine wa_do 5 ?_ <;> (repeat' (first | refine red ?_ | refine redc fun r => ?_ | fail))) <;> (refine wa_do 6 ?_ <;> (repeat' (first | refine red ?_ | refine redc fun r => ?_ | fail))) <;> (refine wa_do 7 ?_ <;> (repeat' (first | refine red ?_ | refine redc fun r => ?_ | fail))) <;> refine wa_p 8 ?_) <;> (refine wa_end ?_)) | fail)
          · have hmany : 300 < (allT x.2.1 ar sets').length := by omega
            rw [sureD_none (sure_many hfx hmany), sure_many hfx hmany]
            exact ⟨(.slice none 0 0, .slice none 0 0), rfl, ent_e⟩
          rename_i r2
          have hplb := place_bd sets' r2.2.1
          have himl := imgL_of himg.1 r2.2
          have hts : trR x.2.1 ar sets' f (trS x.2.1 ar sets' f) (i + 1) = trR x.2.1 ar sets' f (trS x.2.1 ar sets' f) i ++ [((f : Int), dig sets'.length (arN ar f) i, placeOf sets' r2.2.1)] := by rw [himl]; rfl
          have htl2 := trR_len x.2.1 ar sets' f (trS x.2.1 ar sets' f) (i + 1)
          repeat' (first | refine red ?_ | refine redc fun r => ?_ | ((refine wa_begin 18 [false, false, false, false, false, false, false, false, false, false, false] [8, 10] ?_ <;> (first | refine wa_p 0 ?_ | fail) <;> (first | refine wa_p 1 ?_ | fail) <;> refine wa_p 2 ?_ <;> refine wa_p 3 ?_ <;> refine wa_p 5 ?_ <;> (refine wa_do 4 ?_ <;> (repeat' (first | refine red ?_ | refine redc fun r => ?_ | fail))) <;> (refine wa_do 6 ?_ <;> (repeat' (first | refine red ?_ | fail))) <;> (refine wa_do 7 ?_ <;> (repeat' (first | refine red ?_ | refine redv fun sv => ?_ | fail))) <;> (refine wa_do 8 ?_ <;> (repeat' (first | refine red ?_ | refine redv fun sv => ?_ | fail))) <;> (first | refine wa_p0 9 ?_ | fail) <;> (refine wa_do 10 ?_ <;> (repeat' (first | refine red ?_ | fail)))) <;> (refine wa_end ?_)) | fail)
          rw [← hts]
          exact wq_next (sv, r, i + 1) ⟨by simp only; omega, by simp only; omega⟩ (by simp only; omega) (by kernel_rfl) ent_e
        · simp only [if_neg hlt, decide_eq_false hlt]
          obtain rfl : i = sets'.length ^ arN ar f := by omega
          repeat' (first | refine red ?_ | refine reds ?_ | fail)
          exact wq_next (rv, f + 1) ⟨by simp only; omega, hil⟩ (by simp only; omega) (by kernel_rfl) (by show Ent _ _ (.bk b [.int .i64 sets'.length, rv, .slice none 0 0] :: .ow [rv] (trR x.2.1 ar sets' f (trS x.2.1 ar sets' f) (sets'.length ^ arN ar f)) :: _); exact ent_e)
      · obtain rfl : f = ar.length := by omega
        repeat' (first | refine red ?_ | (refine redi (fun hc => ?_) (fun hc => ?_) <;> try first | (exfalso; omega) | exact absurd rfl hc) | fail)
        rw [sureD_some (sure_some hau hfx hfl), sure_some hau hfx hfl]
        refine wc_loop_p [14] [76, 77, 78, 81, 82, 83, 84, 85, 86, 87, 88, 89, 90, 91, 92, 93, 79, 80] (ι := Value × Nat) (fun k => [.int .i64 k.2]) (fun k => [.bk b [.int .i64 sets'.length, rv, k.1], .ow [k.1] (finN sets' x.2.2 k.2)]) (fun k => k.2 ≤ sets'.length) (fun k => sets'.length - k.2) (.slice none 0 0, 0) [.bk b [.int .i64 sets'.length, rv, .slice none 0 0], .ow [.slice none 0 0] ([] : List Int)] (by kernel_rfl) (Nat.zero_le _) rfl ?_
        intro ⟨fv, i⟩ u l' hl' hi
        simp only [patch, List.map_cons, List.map_nil, List.set_cons_zero, List.set_cons_succ] at hl'
        subst hl'
        simp only [List.cons_append, List.nil_append] at hi ⊢
        have hfn := finN_len sets' x.2.2 i
        have hfs : finN sets' x.2.2 (i + 1) = finN sets' x.2.2 i ++ (if meets (sets'.getD i default) x.2.2 = true then [(i : Int)] else []) := rfl
        repeat' (first | refine red ?_ | refine reds ?_ | refine redv fun sv => ?_ | (refine redi (fun hc => ?_) (fun hc => ?_) <;> try first | (exfalso; omega) | exact absurd rfl hc) | ((refine wa_begin 22 [false, false, false, false, false, false, false] [] ?_ <;> refine wa_p 0 ?_ <;> refine wa_p 1 ?_ <;> (first | (refine wa_deep 2 fun p cs as_ asb_ hcs has hasb hf => ?_; simp only [Un.cells, Un.atoms, Un.fact, List.cons_append, List.nil_append] at hcs has hasb hf; subst hcs has hasb) | fail) <;> (first | refine wa_p 3 ?_ | fail) <;> (first | refine wa_p 4 ?_ | fail) <;> (first | refine wa_p 5 ?_ | fail) <;> (refine wa_do 6 ?_ <;> (repeat' (first | refine red ?_ | refine redc fun r => ?_ | fail)))) <;> (refine wa_end ?_)) | fail)
        · rw [if_pos hc] at hfs
          exact wq_next (sv, i + 1) (by simp only; omega) (by simp only; omega) (by kernel_rfl) (by simp only [hfs]; exact ent_e)
        · rw [if_neg (by rw [hc]; decide), List.append_nil] at hfs
          exact wq_next (fv, i + 1) (by simp only; omega) (by simp only; omega) (by kernel_rfl) (by simp only [hfs]; exact ent_e)
        · obtain rfl : i = sets'.length := by omega
          exact ⟨(rv, fv), rfl, by show Ent _ _ (.ow [rv] (trS x.2.1 ar sets' ar.length) :: .ow [fv] (finN sets' x.2.2 sets'.length) :: _); exact ent_e⟩
  · rw [sureD_none (sure_no hau), sure_no hau]
    refine cj_enter Tryz.func115 Tryz.ntmps115 ?_
    repeat' (first | refine red ?_ | refine redc fun r => ?_ | refine redn fun b => ?_ | (refine redi (fun hc => ?_) (fun hc => ?_) <;> try first | (exfalso; omega) | exact absurd rfl hc) | fail)
    · exact ⟨(.slice none 0 0, .slice none 0 0), rfl, ent_e⟩
    all_goals exact absurd (by assumption) hau
instance SureAuto_ctr {Γ : List Atom} {v v0 v1 : Value} {ar : List Int} {x : SAuto} [h : HasRd (List Int) repList Γ [v] ar] [h0 : HasRd (List STrans) repList Γ [v0] x.2.1] [h1 : HasRd (List Int) repList Γ [v1] x.2.2] :
    CtrC Tryz.prog 115 [.agg #[v], .agg #[.int .i64 x.1, v0, v1]] Γ (True) (Value × Value) (fun q : Value × Value => .tuple #[.agg #[.int .i64 (sureD ar x).1, q.1, q.2], .bool (sureOf ar x).isSome]) (fun q => .ow [q.1] (sureD ar x).2.1 :: .ow [q.2] (sureD ar x).2.2 :: Γ) := ⟨fun s w0 => SureAuto_spec⟩

end Go.Proofs.YtbbdjjlnachnlaaGreatDoor
