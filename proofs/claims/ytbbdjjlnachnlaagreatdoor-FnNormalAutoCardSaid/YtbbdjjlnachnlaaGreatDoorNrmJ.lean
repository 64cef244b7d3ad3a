/- The automaton of normal forms: rounds, transitions; the reference's side. -/
import Derived.Test.YtbbdjjlnachnlaaGreatDoorNrmS
import Derived.Test.YtbbdjjlnachnlaaGreatDoorNrmI
import Derived.Test.YtbbdjjlnachnlaaGreatDoorDraw6
namespace Go.Proofs.YtbbdjjlnachnlaaGreatDoor
open Go Go.Eng
set_option linter.unusedVariables false
set_option linter.unusedSimpArgs false
set_option synthInstance.maxHeartbeats 400000
set_option synthInstance.maxSize 1000
set_option maxHeartbeats 4000000
set_option maxRecDepth 20000

theorem fixG_none {im : ImO} {ar : List Int} {k : Nat} {s : List (List Int)} (hk : 1 ≤ k) (h : 16 < (rndG im ar s).length) : fixG im ar k s = none := by
  obtain ⟨j, rfl⟩ : ∃ j, k = j + 1 := ⟨k - 1, by omega⟩
  unfold fixG; rw [if_pos h]
theorem fixG_same {im : ImO} {ar : List Int} {k : Nat} {s : List (List Int)} (hk : 1 ≤ k) (h : (rndG im ar s).length ≤ 16) (he : (rndG im ar s).length = s.length) : fixG im ar k s = if s = [] then none else some s := by
  obtain ⟨j, rfl⟩ : ∃ j, k = j + 1 := ⟨k - 1, by omega⟩
  unfold fixG; rw [if_neg (by omega), if_pos he]
theorem fixG_next {im : ImO} {ar : List Int} {k : Nat} {s : List (List Int)} (hk : 1 ≤ k) (h : (rndG im ar s).length ≤ 16) (he : (rndG im ar s).length ≠ s.length) : fixG im ar k s = fixG im ar (k - 1) (rndG im ar s) := by
  obtain ⟨j, rfl⟩ : ∃ j, k = j + 1 := ⟨k - 1, by omega⟩
  show fixG im ar (j + 1) s = fixG im ar j _
  conv => lhs; unfold fixG
  rw [if_neg (by omega), if_neg he]
structure NC (a : List Int) (sh ls : List (List Int)) : Prop where
  sg : sigOk a = true
  sok : ∀ k, k < sh.length → termOk a (sh.getD k default) = true
  slen : sh.length ≤ 10000
  lok : ∀ k, k < ls.length → termOk a (ls.getD k default) = true
  llen : ls.length ≤ 12
theorem arK_arN {a p : List Int} {f : Nat} (h : p.getD 0 0 = (f : Int)) : arK a p 0 = arN a f := by
  unfold arK arN ar
  rw [h, if_neg (by omega), Int.toNat_natCast]
theorem fitA_of {a : List Int} {ps args : List (List Int)} {f : Nat} (h : ∀ k, k < ps.length → termOk a (ps.getD k default) = true) (hl : ps.length ≤ 10000) (ha : args.length = arN a f) : FitA a ps (f : Int) args := ⟨fun k hk => ⟨h k hk, fun e => by rw [arK_arN e, ha]; exact Nat.le_refl _⟩, hl⟩
theorem pow_pos_or {n k : Nat} : n = 0 ∧ 0 < k ∨ 0 < n ^ k := by
  by_cases h1 : n = 0
  · by_cases h2 : k = 0
    · right; rw [h2, Nat.pow_zero]; decide
    · left; exact ⟨h1, by omega⟩
  · right; exact Nat.pow_pos (by omega)
theorem pow_4096 {n k : Nat} (hn : n ≤ 16) (hk : k ≤ 3) : n ^ k ≤ 4096 := by
  have h2 : n ^ k ≤ 16 ^ k := Nat.pow_le_pow_left hn _
  have h3 : 16 ^ k ≤ 16 ^ 3 := Nat.pow_le_pow_right (by decide) hk
  have h4 : 16 ^ 3 = 4096 := rfl
  omega
/-- What the rounds come to. -/
abbrev FixT (im : ImO) (ar : List Int) : Type := { p : List (List Int) × Bool // p.1.length ≤ 16 ∧ (p.2 = true → fixG im ar 17 [] = if p.1 = [] then none else some p.1) ∧ (p.2 = false → fixG im ar 17 [] = none) }
theorem rowG_none {im : ImO} {ar : List Int} {sets : List (List Int)} {f i : Nat} {out : List (List Int)} (h : im f (listed sets (dig sets.length (arN ar f) i)) = none) : rowG im ar sets f out (i + 1) = rowG im ar sets f out i := by
  show addO _ (im f _) = _
  rw [h]; rfl
theorem rowG_some {im : ImO} {ar : List Int} {sets : List (List Int)} {f i : Nat} {out : List (List Int)} {s : List Int} (h : im f (listed sets (dig sets.length (arN ar f) i)) = some s) : rowG im ar sets f out (i + 1) = addNew (rowG im ar sets f out i) s := by
  show addO _ (im f _) = _
  rw [h]; rfl
theorem l24Sets_spec {w0 : World} {Γ : List Atom} {v vh vl vs : Value} {a : List Int} {sh ls : List (List Int)} [h0 : HasRd (List Int) repList Γ [v] a] [h1 : HasIm (List (List Int)) repList Γ [vh] sh] [h2 : HasIm (List (List Int)) repList Γ [vl] ls] [h3 : HasRd (List Int) repList Γ [vs] (upTo a.length)] (hs : NC a sh ls) :
    CJ Tryz.prog 84 [.agg #[v], vh, vl, vs] w0 Γ (fun q : Value × FixT (imN a sh ls) a => .tuple #[q.1, .bool q.2.1.2]) (fun q => .rd [q.1] q.2.1.1 :: Γ) := by
  obtain ⟨im, him⟩ : ∃ im, im = imN a sh ls := ⟨_, rfl⟩
  rw [← him]
  have hsg := sigOk_len hs.sg
  have hul := upTo_len a.length
  refine cj_enter Tryz.func84 Tryz.ntmps84 ?_
  repeat' (first | refine red ?_ | refine redv fun sv => ?_ | refine redn fun b => ?_ | fail)
  refine wc_share sv ?_
  refine wc_loop_p [10] [20, 21, 22, 11, 23, 24, 12, 13, 25, 26, 27, 28, 31, 32, 33, 34, 14, 35, 36, 37, 38, 39, 40, 41, 42, 43, 44, 45, 46, 47, 48, 49, 50, 15, 16, 51, 58, 59, 60, 17, 61, 62, 63, 64, 65, 66, 67, 68, 69, 70, 71, 18, 72, 73, 74, 75, 76, 77, 78, 79, 80, 81, 82, 83, 8, 9, 53, 54, 55, 52, 56, 57, 29, 30, 84, 85, 86, 87, 88, 89, 90] (ι := Value × List (List Int) × Nat) (fun k => [k.1]) (fun k => [.rd [k.1] k.2.1]) (fun k => k.2.1.length ≤ 16 ∧ 17 ≤ k.2.2 + k.2.1.length ∧ fixG im a k.2.2 k.2.1 = fixG im a 17 []) (fun k => 16 - k.2.1.length) (sv, [], 17) [.rd [sv] ([] : List (List Int))] (by kernel_rfl) ⟨by simp, by simp, rfl⟩ rfl ?_
  intro ⟨sw, s, k⟩ u l' hl' ⟨hsl, hk, he⟩
  simp only [patch, List.map_cons, List.map_nil, List.set_cons_zero, List.set_cons_succ] at hl'
  subst hl'
  simp only [List.cons_append, List.nil_append] at hsl hk he ⊢
  have hpre := (rndG_pre im a s).length_le
  repeat' (first | refine red ?_ | refine redv fun sv => ?_ | fail)
  refine wl_toSh sv ?_
  simp only [List.map_nil]
  repeat' (first | refine red ?_ | refine redv fun sv => ?_ | fail)
  simp only [List.nil_append]
  refine wc_loop_p [11, 13] [25, 26, 27, 28, 31, 32, 33, 34, 14, 35, 36, 37, 38, 39, 40, 41, 42, 43, 44, 45, 46, 47, 48, 49, 50, 15, 16, 51, 58, 59, 60, 17, 61, 62, 63, 64, 65, 66, 67, 68, 69, 70, 71, 18, 72, 73, 74, 75, 76, 77, 78, 79, 80, 81, 82, 83, 8, 9, 53, 54, 55, 52, 56, 57, 29, 30] (ι := Value × Nat) (fun k => [k.1, .int .i64 k.2]) (fun k => [.ow [k.1] ((symG im a s k.2).map Sh.mk)]) (fun k => k.2 ≤ a.length ∧ (symG im a s k.2).length ≤ 16) (fun k => a.length - k.2) (sv, 0) [.ow [sv] (s.map Sh.mk)] (by kernel_rfl) ⟨Nat.zero_le _, hsl⟩ rfl ?_
  intro ⟨so, f⟩ u l' hl' ⟨hf, hfl⟩
  simp only [patch, List.map_cons, List.map_nil, List.set_cons_zero, List.set_cons_succ] at hl'
  subst hl'
  simp only [List.cons_append, List.nil_append] at hf hfl ⊢
  have hol : ((symG im a s f).map Sh.mk).length ≤ 16 := by rw [List.length_map]; exact hfl
  by_cases hfa : f < a.length
  · obtain ⟨hf0, hf3⟩ := sig_el hs.sg hfa
    have harN : a.getD f 0 = ((arN a f : Nat) : Int) := by unfold arN; omega
    have hpos : s.length = 0 ∧ 0 < a.getD f 0 ∨ 0 < s.length ^ arN a f := by
      rcases pow_pos_or (n := s.length) (k := arN a f) with h | h
      · exact .inl ⟨h.1, by omega⟩
      · exact .inr h
    have hnk := pow_4096 hsl (show arN a f ≤ 3 by omega)
    have hug : (upTo a.length).getD f 0 = (f : Int) := upTo_get hfa
    haveI : ToN ((upTo a.length).getD f 0) f := ⟨by omega⟩
    repeat' (first | refine red ?_ | refine redf fun hbi => ?_ | refine reds ?_ | refine redv fun sv => ?_ | (refine redi (fun hc => ?_) (fun hc => ?_) <;> try first | (exfalso; omega) | with_reducible first | exact absurd rfl hc | exact absurd hc Bool.false_ne_true | exact absurd hc Bool.false_ne_true.symm) | fail)
    · have hs1 : symG im a s (f + 1) = symG im a s f := by
        show rowG im a s f (symG im a s f) (s.length ^ arN a f) = _
        rw [show s.length ^ arN a f = 0 by rw [show s.length = 0 by omega, Nat.zero_pow (by omega)]]
        rfl
      exact wq_next (so, f + 1) ⟨by simp only; omega, by simp only; rw [hs1]; exact hfl⟩ (by simp only; omega) (by kernel_rfl) (by simp only [hs1]; exact ent_e)
    · simp only [hug]
      have hpos' : 0 < s.length ^ arN a f := by rcases hpos with h | h <;> omega
      refine wc_loop_p [11, 15, 16] [51, 58, 59, 60, 17, 61, 62, 63, 64, 65, 66, 67, 68, 69, 70, 71, 18, 72, 73, 74, 75, 76, 77, 78, 79, 80, 81, 82, 83, 8, 9, 53, 54, 55, 52, 56, 57] (ι := Value × Value × Nat) (fun k => [k.1, k.2.1, .bool (decide (k.2.2 < s.length ^ arN a f))]) (fun k => [.ow [k.1] ((rowG im a s f (symG im a s f) k.2.2).map Sh.mk), .ow [k.2.1] (if k.2.2 < s.length ^ arN a f then dig s.length (arN a f) k.2.2 else List.replicate (arN a f) (0 : Int))]) (fun k => k.2.2 ≤ s.length ^ arN a f ∧ (rowG im a s f (symG im a s f) k.2.2).length ≤ 16) (fun k => s.length ^ arN a f - k.2.2) (so, sv, 0) [.ow [so] ((symG im a s f).map Sh.mk), .ow [sv] (List.replicate (a.getD f 0).toNat (0 : Int))] (by simp only [decide_eq_true hpos']; kernel_rfl) ⟨Nat.zero_le _, hfl⟩ (by simp only [if_pos hpos', dig_zero]; rfl) ?_
      intro ⟨sp, lv, i⟩ u l' hl' ⟨hi, hil⟩
      simp only [patch, List.map_cons, List.map_nil, List.set_cons_zero, List.set_cons_succ] at hl'
      subst hl'
      simp only [List.cons_append, List.nil_append] at hi hil ⊢
      have hol2 : ((rowG im a s f (symG im a s f) i).map Sh.mk).length ≤ 16 := by rw [List.length_map]; exact hil
      by_cases hlt : i < s.length ^ arN a f
      · simp only [if_pos hlt, decide_eq_true hlt]
        have hdl := dig_len s.length (arN a f) i
        have hls : (dig s.length (arN a f) i).length ≤ 10 ∧ ∀ q ∈ dig s.length (arN a f) i, 0 ≤ q ∧ q < s.length := ⟨by omega, dig_el hlt⟩
        have hnx : NxL s.length (arN a f) i := ⟨by omega, dig_pow hlt, by omega, hlt⟩
        have hrr := (rowG_rnd (im := im) (sets := s) hfa (i := i + 1) (by omega)).length_le
        have hargl : (listed s (dig s.length (arN a f) i)).length = arN a f := by rw [listed_len, hdl]
        have hfl1 : FitA a ls (f : Int) (listed s (dig s.length (arN a f) i)) := fitA_of hs.lok (by have := hs.llen; omega) hargl
        have hfs1 : FitA a sh (f : Int) (listed s (dig s.length (arN a f) i)) := fitA_of hs.sok hs.slen hargl
        repeat' (first | refine red ?_ | (refine redc fun r => ?_; try have hr := Subtype.property r) | refine redv fun sv => ?_ | (refine redi (fun hc => ?_) (fun hc => ?_) <;> try first | (exfalso; omega) | with_reducible first | exact absurd rfl hc | exact absurd hc Bool.false_ne_true | exact absurd hc Bool.false_ne_true.symm) | fail)
        · have hsc : rowG im a s f (symG im a s f) (i + 1) = rowG im a s f (symG im a s f) i := rowG_none (by rw [him]; exact imN_no hc)
          rw [← hsc]
          exact wq_next (sp, r, i + 1) ⟨by simp only; omega, by simp only; rw [hsc]; exact hil⟩ (by simp only; omega) (by kernel_rfl) ent_e
        · have hsc : rowG im a s f (symG im a s f) (i + 1) = addNew (rowG im a s f (symG im a s f) i) (comesN a sh f (listed s (dig s.length (arN a f) i))) := rowG_some (by rw [him]; exact imN_yes (by assumption))
          rw [unSh] at hc
          have hnew := place_neg.1 hc
          rw [addNew, if_neg hnew] at hsc
          have hscl : (rowG im a s f (symG im a s f) (i + 1)).length = (rowG im a s f (symG im a s f) i).length + 1 := by rw [hsc, List.length_append]; rfl
          have hscm : ((rowG im a s f (symG im a s f) i).map Sh.mk ++ [Sh.mk (comesN a sh f (listed s (dig s.length (arN a f) i)))]) = (rowG im a s f (symG im a s f) (i + 1)).map Sh.mk := by rw [hsc, List.map_append]; rfl
          refine wl_toSh sv ?_
          simp only [List.map_cons, List.map_nil]
          repeat' (first | refine red ?_ | (refine redc fun r => ?_; try have hr := Subtype.property r) | refine redv fun sv => ?_ | (refine redi (fun hc => ?_) (fun hc => ?_) <;> try first | (exfalso; omega) | with_reducible first | exact absurd rfl hc | exact absurd hc Bool.false_ne_true | exact absurd hc Bool.false_ne_true.symm) | fail)
          · rw [List.length_append, List.length_map, List.length_singleton] at hc
            refine ⟨(sw, ⟨(s, false), hsl, (fun h => Bool.noConfusion (show false = true from h)), (fun _ => ?_)⟩), rfl, ent_e⟩
            rw [← he]
            exact fixG_none (by omega) (by omega)
          · rw [hscm]
            rw [List.length_append, List.length_map, List.length_singleton] at hc
            exact wq_next (sv, r, i + 1) ⟨by simp only; omega, by simp only; omega⟩ (by simp only; omega) (by kernel_rfl) ent_e
        · rename_i hc1
          have hsc : rowG im a s f (symG im a s f) (i + 1) = addNew (rowG im a s f (symG im a s f) i) (comesN a sh f (listed s (dig s.length (arN a f) i))) := rowG_some (by rw [him]; exact imN_yes (by assumption))
          rw [unSh] at hc1
          have hold : comesN a sh f (listed s (dig s.length (arN a f) i)) ∈ rowG im a s f (symG im a s f) i := Classical.byContradiction fun hn => by
            have := place_neg.2 hn
            omega
          rw [addNew, if_pos hold] at hsc
          rw [← hsc]
          exact wq_next (sp, r, i + 1) ⟨by simp only; omega, by simp only; rw [hsc]; exact hil⟩ (by simp only; omega) (by kernel_rfl) ent_e
      · simp only [if_neg hlt, decide_eq_false hlt]
        obtain rfl : i = s.length ^ arN a f := by omega
        repeat' (first | refine red ?_ | refine reds ?_ | fail)
        exact wq_next (sp, f + 1) ⟨by simp only; omega, hil⟩ (by simp only; omega) (by kernel_rfl) (by show Ent _ _ (.ow [sp] ((rowG im a s f (symG im a s f) (s.length ^ arN a f)).map Sh.mk) :: _); exact ent_e)
    · simp only [hug]
      have hpos' : 0 < s.length ^ arN a f := by rcases hpos with h | h <;> omega
      refine wc_loop_p [11, 15, 16] [51, 58, 59, 60, 17, 61, 62, 63, 64, 65, 66, 67, 68, 69, 70, 71, 18, 72, 73, 74, 75, 76, 77, 78, 79, 80, 81, 82, 83, 8, 9, 53, 54, 55, 52, 56, 57] (ι := Value × Value × Nat) (fun k => [k.1, k.2.1, .bool (decide (k.2.2 < s.length ^ arN a f))]) (fun k => [.ow [k.1] ((rowG im a s f (symG im a s f) k.2.2).map Sh.mk), .ow [k.2.1] (if k.2.2 < s.length ^ arN a f then dig s.length (arN a f) k.2.2 else List.replicate (arN a f) (0 : Int))]) (fun k => k.2.2 ≤ s.length ^ arN a f ∧ (rowG im a s f (symG im a s f) k.2.2).length ≤ 16) (fun k => s.length ^ arN a f - k.2.2) (so, sv, 0) [.ow [so] ((symG im a s f).map Sh.mk), .ow [sv] (List.replicate (a.getD f 0).toNat (0 : Int))] (by simp only [decide_eq_true hpos']; kernel_rfl) ⟨Nat.zero_le _, hfl⟩ (by simp only [if_pos hpos', dig_zero]; rfl) ?_
      intro ⟨sp, lv, i⟩ u l' hl' ⟨hi, hil⟩
      simp only [patch, List.map_cons, List.map_nil, List.set_cons_zero, List.set_cons_succ] at hl'
      subst hl'
      simp only [List.cons_append, List.nil_append] at hi hil ⊢
      have hol2 : ((rowG im a s f (symG im a s f) i).map Sh.mk).length ≤ 16 := by rw [List.length_map]; exact hil
      by_cases hlt : i < s.length ^ arN a f
      · simp only [if_pos hlt, decide_eq_true hlt]
        have hdl := dig_len s.length (arN a f) i
        have hls : (dig s.length (arN a f) i).length ≤ 10 ∧ ∀ q ∈ dig s.length (arN a f) i, 0 ≤ q ∧ q < s.length := ⟨by omega, dig_el hlt⟩
        have hnx : NxL s.length (arN a f) i := ⟨by omega, dig_pow hlt, by omega, hlt⟩
        have hrr := (rowG_rnd (im := im) (sets := s) hfa (i := i + 1) (by omega)).length_le
        have hargl : (listed s (dig s.length (arN a f) i)).length = arN a f := by rw [listed_len, hdl]
        have hfl1 : FitA a ls (f : Int) (listed s (dig s.length (arN a f) i)) := fitA_of hs.lok (by have := hs.llen; omega) hargl
        have hfs1 : FitA a sh (f : Int) (listed s (dig s.length (arN a f) i)) := fitA_of hs.sok hs.slen hargl
        repeat' (first | refine red ?_ | (refine redc fun r => ?_; try have hr := Subtype.property r) | refine redv fun sv => ?_ | (refine redi (fun hc => ?_) (fun hc => ?_) <;> try first | (exfalso; omega) | with_reducible first | exact absurd rfl hc | exact absurd hc Bool.false_ne_true | exact absurd hc Bool.false_ne_true.symm) | fail)
        · have hsc : rowG im a s f (symG im a s f) (i + 1) = rowG im a s f (symG im a s f) i := rowG_none (by rw [him]; exact imN_no hc)
          rw [← hsc]
          exact wq_next (sp, r, i + 1) ⟨by simp only; omega, by simp only; rw [hsc]; exact hil⟩ (by simp only; omega) (by kernel_rfl) ent_e
        · have hsc : rowG im a s f (symG im a s f) (i + 1) = addNew (rowG im a s f (symG im a s f) i) (comesN a sh f (listed s (dig s.length (arN a f) i))) := rowG_some (by rw [him]; exact imN_yes (by assumption))
          rw [unSh] at hc
          have hnew := place_neg.1 hc
          rw [addNew, if_neg hnew] at hsc
          have hscl : (rowG im a s f (symG im a s f) (i + 1)).length = (rowG im a s f (symG im a s f) i).length + 1 := by rw [hsc, List.length_append]; rfl
          have hscm : ((rowG im a s f (symG im a s f) i).map Sh.mk ++ [Sh.mk (comesN a sh f (listed s (dig s.length (arN a f) i)))]) = (rowG im a s f (symG im a s f) (i + 1)).map Sh.mk := by rw [hsc, List.map_append]; rfl
          refine wl_toSh sv ?_
          simp only [List.map_cons, List.map_nil]
          repeat' (first | refine red ?_ | (refine redc fun r => ?_; try have hr := Subtype.property r) | refine redv fun sv => ?_ | (refine redi (fun hc => ?_) (fun hc => ?_) <;> try first | (exfalso; omega) | with_reducible first | exact absurd rfl hc | exact absurd hc Bool.false_ne_true | exact absurd hc Bool.false_ne_true.symm) | fail)
          · rw [List.length_append, List.length_map, List.length_singleton] at hc
            refine ⟨(sw, ⟨(s, false), hsl, (fun h => Bool.noConfusion (show false = true from h)), (fun _ => ?_)⟩), rfl, ent_e⟩
            rw [← he]
            exact fixG_none (by omega) (by omega)
          · rw [hscm]
            rw [List.length_append, List.length_map, List.length_singleton] at hc
            exact wq_next (sv, r, i + 1) ⟨by simp only; omega, by simp only; omega⟩ (by simp only; omega) (by kernel_rfl) ent_e
        · rename_i hc1
          have hsc : rowG im a s f (symG im a s f) (i + 1) = addNew (rowG im a s f (symG im a s f) i) (comesN a sh f (listed s (dig s.length (arN a f) i))) := rowG_some (by rw [him]; exact imN_yes (by assumption))
          rw [unSh] at hc1
          have hold : comesN a sh f (listed s (dig s.length (arN a f) i)) ∈ rowG im a s f (symG im a s f) i := Classical.byContradiction fun hn => by
            have := place_neg.2 hn
            omega
          rw [addNew, if_pos hold] at hsc
          rw [← hsc]
          exact wq_next (sp, r, i + 1) ⟨by simp only; omega, by simp only; rw [hsc]; exact hil⟩ (by simp only; omega) (by kernel_rfl) ent_e
      · simp only [if_neg hlt, decide_eq_false hlt]
        obtain rfl : i = s.length ^ arN a f := by omega
        repeat' (first | refine red ?_ | refine reds ?_ | fail)
        exact wq_next (sp, f + 1) ⟨by simp only; omega, hil⟩ (by simp only; omega) (by kernel_rfl) (by show Ent _ _ (.ow [sp] ((rowG im a s f (symG im a s f) (s.length ^ arN a f)).map Sh.mk) :: _); exact ent_e)
  · obtain rfl : f = a.length := by omega
    have hrl : (rndG im a s).length = (symG im a s a.length).length := rfl
    rw [List.length_map] at hol
    have hml : ((symG im a s a.length).map Sh.mk).length = (symG im a s a.length).length := List.length_map ..
    repeat' (first | refine red ?_ | (refine redi (fun hc => ?_) (fun hc => ?_) <;> try first | (exfalso; omega) | with_reducible first | exact absurd rfl hc | exact absurd hc Bool.false_ne_true | exact absurd hc Bool.false_ne_true.symm) | fail)
    · have h5 := fixG_same (im := im) (ar := a) (k := k) (s := s) (by omega) (by omega) (by omega)
      rw [he] at h5
      exact ⟨(sw, ⟨(s, true), hsl, (fun _ => h5), (fun h => Bool.noConfusion (show true = false from h))⟩), rfl, ent_e⟩
    · have h5 := fixG_next (im := im) (ar := a) (k := k) (s := s) (by omega) (by omega) (by omega)
      exact wq_next (so, rndG im a s, k - 1) ⟨by simp only; omega, by simp only; omega, by simp only; rw [← h5, he]⟩ (by simp only; omega) (by kernel_rfl) (show Ent _ _ (.rd [so] (symG im a s a.length) :: _) from ent_unsh (ys := symG im a s a.length) so ent_e)
instance l24Sets_ctr {Γ : List Atom} {v vh vl vs : Value} {a : List Int} {sh ls : List (List Int)} [h0 : HasRd (List Int) repList Γ [v] a] [h1 : HasIm (List (List Int)) repList Γ [vh] sh] [h2 : HasIm (List (List Int)) repList Γ [vl] ls] [h3 : HasRd (List Int) repList Γ [vs] (upTo a.length)] :
    CtrC Tryz.prog 84 [.agg #[v], vh, vl, vs] Γ (NC a sh ls) (Value × FixT (imN a sh ls) a) (fun q : Value × FixT (imN a sh ls) a => .tuple #[q.1, .bool q.2.1.2]) (fun q => .rd [q.1] q.2.1.1 :: Γ) := ⟨fun s w0 => l24Sets_spec s⟩

end Go.Proofs.YtbbdjjlnachnlaaGreatDoor
namespace Go.Eng
open Go Go.RowKit
theorem wc_entE {P : Program} {Q : Exit → Act → World → Prop} {w0 : World} {c : Code} {l : List Value} {Γ Δ : List Atom} (he : Ent w0 Γ Δ) (h : WC P Q w0 c l Δ) : WC P Q w0 c l Γ := fun w hs => h w (he w hs)
end Go.Eng
namespace Go.Proofs.YtbbdjjlnachnlaaGreatDoor
open Go Go.Eng
set_option linter.unusedVariables false
set_option linter.unusedSimpArgs false
set_option synthInstance.maxHeartbeats 400000
set_option synthInstance.maxSize 1000
set_option maxHeartbeats 4000000
set_option maxRecDepth 20000

/-- What the program works with. -/
structure RC (a : List Int) (sh ls sets : List (List Int)) (f : Nat) (list : List Int) : Prop where
  nc : NC a sh ls
  cl : (∀ k, k < sh.length → Closed a sh (sh.getD k default)) ∧ ∀ k, k < ls.length → Closed a sh (ls.getD k default)
  fl : f < a.length
  ll : list.length = arN a f
  el : ∀ q ∈ list, 0 ≤ q ∧ q < sets.length
theorem formL_get {a : List Int} {sh ts : List (List Int)} {k : Nat} (hk : k < ts.length) : (formL a sh ts).getD k default = formP a sh (ts.getD k default) := by
  unfold formL
  rw [List.getD_eq_getElem?_getD, List.getElem?_map, List.getElem?_eq_getElem hk, List.getD_eq_getElem?_getD, List.getElem?_eq_getElem hk]
  rfl
theorem ftC_of {a : List Int} {sh sets : List (List Int)} {p : List Int} {f : Nat} (hp : termOk a p = true) (hl : sets.length = arN a f) : FtC (formP a sh p) (f : Int) sets := ⟨fun e => by
  show (idxL a sh p (arK a p 0)).length ≤ _
  rw [idxL_len, arK_arN (show p.getD 0 0 = (f : Int) from e), hl]
  exact Nat.le_refl _, by
  show (idxL a sh p (arK a p 0)).length ≤ _
  rw [idxL_len]
  have := (arK_le hp (k := 0) (by have := termOk_len hp; omega)).1
  omega⟩
theorem sh_get {xs : List (List Int)} {k : Nat} (hk : k < xs.length) : ((xs.map Sh.mk).getD k default).v = xs.getD k default := by
  rw [List.getD_eq_getElem?_getD, List.getElem?_map, List.getElem?_eq_getElem hk, List.getD_eq_getElem?_getD, List.getElem?_eq_getElem hk]
  rfl
theorem formP_in {a : List Int} {sh : List (List Int)} {t : List Int} (hs : sigOk a = true) (h : termOk a t = true) : -9223372036854775808 ≤ (formP a sh t).1 ∧ (formP a sh t).1 ≤ 9223372036854775807 := by
  have h1 := termOk_get h (k := 0) (by have := termOk_len h; omega)
  have h2 := sigOk_len hs
  show _ ≤ t.getD 0 0 ∧ t.getD 0 0 ≤ _
  omega
theorem result_spec {w0 : World} {Γ Δ : List Atom} {bx : Nat} {v vl vh vk vs vm vt : Value} {a : List Int} {sh ls sets : List (List Int)} {f : Nat} {list : List Int} [hb0 : HasBk Γ bx [v, vl, vh, vk, vs, vm]] [h3 : PullOw (List (Sh (List Int))) repList Γ [vs] (sets.map Sh.mk) Δ] [hb : HasBk Δ bx [v, vl, vh, vk, vs, vm]] [h1 : HasIm (List SForm) repList Δ [vl] (formL a sh ls)] [h2 : HasIm (List SForm) repList Δ [vh] (formL a sh sh)] [h4 : HasRd (List Int) repList Δ [vt] list] (hs : RC a sh ls sets f list) :
    CJ Tryz.prog 168 [.pointer (some ⟨bx, 0, none⟩), .int .i64 (f : Int), vt] w0 Γ (fun q : Value => .tuple #[q, .bool (imN a sh ls f (listed sets list)).isSome]) (fun q => .ow [q] ((imN a sh ls f (listed sets list)).getD []) :: .ow [vs] (sets.map Sh.mk) :: Δ) := by
  refine cj_perm h3.perm ?_
  have hel := hs.el
  have hnc := hs.nc
  have ha3 := (sig_el hnc.sg hs.fl).2
  have hal : arN a f ≤ 3 := by unfold arN; omega
  have hll := hs.ll
  have hml : (sets.map Sh.mk).length = sets.length := List.length_map ..
  refine cj_len vs fun hlx => ?_
  refine cj_enter Tryz.func168 Tryz.ntmps168 ?_
  repeat' (first | refine red ?_ | fail)
  refine wc_loop_p [8, 18] [19, 20, 21, 10, 22, 23, 24, 25, 26, 27, 28, 29, 30, 31, 32] (ι := Value × Nat) (fun k => [k.1, .int .i64 k.2]) (fun k => [.ow [k.1] ((listed sets (list.take k.2)).map Sh.mk)]) (fun k => k.2 ≤ list.length) (fun k => list.length - k.2) (.slice none 0 0, 0) [.ow [.slice none 0 0] ([] : List (Sh (List Int)))] (by kernel_rfl) (Nat.zero_le _) rfl ?_
  intro ⟨so, k⟩ u l' hl' hk
  simp only [patch, List.map_cons, List.map_nil, List.set_cons_zero, List.set_cons_succ] at hl'
  subst hl'
  simp only [List.cons_append, List.nil_append] at hk ⊢
  have hle : ((listed sets (list.take k)).map Sh.mk).length = k := by rw [List.length_map, listed_len, List.length_take]; omega
  by_cases hkl : k < list.length
  · have hq := hel _ (getK hkl)
    have hgv : ((sets.map Sh.mk).getD (list.getD k 0).toNat default).v = sets.getD (list.getD k 0).toNat default := sh_get (by omega)
    repeat' (first | refine red ?_ | refine redf fun hbi => ?_ | refine reds ?_ | refine redv fun sv => ?_ | (refine redi (fun hc => ?_) (fun hc => ?_) <;> try first | (exfalso; omega) | with_reducible first | exact absurd rfl hc | exact absurd hc Bool.false_ne_true | exact absurd hc Bool.false_ne_true.symm) | fail)
    rw [hgv, ← List.map_append, ← listed_succ sets hkl]
    exact wq_next (sv, k + 1) (by simp only; omega) (by simp only; omega) (by kernel_rfl) ent_e
  obtain rfl : k = list.length := by omega
  rw [List.take_length]
  repeat' (first | refine red ?_ | (refine redi (fun hc => ?_) (fun hc => ?_) <;> try first | (exfalso; omega) | with_reducible first | exact absurd rfl hc | exact absurd hc Bool.false_ne_true | exact absurd hc Bool.false_ne_true.symm) | fail)
  obtain ⟨args, hargs⟩ : ∃ args, args = listed sets list := ⟨_, rfl⟩
  rw [← hargs]
  have hal2 : args.length = arN a f := by rw [hargs, listed_len, hll]
  refine wc_entE (Δ := .rd [so] args :: .ow [vs] (sets.map Sh.mk) :: Δ) (ent_unsh (ys := args) so ent_e) ?_
  have hfl := formL_len a sh ls
  have hfs := formL_len a sh sh
  have hlc := hnc.llen
  have hsc := hnc.slen
  refine wc_loop_c [38] [39, 40, 41, 12, 42, 43, 44, 45, 6, 7, 46] (ι := Nat) (fun k => [.int .i64 k]) (fun k => k ≤ ls.length ∧ ¬ ShutN a sh ls f args k) (fun k => ls.length - k) 0 (by kernel_rfl) ⟨Nat.zero_le _, fun ⟨i, hi, _⟩ => by omega⟩ ?_
  intro k u l' hl' ⟨hk, hkk⟩
  simp only [patch, List.map_cons, List.map_nil, List.set_cons_zero, List.set_cons_succ] at hl'
  subst hl'
  by_cases hkl : k < ls.length
  · have hfc := formL_get (a := a) (sh := sh) (ts := ls) hkl
    have hft : FtC ((formL a sh ls).getD k default) (f : Int) args := by rw [hfc]; exact ftC_of (hnc.lok k hkl) hal2
    have hin := formP_in hnc.sg (hnc.lok k hkl) (sh := sh)
    rw [← hfc] at hin
    have hcl := hs.cl.2 k hkl
    repeat' (first | refine red ?_ | refine reds ?_ | (refine redc fun r => ?_; try have hr := Subtype.property r) | refine redn fun b => ?_ | (refine redd fun p cs as_ hcs has hf => ?_; simp only [Un.cells, Un.atoms, Un.fact, List.cons_append, List.nil_append] at hcs has hf; subst hcs has) | (refine redi (fun hc => ?_) (fun hc => ?_) <;> try first | (exfalso; omega) | with_reducible first | exact absurd rfl hc | exact absurd hc Bool.false_ne_true | exact absurd hc Bool.false_ne_true.symm) | fail)
    · have hsh : ShutN a sh ls f args ls.length := ⟨k, hkl, by rw [hfc, fit_form hcl] at hc; exact hc⟩
      rw [imN_no hsh]
      exact ⟨.slice none 0 0, rfl, by show Ent _ _ (.ow [.slice none 0 0] ([] : List Int) :: _); exact ent_e⟩
    · refine wq_next (k + 1) ⟨by omega, fun ⟨i, hi, h⟩ => ?_⟩ (by omega) (by kernel_rfl) ent_e
      by_cases e : i = k
      · rw [e] at h; exact hc (by rw [hfc, fit_form hcl]; exact h)
      · exact hkk ⟨i, by omega, h⟩
  rw [show k = ls.length by omega] at hkk ⊢
  repeat' (first | refine red ?_ | (refine redi (fun hc => ?_) (fun hc => ?_) <;> try first | (exfalso; omega) | with_reducible first | exact absurd rfl hc | exact absurd hc Bool.false_ne_true | exact absurd hc Bool.false_ne_true.symm) | fail)
  rw [imN_yes hkk]
  refine wc_loop_p [13, 52] [53, 54, 55, 56, 15, 14, 57, 58, 59, 60, 61, 62, 63, 64, 65] (ι := Value × Nat) (fun k => [k.1, .int .i64 k.2]) (fun k => [.ow [k.1] (selN (fun i => decC (FitN a sh (sh.getD i default) f args)) k.2)]) (fun k => k.2 ≤ sh.length) (fun k => sh.length - k.2) (.slice none 0 0, 0) [.ow [.slice none 0 0] ([] : List Int)] (by kernel_rfl) (Nat.zero_le _) rfl ?_
  intro ⟨ov, k⟩ u l' hl' hk
  simp only [patch, List.map_cons, List.map_nil, List.set_cons_zero, List.set_cons_succ] at hl'
  subst hl'
  simp only [List.cons_append, List.nil_append] at hk ⊢
  have hle := selN_len (fun i => decC (FitN a sh (sh.getD i default) f args)) k
  by_cases hkl : k < sh.length
  · have hfc := formL_get (a := a) (sh := sh) (ts := sh) hkl
    have hft : FtC ((formL a sh sh).getD k default) (f : Int) args := by rw [hfc]; exact ftC_of (hnc.sok k hkl) hal2
    have hin := formP_in hnc.sg (hnc.sok k hkl) (sh := sh)
    rw [← hfc] at hin
    have hcl := hs.cl.1 k hkl
    repeat' (first | refine red ?_ | refine reds ?_ | (refine redc fun r => ?_; try have hr := Subtype.property r) | refine redv fun sv => ?_ | refine redn fun b => ?_ | (refine redd fun p cs as_ hcs has hf => ?_; simp only [Un.cells, Un.atoms, Un.fact, List.cons_append, List.nil_append] at hcs has hf; subst hcs has) | (refine redi (fun hc => ?_) (fun hc => ?_) <;> try first | (exfalso; omega) | with_reducible first | exact absurd rfl hc | exact absurd hc Bool.false_ne_true | exact absurd hc Bool.false_ne_true.symm) | fail)
    · rw [hfc, fit_form hcl] at hc
      rw [← selN_yes (f := fun i => decC (FitN a sh (sh.getD i default) f args)) (decC_t hc)]
      exact wq_next (sv, k + 1) (by simp only; omega) (by simp only; omega) (by kernel_rfl) ent_e
    · rw [hfc, fit_form hcl] at hc
      refine wq_next (ov, k + 1) (by simp only; omega) (by simp only; omega) (by kernel_rfl) ?_
      simp only [selN_no (f := fun i => decC (FitN a sh (sh.getD i default) f args)) (decC_f hc)]
      exact ent_e
  · rw [show k = sh.length by omega]
    repeat' (first | refine red ?_ | (refine redi (fun hc => ?_) (fun hc => ?_) <;> try first | (exfalso; omega) | with_reducible first | exact absurd rfl hc | exact absurd hc Bool.false_ne_true | exact absurd hc Bool.false_ne_true.symm) | fail)
    exact ⟨ov, rfl, by show Ent _ _ (.ow [ov] (comesN a sh f args) :: _); unfold comesN; exact ent_e⟩
instance result_ctr {Γ Δ : List Atom} {bx : Nat} {v vl vh vk vs vm vt : Value} {a : List Int} {sh ls sets : List (List Int)} {f : Nat} {list : List Int} [hb0 : HasBk Γ bx [v, vl, vh, vk, vs, vm]] [h3 : PullOw (List (Sh (List Int))) repList Γ [vs] (sets.map Sh.mk) Δ] [hb : HasBk Δ bx [v, vl, vh, vk, vs, vm]] [h1 : HasIm (List SForm) repList Δ [vl] (formL a sh ls)] [h2 : HasIm (List SForm) repList Δ [vh] (formL a sh sh)] [h4 : HasRd (List Int) repList Δ [vt] list] :
    CtrC Tryz.prog 168 [.pointer (some ⟨bx, 0, none⟩), .int .i64 (f : Int), vt] Γ (RC a sh ls sets f list) (Value) (fun q : Value => .tuple #[q, .bool (imN a sh ls f (listed sets list)).isSome]) (fun q => .ow [q] ((imN a sh ls f (listed sets list)).getD []) :: .ow [vs] (sets.map Sh.mk) :: Δ) := ⟨fun s w0 => result_spec s⟩

end Go.Proofs.YtbbdjjlnachnlaaGreatDoor
