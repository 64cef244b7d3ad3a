/- What comes of a term by steps made at once. -/
import Derived.Test.YtfdpmkilhllkoaaL07c
namespace Go.Proofs.Ytfdpmkilhllkoaa
open Go Go.Eng
set_option linter.unusedVariables false
set_option linter.unusedSimpArgs false

/-- How many arguments the first symbol has; where they begin. -/
def arN (a t : List Int) : Nat := (ar a (t.getD 0 0)).toNat
def argP (a t : List Int) : Nat → Nat
  | 0 => 1
  | i + 1 => argP a t i + sz a t (argP a t i)
theorem args_skp {a t : List Int} (h : termOk a t = true) : ∀ i, i ≤ arN a t → argP a t i ≤ t.length ∧ skp a (badS a) (t.drop (argP a t i)) (arN a t - i) = (true, t.length - argP a t i)
  | 0, _ => by
    have hl := termOk_len h
    have hs := (termOk_iff.1 h).2.2.2
    have hd := drop_get (t := t) (k := 0) (by omega)
    rw [List.drop_zero] at hd
    refine ⟨hl.1, ?_⟩
    show skp a (badS a) (t.drop 1) (arN a t - 0) = (true, t.length - 1)
    rw [hd] at hs
    simp only [skp, Nat.zero_add] at hs
    split at hs
    · simp at hs
    · have e1 := congrArg Prod.fst hs
      have e2 := congrArg Prod.snd hs
      simp only [List.length_cons] at e1 e2
      rw [List.length_drop] at e2
      have : skp a (badS a) (t.drop 1) (arN a t) = (true, t.length - 1) := Prod.ext e1 (by
        show (skp a (badS a) (t.drop 1) (ar a (t.getD 0 0)).toNat).2 = t.length - 1
        omega)
      simpa using this
  | i + 1, hi => by
    obtain ⟨h1, h2⟩ := args_skp h i (by omega)
    rw [show arN a t - i = 1 + (arN a t - (i + 1)) by omega, skp_split] at h2
    split at h2
    · rename_i hone
      have e1 := congrArg Prod.fst h2
      have e2 := congrArg Prod.snd h2
      simp only [List.drop_drop] at e1 e2
      have hle := skp_le a (badS a) (t.drop (argP a t i)) 1
      rw [List.length_drop] at hle
      refine ⟨by show argP a t i + (skp a (badS a) (t.drop (argP a t i)) 1).2 ≤ _; omega, ?_⟩
      show skp a (badS a) (t.drop (argP a t i + (skp a (badS a) (t.drop (argP a t i)) 1).2)) _ = (true, t.length - (argP a t i + (skp a (badS a) (t.drop (argP a t i)) 1).2))
      exact Prod.ext e1 (by show (skp _ _ _ _).2 = t.length - _; omega)
    · rename_i hone
      rw [h2] at hone
      exact absurd rfl hone
theorem arg_lt {a t : List Int} (h : termOk a t = true) {i : Nat} (hi : i < arN a t) : argP a t i < t.length ∧ 1 ≤ argP a t i := by
  have h1 := (args_skp h i (by omega)).2
  have h2 : 1 ≤ (skp a (badS a) (t.drop (argP a t i)) ((arN a t - i - 1) + 1)).2 := skp_pos _ _ _ _ (by rw [show arN a t - i - 1 + 1 = arN a t - i by omega, h1])
  rw [show arN a t - i - 1 + 1 = arN a t - i by omega, h1] at h2
  simp only at h2
  refine ⟨by omega, ?_⟩
  have : ∀ j, 1 ≤ argP a t j := fun j => by
    induction j with
    | zero => exact Nat.le_refl _
    | succ j ih => show 1 ≤ argP a t j + _; omega
  exact this i
theorem arN_le {a t : List Int} (h : termOk a t = true) : (ar a (t.getD 0 0) : Int) = arN a t ∧ arN a t ≤ 3 := by
  have hl := termOk_len h
  have hg := termOk_get h (k := 0) (by omega)
  have hb := ar_bounds (termOk_sig h) hg.2
  unfold arN
  omega
def argsTo (a t : List Int) : Nat → List Int
  | 0 => []
  | i + 1 => argsTo a t i ++ [(argP a t i : Int)]
theorem argsTo_len (a t : List Int) : ∀ i, (argsTo a t i).length = i
  | 0 => rfl
  | i + 1 => by simp [argsTo, argsTo_len a t i]
theorem argsTo_get (a t : List Int) : ∀ {n i : Nat}, i < n → (argsTo a t n).getD i 0 = (argP a t i : Int)
  | n + 1, i, h => by
    show (argsTo a t n ++ [(argP a t n : Int)]).getD i 0 = _
    by_cases he : i < n
    · rw [List.getD_eq_getElem?_getD, List.getElem?_append_left (by rw [argsTo_len]; omega), ← List.getD_eq_getElem?_getD, argsTo_get a t he]
    · rw [List.getD_eq_getElem?_getD, List.getElem?_append_right (by rw [argsTo_len]; omega), argsTo_len, show i - n = 0 by omega, show n = i by omega]; rfl
theorem argsAt_spec {w0 : World} {Γ : List Atom} {v0 v : Value} {a t : List Int} [h0 : HasRd (List Int) repList Γ [v0] a] [h2 : HasRd (List Int) repList Γ [v] t] (hs : termOk a t = true) : CJ Try.prog 128 [.agg #[v0], v, .int .i64 0] w0 Γ (fun q : Value => q) (fun q => .ow [q] (argsTo a t (arN a t)) :: Γ) := by
  refine cj_lift (R := [.rd [v0] a, .rd [v] t]) (A := fun q : Value => [.ow [q] (argsTo a t (arN a t))]) (fun w1 => ?_) (reads_cons h0 (reads_cons h2 (inferInstance))) (fun _ => inferInstance)
  simp only [List.cons_append, List.nil_append]
  have hl := termOk_len hs
  have hg := termOk_get hs (k := 0) (by omega)
  obtain ⟨hn1, hn2⟩ := arN_le hs
  have hsig := termOk_sig hs
  refine cj_enter Try.func128 Try.ntmps128 ?_
  repeat' (first | refine red ?_ | refine redf fun hbi => ?_ | refine reds ?_ | refine redc fun r => ?_ | refine redp (fun r => ?_) (fun r => ?_) | refine redv fun sv => ?_ | refine redn fun b => ?_ | refine redz fun zs => ?_ | refine redq (fun hc => ?_) (fun hc => ?_) | with_reducible refine wq_blk_o rfl ?_ | (refine redi (fun hc => ?_) (fun hc => ?_) <;> try first | (exfalso; omega) | exact absurd rfl hc) | ((refine wa_begin 3 [false, false, false, false, false, false, false] [] ?_ <;> refine wa_p 0 ?_ <;> (first | refine wa_p 1 ?_ | refine wa_p0 1 ?_) <;> (first | refine wa_p 2 ?_ | refine wa_p0 2 ?_) <;> refine wa_p 3 ?_ <;> (first | refine wa_f 4 fun hbi => ?_ | refine wa_p 4 ?_ | (refine wa_do 4 ?_ <;> (repeat' (first | refine red ?_ | refine redc fun r => ?_ | refine redv fun sv => ?_ | refine redf fun hbi => ?_ | refine redn fun b => ?_ | refine reds ?_ | refine redi (fun hc => ?_) (fun hc => ?_) | refine redq (fun hc => ?_) (fun hc => ?_) | refine redp (fun r => ?_) (fun r => ?_) | fail))) | fail) <;> (refine wa_do 5 ?_ <;> (repeat' (first | refine red ?_ | refine redc fun r => ?_ | refine redv fun sv => ?_ | refine redf fun hbi => ?_ | refine redn fun b => ?_ | refine reds ?_ | refine redi (fun hc => ?_) (fun hc => ?_) | refine redq (fun hc => ?_) (fun hc => ?_) | refine redp (fun r => ?_) (fun r => ?_) | fail))) <;> (first | refine wa_p 6 ?_ | refine wa_p0 6 ?_)) <;> (first | refine wa_end ?_ | with_reducible refine wq_keep ?_)) | fail)
  rw [hn1]
  refine wc_loop_p [7, 8, 9] [18, 19, 22, 23, 24, 25, 26, 27, 28, 29, 20, 21] (ι := Nat × Value) (fun k => [k.2, .int .i64 (argP a t k.1), .int .i64 ((arN a t - k.1 : Nat) : Int)]) (fun k => [.ow [k.2] (argsTo a t k.1)]) (fun k => k.1 ≤ arN a t) (fun k => arN a t - k.1) (0, .slice none 0 0) [.ow [.slice none 0 0] ([] : List Int)] (by kernel_rfl) (Nat.zero_le _) rfl ?_
  intro ⟨k, sw⟩ u l' hl' hk
  simp only [patch, List.map_cons, List.map_nil, List.set_cons_zero, List.set_cons_succ] at hl'
  subst hl'
  simp only [List.cons_append, List.nil_append] at hk ⊢
  have hal := argsTo_len a t k
  have hlt := fun h => arg_lt hs (i := k) h
  have hee := fun h => end_I hs (k := argP a t k) h
  repeat' (first | refine red ?_ | refine redf fun hbi => ?_ | refine reds ?_ | refine redc fun r => ?_ | refine redp (fun r => ?_) (fun r => ?_) | refine redv fun sv => ?_ | refine redn fun b => ?_ | refine redz fun zs => ?_ | refine redq (fun hc => ?_) (fun hc => ?_) | with_reducible refine wq_blk_o rfl ?_ | (refine redi (fun hc => ?_) (fun hc => ?_) <;> try first | (exfalso; omega) | exact absurd rfl hc) | ((refine wa_begin 3 [false, false, false, false, false, false, false] [] ?_ <;> refine wa_p 0 ?_ <;> (first | refine wa_p 1 ?_ | refine wa_p0 1 ?_) <;> (first | refine wa_p 2 ?_ | refine wa_p0 2 ?_) <;> refine wa_p 3 ?_ <;> (first | refine wa_f 4 fun hbi => ?_ | refine wa_p 4 ?_ | (refine wa_do 4 ?_ <;> (repeat' (first | refine red ?_ | refine redc fun r => ?_ | refine redv fun sv => ?_ | refine redf fun hbi => ?_ | refine redn fun b => ?_ | refine reds ?_ | refine redi (fun hc => ?_) (fun hc => ?_) | refine redq (fun hc => ?_) (fun hc => ?_) | refine redp (fun r => ?_) (fun r => ?_) | fail))) | fail) <;> (refine wa_do 5 ?_ <;> (repeat' (first | refine red ?_ | refine redc fun r => ?_ | refine redv fun sv => ?_ | refine redf fun hbi => ?_ | refine redn fun b => ?_ | refine reds ?_ | refine redi (fun hc => ?_) (fun hc => ?_) | refine redq (fun hc => ?_) (fun hc => ?_) | refine redp (fun r => ?_) (fun r => ?_) | fail))) <;> (first | refine wa_p 6 ?_ | refine wa_p0 6 ?_)) <;> (first | refine wa_end ?_ | with_reducible refine wq_keep ?_)) | fail)
  · rw [hee (hlt (by omega)).1, show ((arN a t - k : Nat) : Int) - 1 = ((arN a t - (k + 1) : Nat) : Int) by omega]
    rw [show argsTo a t k ++ [(argP a t k : Int)] = argsTo a t (k + 1) from rfl]
    exact wq_next (k + 1, sv) (by simp only; omega) (by simp only; omega) (by kernel_rfl) ent_e
  · rw [show arN a t = k by omega]
    exact ⟨_, rfl, ent_e⟩
instance argsAt_ctr {Γ : List Atom} {v0 v : Value} {a t : List Int} [h0 : HasRd (List Int) repList Γ [v0] a] [h2 : HasRd (List Int) repList Γ [v] t] :
    CtrC Try.prog 128 [.agg #[v0], v, .int .i64 0] Γ (termOk a t = true) (Value) (fun q : Value => q) (fun q => .ow [q] (argsTo a t (arN a t)) :: Γ) := ⟨fun s w0 => argsAt_spec s⟩

end Go.Proofs.Ytfdpmkilhllkoaa
