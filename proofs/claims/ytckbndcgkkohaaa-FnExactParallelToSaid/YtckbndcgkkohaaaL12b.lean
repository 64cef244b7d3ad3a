/- What comes of a term at once: the parts; both recursions. -/
import Derived.Test.YtckbndcgkkohaaaL12
namespace Go.Proofs.Ytckbndcgkkohaaa
open Go Go.Eng
set_option linter.unusedVariables false
set_option linter.unusedSimpArgs false

theorem l13End_spec {w0 : World} {Γ : List Atom} {v0 v : Value} {a t : List Int} {at_ : Int} {k0 : Nat} [hm : ToN at_ k0] [h0 : HasRd (List Int) repList Γ [v0] a] [h2 : HasRd (List Int) repList Γ [v] t] (hs : termOk a t = true ∧ 0 ≤ at_ ∧ at_ < t.length) : CJ Try.prog 216 [.agg #[v0], v, .int .i64 at_] w0 Γ (fun _ : Unit => .int .i64 (k0 + sz a t k0 : Nat)) (fun _ => Γ) := by
  refine cj_lift (R := [.rd [v0] a, .rd [v] t]) (A := fun _ => []) (fun w1 => ?_) (reads_cons h0 (reads_cons h2 (inferInstance))) (fun _ => inferInstance)
  simp only [List.cons_append, List.nil_append]
  obtain ⟨hs1, hs2, hs3⟩ := hs
  obtain rfl : at_ = (k0 : Int) := by have := hm.eq; omega
  have hl := termOk_len hs1
  have hta := term_at hs1 (k := k0) (by omega)
  refine cj_enter Try.func216 Try.ntmps216 ?_
  repeat' (first
    | refine red ?_
    | refine redf fun hbi => ?_
    | refine reds ?_
    | refine redc fun r => ?_
    | refine redv fun sv => ?_
    | refine redn fun b => ?_
    | refine redz fun zs => ?_
    | refine redq (fun hc => ?_) (fun hc => ?_)
    | with_reducible refine wq_blk_o rfl ?_
    | (refine redd fun p cs as_ hcs has hf => ?_; simp only [Un.cells, Un.atoms, Un.fact, List.cons_append, List.nil_append] at hcs has hf; subst hcs has)
    | (refine redi (fun hc => ?_) (fun hc => ?_) <;> try first | (exfalso; omega) | exact absurd rfl hc)
    | ((refine wa_begin 4 [false, false, false, false, false, false, false, false, false, false, false] [] ?_ <;> (first | refine wa_p 0 ?_ | refine wa_p0 0 ?_ | fail) <;> (first | refine wa_p 1 ?_ | refine wa_p0 1 ?_ | fail) <;> (first | refine wa_f 2 fun hbi => ?_ | refine wa_p 2 ?_ | fail) <;> (first | refine wa_p 3 ?_ | refine wa_p0 3 ?_ | fail) <;> (first | refine wa_p 4 ?_ | refine wa_p0 4 ?_ | (refine wa_do 4 ?_ <;> (repeat' (first | refine red ?_ | refine redc fun r => ?_ | refine redv fun sv => ?_ | refine redf fun hbi => ?_ | refine redn fun b => ?_ | refine reds ?_ | refine redi (fun hc => ?_) (fun hc => ?_) | fail))) | fail) <;> (first | refine wa_p 5 ?_ | (refine wa_deep 5 fun p cs as_ asb_ hcs has hasb hf => ?_; simp only [Un.cells, Un.atoms, Un.fact, List.cons_append, List.nil_append] at hcs has hasb hf; subst hcs has hasb) | fail) <;> (first | refine wa_f 6 fun hbi => ?_ | refine wa_p 6 ?_ | fail) <;> (first | refine wa_p 7 ?_ | (refine wa_deep 7 fun p cs as_ asb_ hcs has hasb hf => ?_; simp only [Un.cells, Un.atoms, Un.fact, List.cons_append, List.nil_append] at hcs has hasb hf; subst hcs has hasb) | fail) <;> (first | refine wa_f 8 fun hbi => ?_ | refine wa_p 8 ?_ | fail) <;> (first | refine wa_p 9 ?_ | refine wa_p0 9 ?_ | (refine wa_do 9 ?_ <;> (repeat' (first | refine red ?_ | refine redc fun r => ?_ | refine redv fun sv => ?_ | refine redf fun hbi => ?_ | refine redn fun b => ?_ | refine reds ?_ | refine redi (fun hc => ?_) (fun hc => ?_) | fail))) | fail) <;> (first | refine wa_p 10 ?_ | refine wa_p0 10 ?_ | (refine wa_do 10 ?_ <;> (repeat' (first | refine red ?_ | refine redc fun r => ?_ | refine redv fun sv => ?_ | refine redf fun hbi => ?_ | refine redn fun b => ?_ | refine reds ?_ | refine redi (fun hc => ?_) (fun hc => ?_) | fail))) | fail)) <;> refine wa_end ?_)
    | fail)
  refine wc_loop_c [2, 7] [8, 9, 10, 11, 12, 13, 14, 15, 16, 17, 18, 19, 20, 21, 22, 23, 24, 25, 26, 27, 28] (ι := Nat × Nat) (fun k => [.int .i64 k.1, .int .i64 k.2]) (fun k => k0 ≤ k.1 ∧ k.1 ≤ t.length ∧ k.2 ≤ 3 * k.1 + 1 ∧ (skp a (badS a) (t.drop k.1) k.2).1 = true ∧ k.1 + (skp a (badS a) (t.drop k.1) k.2).2 = k0 + sz a t k0) (fun k => t.length - k.1 + (if k.2 = 0 then 0 else 1)) (k0, 1) (by kernel_rfl) ⟨Nat.le_refl _, by omega, by omega, hta.1, rfl⟩ ?_
  intro ⟨k, m⟩ u l' hl' ⟨hk0, hk, hm3, h1, h2⟩
  simp only [patch, List.map_cons, List.map_nil, List.set_cons_zero, List.set_cons_succ] at hl'
  subst hl'
  simp only at hk0 hk hm3 h1 h2 ⊢
  cases m with
  | zero =>
    simp only [skp] at h2
    repeat' (first
      | refine red ?_
      | refine redf fun hbi => ?_
      | refine reds ?_
      | refine redc fun r => ?_
      | refine redv fun sv => ?_
      | refine redn fun b => ?_
      | refine redz fun zs => ?_
      | refine redq (fun hc => ?_) (fun hc => ?_)
      | with_reducible refine wq_blk_o rfl ?_
      | (refine redd fun p cs as_ hcs has hf => ?_; simp only [Un.cells, Un.atoms, Un.fact, List.cons_append, List.nil_append] at hcs has hf; subst hcs has)
      | (refine redi (fun hc => ?_) (fun hc => ?_) <;> try first | (exfalso; omega) | exact absurd rfl hc)
      | ((refine wa_begin 4 [false, false, false, false, false, false, false, false, false, false, false] [] ?_ <;> (first | refine wa_p 0 ?_ | refine wa_p0 0 ?_ | fail) <;> (first | refine wa_p 1 ?_ | refine wa_p0 1 ?_ | fail) <;> (first | refine wa_f 2 fun hbi => ?_ | refine wa_p 2 ?_ | fail) <;> (first | refine wa_p 3 ?_ | refine wa_p0 3 ?_ | fail) <;> (first | refine wa_p 4 ?_ | refine wa_p0 4 ?_ | (refine wa_do 4 ?_ <;> (repeat' (first | refine red ?_ | refine redc fun r => ?_ | refine redv fun sv => ?_ | refine redf fun hbi => ?_ | refine redn fun b => ?_ | refine reds ?_ | refine redi (fun hc => ?_) (fun hc => ?_) | fail))) | fail) <;> (first | refine wa_p 5 ?_ | (refine wa_deep 5 fun p cs as_ asb_ hcs has hasb hf => ?_; simp only [Un.cells, Un.atoms, Un.fact, List.cons_append, List.nil_append] at hcs has hasb hf; subst hcs has hasb) | fail) <;> (first | refine wa_f 6 fun hbi => ?_ | refine wa_p 6 ?_ | fail) <;> (first | refine wa_p 7 ?_ | (refine wa_deep 7 fun p cs as_ asb_ hcs has hasb hf => ?_; simp only [Un.cells, Un.atoms, Un.fact, List.cons_append, List.nil_append] at hcs has hasb hf; subst hcs has hasb) | fail) <;> (first | refine wa_f 8 fun hbi => ?_ | refine wa_p 8 ?_ | fail) <;> (first | refine wa_p 9 ?_ | refine wa_p0 9 ?_ | (refine wa_do 9 ?_ <;> (repeat' (first | refine red ?_ | refine redc fun r => ?_ | refine redv fun sv => ?_ | refine redf fun hbi => ?_ | refine redn fun b => ?_ | refine reds ?_ | refine redi (fun hc => ?_) (fun hc => ?_) | fail))) | fail) <;> (first | refine wa_p 10 ?_ | refine wa_p0 10 ?_ | (refine wa_do 10 ?_ <;> (repeat' (first | refine red ?_ | refine redc fun r => ?_ | refine redv fun sv => ?_ | refine redf fun hbi => ?_ | refine redn fun b => ?_ | refine reds ?_ | refine redi (fun hc => ?_) (fun hc => ?_) | fail))) | fail)) <;> refine wa_end ?_)
      | fail)
    exact ⟨(), ret_int (by omega), ent_e⟩
  | succ m =>
    by_cases hlt : k < t.length
    · have hg := termOk_get hs1 hlt
      have hb := ar_bounds (termOk_sig hs1) hg.2
      rw [drop_get hlt] at h1 h2
      simp only [skp] at h1 h2
      have hbad : badS a (t.getD k 0) = false := by unfold badS; exact decide_eq_false (by omega)
      rw [if_neg (by rw [hbad]; simp)] at h1 h2
      simp only at h1 h2
      by_cases hneg : 0 ≤ t.getD k 0
      · have har : ar a (t.getD k 0) = a.getD (t.getD k 0).toNat 0 := by unfold ar; rw [if_neg (by omega)]
        repeat' (first
          | refine red ?_
          | refine redf fun hbi => ?_
          | refine reds ?_
          | refine redc fun r => ?_
          | refine redv fun sv => ?_
          | refine redn fun b => ?_
          | refine redz fun zs => ?_
          | refine redq (fun hc => ?_) (fun hc => ?_)
          | with_reducible refine wq_blk_o rfl ?_
          | (refine redd fun p cs as_ hcs has hf => ?_; simp only [Un.cells, Un.atoms, Un.fact, List.cons_append, List.nil_append] at hcs has hf; subst hcs has)
          | (refine redi (fun hc => ?_) (fun hc => ?_) <;> try first | (exfalso; omega) | exact absurd rfl hc)
          | ((refine wa_begin 4 [false, false, false, false, false, false, false, false, false, false, false] [] ?_ <;> (first | refine wa_p 0 ?_ | refine wa_p0 0 ?_ | fail) <;> (first | refine wa_p 1 ?_ | refine wa_p0 1 ?_ | fail) <;> (first | refine wa_f 2 fun hbi => ?_ | refine wa_p 2 ?_ | fail) <;> (first | refine wa_p 3 ?_ | refine wa_p0 3 ?_ | fail) <;> (first | refine wa_p 4 ?_ | refine wa_p0 4 ?_ | (refine wa_do 4 ?_ <;> (repeat' (first | refine red ?_ | refine redc fun r => ?_ | refine redv fun sv => ?_ | refine redf fun hbi => ?_ | refine redn fun b => ?_ | refine reds ?_ | refine redi (fun hc => ?_) (fun hc => ?_) | fail))) | fail) <;> (first | refine wa_p 5 ?_ | (refine wa_deep 5 fun p cs as_ asb_ hcs has hasb hf => ?_; simp only [Un.cells, Un.atoms, Un.fact, List.cons_append, List.nil_append] at hcs has hasb hf; subst hcs has hasb) | fail) <;> (first | refine wa_f 6 fun hbi => ?_ | refine wa_p 6 ?_ | fail) <;> (first | refine wa_p 7 ?_ | (refine wa_deep 7 fun p cs as_ asb_ hcs has hasb hf => ?_; simp only [Un.cells, Un.atoms, Un.fact, List.cons_append, List.nil_append] at hcs has hasb hf; subst hcs has hasb) | fail) <;> (first | refine wa_f 8 fun hbi => ?_ | refine wa_p 8 ?_ | fail) <;> (first | refine wa_p 9 ?_ | refine wa_p0 9 ?_ | (refine wa_do 9 ?_ <;> (repeat' (first | refine red ?_ | refine redc fun r => ?_ | refine redv fun sv => ?_ | refine redf fun hbi => ?_ | refine redn fun b => ?_ | refine reds ?_ | refine redi (fun hc => ?_) (fun hc => ?_) | fail))) | fail) <;> (first | refine wa_p 10 ?_ | refine wa_p0 10 ?_ | (refine wa_do 10 ?_ <;> (repeat' (first | refine red ?_ | refine redc fun r => ?_ | refine redv fun sv => ?_ | refine redf fun hbi => ?_ | refine redn fun b => ?_ | refine reds ?_ | refine redi (fun hc => ?_) (fun hc => ?_) | fail))) | fail)) <;> refine wa_end ?_)
          | fail)
        rw [show ((m + 1 : Nat) : Int) + a.getD (t.getD k 0).toNat 0 - 1 = ((m + (ar a (t.getD k 0)).toNat : Nat) : Int) by omega]
        exact wq_next (k + 1, m + (ar a (t.getD k 0)).toNat) ⟨by simp only; omega, by simp only; omega, by simp only; omega, h1, by simp only; omega⟩ (by simp only [Nat.succ_ne_zero, if_false]; split <;> omega) (by kernel_rfl) ent_e
      · have har : ar a (t.getD k 0) = 0 := by unfold ar; rw [if_pos (by omega)]
        rw [har] at h1 h2
        simp only [Int.toNat_zero, Nat.add_zero] at h1 h2
        repeat' (first
          | refine red ?_
          | refine redf fun hbi => ?_
          | refine reds ?_
          | refine redc fun r => ?_
          | refine redv fun sv => ?_
          | refine redn fun b => ?_
          | refine redz fun zs => ?_
          | refine redq (fun hc => ?_) (fun hc => ?_)
          | with_reducible refine wq_blk_o rfl ?_
          | (refine redd fun p cs as_ hcs has hf => ?_; simp only [Un.cells, Un.atoms, Un.fact, List.cons_append, List.nil_append] at hcs has hf; subst hcs has)
          | (refine redi (fun hc => ?_) (fun hc => ?_) <;> try first | (exfalso; omega) | exact absurd rfl hc)
          | ((refine wa_begin 4 [false, false, false, false, false, false, false, false, false, false, false] [] ?_ <;> (first | refine wa_p 0 ?_ | refine wa_p0 0 ?_ | fail) <;> (first | refine wa_p 1 ?_ | refine wa_p0 1 ?_ | fail) <;> (first | refine wa_f 2 fun hbi => ?_ | refine wa_p 2 ?_ | fail) <;> (first | refine wa_p 3 ?_ | refine wa_p0 3 ?_ | fail) <;> (first | refine wa_p 4 ?_ | refine wa_p0 4 ?_ | (refine wa_do 4 ?_ <;> (repeat' (first | refine red ?_ | refine redc fun r => ?_ | refine redv fun sv => ?_ | refine redf fun hbi => ?_ | refine redn fun b => ?_ | refine reds ?_ | refine redi (fun hc => ?_) (fun hc => ?_) | fail))) | fail) <;> (first | refine wa_p 5 ?_ | (refine wa_deep 5 fun p cs as_ asb_ hcs has hasb hf => ?_; simp only [Un.cells, Un.atoms, Un.fact, List.cons_append, List.nil_append] at hcs has hasb hf; subst hcs has hasb) | fail) <;> (first | refine wa_f 6 fun hbi => ?_ | refine wa_p 6 ?_ | fail) <;> (first | refine wa_p 7 ?_ | (refine wa_deep 7 fun p cs as_ asb_ hcs has hasb hf => ?_; simp only [Un.cells, Un.atoms, Un.fact, List.cons_append, List.nil_append] at hcs has hasb hf; subst hcs has hasb) | fail) <;> (first | refine wa_f 8 fun hbi => ?_ | refine wa_p 8 ?_ | fail) <;> (first | refine wa_p 9 ?_ | refine wa_p0 9 ?_ | (refine wa_do 9 ?_ <;> (repeat' (first | refine red ?_ | refine redc fun r => ?_ | refine redv fun sv => ?_ | refine redf fun hbi => ?_ | refine redn fun b => ?_ | refine reds ?_ | refine redi (fun hc => ?_) (fun hc => ?_) | fail))) | fail) <;> (first | refine wa_p 10 ?_ | refine wa_p0 10 ?_ | (refine wa_do 10 ?_ <;> (repeat' (first | refine red ?_ | refine redc fun r => ?_ | refine redv fun sv => ?_ | refine redf fun hbi => ?_ | refine redn fun b => ?_ | refine reds ?_ | refine redi (fun hc => ?_) (fun hc => ?_) | fail))) | fail)) <;> refine wa_end ?_)
          | fail)
        rw [show ((m + 1 : Nat) : Int) - 1 = (m : Int) by omega]
        exact wq_next (k + 1, m) ⟨by simp only; omega, by simp only; omega, by simp only; omega, h1, by simp only; omega⟩ (by simp only [Nat.succ_ne_zero, if_false]; split <;> omega) (by kernel_rfl) ent_e
    · rw [List.drop_of_length_le (by omega)] at h1
      simp [skp] at h1
instance l13End_ctr {Γ : List Atom} {v0 v : Value} {a t : List Int} {at_ : Int} {k0 : Nat} [hm : ToN at_ k0] [h0 : HasRd (List Int) repList Γ [v0] a] [h2 : HasRd (List Int) repList Γ [v] t] :
    CtrC Try.prog 216 [.agg #[v0], v, .int .i64 at_] Γ (termOk a t = true ∧ 0 ≤ at_ ∧ at_ < t.length) (Unit) (fun _ : Unit => .int .i64 (k0 + sz a t k0 : Nat)) (fun _ => Γ) := ⟨fun s w0 => l13End_spec s⟩

def partsTo (a t : List Int) : Nat → List (Sh (List Int))
  | 0 => []
  | i + 1 => partsTo a t i ++ [⟨subt a t (argP a t i)⟩]
theorem partsTo_len (a t : List Int) : ∀ i, (partsTo a t i).length = i
  | 0 => rfl
  | i + 1 => by simp [partsTo, partsTo_len a t i]
theorem partsTo_get (a t : List Int) : ∀ {n i : Nat}, i < n → (partsTo a t n).getD i default = (⟨subt a t (argP a t i)⟩ : Sh (List Int))
  | n + 1, i, h => by
    show (partsTo a t n ++ [(⟨subt a t (argP a t n)⟩ : Sh (List Int))]).getD i default = _
    by_cases he : i < n
    · rw [List.getD_eq_getElem?_getD, List.getElem?_append_left (by rw [partsTo_len]; omega), ← List.getD_eq_getElem?_getD, partsTo_get a t he]
    · rw [List.getD_eq_getElem?_getD, List.getElem?_append_right (by rw [partsTo_len]; omega), partsTo_len, show i - n = 0 by omega, show n = i by omega]; rfl
theorem l13Parts_spec {w0 : World} {Γ : List Atom} {v0 v : Value} {a t : List Int} [h0 : HasRd (List Int) repList Γ [v0] a] [h2 : HasIm (List Int) repList Γ [v] t] (hs : termOk a t = true ∧ 0 ≤ t.getD 0 0) : CJ Try.prog 171 [.agg #[v0], v] w0 Γ (fun q : Value => q) (fun q => .ow [q] (partsTo a t (arN a t)) :: Γ) := by
  obtain ⟨hs1, hs2⟩ := hs
  have hl := termOk_len hs1
  have hg := termOk_get hs1 (k := 0) (by omega)
  obtain ⟨hn1, hn2⟩ := arN_le hs1
  have har : ar a (t.getD 0 0) = a.getD (t.getD 0 0).toNat 0 := by unfold ar; rw [if_neg (by omega)]
  refine cj_enter Try.func171 Try.ntmps171 ?_
  repeat' (first
    | refine red ?_
    | refine redf fun hbi => ?_
    | refine reds ?_
    | refine redc fun r => ?_
    | refine redv fun sv => ?_
    | refine redn fun b => ?_
    | refine redz fun zs => ?_
    | refine redq (fun hc => ?_) (fun hc => ?_)
    | with_reducible refine wq_blk_o rfl ?_
    | (refine redd fun p cs as_ hcs has hf => ?_; simp only [Un.cells, Un.atoms, Un.fact, List.cons_append, List.nil_append] at hcs has hf; subst hcs has)
    | (refine redi (fun hc => ?_) (fun hc => ?_) <;> try first | (exfalso; omega) | exact absurd rfl hc)
    | ((refine wa_begin 6 [false, false, false, false, false, false, false, false, false] [] ?_ <;> (first | refine wa_p 0 ?_ | refine wa_p0 0 ?_ | fail) <;> (first | refine wa_p 1 ?_ | refine wa_p0 1 ?_ | fail) <;> (first | refine wa_f 2 fun hbi => ?_ | refine wa_p 2 ?_ | fail) <;> (first | refine wa_p 3 ?_ | refine wa_p0 3 ?_ | (refine wa_do 3 ?_ <;> (repeat' (first | refine red ?_ | refine redc fun r => ?_ | refine redv fun sv => ?_ | refine redf fun hbi => ?_ | refine redn fun b => ?_ | refine reds ?_ | refine redi (fun hc => ?_) (fun hc => ?_) | fail))) | fail) <;> (first | refine wa_p 4 ?_ | (refine wa_deep 4 fun p cs as_ asb_ hcs has hasb hf => ?_; simp only [Un.cells, Un.atoms, Un.fact, List.cons_append, List.nil_append] at hcs has hasb hf; subst hcs has hasb) | fail) <;> (first | refine wa_f 5 fun hbi => ?_ | refine wa_p 5 ?_ | fail) <;> (first | refine wa_p 6 ?_ | (refine wa_deep 6 fun p cs as_ asb_ hcs has hasb hf => ?_; simp only [Un.cells, Un.atoms, Un.fact, List.cons_append, List.nil_append] at hcs has hasb hf; subst hcs has hasb) | fail) <;> (first | refine wa_f 7 fun hbi => ?_ | refine wa_p 7 ?_ | fail) <;> (first | refine wa_p 8 ?_ | refine wa_p0 8 ?_ | (refine wa_do 8 ?_ <;> (repeat' (first | refine red ?_ | refine redc fun r => ?_ | refine redv fun sv => ?_ | refine redf fun hbi => ?_ | refine redn fun b => ?_ | refine reds ?_ | refine redi (fun hc => ?_) (fun hc => ?_) | fail))) | fail)) <;> refine wa_end ?_)
    | fail)
  refine wc_ow0 (α := List Int) (β := Sh (List Int)) sv rfl ?_
  refine wc_loop_p [5, 6, 7] [15, 16, 17, 18, 19, 20, 21, 22, 23, 26, 27, 28, 29, 8, 30, 31, 32, 33, 34, 35, 36, 37, 24, 25] (ι := Nat × Value) (fun k => [k.2, .int .i64 (argP a t k.1), .int .i64 k.1]) (fun k => [.ow [k.2] (partsTo a t k.1)]) (fun k => k.1 ≤ arN a t) (fun k => arN a t - k.1) (0, sv) [.ow [sv] ([] : List (Sh (List Int)))] (by kernel_rfl) (Nat.zero_le _) rfl ?_
  intro ⟨k, sw⟩ u l' hl' hk
  simp only [patch, List.map_cons, List.map_nil, List.set_cons_zero, List.set_cons_succ] at hl'
  subst hl'
  simp only [List.cons_append, List.nil_append] at hk ⊢
  have hpl := partsTo_len a t k
  have hlt := fun h => arg_lt hs1 (i := k) h
  have hle := (args_skp hs1 k hk).1
  have hsz := fun h => (term_at hs1 (hlt h).1).2
  have e : (t.take (argP a t k + sz a t (argP a t k))).drop (argP a t k) = subt a t (argP a t k) := by
    unfold subt; rw [List.drop_take]; congr 1; omega
  by_cases hkn : k < arN a t
  · have hs3 := hsz hkn
    have hs4 := hlt hkn
    repeat' (first
      | refine red ?_
      | refine redf fun hbi => ?_
      | refine reds ?_
      | refine redc fun r => ?_
      | refine redv fun sv => ?_
      | refine redn fun b => ?_
      | refine redz fun zs => ?_
      | refine redq (fun hc => ?_) (fun hc => ?_)
      | with_reducible refine wq_blk_o rfl ?_
      | (refine redd fun p cs as_ hcs has hf => ?_; simp only [Un.cells, Un.atoms, Un.fact, List.cons_append, List.nil_append] at hcs has hf; subst hcs has)
      | (refine redi (fun hc => ?_) (fun hc => ?_) <;> try first | (exfalso; omega) | exact absurd rfl hc)
      | ((refine wa_begin 6 [false, false, false, false, false, false, false, false, false] [] ?_ <;> (first | refine wa_p 0 ?_ | refine wa_p0 0 ?_ | fail) <;> (first | refine wa_p 1 ?_ | refine wa_p0 1 ?_ | fail) <;> (first | refine wa_f 2 fun hbi => ?_ | refine wa_p 2 ?_ | fail) <;> (first | refine wa_p 3 ?_ | refine wa_p0 3 ?_ | (refine wa_do 3 ?_ <;> (repeat' (first | refine red ?_ | refine redc fun r => ?_ | refine redv fun sv => ?_ | refine redf fun hbi => ?_ | refine redn fun b => ?_ | refine reds ?_ | refine redi (fun hc => ?_) (fun hc => ?_) | fail))) | fail) <;> (first | refine wa_p 4 ?_ | (refine wa_deep 4 fun p cs as_ asb_ hcs has hasb hf => ?_; simp only [Un.cells, Un.atoms, Un.fact, List.cons_append, List.nil_append] at hcs has hasb hf; subst hcs has hasb) | fail) <;> (first | refine wa_f 5 fun hbi => ?_ | refine wa_p 5 ?_ | fail) <;> (first | refine wa_p 6 ?_ | (refine wa_deep 6 fun p cs as_ asb_ hcs has hasb hf => ?_; simp only [Un.cells, Un.atoms, Un.fact, List.cons_append, List.nil_append] at hcs has hasb hf; subst hcs has hasb) | fail) <;> (first | refine wa_f 7 fun hbi => ?_ | refine wa_p 7 ?_ | fail) <;> (first | refine wa_p 8 ?_ | refine wa_p0 8 ?_ | (refine wa_do 8 ?_ <;> (repeat' (first | refine red ?_ | refine redc fun r => ?_ | refine redv fun sv => ?_ | refine redf fun hbi => ?_ | refine redn fun b => ?_ | refine reds ?_ | refine redi (fun hc => ?_) (fun hc => ?_) | fail))) | fail)) <;> refine wa_end ?_)
      | fail)
    simp only [Int.toNat_natCast, List.map_cons, List.map_nil]
    rw [e, show partsTo a t k ++ [Sh.mk (subt a t (argP a t k))] = partsTo a t (k + 1) from rfl]
    exact wq_next (k + 1, sv) (by simp only; omega) (by simp only; omega) (by kernel_rfl) ent_e
  · repeat' (first
      | refine red ?_
      | refine redf fun hbi => ?_
      | refine reds ?_
      | refine redc fun r => ?_
      | refine redv fun sv => ?_
      | refine redn fun b => ?_
      | refine redz fun zs => ?_
      | refine redq (fun hc => ?_) (fun hc => ?_)
      | with_reducible refine wq_blk_o rfl ?_
      | (refine redd fun p cs as_ hcs has hf => ?_; simp only [Un.cells, Un.atoms, Un.fact, List.cons_append, List.nil_append] at hcs has hf; subst hcs has)
      | (refine redi (fun hc => ?_) (fun hc => ?_) <;> try first | (exfalso; omega) | exact absurd rfl hc)
      | ((refine wa_begin 6 [false, false, false, false, false, false, false, false, false] [] ?_ <;> (first | refine wa_p 0 ?_ | refine wa_p0 0 ?_ | fail) <;> (first | refine wa_p 1 ?_ | refine wa_p0 1 ?_ | fail) <;> (first | refine wa_f 2 fun hbi => ?_ | refine wa_p 2 ?_ | fail) <;> (first | refine wa_p 3 ?_ | refine wa_p0 3 ?_ | (refine wa_do 3 ?_ <;> (repeat' (first | refine red ?_ | refine redc fun r => ?_ | refine redv fun sv => ?_ | refine redf fun hbi => ?_ | refine redn fun b => ?_ | refine reds ?_ | refine redi (fun hc => ?_) (fun hc => ?_) | fail))) | fail) <;> (first | refine wa_p 4 ?_ | (refine wa_deep 4 fun p cs as_ asb_ hcs has hasb hf => ?_; simp only [Un.cells, Un.atoms, Un.fact, List.cons_append, List.nil_append] at hcs has hasb hf; subst hcs has hasb) | fail) <;> (first | refine wa_f 5 fun hbi => ?_ | refine wa_p 5 ?_ | fail) <;> (first | refine wa_p 6 ?_ | (refine wa_deep 6 fun p cs as_ asb_ hcs has hasb hf => ?_; simp only [Un.cells, Un.atoms, Un.fact, List.cons_append, List.nil_append] at hcs has hasb hf; subst hcs has hasb) | fail) <;> (first | refine wa_f 7 fun hbi => ?_ | refine wa_p 7 ?_ | fail) <;> (first | refine wa_p 8 ?_ | refine wa_p0 8 ?_ | (refine wa_do 8 ?_ <;> (repeat' (first | refine red ?_ | refine redc fun r => ?_ | refine redv fun sv => ?_ | refine redf fun hbi => ?_ | refine redn fun b => ?_ | refine reds ?_ | refine redi (fun hc => ?_) (fun hc => ?_) | fail))) | fail)) <;> refine wa_end ?_)
      | fail)
    rw [show arN a t = k by omega]
    exact ⟨_, rfl, ent_e⟩

instance l13Parts_ctr {Γ : List Atom} {v0 v : Value} {a t : List Int} [h0 : HasRd (List Int) repList Γ [v0] a] [h2 : HasIm (List Int) repList Γ [v] t] :
    CtrC Try.prog 171 [.agg #[v0], v] Γ (termOk a t = true ∧ 0 ≤ t.getD 0 0) (Value) (fun q : Value => q) (fun q => .ow [q] (partsTo a t (arN a t)) :: Γ) := ⟨fun s w0 => l13Parts_spec s⟩

theorem step_eq {x : SSystem} {a b : List Int} {k r : Nat} (h : (stepOf x a k r).isSome = true) (h' : (stepOf x a k r).getD [] = b) : stepOf x a k r = some b := by
  cases hs : stepOf x a k r with
  | none => rw [hs] at h; cases h
  | some u => rw [hs] at h'; rw [← h']; rfl
def RootTo (x : SSystem) (a b : List Int) (n : Nat) : Prop := ∃ r, r < n ∧ stepOf x a 0 r = some b
theorem root_no {x : SSystem} {a b : List Int} {n : Nat} (h : ¬ RootTo x a b n) (h2 : ¬ stepOf x a 0 n = some b) : ¬ RootTo x a b (n + 1) := by
  rintro ⟨r, hr, h'⟩
  by_cases he : r = n
  · rw [he] at h'; exact h2 h'
  · exact h ⟨r, by omega, h'⟩
instance {x : SSystem} {a b : List Int} {n : Nat} : Decidable (RootTo x a b n) := decidable_of_iff (∃ r, ∃ _ : r < n, stepOf x a 0 r = some b) ⟨fun ⟨k, h, h'⟩ => ⟨k, h, h'⟩, fun ⟨k, h, h'⟩ => ⟨k, h, h'⟩⟩
theorem root_var {x : SSystem} {a b : List Int} (hs : sysOk x = true) (ht : termOk x.1 a = true) (hv : a.getD 0 0 < 0) : ¬ RootTo x a b x.2.length := by
  rintro ⟨r, hr, h⟩
  have hn := var_no hs ht (k := 0) (r := r) (termOk_len ht).1 hr hv
  rw [step_no hn] at h
  cases h
def argT (s t : List Int) (i : Nat) : List Int := subt s t (argP s t i)
def parR (x : SSystem) : Nat → List Int → List Int → Bool
  | 0, _, _ => false
  | n + 1, a, b => decide (a = b) || (decide (RootTo x a b x.2.length) || (decide (0 ≤ a.getD 0 0 ∧ a.getD 0 0 = b.getD 0 0) && (List.range (arN x.1 a)).all (fun i => parR x n (argT x.1 a i) (argT x.1 b i))))
theorem argT_ok {a t : List Int} (h : termOk a t = true) {i : Nat} (hi : i < arN a t) : termOk a (argT a t i) = true ∧ (argT a t i).length < t.length := by
  obtain ⟨h1, h2⟩ := arg_lt h hi
  refine ⟨subt_ok h h1, ?_⟩
  unfold argT
  rw [subt_len h h1]
  have := (term_at h h1).2.2
  omega
theorem par_1 {x : SSystem} {n : Nat} {a b : List Int} (h : a = b) : parR x (n + 1) a b = true := by unfold parR; rw [decide_eq_true h]; rfl
theorem par_2 {x : SSystem} {n : Nat} {a b : List Int} (h : RootTo x a b x.2.length) : parR x (n + 1) a b = true := by unfold parR; rw [decide_eq_true h]; simp
theorem par_3 {x : SSystem} {n : Nat} {a b : List Int} (h1 : ¬ a = b) (h2 : ¬ RootTo x a b x.2.length) (h3 : ¬ (0 ≤ a.getD 0 0 ∧ a.getD 0 0 = b.getD 0 0)) : parR x (n + 1) a b = false := by unfold parR; rw [decide_eq_false h1, decide_eq_false h2, decide_eq_false h3]; rfl
theorem par_4 {x : SSystem} {n : Nat} {a b : List Int} {i : Nat} (h1 : ¬ a = b) (h2 : ¬ RootTo x a b x.2.length) (hi : i < arN x.1 a) (h : parR x n (argT x.1 a i) (argT x.1 b i) = false) : parR x (n + 1) a b = false := by
  unfold parR
  rw [decide_eq_false h1, decide_eq_false h2, Bool.false_or, Bool.false_or, Bool.and_eq_false_iff]
  refine .inr ?_
  rw [List.all_eq_false]
  exact ⟨i, List.mem_range.2 hi, by rw [h]; simp⟩
theorem par_5 {x : SSystem} {n : Nat} {a b : List Int} (h3 : 0 ≤ a.getD 0 0 ∧ a.getD 0 0 = b.getD 0 0) (h : ∀ i, i < arN x.1 a → parR x n (argT x.1 a i) (argT x.1 b i) = true) : parR x (n + 1) a b = true := by
  unfold parR
  have : (List.range (arN x.1 a)).all (fun i => parR x n (argT x.1 a i) (argT x.1 b i)) = true := by
    rw [List.all_eq_true]
    exact fun i hi => h i (List.mem_range.1 hi)
  rw [decide_eq_true h3, this]; simp

theorem l12Root_spec {w0 : World} {Γ : List Atom} {v0 v1 va vb : Value} {x : SSystem} {a y : List Int} [h0 : HasRd (List Int) repList Γ [v0] x.1] [h1 : HasRd (List SRule) repList Γ [v1] x.2] [h2 : HasRd (List Int) repList Γ [va] a] [h3 : HasRd (List Int) repList Γ [vb] y] (hs : sysOk x = true ∧ termOk x.1 a = true) : CJ Try.prog 170 [.agg #[v0, v1], va, vb] w0 Γ (fun _ : Unit => .bool (decide (RootTo x a y x.2.length))) (fun _ => Γ) := by
  refine cj_lift (R := [.rd [v0] x.1, .rd [v1] x.2, .rd [va] a, .rd [vb] y]) (A := fun _ => []) (fun w1 => ?_) (reads_cons h0 (reads_cons h1 (reads_cons h2 (reads_cons h3 (inferInstance))))) (fun _ => inferInstance)
  simp only [List.cons_append, List.nil_append]
  obtain ⟨hs1, hs2⟩ := hs
  have hl1 := (sysOk_iff.1 hs1).1.2
  have hal := termOk_len hs2
  refine cj_enter Try.func170 Try.ntmps170 ?_
  repeat' (first
    | refine red ?_
    | refine redf fun hbi => ?_
    | refine reds ?_
    | refine redc fun r => ?_
    | refine redv fun sv => ?_
    | refine redn fun b => ?_
    | refine redz fun zs => ?_
    | refine redq (fun hc => ?_) (fun hc => ?_)
    | with_reducible refine wq_blk_o rfl ?_
    | (refine redd fun p cs as_ hcs has hf => ?_; simp only [Un.cells, Un.atoms, Un.fact, List.cons_append, List.nil_append] at hcs has hf; subst hcs has)
    | (refine redi (fun hc => ?_) (fun hc => ?_) <;> try first | (exfalso; omega) | exact absurd rfl hc)
    | fail)
  refine wc_loop_c [7] [10, 11, 12, 13, 14, 18, 19, 20, 21, 17, 22, 23, 8, 9, 24, 25, 26, 27, 28, 29, 6, 15, 16] (ι := Nat) (fun k => [.int .i64 k]) (fun k => k ≤ x.2.length ∧ ¬ RootTo x a y k) (fun k => x.2.length - k) 0 (by kernel_rfl) ⟨Nat.zero_le _, fun ⟨r, hr, _⟩ => by omega⟩ ?_
  intro k u l' hl' ⟨hk, hkk⟩
  simp only [patch, List.map_cons, List.map_nil, List.set_cons_zero, List.set_cons_succ] at hl'
  subst hl'
  by_cases hlt : k < x.2.length
  · have hred : RedP x a 0 (k : Int) := ⟨hs1, ⟨hs2, by omega, by omega⟩, by omega, by omega⟩
    have hst : stepAt x a 0 (k : Int) = stepOf x a 0 k := stepAt_yes hred
    repeat' (first
      | refine red ?_
      | refine redf fun hbi => ?_
      | refine reds ?_
      | refine redc fun r => ?_
      | refine redv fun sv => ?_
      | refine redn fun b => ?_
      | refine redz fun zs => ?_
      | refine redq (fun hc => ?_) (fun hc => ?_)
      | with_reducible refine wq_blk_o rfl ?_
      | (refine redd fun p cs as_ hcs has hf => ?_; simp only [Un.cells, Un.atoms, Un.fact, List.cons_append, List.nil_append] at hcs has hf; subst hcs has)
      | (refine redi (fun hc => ?_) (fun hc => ?_) <;> try first | (exfalso; omega) | exact absurd rfl hc)
      | fail)
    all_goals rw [hst] at *
    · exact ⟨(), ret_bool (decide_eq_true ⟨k, hlt, step_eq ‹(stepOf x a 0 k).isSome = true› hc⟩), ent_e⟩
    · exact wq_next (k + 1) ⟨by omega, root_no hkk (fun h => hc (by rw [h]; rfl))⟩ (by omega) (by kernel_rfl) ent_e
    · exact wq_next (k + 1) ⟨by omega, root_no hkk (fun h => by rw [h] at hc; cases hc)⟩ (by omega) (by kernel_rfl) ent_e
  · repeat' (first
      | refine red ?_
      | refine redf fun hbi => ?_
      | refine reds ?_
      | refine redc fun r => ?_
      | refine redv fun sv => ?_
      | refine redn fun b => ?_
      | refine redz fun zs => ?_
      | refine redq (fun hc => ?_) (fun hc => ?_)
      | with_reducible refine wq_blk_o rfl ?_
      | (refine redd fun p cs as_ hcs has hf => ?_; simp only [Un.cells, Un.atoms, Un.fact, List.cons_append, List.nil_append] at hcs has hf; subst hcs has)
      | (refine redi (fun hc => ?_) (fun hc => ?_) <;> try first | (exfalso; omega) | exact absurd rfl hc)
      | fail)
    exact ⟨(), ret_bool (decide_eq_false (by rw [show x.2.length = k by omega]; exact hkk)), ent_e⟩
instance l12Root_ctr {Γ : List Atom} {v0 v1 va vb : Value} {x : SSystem} {a y : List Int} [h0 : HasRd (List Int) repList Γ [v0] x.1] [h1 : HasRd (List SRule) repList Γ [v1] x.2] [h2 : HasRd (List Int) repList Γ [va] a] [h3 : HasRd (List Int) repList Γ [vb] y] :
    CtrC Try.prog 170 [.agg #[v0, v1], va, vb] Γ (sysOk x = true ∧ termOk x.1 a = true) (Unit) (fun _ : Unit => .bool (decide (RootTo x a y x.2.length))) (fun _ => Γ) := ⟨fun s w0 => l12Root_spec s⟩

theorem parallel_rec (n : Nat) : ∀ {w0 : World} {Γ : List Atom} {v0 v1 va vb : Value} {x : SSystem} {a y : List Int} [h0 : HasRd (List Int) repList Γ [v0] x.1] [h1 : HasRd (List SRule) repList Γ [v1] x.2] [h2 : HasRd (List Int) repList Γ [va] a] [h3 : HasRd (List Int) repList Γ [vb] y] (hs : sysOk x = true ∧ termOk x.1 a = true ∧ termOk x.1 y = true ∧ a.length ≤ n), CJ Try.prog 99 [.agg #[v0, v1], va, vb] w0 Γ (fun _ : Unit => .bool (parR x n a y)) (fun _ => Γ) := by
  induction n with
  | zero =>
    intro w0 Γ v0 v1 va vb x a y h0 h1 h2 h3 hs
    have := termOk_len hs.2.1
    omega
  | succ n ih =>
    intro w0 Γ v0 v1 va vb x a y h0 h1 h2 h3 hs
    haveI hI : ∀ (Δ : List Atom) (v0 v1 va vb : Value) (x : SSystem) (a y : List Int) [HasRd (List Int) repList Δ [v0] x.1] [HasRd (List SRule) repList Δ [v1] x.2] [HasRd (List Int) repList Δ [va] a] [HasRd (List Int) repList Δ [vb] y], CtrC Try.prog 99 [.agg #[v0, v1], va, vb] Δ (sysOk x = true ∧ termOk x.1 a = true ∧ termOk x.1 y = true ∧ a.length ≤ n) Unit (fun _ => .bool (parR x n a y)) (fun _ => Δ) := fun Δ _ _ _ _ _ _ _ _ _ _ _ => ⟨fun s w0 => ih s⟩
    refine cj_lift (R := [.rd [v0] x.1, .rd [v1] x.2, .rd [va] a, .rd [vb] y]) (A := fun _ => []) (fun w1 => ?_) (reads_cons h0 (reads_cons h1 (reads_cons h2 (reads_cons h3 (inferInstance))))) (fun _ => inferInstance)
    simp only [List.cons_append, List.nil_append]
    obtain ⟨hs1, hs2, hs3, hs4⟩ := hs
    have hl1 := (sysOk_iff.1 hs1).1.2
    have hal := termOk_len hs2
    have hbl := termOk_len hs3
    refine cj_enter Try.func99 Try.ntmps99 ?_
    repeat' (first
      | refine red ?_
      | refine redf fun hbi => ?_
      | refine reds ?_
      | refine redc fun r => ?_
      | refine redv fun sv => ?_
      | refine redn fun b => ?_
      | refine redz fun zs => ?_
      | refine redq (fun hc => ?_) (fun hc => ?_)
      | with_reducible refine wq_blk_o rfl ?_
      | (refine redd fun p cs as_ hcs has hf => ?_; simp only [Un.cells, Un.atoms, Un.fact, List.cons_append, List.nil_append] at hcs has hf; subst hcs has)
      | (refine redi (fun hc => ?_) (fun hc => ?_) <;> try first | (exfalso; omega) | exact absurd rfl hc)
      | ((refine wa_begin 12 [false, false, false, false, false, false, false] [] ?_ <;> (first | refine wa_p 0 ?_ | refine wa_p0 0 ?_ | fail) <;> (first | refine wa_p 1 ?_ | (refine wa_deep 1 fun p cs as_ asb_ hcs has hasb hf => ?_; simp only [Un.cells, Un.atoms, Un.fact, List.cons_append, List.nil_append] at hcs has hasb hf; subst hcs has hasb) | fail) <;> (first | refine wa_f 2 fun hbi => ?_ | refine wa_p 2 ?_ | fail) <;> (first | refine wa_p 3 ?_ | refine wa_p0 3 ?_ | (refine wa_do 3 ?_ <;> (repeat' (first | refine red ?_ | refine redc fun r => ?_ | refine redv fun sv => ?_ | refine redf fun hbi => ?_ | refine redn fun b => ?_ | refine reds ?_ | refine redi (fun hc => ?_) (fun hc => ?_) | fail))) | fail) <;> (first | refine wa_p 4 ?_ | (refine wa_deep 4 fun p cs as_ asb_ hcs has hasb hf => ?_; simp only [Un.cells, Un.atoms, Un.fact, List.cons_append, List.nil_append] at hcs has hasb hf; subst hcs has hasb) | fail) <;> (first | refine wa_f 5 fun hbi => ?_ | refine wa_p 5 ?_ | fail) <;> (first | refine wa_p 6 ?_ | refine wa_p0 6 ?_ | (refine wa_do 6 ?_ <;> (repeat' (first | refine red ?_ | refine redc fun r => ?_ | refine redv fun sv => ?_ | refine redf fun hbi => ?_ | refine redn fun b => ?_ | refine reds ?_ | refine redi (fun hc => ?_) (fun hc => ?_) | fail))) | fail)) <;> refine wa_end ?_)
      | ((refine wa_begin 14 [false, false, false, false, false, false, false, false, false, false] [] ?_ <;> (first | refine wa_p 0 ?_ | refine wa_p0 0 ?_ | fail) <;> (first | refine wa_f 1 fun hbi => ?_ | refine wa_p 1 ?_ | fail) <;> (first | refine wa_p 2 ?_ | refine wa_p0 2 ?_ | fail) <;> (first | refine wa_p 4 ?_ | refine wa_p0 4 ?_ | fail) <;> (first | refine wa_f 5 fun hbi => ?_ | refine wa_p 5 ?_ | fail) <;> (first | refine wa_p 6 ?_ | refine wa_p0 6 ?_ | fail) <;> (refine wa_do 3 ?_ <;> (repeat' (first | refine red ?_ | refine redc fun r => ?_ | refine redv fun sv => ?_ | refine redf fun hbi => ?_ | refine redn fun b => ?_ | refine reds ?_ | refine redi (fun hc => ?_) (fun hc => ?_) | fail))) <;> (refine wa_do 7 ?_ <;> (repeat' (first | refine red ?_ | refine redc fun r => ?_ | refine redv fun sv => ?_ | refine redf fun hbi => ?_ | refine redn fun b => ?_ | refine reds ?_ | refine redi (fun hc => ?_) (fun hc => ?_) | fail))) <;> (first | refine wa_p 8 ?_ | refine wa_p0 8 ?_ | (refine wa_do 8 ?_ <;> (repeat' (first | refine red ?_ | refine redc fun r => ?_ | refine redv fun sv => ?_ | refine redf fun hbi => ?_ | refine redn fun b => ?_ | refine reds ?_ | refine redi (fun hc => ?_) (fun hc => ?_) | fail))) | fail) <;> (first | refine wa_p 9 ?_ | refine wa_p0 9 ?_ | (refine wa_do 9 ?_ <;> (repeat' (first | refine red ?_ | refine redc fun r => ?_ | refine redv fun sv => ?_ | refine redf fun hbi => ?_ | refine redn fun b => ?_ | refine reds ?_ | refine redi (fun hc => ?_) (fun hc => ?_) | fail))) | fail)) <;> refine wa_end ?_)
      | ((refine wa_begin 18 [false, false, false, false, false, false, false, false, false, false, false, false, false, false, false, false, false, false, false] [] ?_ <;> (first | refine wa_f 0 fun hbi => ?_ | refine wa_p 0 ?_ | fail) <;> (first | refine wa_p 1 ?_ | refine wa_p0 1 ?_ | fail) <;> (first | refine wa_f 2 fun hbi => ?_ | refine wa_p 2 ?_ | fail) <;> (first | refine wa_p 3 ?_ | refine wa_p0 3 ?_ | fail) <;> (first | refine wa_p 4 ?_ | refine wa_p0 4 ?_ | fail) <;> (first | refine wa_p 5 ?_ | refine wa_p0 5 ?_ | fail) <;> (first | refine wa_p 6 ?_ | (refine wa_deep 6 fun p cs as_ asb_ hcs has hasb hf => ?_; simp only [Un.cells, Un.atoms, Un.fact, List.cons_append, List.nil_append] at hcs has hasb hf; subst hcs has hasb) | fail) <;> (first | refine wa_f 7 fun hbi => ?_ | refine wa_p 7 ?_ | fail) <;> (first | refine wa_p 9 ?_ | refine wa_p0 9 ?_ | fail) <;> (first | refine wa_f 10 fun hbi => ?_ | refine wa_p 10 ?_ | fail) <;> (first | refine wa_p 11 ?_ | refine wa_p0 11 ?_ | fail) <;> (first | refine wa_p 12 ?_ | refine wa_p0 12 ?_ | fail) <;> (first | refine wa_p 13 ?_ | refine wa_p0 13 ?_ | fail) <;> (first | refine wa_p 14 ?_ | (refine wa_deep 14 fun p cs as_ asb_ hcs has hasb hf => ?_; simp only [Un.cells, Un.atoms, Un.fact, List.cons_append, List.nil_append] at hcs has hasb hf; subst hcs has hasb) | fail) <;> (first | refine wa_f 15 fun hbi => ?_ | refine wa_p 15 ?_ | fail) <;> (refine wa_do 8 ?_ <;> (repeat' (first | refine red ?_ | refine redc fun r => ?_ | refine redv fun sv => ?_ | refine redf fun hbi => ?_ | refine redn fun b => ?_ | refine reds ?_ | refine redi (fun hc => ?_) (fun hc => ?_) | fail))) <;> (refine wa_do 16 ?_ <;> (repeat' (first | refine red ?_ | refine redc fun r => ?_ | refine redv fun sv => ?_ | refine redf fun hbi => ?_ | refine redn fun b => ?_ | refine reds ?_ | refine redi (fun hc => ?_) (fun hc => ?_) | fail))) <;> (refine wa_do 17 ?_ <;> (repeat' (first | refine red ?_ | refine redc fun r => ?_ | refine redv fun sv => ?_ | refine redf fun hbi => ?_ | refine redn fun b => ?_ | refine reds ?_ | refine redi (fun hc => ?_) (fun hc => ?_) | fail))) <;> (first | refine wa_p 18 ?_ | refine wa_p0 18 ?_ | (refine wa_do 18 ?_ <;> (repeat' (first | refine red ?_ | refine redc fun r => ?_ | refine redv fun sv => ?_ | refine redf fun hbi => ?_ | refine redn fun b => ?_ | refine reds ?_ | refine redi (fun hc => ?_) (fun hc => ?_) | fail))) | fail)) <;> refine wa_end ?_)
      | fail)
    · exact ⟨(), ret_bool (par_1 hc), ent_e⟩
    · exact ⟨(), ret_bool (par_3 ‹¬a = y› (root_var hs1 hs2 hc) (fun h => by omega)), ent_e⟩
    have hne : ¬ a = y := by assumption
    have h0a : 0 ≤ a.getD 0 0 := hc
    refine wc_loop_c [23] [24, 25, 7, 27, 28, 29, 30, 26, 31, 32, 8, 9, 33, 34, 35, 36, 37, 38, 6, 39] (ι := Nat) (fun k => [.int .i64 k]) (fun k => k ≤ x.2.length ∧ ¬ RootTo x a y k) (fun k => x.2.length - k) 0 (by kernel_rfl) ⟨Nat.zero_le _, fun ⟨r, hr, _⟩ => by omega⟩ ?_
    intro k u l' hl' ⟨hk, hkk⟩
    simp only [patch, List.map_cons, List.map_nil, List.set_cons_zero, List.set_cons_succ] at hl'
    subst hl'
    by_cases hlt : k < x.2.length
    · have hred : RedP x a 0 (k : Int) := ⟨hs1, ⟨hs2, by omega, by omega⟩, by omega, by omega⟩
      repeat' (first
        | refine red ?_
        | refine redf fun hbi => ?_
        | refine reds ?_
        | refine redc fun r => ?_
        | refine redv fun sv => ?_
        | refine redn fun b => ?_
        | refine redz fun zs => ?_
        | refine redq (fun hc => ?_) (fun hc => ?_)
        | with_reducible refine wq_blk_o rfl ?_
        | (refine redd fun p cs as_ hcs has hf => ?_; simp only [Un.cells, Un.atoms, Un.fact, List.cons_append, List.nil_append] at hcs has hf; subst hcs has)
        | (refine redi (fun hc => ?_) (fun hc => ?_) <;> try first | (exfalso; omega) | exact absurd rfl hc)
        | ((refine wa_begin 12 [false, false, false, false, false, false, false] [] ?_ <;> (first | refine wa_p 0 ?_ | refine wa_p0 0 ?_ | fail) <;> (first | refine wa_p 1 ?_ | (refine wa_deep 1 fun p cs as_ asb_ hcs has hasb hf => ?_; simp only [Un.cells, Un.atoms, Un.fact, List.cons_append, List.nil_append] at hcs has hasb hf; subst hcs has hasb) | fail) <;> (first | refine wa_f 2 fun hbi => ?_ | refine wa_p 2 ?_ | fail) <;> (first | refine wa_p 3 ?_ | refine wa_p0 3 ?_ | (refine wa_do 3 ?_ <;> (repeat' (first | refine red ?_ | refine redc fun r => ?_ | refine redv fun sv => ?_ | refine redf fun hbi => ?_ | refine redn fun b => ?_ | refine reds ?_ | refine redi (fun hc => ?_) (fun hc => ?_) | fail))) | fail) <;> (first | refine wa_p 4 ?_ | (refine wa_deep 4 fun p cs as_ asb_ hcs has hasb hf => ?_; simp only [Un.cells, Un.atoms, Un.fact, List.cons_append, List.nil_append] at hcs has hasb hf; subst hcs has hasb) | fail) <;> (first | refine wa_f 5 fun hbi => ?_ | refine wa_p 5 ?_ | fail) <;> (first | refine wa_p 6 ?_ | refine wa_p0 6 ?_ | (refine wa_do 6 ?_ <;> (repeat' (first | refine red ?_ | refine redc fun r => ?_ | refine redv fun sv => ?_ | refine redf fun hbi => ?_ | refine redn fun b => ?_ | refine reds ?_ | refine redi (fun hc => ?_) (fun hc => ?_) | fail))) | fail)) <;> refine wa_end ?_)
        | ((refine wa_begin 14 [false, false, false, false, false, false, false, false, false, false] [] ?_ <;> (first | refine wa_p 0 ?_ | refine wa_p0 0 ?_ | fail) <;> (first | refine wa_f 1 fun hbi => ?_ | refine wa_p 1 ?_ | fail) <;> (first | refine wa_p 2 ?_ | refine wa_p0 2 ?_ | fail) <;> (first | refine wa_p 4 ?_ | refine wa_p0 4 ?_ | fail) <;> (first | refine wa_f 5 fun hbi => ?_ | refine wa_p 5 ?_ | fail) <;> (first | refine wa_p 6 ?_ | refine wa_p0 6 ?_ | fail) <;> (refine wa_do 3 ?_ <;> (repeat' (first | refine red ?_ | refine redc fun r => ?_ | refine redv fun sv => ?_ | refine redf fun hbi => ?_ | refine redn fun b => ?_ | refine reds ?_ | refine redi (fun hc => ?_) (fun hc => ?_) | fail))) <;> (refine wa_do 7 ?_ <;> (repeat' (first | refine red ?_ | refine redc fun r => ?_ | refine redv fun sv => ?_ | refine redf fun hbi => ?_ | refine redn fun b => ?_ | refine reds ?_ | refine redi (fun hc => ?_) (fun hc => ?_) | fail))) <;> (first | refine wa_p 8 ?_ | refine wa_p0 8 ?_ | (refine wa_do 8 ?_ <;> (repeat' (first | refine red ?_ | refine redc fun r => ?_ | refine redv fun sv => ?_ | refine redf fun hbi => ?_ | refine redn fun b => ?_ | refine reds ?_ | refine redi (fun hc => ?_) (fun hc => ?_) | fail))) | fail) <;> (first | refine wa_p 9 ?_ | refine wa_p0 9 ?_ | (refine wa_do 9 ?_ <;> (repeat' (first | refine red ?_ | refine redc fun r => ?_ | refine redv fun sv => ?_ | refine redf fun hbi => ?_ | refine redn fun b => ?_ | refine reds ?_ | refine redi (fun hc => ?_) (fun hc => ?_) | fail))) | fail)) <;> refine wa_end ?_)
        | ((refine wa_begin 18 [false, false, false, false, false, false, false, false, false, false, false, false, false, false, false, false, false, false, false] [] ?_ <;> (first | refine wa_f 0 fun hbi => ?_ | refine wa_p 0 ?_ | fail) <;> (first | refine wa_p 1 ?_ | refine wa_p0 1 ?_ | fail) <;> (first | refine wa_f 2 fun hbi => ?_ | refine wa_p 2 ?_ | fail) <;> (first | refine wa_p 3 ?_ | refine wa_p0 3 ?_ | fail) <;> (first | refine wa_p 4 ?_ | refine wa_p0 4 ?_ | fail) <;> (first | refine wa_p 5 ?_ | refine wa_p0 5 ?_ | fail) <;> (first | refine wa_p 6 ?_ | (refine wa_deep 6 fun p cs as_ asb_ hcs has hasb hf => ?_; simp only [Un.cells, Un.atoms, Un.fact, List.cons_append, List.nil_append] at hcs has hasb hf; subst hcs has hasb) | fail) <;> (first | refine wa_f 7 fun hbi => ?_ | refine wa_p 7 ?_ | fail) <;> (first | refine wa_p 9 ?_ | refine wa_p0 9 ?_ | fail) <;> (first | refine wa_f 10 fun hbi => ?_ | refine wa_p 10 ?_ | fail) <;> (first | refine wa_p 11 ?_ | refine wa_p0 11 ?_ | fail) <;> (first | refine wa_p 12 ?_ | refine wa_p0 12 ?_ | fail) <;> (first | refine wa_p 13 ?_ | refine wa_p0 13 ?_ | fail) <;> (first | refine wa_p 14 ?_ | (refine wa_deep 14 fun p cs as_ asb_ hcs has hasb hf => ?_; simp only [Un.cells, Un.atoms, Un.fact, List.cons_append, List.nil_append] at hcs has hasb hf; subst hcs has hasb) | fail) <;> (first | refine wa_f 15 fun hbi => ?_ | refine wa_p 15 ?_ | fail) <;> (refine wa_do 8 ?_ <;> (repeat' (first | refine red ?_ | refine redc fun r => ?_ | refine redv fun sv => ?_ | refine redf fun hbi => ?_ | refine redn fun b => ?_ | refine reds ?_ | refine redi (fun hc => ?_) (fun hc => ?_) | fail))) <;> (refine wa_do 16 ?_ <;> (repeat' (first | refine red ?_ | refine redc fun r => ?_ | refine redv fun sv => ?_ | refine redf fun hbi => ?_ | refine redn fun b => ?_ | refine reds ?_ | refine redi (fun hc => ?_) (fun hc => ?_) | fail))) <;> (refine wa_do 17 ?_ <;> (repeat' (first | refine red ?_ | refine redc fun r => ?_ | refine redv fun sv => ?_ | refine redf fun hbi => ?_ | refine redn fun b => ?_ | refine reds ?_ | refine redi (fun hc => ?_) (fun hc => ?_) | fail))) <;> (first | refine wa_p 18 ?_ | refine wa_p0 18 ?_ | (refine wa_do 18 ?_ <;> (repeat' (first | refine red ?_ | refine redc fun r => ?_ | refine redv fun sv => ?_ | refine redf fun hbi => ?_ | refine redn fun b => ?_ | refine reds ?_ | refine redi (fun hc => ?_) (fun hc => ?_) | fail))) | fail)) <;> refine wa_end ?_)
        | fail)
      · exact ⟨(), ret_bool (par_2 ⟨k, hlt, step_eq (k := 0) ‹(stepOf x a (0 : Int).toNat _).isSome = true› hc⟩), ent_e⟩
      · exact wq_next (k + 1) ⟨by omega, root_no hkk (fun h => hc (by show (stepOf x a 0 k).getD [] = y; rw [h]; rfl))⟩ (by omega) (by kernel_rfl) ent_e
      · exact wq_next (k + 1) ⟨by omega, root_no hkk (fun h => by change (stepOf x a 0 k).isSome = false at hc; rw [h] at hc; cases hc)⟩ (by omega) (by kernel_rfl) ent_e
    rw [show k = x.2.length by omega] at hkk
    repeat' (first
      | refine red ?_
      | refine redf fun hbi => ?_
      | refine reds ?_
      | refine redc fun r => ?_
      | refine redv fun sv => ?_
      | refine redn fun b => ?_
      | refine redz fun zs => ?_
      | refine redq (fun hc => ?_) (fun hc => ?_)
      | with_reducible refine wq_blk_o rfl ?_
      | (refine redd fun p cs as_ hcs has hf => ?_; simp only [Un.cells, Un.atoms, Un.fact, List.cons_append, List.nil_append] at hcs has hf; subst hcs has)
      | (refine redi (fun hc => ?_) (fun hc => ?_) <;> try first | (exfalso; omega) | exact absurd rfl hc)
      | ((refine wa_begin 12 [false, false, false, false, false, false, false] [] ?_ <;> (first | refine wa_p 0 ?_ | refine wa_p0 0 ?_ | fail) <;> (first | refine wa_p 1 ?_ | (refine wa_deep 1 fun p cs as_ asb_ hcs has hasb hf => ?_; simp only [Un.cells, Un.atoms, Un.fact, List.cons_append, List.nil_append] at hcs has hasb hf; subst hcs has hasb) | fail) <;> (first | refine wa_f 2 fun hbi => ?_ | refine wa_p 2 ?_ | fail) <;> (first | refine wa_p 3 ?_ | refine wa_p0 3 ?_ | (refine wa_do 3 ?_ <;> (repeat' (first | refine red ?_ | refine redc fun r => ?_ | refine redv fun sv => ?_ | refine redf fun hbi => ?_ | refine redn fun b => ?_ | refine reds ?_ | refine redi (fun hc => ?_) (fun hc => ?_) | fail))) | fail) <;> (first | refine wa_p 4 ?_ | (refine wa_deep 4 fun p cs as_ asb_ hcs has hasb hf => ?_; simp only [Un.cells, Un.atoms, Un.fact, List.cons_append, List.nil_append] at hcs has hasb hf; subst hcs has hasb) | fail) <;> (first | refine wa_f 5 fun hbi => ?_ | refine wa_p 5 ?_ | fail) <;> (first | refine wa_p 6 ?_ | refine wa_p0 6 ?_ | (refine wa_do 6 ?_ <;> (repeat' (first | refine red ?_ | refine redc fun r => ?_ | refine redv fun sv => ?_ | refine redf fun hbi => ?_ | refine redn fun b => ?_ | refine reds ?_ | refine redi (fun hc => ?_) (fun hc => ?_) | fail))) | fail)) <;> refine wa_end ?_)
      | ((refine wa_begin 14 [false, false, false, false, false, false, false, false, false, false] [] ?_ <;> (first | refine wa_p 0 ?_ | refine wa_p0 0 ?_ | fail) <;> (first | refine wa_f 1 fun hbi => ?_ | refine wa_p 1 ?_ | fail) <;> (first | refine wa_p 2 ?_ | refine wa_p0 2 ?_ | fail) <;> (first | refine wa_p 4 ?_ | refine wa_p0 4 ?_ | fail) <;> (first | refine wa_f 5 fun hbi => ?_ | refine wa_p 5 ?_ | fail) <;> (first | refine wa_p 6 ?_ | refine wa_p0 6 ?_ | fail) <;> (refine wa_do 3 ?_ <;> (repeat' (first | refine red ?_ | refine redc fun r => ?_ | refine redv fun sv => ?_ | refine redf fun hbi => ?_ | refine redn fun b => ?_ | refine reds ?_ | refine redi (fun hc => ?_) (fun hc => ?_) | fail))) <;> (refine wa_do 7 ?_ <;> (repeat' (first | refine red ?_ | refine redc fun r => ?_ | refine redv fun sv => ?_ | refine redf fun hbi => ?_ | refine redn fun b => ?_ | refine reds ?_ | refine redi (fun hc => ?_) (fun hc => ?_) | fail))) <;> (first | refine wa_p 8 ?_ | refine wa_p0 8 ?_ | (refine wa_do 8 ?_ <;> (repeat' (first | refine red ?_ | refine redc fun r => ?_ | refine redv fun sv => ?_ | refine redf fun hbi => ?_ | refine redn fun b => ?_ | refine reds ?_ | refine redi (fun hc => ?_) (fun hc => ?_) | fail))) | fail) <;> (first | refine wa_p 9 ?_ | refine wa_p0 9 ?_ | (refine wa_do 9 ?_ <;> (repeat' (first | refine red ?_ | refine redc fun r => ?_ | refine redv fun sv => ?_ | refine redf fun hbi => ?_ | refine redn fun b => ?_ | refine reds ?_ | refine redi (fun hc => ?_) (fun hc => ?_) | fail))) | fail)) <;> refine wa_end ?_)
      | ((refine wa_begin 18 [false, false, false, false, false, false, false, false, false, false, false, false, false, false, false, false, false, false, false] [] ?_ <;> (first | refine wa_f 0 fun hbi => ?_ | refine wa_p 0 ?_ | fail) <;> (first | refine wa_p 1 ?_ | refine wa_p0 1 ?_ | fail) <;> (first | refine wa_f 2 fun hbi => ?_ | refine wa_p 2 ?_ | fail) <;> (first | refine wa_p 3 ?_ | refine wa_p0 3 ?_ | fail) <;> (first | refine wa_p 4 ?_ | refine wa_p0 4 ?_ | fail) <;> (first | refine wa_p 5 ?_ | refine wa_p0 5 ?_ | fail) <;> (first | refine wa_p 6 ?_ | (refine wa_deep 6 fun p cs as_ asb_ hcs has hasb hf => ?_; simp only [Un.cells, Un.atoms, Un.fact, List.cons_append, List.nil_append] at hcs has hasb hf; subst hcs has hasb) | fail) <;> (first | refine wa_f 7 fun hbi => ?_ | refine wa_p 7 ?_ | fail) <;> (first | refine wa_p 9 ?_ | refine wa_p0 9 ?_ | fail) <;> (first | refine wa_f 10 fun hbi => ?_ | refine wa_p 10 ?_ | fail) <;> (first | refine wa_p 11 ?_ | refine wa_p0 11 ?_ | fail) <;> (first | refine wa_p 12 ?_ | refine wa_p0 12 ?_ | fail) <;> (first | refine wa_p 13 ?_ | refine wa_p0 13 ?_ | fail) <;> (first | refine wa_p 14 ?_ | (refine wa_deep 14 fun p cs as_ asb_ hcs has hasb hf => ?_; simp only [Un.cells, Un.atoms, Un.fact, List.cons_append, List.nil_append] at hcs has hasb hf; subst hcs has hasb) | fail) <;> (first | refine wa_f 15 fun hbi => ?_ | refine wa_p 15 ?_ | fail) <;> (refine wa_do 8 ?_ <;> (repeat' (first | refine red ?_ | refine redc fun r => ?_ | refine redv fun sv => ?_ | refine redf fun hbi => ?_ | refine redn fun b => ?_ | refine reds ?_ | refine redi (fun hc => ?_) (fun hc => ?_) | fail))) <;> (refine wa_do 16 ?_ <;> (repeat' (first | refine red ?_ | refine redc fun r => ?_ | refine redv fun sv => ?_ | refine redf fun hbi => ?_ | refine redn fun b => ?_ | refine reds ?_ | refine redi (fun hc => ?_) (fun hc => ?_) | fail))) <;> (refine wa_do 17 ?_ <;> (repeat' (first | refine red ?_ | refine redc fun r => ?_ | refine redv fun sv => ?_ | refine redf fun hbi => ?_ | refine redn fun b => ?_ | refine reds ?_ | refine redi (fun hc => ?_) (fun hc => ?_) | fail))) <;> (first | refine wa_p 18 ?_ | refine wa_p0 18 ?_ | (refine wa_do 18 ?_ <;> (repeat' (first | refine red ?_ | refine redc fun r => ?_ | refine redv fun sv => ?_ | refine redf fun hbi => ?_ | refine redn fun b => ?_ | refine reds ?_ | refine redi (fun hc => ?_) (fun hc => ?_) | fail))) | fail)) <;> refine wa_end ?_)
      | fail)
    · exact ⟨(), ret_bool (par_3 hne hkk (fun h => hc h.2)), ent_e⟩
    have hN : arN x.1 y = arN x.1 a := by unfold arN; rw [← hc]
    have hroot : 0 ≤ a.getD 0 0 ∧ a.getD 0 0 = y.getD 0 0 := ⟨h0a, hc⟩
    have hla := argsTo_len x.1 a (arN x.1 a)
    have hly := argsTo_len x.1 y (arN x.1 y)
    have hn3 := (arN_le hs2).2
    refine wc_loop_c [57] [58, 59, 12, 60, 61, 62, 63, 64, 65, 66, 67, 68, 69, 70, 71, 72, 73, 74, 75, 76, 77, 78, 6, 79] (ι := Nat) (fun i => [.int .i64 i]) (fun i => i ≤ arN x.1 a ∧ ∀ j, j < i → parR x n (argT x.1 a j) (argT x.1 y j) = true) (fun i => arN x.1 a - i) 0 (by kernel_rfl) ⟨Nat.zero_le _, fun j hj => by omega⟩ ?_
    intro i u l' hl' ⟨hi, hii⟩
    simp only [patch, List.map_cons, List.map_nil, List.set_cons_zero, List.set_cons_succ] at hl'
    subst hl'
    by_cases hilt : i < arN x.1 a
    · have hga := argsTo_get x.1 a hilt
      have hgy := argsTo_get x.1 y (n := arN x.1 y) (i := i) (by omega)
      have hka := arg_lt hs2 hilt
      have hky := arg_lt hs3 (i := i) (by omega)
      have hoa := argT_ok hs2 hilt
      have hoy := argT_ok hs3 (i := i) (by omega)
      have hTa : termOk x.1 (subt x.1 a ((argsTo x.1 a (arN x.1 a)).getD i 0).toNat) = true ∧ (subt x.1 a ((argsTo x.1 a (arN x.1 a)).getD i 0).toNat).length ≤ n := by
        rw [hga, Int.toNat_natCast]; exact ⟨hoa.1, by have := hoa.2; unfold argT at this; omega⟩
      have hTy : termOk x.1 (subt x.1 y ((argsTo x.1 y (arN x.1 y)).getD i 0).toNat) = true := by
        rw [hgy, Int.toNat_natCast]; exact hoy.1
      obtain ⟨hTa1, hTa2⟩ := hTa
      repeat' (first
        | refine red ?_
        | refine redf fun hbi => ?_
        | refine reds ?_
        | refine redc fun r => ?_
        | refine redv fun sv => ?_
        | refine redn fun b => ?_
        | refine redz fun zs => ?_
        | refine redq (fun hc => ?_) (fun hc => ?_)
        | with_reducible refine wq_blk_o rfl ?_
        | (refine redd fun p cs as_ hcs has hf => ?_; simp only [Un.cells, Un.atoms, Un.fact, List.cons_append, List.nil_append] at hcs has hf; subst hcs has)
        | (refine redi (fun hc => ?_) (fun hc => ?_) <;> try first | (exfalso; omega) | exact absurd rfl hc)
        | ((refine wa_begin 12 [false, false, false, false, false, false, false] [] ?_ <;> (first | refine wa_p 0 ?_ | refine wa_p0 0 ?_ | fail) <;> (first | refine wa_p 1 ?_ | (refine wa_deep 1 fun p cs as_ asb_ hcs has hasb hf => ?_; simp only [Un.cells, Un.atoms, Un.fact, List.cons_append, List.nil_append] at hcs has hasb hf; subst hcs has hasb) | fail) <;> (first | refine wa_f 2 fun hbi => ?_ | refine wa_p 2 ?_ | fail) <;> (first | refine wa_p 3 ?_ | refine wa_p0 3 ?_ | (refine wa_do 3 ?_ <;> (repeat' (first | refine red ?_ | refine redc fun r => ?_ | refine redv fun sv => ?_ | refine redf fun hbi => ?_ | refine redn fun b => ?_ | refine reds ?_ | refine redi (fun hc => ?_) (fun hc => ?_) | fail))) | fail) <;> (first | refine wa_p 4 ?_ | (refine wa_deep 4 fun p cs as_ asb_ hcs has hasb hf => ?_; simp only [Un.cells, Un.atoms, Un.fact, List.cons_append, List.nil_append] at hcs has hasb hf; subst hcs has hasb) | fail) <;> (first | refine wa_f 5 fun hbi => ?_ | refine wa_p 5 ?_ | fail) <;> (first | refine wa_p 6 ?_ | refine wa_p0 6 ?_ | (refine wa_do 6 ?_ <;> (repeat' (first | refine red ?_ | refine redc fun r => ?_ | refine redv fun sv => ?_ | refine redf fun hbi => ?_ | refine redn fun b => ?_ | refine reds ?_ | refine redi (fun hc => ?_) (fun hc => ?_) | fail))) | fail)) <;> refine wa_end ?_)
        | ((refine wa_begin 14 [false, false, false, false, false, false, false, false, false, false] [] ?_ <;> (first | refine wa_p 0 ?_ | refine wa_p0 0 ?_ | fail) <;> (first | refine wa_f 1 fun hbi => ?_ | refine wa_p 1 ?_ | fail) <;> (first | refine wa_p 2 ?_ | refine wa_p0 2 ?_ | fail) <;> (first | refine wa_p 4 ?_ | refine wa_p0 4 ?_ | fail) <;> (first | refine wa_f 5 fun hbi => ?_ | refine wa_p 5 ?_ | fail) <;> (first | refine wa_p 6 ?_ | refine wa_p0 6 ?_ | fail) <;> (refine wa_do 3 ?_ <;> (repeat' (first | refine red ?_ | refine redc fun r => ?_ | refine redv fun sv => ?_ | refine redf fun hbi => ?_ | refine redn fun b => ?_ | refine reds ?_ | refine redi (fun hc => ?_) (fun hc => ?_) | fail))) <;> (refine wa_do 7 ?_ <;> (repeat' (first | refine red ?_ | refine redc fun r => ?_ | refine redv fun sv => ?_ | refine redf fun hbi => ?_ | refine redn fun b => ?_ | refine reds ?_ | refine redi (fun hc => ?_) (fun hc => ?_) | fail))) <;> (first | refine wa_p 8 ?_ | refine wa_p0 8 ?_ | (refine wa_do 8 ?_ <;> (repeat' (first | refine red ?_ | refine redc fun r => ?_ | refine redv fun sv => ?_ | refine redf fun hbi => ?_ | refine redn fun b => ?_ | refine reds ?_ | refine redi (fun hc => ?_) (fun hc => ?_) | fail))) | fail) <;> (first | refine wa_p 9 ?_ | refine wa_p0 9 ?_ | (refine wa_do 9 ?_ <;> (repeat' (first | refine red ?_ | refine redc fun r => ?_ | refine redv fun sv => ?_ | refine redf fun hbi => ?_ | refine redn fun b => ?_ | refine reds ?_ | refine redi (fun hc => ?_) (fun hc => ?_) | fail))) | fail)) <;> refine wa_end ?_)
        | ((refine wa_begin 18 [false, false, false, false, false, false, false, false, false, false, false, false, false, false, false, false, false, false, false] [] ?_ <;> (first | refine wa_f 0 fun hbi => ?_ | refine wa_p 0 ?_ | fail) <;> (first | refine wa_p 1 ?_ | refine wa_p0 1 ?_ | fail) <;> (first | refine wa_f 2 fun hbi => ?_ | refine wa_p 2 ?_ | fail) <;> (first | refine wa_p 3 ?_ | refine wa_p0 3 ?_ | fail) <;> (first | refine wa_p 4 ?_ | refine wa_p0 4 ?_ | fail) <;> (first | refine wa_p 5 ?_ | refine wa_p0 5 ?_ | fail) <;> (first | refine wa_p 6 ?_ | (refine wa_deep 6 fun p cs as_ asb_ hcs has hasb hf => ?_; simp only [Un.cells, Un.atoms, Un.fact, List.cons_append, List.nil_append] at hcs has hasb hf; subst hcs has hasb) | fail) <;> (first | refine wa_f 7 fun hbi => ?_ | refine wa_p 7 ?_ | fail) <;> (first | refine wa_p 9 ?_ | refine wa_p0 9 ?_ | fail) <;> (first | refine wa_f 10 fun hbi => ?_ | refine wa_p 10 ?_ | fail) <;> (first | refine wa_p 11 ?_ | refine wa_p0 11 ?_ | fail) <;> (first | refine wa_p 12 ?_ | refine wa_p0 12 ?_ | fail) <;> (first | refine wa_p 13 ?_ | refine wa_p0 13 ?_ | fail) <;> (first | refine wa_p 14 ?_ | (refine wa_deep 14 fun p cs as_ asb_ hcs has hasb hf => ?_; simp only [Un.cells, Un.atoms, Un.fact, List.cons_append, List.nil_append] at hcs has hasb hf; subst hcs has hasb) | fail) <;> (first | refine wa_f 15 fun hbi => ?_ | refine wa_p 15 ?_ | fail) <;> (refine wa_do 8 ?_ <;> (repeat' (first | refine red ?_ | refine redc fun r => ?_ | refine redv fun sv => ?_ | refine redf fun hbi => ?_ | refine redn fun b => ?_ | refine reds ?_ | refine redi (fun hc => ?_) (fun hc => ?_) | fail))) <;> (refine wa_do 16 ?_ <;> (repeat' (first | refine red ?_ | refine redc fun r => ?_ | refine redv fun sv => ?_ | refine redf fun hbi => ?_ | refine redn fun b => ?_ | refine reds ?_ | refine redi (fun hc => ?_) (fun hc => ?_) | fail))) <;> (refine wa_do 17 ?_ <;> (repeat' (first | refine red ?_ | refine redc fun r => ?_ | refine redv fun sv => ?_ | refine redf fun hbi => ?_ | refine redn fun b => ?_ | refine reds ?_ | refine redi (fun hc => ?_) (fun hc => ?_) | fail))) <;> (first | refine wa_p 18 ?_ | refine wa_p0 18 ?_ | (refine wa_do 18 ?_ <;> (repeat' (first | refine red ?_ | refine redc fun r => ?_ | refine redv fun sv => ?_ | refine redf fun hbi => ?_ | refine redn fun b => ?_ | refine reds ?_ | refine redi (fun hc => ?_) (fun hc => ?_) | fail))) | fail)) <;> refine wa_end ?_)
        | fail)
      all_goals rw [hga, hgy, Int.toNat_natCast, Int.toNat_natCast] at hc
      · exact ⟨(), ret_bool (par_4 hne hkk hilt hc), ent_e⟩
      · exact wq_next (i + 1) ⟨by omega, fun j hj => by
          by_cases he : j = i
          · rw [he]; exact hc
          · exact hii j (by omega)⟩ (by omega) (by kernel_rfl) ent_e
    · repeat' (first
        | refine red ?_
        | refine redf fun hbi => ?_
        | refine reds ?_
        | refine redc fun r => ?_
        | refine redv fun sv => ?_
        | refine redn fun b => ?_
        | refine redz fun zs => ?_
        | refine redq (fun hc => ?_) (fun hc => ?_)
        | with_reducible refine wq_blk_o rfl ?_
        | (refine redd fun p cs as_ hcs has hf => ?_; simp only [Un.cells, Un.atoms, Un.fact, List.cons_append, List.nil_append] at hcs has hf; subst hcs has)
        | (refine redi (fun hc => ?_) (fun hc => ?_) <;> try first | (exfalso; omega) | exact absurd rfl hc)
        | ((refine wa_begin 12 [false, false, false, false, false, false, false] [] ?_ <;> (first | refine wa_p 0 ?_ | refine wa_p0 0 ?_ | fail) <;> (first | refine wa_p 1 ?_ | (refine wa_deep 1 fun p cs as_ asb_ hcs has hasb hf => ?_; simp only [Un.cells, Un.atoms, Un.fact, List.cons_append, List.nil_append] at hcs has hasb hf; subst hcs has hasb) | fail) <;> (first | refine wa_f 2 fun hbi => ?_ | refine wa_p 2 ?_ | fail) <;> (first | refine wa_p 3 ?_ | refine wa_p0 3 ?_ | (refine wa_do 3 ?_ <;> (repeat' (first | refine red ?_ | refine redc fun r => ?_ | refine redv fun sv => ?_ | refine redf fun hbi => ?_ | refine redn fun b => ?_ | refine reds ?_ | refine redi (fun hc => ?_) (fun hc => ?_) | fail))) | fail) <;> (first | refine wa_p 4 ?_ | (refine wa_deep 4 fun p cs as_ asb_ hcs has hasb hf => ?_; simp only [Un.cells, Un.atoms, Un.fact, List.cons_append, List.nil_append] at hcs has hasb hf; subst hcs has hasb) | fail) <;> (first | refine wa_f 5 fun hbi => ?_ | refine wa_p 5 ?_ | fail) <;> (first | refine wa_p 6 ?_ | refine wa_p0 6 ?_ | (refine wa_do 6 ?_ <;> (repeat' (first | refine red ?_ | refine redc fun r => ?_ | refine redv fun sv => ?_ | refine redf fun hbi => ?_ | refine redn fun b => ?_ | refine reds ?_ | refine redi (fun hc => ?_) (fun hc => ?_) | fail))) | fail)) <;> refine wa_end ?_)
        | ((refine wa_begin 14 [false, false, false, false, false, false, false, false, false, false] [] ?_ <;> (first | refine wa_p 0 ?_ | refine wa_p0 0 ?_ | fail) <;> (first | refine wa_f 1 fun hbi => ?_ | refine wa_p 1 ?_ | fail) <;> (first | refine wa_p 2 ?_ | refine wa_p0 2 ?_ | fail) <;> (first | refine wa_p 4 ?_ | refine wa_p0 4 ?_ | fail) <;> (first | refine wa_f 5 fun hbi => ?_ | refine wa_p 5 ?_ | fail) <;> (first | refine wa_p 6 ?_ | refine wa_p0 6 ?_ | fail) <;> (refine wa_do 3 ?_ <;> (repeat' (first | refine red ?_ | refine redc fun r => ?_ | refine redv fun sv => ?_ | refine redf fun hbi => ?_ | refine redn fun b => ?_ | refine reds ?_ | refine redi (fun hc => ?_) (fun hc => ?_) | fail))) <;> (refine wa_do 7 ?_ <;> (repeat' (first | refine red ?_ | refine redc fun r => ?_ | refine redv fun sv => ?_ | refine redf fun hbi => ?_ | refine redn fun b => ?_ | refine reds ?_ | refine redi (fun hc => ?_) (fun hc => ?_) | fail))) <;> (first | refine wa_p 8 ?_ | refine wa_p0 8 ?_ | (refine wa_do 8 ?_ <;> (repeat' (first | refine red ?_ | refine redc fun r => ?_ | refine redv fun sv => ?_ | refine redf fun hbi => ?_ | refine redn fun b => ?_ | refine reds ?_ | refine redi (fun hc => ?_) (fun hc => ?_) | fail))) | fail) <;> (first | refine wa_p 9 ?_ | refine wa_p0 9 ?_ | (refine wa_do 9 ?_ <;> (repeat' (first | refine red ?_ | refine redc fun r => ?_ | refine redv fun sv => ?_ | refine redf fun hbi => ?_ | refine redn fun b => ?_ | refine reds ?_ | refine redi (fun hc => ?_) (fun hc => ?_) | fail))) | fail)) <;> refine wa_end ?_)
        | ((refine wa_begin 18 [false, false, false, false, false, false, false, false, false, false, false, false, false, false, false, false, false, false, false] [] ?_ <;> (first | refine wa_f 0 fun hbi => ?_ | refine wa_p 0 ?_ | fail) <;> (first | refine wa_p 1 ?_ | refine wa_p0 1 ?_ | fail) <;> (first | refine wa_f 2 fun hbi => ?_ | refine wa_p 2 ?_ | fail) <;> (first | refine wa_p 3 ?_ | refine wa_p0 3 ?_ | fail) <;> (first | refine wa_p 4 ?_ | refine wa_p0 4 ?_ | fail) <;> (first | refine wa_p 5 ?_ | refine wa_p0 5 ?_ | fail) <;> (first | refine wa_p 6 ?_ | (refine wa_deep 6 fun p cs as_ asb_ hcs has hasb hf => ?_; simp only [Un.cells, Un.atoms, Un.fact, List.cons_append, List.nil_append] at hcs has hasb hf; subst hcs has hasb) | fail) <;> (first | refine wa_f 7 fun hbi => ?_ | refine wa_p 7 ?_ | fail) <;> (first | refine wa_p 9 ?_ | refine wa_p0 9 ?_ | fail) <;> (first | refine wa_f 10 fun hbi => ?_ | refine wa_p 10 ?_ | fail) <;> (first | refine wa_p 11 ?_ | refine wa_p0 11 ?_ | fail) <;> (first | refine wa_p 12 ?_ | refine wa_p0 12 ?_ | fail) <;> (first | refine wa_p 13 ?_ | refine wa_p0 13 ?_ | fail) <;> (first | refine wa_p 14 ?_ | (refine wa_deep 14 fun p cs as_ asb_ hcs has hasb hf => ?_; simp only [Un.cells, Un.atoms, Un.fact, List.cons_append, List.nil_append] at hcs has hasb hf; subst hcs has hasb) | fail) <;> (first | refine wa_f 15 fun hbi => ?_ | refine wa_p 15 ?_ | fail) <;> (refine wa_do 8 ?_ <;> (repeat' (first | refine red ?_ | refine redc fun r => ?_ | refine redv fun sv => ?_ | refine redf fun hbi => ?_ | refine redn fun b => ?_ | refine reds ?_ | refine redi (fun hc => ?_) (fun hc => ?_) | fail))) <;> (refine wa_do 16 ?_ <;> (repeat' (first | refine red ?_ | refine redc fun r => ?_ | refine redv fun sv => ?_ | refine redf fun hbi => ?_ | refine redn fun b => ?_ | refine reds ?_ | refine redi (fun hc => ?_) (fun hc => ?_) | fail))) <;> (refine wa_do 17 ?_ <;> (repeat' (first | refine red ?_ | refine redc fun r => ?_ | refine redv fun sv => ?_ | refine redf fun hbi => ?_ | refine redn fun b => ?_ | refine reds ?_ | refine redi (fun hc => ?_) (fun hc => ?_) | fail))) <;> (first | refine wa_p 18 ?_ | refine wa_p0 18 ?_ | (refine wa_do 18 ?_ <;> (repeat' (first | refine red ?_ | refine redc fun r => ?_ | refine redv fun sv => ?_ | refine redf fun hbi => ?_ | refine redn fun b => ?_ | refine reds ?_ | refine redi (fun hc => ?_) (fun hc => ?_) | fail))) | fail)) <;> refine wa_end ?_)
        | fail)
      exact ⟨(), ret_bool (par_5 hroot (fun j hj => hii j (by omega))), ent_e⟩
theorem parallel_spec {w0 : World} {Γ : List Atom} {v0 v1 va vb : Value} {x : SSystem} {a y : List Int} [h0 : HasRd (List Int) repList Γ [v0] x.1] [h1 : HasRd (List SRule) repList Γ [v1] x.2] [h2 : HasRd (List Int) repList Γ [va] a] [h3 : HasRd (List Int) repList Γ [vb] y] (hs : sysOk x = true ∧ termOk x.1 a = true ∧ termOk x.1 y = true) : CJ Try.prog 99 [.agg #[v0, v1], va, vb] w0 Γ (fun _ : Unit => .bool (parR x 60 a y)) (fun _ => Γ) := by
  exact parallel_rec 60 ⟨hs.1, hs.2.1, hs.2.2, (termOk_len hs.2.1).2⟩
instance parallel_ctr {Γ : List Atom} {v0 v1 va vb : Value} {x : SSystem} {a y : List Int} [h0 : HasRd (List Int) repList Γ [v0] x.1] [h1 : HasRd (List SRule) repList Γ [v1] x.2] [h2 : HasRd (List Int) repList Γ [va] a] [h3 : HasRd (List Int) repList Γ [vb] y] :
    CtrC Try.prog 99 [.agg #[v0, v1], va, vb] Γ (sysOk x = true ∧ termOk x.1 a = true ∧ termOk x.1 y = true) (Unit) (fun _ : Unit => .bool (parR x 60 a y)) (fun _ => Γ) := ⟨fun s w0 => parallel_spec s⟩

theorem l12Parallel_rec (n : Nat) : ∀ {w0 : World} {Γ : List Atom} {v0 v1 va vb : Value} {x : SSystem} {a y : List Int} [h0 : HasRd (List Int) repList Γ [v0] x.1] [h1 : HasRd (List SRule) repList Γ [v1] x.2] [h2 : HasRd (List Int) repList Γ [va] a] [h3 : HasRd (List Int) repList Γ [vb] y] (hs : sysOk x = true ∧ termOk x.1 a = true ∧ termOk x.1 y = true ∧ a.length ≤ n), CJ Try.prog 98 [.agg #[v0, v1], va, vb] w0 Γ (fun _ : Unit => .bool (parR x n a y)) (fun _ => Γ) := by
  induction n with
  | zero =>
    intro w0 Γ v0 v1 va vb x a y h0 h1 h2 h3 hs
    have := termOk_len hs.2.1
    omega
  | succ n ih =>
    intro w0 Γ v0 v1 va vb x a y h0 h1 h2 h3 hs
    haveI hI : ∀ (Δ : List Atom) (v0 v1 va vb : Value) (x : SSystem) (a y : List Int) [HasRd (List Int) repList Δ [v0] x.1] [HasRd (List SRule) repList Δ [v1] x.2] [HasRd (List Int) repList Δ [va] a] [HasRd (List Int) repList Δ [vb] y], CtrC Try.prog 98 [.agg #[v0, v1], va, vb] Δ (sysOk x = true ∧ termOk x.1 a = true ∧ termOk x.1 y = true ∧ a.length ≤ n) Unit (fun _ => .bool (parR x n a y)) (fun _ => Δ) := fun Δ _ _ _ _ _ _ _ _ _ _ _ => ⟨fun s w0 => ih s⟩
    refine cj_lift (R := [.rd [v0] x.1, .rd [v1] x.2, .rd [va] a, .rd [vb] y]) (A := fun _ => []) (fun w1 => ?_) (reads_cons h0 (reads_cons h1 (reads_cons h2 (reads_cons h3 (inferInstance))))) (fun _ => inferInstance)
    simp only [List.cons_append, List.nil_append]
    obtain ⟨hs1, hs2, hs3, hs4⟩ := hs
    have hal := termOk_len hs2
    have hbl := termOk_len hs3
    refine cj_enter Try.func98 Try.ntmps98 ?_
    repeat' (first
      | refine red ?_
      | refine redf fun hbi => ?_
      | refine reds ?_
      | refine redc fun r => ?_
      | refine redv fun sv => ?_
      | refine redn fun b => ?_
      | refine redz fun zs => ?_
      | refine redq (fun hc => ?_) (fun hc => ?_)
      | with_reducible refine wq_blk_o rfl ?_
      | (refine redd fun p cs as_ hcs has hf => ?_; simp only [Un.cells, Un.atoms, Un.fact, List.cons_append, List.nil_append] at hcs has hf; subst hcs has)
      | (refine redi (fun hc => ?_) (fun hc => ?_) <;> try first | (exfalso; omega) | exact absurd rfl hc)
      | ((refine wa_begin 3 [false, false, false, false, false, false, false, false, false, false, false, false, false] [] ?_ <;> (first | refine wa_p 0 ?_ | refine wa_p0 0 ?_ | fail) <;> (first | refine wa_p 1 ?_ | (refine wa_deep 1 fun p cs as_ asb_ hcs has hasb hf => ?_; simp only [Un.cells, Un.atoms, Un.fact, List.cons_append, List.nil_append] at hcs has hasb hf; subst hcs has hasb) | fail) <;> (first | refine wa_f 2 fun hbi => ?_ | refine wa_p 2 ?_ | fail) <;> (first | refine wa_p 3 ?_ | refine wa_p0 3 ?_ | (refine wa_do 3 ?_ <;> (repeat' (first | refine red ?_ | refine redc fun r => ?_ | refine redv fun sv => ?_ | refine redf fun hbi => ?_ | refine redn fun b => ?_ | refine reds ?_ | refine redi (fun hc => ?_) (fun hc => ?_) | fail))) | fail) <;> (first | refine wa_p 4 ?_ | (refine wa_deep 4 fun p cs as_ asb_ hcs has hasb hf => ?_; simp only [Un.cells, Un.atoms, Un.fact, List.cons_append, List.nil_append] at hcs has hasb hf; subst hcs has hasb) | fail) <;> (first | refine wa_f 5 fun hbi => ?_ | refine wa_p 5 ?_ | fail) <;> (first | refine wa_p 6 ?_ | refine wa_p0 6 ?_ | (refine wa_do 6 ?_ <;> (repeat' (first | refine red ?_ | refine redc fun r => ?_ | refine redv fun sv => ?_ | refine redf fun hbi => ?_ | refine redn fun b => ?_ | refine reds ?_ | refine redi (fun hc => ?_) (fun hc => ?_) | fail))) | fail) <;> (first | refine wa_p 7 ?_ | refine wa_p0 7 ?_ | (refine wa_do 7 ?_ <;> (repeat' (first | refine red ?_ | refine redc fun r => ?_ | refine redv fun sv => ?_ | refine redf fun hbi => ?_ | refine redn fun b => ?_ | refine reds ?_ | refine redi (fun hc => ?_) (fun hc => ?_) | fail))) | fail) <;> (first | refine wa_pg 8 ?_ | refine wa_no 8 ?_ | (refine wa_if 26 (fun hc => ?_) (fun hc => ?_) <;> (try first | (exfalso; omega) | exact absurd rfl hc) <;> first | refine wa_pg 8 ?_ | refine wa_no 8 ?_) | fail) <;> (first | refine wa_pg 9 ?_ | refine wa_no 9 ?_ | (refine wa_do 9 ?_ <;> (repeat' (first | refine red ?_ | refine redc fun r => ?_ | refine redv fun sv => ?_ | refine redf fun hbi => ?_ | refine redn fun b => ?_ | refine reds ?_ | refine redi (fun hc => ?_) (fun hc => ?_) | fail))) | fail) <;> (first | refine wa_pg 10 ?_ | refine wa_no 10 ?_ | (refine wa_do 10 ?_ <;> (repeat' (first | refine red ?_ | refine redc fun r => ?_ | refine redv fun sv => ?_ | refine redf fun hbi => ?_ | refine redn fun b => ?_ | refine reds ?_ | refine redi (fun hc => ?_) (fun hc => ?_) | fail))) | fail) <;> (first | refine wa_pg 11 ?_ | refine wa_no 11 ?_ | (refine wa_do 11 ?_ <;> (repeat' (first | refine red ?_ | refine redc fun r => ?_ | refine redv fun sv => ?_ | refine redf fun hbi => ?_ | refine redn fun b => ?_ | refine reds ?_ | refine redi (fun hc => ?_) (fun hc => ?_) | fail))) | fail) <;> (first | refine wa_p 12 ?_ | refine wa_p0 12 ?_ | (refine wa_do 12 ?_ <;> (repeat' (first | refine red ?_ | refine redc fun r => ?_ | refine redv fun sv => ?_ | refine redf fun hbi => ?_ | refine redn fun b => ?_ | refine reds ?_ | refine redi (fun hc => ?_) (fun hc => ?_) | fail))) | fail)) <;> refine wa_end ?_)
      | ((refine wa_begin 10 [false, false, false, false, false, false, false, false, false, false, false] [] ?_ <;> (first | refine wa_f 0 fun hbi => ?_ | refine wa_p 0 ?_ | fail) <;> (first | refine wa_p 1 ?_ | refine wa_p0 1 ?_ | fail) <;> (first | refine wa_p 2 ?_ | refine wa_p0 2 ?_ | fail) <;> (first | refine wa_p 3 ?_ | (refine wa_deep 3 fun p cs as_ asb_ hcs has hasb hf => ?_; simp only [Un.cells, Un.atoms, Un.fact, List.cons_append, List.nil_append] at hcs has hasb hf; subst hcs has hasb) | fail) <;> (first | refine wa_f 4 fun hbi => ?_ | refine wa_p 4 ?_ | fail) <;> (first | refine wa_p 5 ?_ | refine wa_p0 5 ?_ | fail) <;> (first | refine wa_p 6 ?_ | refine wa_p0 6 ?_ | (refine wa_do 6 ?_ <;> (repeat' (first | refine red ?_ | refine redc fun r => ?_ | refine redv fun sv => ?_ | refine redf fun hbi => ?_ | refine redn fun b => ?_ | refine reds ?_ | refine redi (fun hc => ?_) (fun hc => ?_) | fail))) | fail) <;> (first | refine wa_p 7 ?_ | (refine wa_deep 7 fun p cs as_ asb_ hcs has hasb hf => ?_; simp only [Un.cells, Un.atoms, Un.fact, List.cons_append, List.nil_append] at hcs has hasb hf; subst hcs has hasb) | fail) <;> (first | refine wa_f 8 fun hbi => ?_ | refine wa_p 8 ?_ | fail) <;> (refine wa_do 9 ?_ <;> (repeat' (first | refine red ?_ | refine redc fun r => ?_ | refine redv fun sv => ?_ | refine redf fun hbi => ?_ | refine redn fun b => ?_ | refine reds ?_ | refine redi (fun hc => ?_) (fun hc => ?_) | fail))) <;> (first | refine wa_p 10 ?_ | refine wa_p0 10 ?_ | (refine wa_do 10 ?_ <;> (repeat' (first | refine red ?_ | refine redc fun r => ?_ | refine redv fun sv => ?_ | refine redf fun hbi => ?_ | refine redn fun b => ?_ | refine reds ?_ | refine redi (fun hc => ?_) (fun hc => ?_) | fail))) | fail)) <;> refine wa_end ?_)
      | fail)
    · exact ⟨(), ret_bool (par_1 hc), ent_e⟩
    · exact ⟨(), ret_bool (par_2 hc), ent_e⟩
    · exact ⟨(), ret_bool (par_3 ‹¬a = y› ‹¬RootTo x a y x.2.length› (fun h => hc h.2)), ent_e⟩
    · exact ⟨(), ret_bool (par_3 ‹¬a = y› ‹¬RootTo x a y x.2.length› (fun h => by omega)), ent_e⟩
    have hne : ¬ a = y := by assumption
    have hkk : ¬ RootTo x a y x.2.length := by assumption
    have hroot : 0 ≤ a.getD 0 0 ∧ a.getD 0 0 = y.getD 0 0 := ⟨hc, by assumption⟩
    have hN : arN x.1 y = arN x.1 a := by unfold arN; rw [← hroot.2]
    have hla := partsTo_len x.1 a (arN x.1 a)
    have hly := partsTo_len x.1 y (arN x.1 y)
    have hn3 := (arN_le hs2).2
    rename_i ra
    refine wc_share ra ?_
    refine wc_share r ?_
    refine wc_loop_c [9] [40, 41, 42, 43, 46, 47, 48, 49, 50, 51, 52, 53, 54, 55, 56, 6, 44, 45] (ι := Nat) (fun i => [.int .i64 i]) (fun i => i ≤ arN x.1 a ∧ ∀ j, j < i → parR x n (argT x.1 a j) (argT x.1 y j) = true) (fun i => arN x.1 a - i) 0 (by kernel_rfl) ⟨Nat.zero_le _, fun j hj => by omega⟩ ?_
    intro i u l' hl' ⟨hi, hii⟩
    simp only [patch, List.map_cons, List.map_nil, List.set_cons_zero, List.set_cons_succ] at hl'
    subst hl'
    by_cases hilt : i < arN x.1 a
    · have hga := partsTo_get x.1 a hilt
      have hgy := partsTo_get x.1 y (n := arN x.1 y) (i := i) (by omega)
      have hoa := argT_ok hs2 hilt
      have hoy := argT_ok hs3 (i := i) (by omega)
      have hTa : termOk x.1 ((partsTo x.1 a (arN x.1 a)).getD i default).v = true ∧ ((partsTo x.1 a (arN x.1 a)).getD i default).v.length ≤ n := by
        rw [hga]; exact ⟨hoa.1, by have := hoa.2; unfold argT at this; simp only; omega⟩
      have hTy : termOk x.1 ((partsTo x.1 y (arN x.1 y)).getD i default).v = true := by
        rw [hgy]; exact hoy.1
      obtain ⟨hTa1, hTa2⟩ := hTa
      repeat' (first
        | refine red ?_
        | refine redf fun hbi => ?_
        | refine reds ?_
        | refine redc fun r => ?_
        | refine redv fun sv => ?_
        | refine redn fun b => ?_
        | refine redz fun zs => ?_
        | refine redq (fun hc => ?_) (fun hc => ?_)
        | with_reducible refine wq_blk_o rfl ?_
        | (refine redd fun p cs as_ hcs has hf => ?_; simp only [Un.cells, Un.atoms, Un.fact, List.cons_append, List.nil_append] at hcs has hf; subst hcs has)
        | (refine redi (fun hc => ?_) (fun hc => ?_) <;> try first | (exfalso; omega) | exact absurd rfl hc)
        | ((refine wa_begin 3 [false, false, false, false, false, false, false, false, false, false, false, false, false] [] ?_ <;> (first | refine wa_p 0 ?_ | refine wa_p0 0 ?_ | fail) <;> (first | refine wa_p 1 ?_ | (refine wa_deep 1 fun p cs as_ asb_ hcs has hasb hf => ?_; simp only [Un.cells, Un.atoms, Un.fact, List.cons_append, List.nil_append] at hcs has hasb hf; subst hcs has hasb) | fail) <;> (first | refine wa_f 2 fun hbi => ?_ | refine wa_p 2 ?_ | fail) <;> (first | refine wa_p 3 ?_ | refine wa_p0 3 ?_ | (refine wa_do 3 ?_ <;> (repeat' (first | refine red ?_ | refine redc fun r => ?_ | refine redv fun sv => ?_ | refine redf fun hbi => ?_ | refine redn fun b => ?_ | refine reds ?_ | refine redi (fun hc => ?_) (fun hc => ?_) | fail))) | fail) <;> (first | refine wa_p 4 ?_ | (refine wa_deep 4 fun p cs as_ asb_ hcs has hasb hf => ?_; simp only [Un.cells, Un.atoms, Un.fact, List.cons_append, List.nil_append] at hcs has hasb hf; subst hcs has hasb) | fail) <;> (first | refine wa_f 5 fun hbi => ?_ | refine wa_p 5 ?_ | fail) <;> (first | refine wa_p 6 ?_ | refine wa_p0 6 ?_ | (refine wa_do 6 ?_ <;> (repeat' (first | refine red ?_ | refine redc fun r => ?_ | refine redv fun sv => ?_ | refine redf fun hbi => ?_ | refine redn fun b => ?_ | refine reds ?_ | refine redi (fun hc => ?_) (fun hc => ?_) | fail))) | fail) <;> (first | refine wa_p 7 ?_ | refine wa_p0 7 ?_ | (refine wa_do 7 ?_ <;> (repeat' (first | refine red ?_ | refine redc fun r => ?_ | refine redv fun sv => ?_ | refine redf fun hbi => ?_ | refine redn fun b => ?_ | refine reds ?_ | refine redi (fun hc => ?_) (fun hc => ?_) | fail))) | fail) <;> (first | refine wa_pg 8 ?_ | refine wa_no 8 ?_ | (refine wa_if 26 (fun hc => ?_) (fun hc => ?_) <;> (try first | (exfalso; omega) | exact absurd rfl hc) <;> first | refine wa_pg 8 ?_ | refine wa_no 8 ?_) | fail) <;> (first | refine wa_pg 9 ?_ | refine wa_no 9 ?_ | (refine wa_do 9 ?_ <;> (repeat' (first | refine red ?_ | refine redc fun r => ?_ | refine redv fun sv => ?_ | refine redf fun hbi => ?_ | refine redn fun b => ?_ | refine reds ?_ | refine redi (fun hc => ?_) (fun hc => ?_) | fail))) | fail) <;> (first | refine wa_pg 10 ?_ | refine wa_no 10 ?_ | (refine wa_do 10 ?_ <;> (repeat' (first | refine red ?_ | refine redc fun r => ?_ | refine redv fun sv => ?_ | refine redf fun hbi => ?_ | refine redn fun b => ?_ | refine reds ?_ | refine redi (fun hc => ?_) (fun hc => ?_) | fail))) | fail) <;> (first | refine wa_pg 11 ?_ | refine wa_no 11 ?_ | (refine wa_do 11 ?_ <;> (repeat' (first | refine red ?_ | refine redc fun r => ?_ | refine redv fun sv => ?_ | refine redf fun hbi => ?_ | refine redn fun b => ?_ | refine reds ?_ | refine redi (fun hc => ?_) (fun hc => ?_) | fail))) | fail) <;> (first | refine wa_p 12 ?_ | refine wa_p0 12 ?_ | (refine wa_do 12 ?_ <;> (repeat' (first | refine red ?_ | refine redc fun r => ?_ | refine redv fun sv => ?_ | refine redf fun hbi => ?_ | refine redn fun b => ?_ | refine reds ?_ | refine redi (fun hc => ?_) (fun hc => ?_) | fail))) | fail)) <;> refine wa_end ?_)
        | ((refine wa_begin 10 [false, false, false, false, false, false, false, false, false, false, false] [] ?_ <;> (first | refine wa_f 0 fun hbi => ?_ | refine wa_p 0 ?_ | fail) <;> (first | refine wa_p 1 ?_ | refine wa_p0 1 ?_ | fail) <;> (first | refine wa_p 2 ?_ | refine wa_p0 2 ?_ | fail) <;> (first | refine wa_p 3 ?_ | (refine wa_deep 3 fun p cs as_ asb_ hcs has hasb hf => ?_; simp only [Un.cells, Un.atoms, Un.fact, List.cons_append, List.nil_append] at hcs has hasb hf; subst hcs has hasb) | fail) <;> (first | refine wa_f 4 fun hbi => ?_ | refine wa_p 4 ?_ | fail) <;> (first | refine wa_p 5 ?_ | refine wa_p0 5 ?_ | fail) <;> (first | refine wa_p 6 ?_ | refine wa_p0 6 ?_ | (refine wa_do 6 ?_ <;> (repeat' (first | refine red ?_ | refine redc fun r => ?_ | refine redv fun sv => ?_ | refine redf fun hbi => ?_ | refine redn fun b => ?_ | refine reds ?_ | refine redi (fun hc => ?_) (fun hc => ?_) | fail))) | fail) <;> (first | refine wa_p 7 ?_ | (refine wa_deep 7 fun p cs as_ asb_ hcs has hasb hf => ?_; simp only [Un.cells, Un.atoms, Un.fact, List.cons_append, List.nil_append] at hcs has hasb hf; subst hcs has hasb) | fail) <;> (first | refine wa_f 8 fun hbi => ?_ | refine wa_p 8 ?_ | fail) <;> (refine wa_do 9 ?_ <;> (repeat' (first | refine red ?_ | refine redc fun r => ?_ | refine redv fun sv => ?_ | refine redf fun hbi => ?_ | refine redn fun b => ?_ | refine reds ?_ | refine redi (fun hc => ?_) (fun hc => ?_) | fail))) <;> (first | refine wa_p 10 ?_ | refine wa_p0 10 ?_ | (refine wa_do 10 ?_ <;> (repeat' (first | refine red ?_ | refine redc fun r => ?_ | refine redv fun sv => ?_ | refine redf fun hbi => ?_ | refine redn fun b => ?_ | refine reds ?_ | refine redi (fun hc => ?_) (fun hc => ?_) | fail))) | fail)) <;> refine wa_end ?_)
        | fail)
      all_goals rw [hga, hgy] at hc
      · exact ⟨(), ret_bool (par_4 hne hkk hilt hc), ent_e⟩
      · exact wq_next (i + 1) ⟨by omega, fun j hj => by
          by_cases he : j = i
          · rw [he]; exact hc
          · exact hii j (by omega)⟩ (by omega) (by kernel_rfl) ent_e
    · repeat' (first
        | refine red ?_
        | refine redf fun hbi => ?_
        | refine reds ?_
        | refine redc fun r => ?_
        | refine redv fun sv => ?_
        | refine redn fun b => ?_
        | refine redz fun zs => ?_
        | refine redq (fun hc => ?_) (fun hc => ?_)
        | with_reducible refine wq_blk_o rfl ?_
        | (refine redd fun p cs as_ hcs has hf => ?_; simp only [Un.cells, Un.atoms, Un.fact, List.cons_append, List.nil_append] at hcs has hf; subst hcs has)
        | (refine redi (fun hc => ?_) (fun hc => ?_) <;> try first | (exfalso; omega) | exact absurd rfl hc)
        | ((refine wa_begin 3 [false, false, false, false, false, false, false, false, false, false, false, false, false] [] ?_ <;> (first | refine wa_p 0 ?_ | refine wa_p0 0 ?_ | fail) <;> (first | refine wa_p 1 ?_ | (refine wa_deep 1 fun p cs as_ asb_ hcs has hasb hf => ?_; simp only [Un.cells, Un.atoms, Un.fact, List.cons_append, List.nil_append] at hcs has hasb hf; subst hcs has hasb) | fail) <;> (first | refine wa_f 2 fun hbi => ?_ | refine wa_p 2 ?_ | fail) <;> (first | refine wa_p 3 ?_ | refine wa_p0 3 ?_ | (refine wa_do 3 ?_ <;> (repeat' (first | refine red ?_ | refine redc fun r => ?_ | refine redv fun sv => ?_ | refine redf fun hbi => ?_ | refine redn fun b => ?_ | refine reds ?_ | refine redi (fun hc => ?_) (fun hc => ?_) | fail))) | fail) <;> (first | refine wa_p 4 ?_ | (refine wa_deep 4 fun p cs as_ asb_ hcs has hasb hf => ?_; simp only [Un.cells, Un.atoms, Un.fact, List.cons_append, List.nil_append] at hcs has hasb hf; subst hcs has hasb) | fail) <;> (first | refine wa_f 5 fun hbi => ?_ | refine wa_p 5 ?_ | fail) <;> (first | refine wa_p 6 ?_ | refine wa_p0 6 ?_ | (refine wa_do 6 ?_ <;> (repeat' (first | refine red ?_ | refine redc fun r => ?_ | refine redv fun sv => ?_ | refine redf fun hbi => ?_ | refine redn fun b => ?_ | refine reds ?_ | refine redi (fun hc => ?_) (fun hc => ?_) | fail))) | fail) <;> (first | refine wa_p 7 ?_ | refine wa_p0 7 ?_ | (refine wa_do 7 ?_ <;> (repeat' (first | refine red ?_ | refine redc fun r => ?_ | refine redv fun sv => ?_ | refine redf fun hbi => ?_ | refine redn fun b => ?_ | refine reds ?_ | refine redi (fun hc => ?_) (fun hc => ?_) | fail))) | fail) <;> (first | refine wa_pg 8 ?_ | refine wa_no 8 ?_ | (refine wa_if 26 (fun hc => ?_) (fun hc => ?_) <;> (try first | (exfalso; omega) | exact absurd rfl hc) <;> first | refine wa_pg 8 ?_ | refine wa_no 8 ?_) | fail) <;> (first | refine wa_pg 9 ?_ | refine wa_no 9 ?_ | (refine wa_do 9 ?_ <;> (repeat' (first | refine red ?_ | refine redc fun r => ?_ | refine redv fun sv => ?_ | refine redf fun hbi => ?_ | refine redn fun b => ?_ | refine reds ?_ | refine redi (fun hc => ?_) (fun hc => ?_) | fail))) | fail) <;> (first | refine wa_pg 10 ?_ | refine wa_no 10 ?_ | (refine wa_do 10 ?_ <;> (repeat' (first | refine red ?_ | refine redc fun r => ?_ | refine redv fun sv => ?_ | refine redf fun hbi => ?_ | refine redn fun b => ?_ | refine reds ?_ | refine redi (fun hc => ?_) (fun hc => ?_) | fail))) | fail) <;> (first | refine wa_pg 11 ?_ | refine wa_no 11 ?_ | (refine wa_do 11 ?_ <;> (repeat' (first | refine red ?_ | refine redc fun r => ?_ | refine redv fun sv => ?_ | refine redf fun hbi => ?_ | refine redn fun b => ?_ | refine reds ?_ | refine redi (fun hc => ?_) (fun hc => ?_) | fail))) | fail) <;> (first | refine wa_p 12 ?_ | refine wa_p0 12 ?_ | (refine wa_do 12 ?_ <;> (repeat' (first | refine red ?_ | refine redc fun r => ?_ | refine redv fun sv => ?_ | refine redf fun hbi => ?_ | refine redn fun b => ?_ | refine reds ?_ | refine redi (fun hc => ?_) (fun hc => ?_) | fail))) | fail)) <;> refine wa_end ?_)
        | ((refine wa_begin 10 [false, false, false, false, false, false, false, false, false, false, false] [] ?_ <;> (first | refine wa_f 0 fun hbi => ?_ | refine wa_p 0 ?_ | fail) <;> (first | refine wa_p 1 ?_ | refine wa_p0 1 ?_ | fail) <;> (first | refine wa_p 2 ?_ | refine wa_p0 2 ?_ | fail) <;> (first | refine wa_p 3 ?_ | (refine wa_deep 3 fun p cs as_ asb_ hcs has hasb hf => ?_; simp only [Un.cells, Un.atoms, Un.fact, List.cons_append, List.nil_append] at hcs has hasb hf; subst hcs has hasb) | fail) <;> (first | refine wa_f 4 fun hbi => ?_ | refine wa_p 4 ?_ | fail) <;> (first | refine wa_p 5 ?_ | refine wa_p0 5 ?_ | fail) <;> (first | refine wa_p 6 ?_ | refine wa_p0 6 ?_ | (refine wa_do 6 ?_ <;> (repeat' (first | refine red ?_ | refine redc fun r => ?_ | refine redv fun sv => ?_ | refine redf fun hbi => ?_ | refine redn fun b => ?_ | refine reds ?_ | refine redi (fun hc => ?_) (fun hc => ?_) | fail))) | fail) <;> (first | refine wa_p 7 ?_ | (refine wa_deep 7 fun p cs as_ asb_ hcs has hasb hf => ?_; simp only [Un.cells, Un.atoms, Un.fact, List.cons_append, List.nil_append] at hcs has hasb hf; subst hcs has hasb) | fail) <;> (first | refine wa_f 8 fun hbi => ?_ | refine wa_p 8 ?_ | fail) <;> (refine wa_do 9 ?_ <;> (repeat' (first | refine red ?_ | refine redc fun r => ?_ | refine redv fun sv => ?_ | refine redf fun hbi => ?_ | refine redn fun b => ?_ | refine reds ?_ | refine redi (fun hc => ?_) (fun hc => ?_) | fail))) <;> (first | refine wa_p 10 ?_ | refine wa_p0 10 ?_ | (refine wa_do 10 ?_ <;> (repeat' (first | refine red ?_ | refine redc fun r => ?_ | refine redv fun sv => ?_ | refine redf fun hbi => ?_ | refine redn fun b => ?_ | refine reds ?_ | refine redi (fun hc => ?_) (fun hc => ?_) | fail))) | fail)) <;> refine wa_end ?_)
        | fail)
      exact ⟨(), ret_bool (par_5 hroot (fun j hj => hii j (by omega))), ent_e⟩
theorem l12Parallel_spec {w0 : World} {Γ : List Atom} {v0 v1 va vb : Value} {x : SSystem} {a y : List Int} [h0 : HasRd (List Int) repList Γ [v0] x.1] [h1 : HasRd (List SRule) repList Γ [v1] x.2] [h2 : HasRd (List Int) repList Γ [va] a] [h3 : HasRd (List Int) repList Γ [vb] y] (hs : sysOk x = true ∧ termOk x.1 a = true ∧ termOk x.1 y = true) : CJ Try.prog 98 [.agg #[v0, v1], va, vb] w0 Γ (fun _ : Unit => .bool (parR x 60 a y)) (fun _ => Γ) := by
  exact l12Parallel_rec 60 ⟨hs.1, hs.2.1, hs.2.2, (termOk_len hs.2.1).2⟩
instance l12Parallel_ctr {Γ : List Atom} {v0 v1 va vb : Value} {x : SSystem} {a y : List Int} [h0 : HasRd (List Int) repList Γ [v0] x.1] [h1 : HasRd (List SRule) repList Γ [v1] x.2] [h2 : HasRd (List Int) repList Γ [va] a] [h3 : HasRd (List Int) repList Γ [vb] y] :
    CtrC Try.prog 98 [.agg #[v0, v1], va, vb] Γ (sysOk x = true ∧ termOk x.1 a = true ∧ termOk x.1 y = true) (Unit) (fun _ : Unit => .bool (parR x 60 a y)) (fun _ => Γ) := ⟨fun s w0 => l12Parallel_spec s⟩

theorem impl_ParallelTo_spec {w0 : World} {Γ : List Atom} {v0 v1 va vb : Value} {x : SSystem} {a y : List Int} [h0 : HasRd (List Int) repList Γ [v0] x.1] [h1 : HasRd (List SRule) repList Γ [v1] x.2] [h2 : HasRd (List Int) repList Γ [va] a] [h3 : HasRd (List Int) repList Γ [vb] y] : CJ Try.prog 34 [.agg #[v0, v1], va, vb] w0 Γ (fun _ : Unit => .bool (sysOk x && (termOk x.1 a && (termOk x.1 y && parR x 60 a y)))) (fun _ => Γ) := by
  refine cj_enter Try.func34 Try.ntmps34 ?_
  repeat' (first
    | refine red ?_
    | refine redf fun hbi => ?_
    | refine reds ?_
    | refine redc fun r => ?_
    | refine redv fun sv => ?_
    | refine redn fun b => ?_
    | refine redz fun zs => ?_
    | refine redq (fun hc => ?_) (fun hc => ?_)
    | with_reducible refine wq_blk_o rfl ?_
    | (refine redd fun p cs as_ hcs has hf => ?_; simp only [Un.cells, Un.atoms, Un.fact, List.cons_append, List.nil_append] at hcs has hf; subst hcs has)
    | (refine redi (fun hc => ?_) (fun hc => ?_) <;> try first | (exfalso; omega) | exact absurd rfl hc)
    | fail)
  all_goals exact ⟨(), ret_bool (by simp only [*, Bool.true_and, Bool.false_and, Bool.and_false, Bool.and_true]), ent_e⟩
instance impl_ParallelTo_ctr {Γ : List Atom} {v0 v1 va vb : Value} {x : SSystem} {a y : List Int} [h0 : HasRd (List Int) repList Γ [v0] x.1] [h1 : HasRd (List SRule) repList Γ [v1] x.2] [h2 : HasRd (List Int) repList Γ [va] a] [h3 : HasRd (List Int) repList Γ [vb] y] :
    CtrC Try.prog 34 [.agg #[v0, v1], va, vb] Γ (True) (Unit) (fun _ : Unit => .bool (sysOk x && (termOk x.1 a && (termOk x.1 y && parR x 60 a y)))) (fun _ => Γ) := ⟨fun s w0 => impl_ParallelTo_spec⟩

theorem spec_ParallelTo_spec {w0 : World} {Γ : List Atom} {v0 v1 va vb : Value} {x : SSystem} {a y : List Int} [h0 : HasRd (List Int) repList Γ [v0] x.1] [h1 : HasRd (List SRule) repList Γ [v1] x.2] [h2 : HasRd (List Int) repList Γ [va] a] [h3 : HasRd (List Int) repList Γ [vb] y] : CJ Try.prog 33 [.agg #[v0, v1], va, vb] w0 Γ (fun _ : Unit => .bool (sysOk x && (termOk x.1 a && (termOk x.1 y && parR x 60 a y)))) (fun _ => Γ) := by
  refine cj_enter Try.func33 Try.ntmps33 ?_
  repeat' (first
    | refine red ?_
    | refine redf fun hbi => ?_
    | refine reds ?_
    | refine redc fun r => ?_
    | refine redv fun sv => ?_
    | refine redn fun b => ?_
    | refine redz fun zs => ?_
    | refine redq (fun hc => ?_) (fun hc => ?_)
    | with_reducible refine wq_blk_o rfl ?_
    | (refine redd fun p cs as_ hcs has hf => ?_; simp only [Un.cells, Un.atoms, Un.fact, List.cons_append, List.nil_append] at hcs has hf; subst hcs has)
    | (refine redi (fun hc => ?_) (fun hc => ?_) <;> try first | (exfalso; omega) | exact absurd rfl hc)
    | fail)
  all_goals exact ⟨(), ret_bool (by simp only [*, Bool.true_and, Bool.false_and, Bool.and_false, Bool.and_true]), ent_e⟩
instance spec_ParallelTo_ctr {Γ : List Atom} {v0 v1 va vb : Value} {x : SSystem} {a y : List Int} [h0 : HasRd (List Int) repList Γ [v0] x.1] [h1 : HasRd (List SRule) repList Γ [v1] x.2] [h2 : HasRd (List Int) repList Γ [va] a] [h3 : HasRd (List Int) repList Γ [vb] y] :
    CtrC Try.prog 33 [.agg #[v0, v1], va, vb] Γ (True) (Unit) (fun _ : Unit => .bool (sysOk x && (termOk x.1 a && (termOk x.1 y && parR x 60 a y)))) (fun _ => Γ) := ⟨fun s w0 => spec_ParallelTo_spec⟩

set_option maxHeartbeats 0 in
set_option synthInstance.maxHeartbeats 400000 in
set_option synthInstance.maxSize 1000 in
theorem FnExactParallelTo_law {w0 : World} {Γ : List Atom} {x0 : SSystem} {x1 : List Int} {x2 : List Int} {v0_0 v0_1 v1_0 v2_0 : Value} [h0_0 : HasRd (List Int) repList Γ [v0_0] x0.1] [h0_1 : HasRd (List SRule) repList Γ [v0_1] x0.2] [h1_0 : HasRd (List Int) repList Γ [v1_0] x1] [h2_0 : HasRd (List Int) repList Γ [v2_0] x2] (hf0 : (x0.1.length ≤ 9223372036854775807) ∧ x0.2.length ≤ 9223372036854775807) (hf1 : x1.length ≤ 9223372036854775807) (hf2 : x2.length ≤ 9223372036854775807) :
    CJ Try.prog 8 [.agg #[v0_0, v0_1], v1_0, v2_0] w0 Γ (fun _ : Unit => .bool true) (fun _ => Γ) := by
  have hz0 := lft_spec 1048576 (Siz.size x0)
  have hs0 : Siz.size x0 = Siz.size x0.1 + Siz.size x0.2 := by simp only [siz_pair, siz_int, siz_bool, siz_str] <;> omega
  have hb0_0 := cntL_le x0.1
  have hl0_0 := siz_ints x0.1
  have hb0_1 := cntL_le x0.2
  have hb1_0 := cntL_le x1
  have hl1_0 := siz_ints x1
  have hb2_0 := cntL_le x2
  have hl2_0 := siz_ints x2
  refine cj_enter Try.func8 Try.ntmps8 ?_
  repeat' (first
    | refine red ?_
    | refine redf fun hbi => ?_
    | refine reds ?_
    | refine redc fun r => ?_
    | refine redv fun sv => ?_
    | refine redn fun b => ?_
    | refine redz fun zs => ?_
    | refine redq (fun hc => ?_) (fun hc => ?_)
    | with_reducible refine wq_blk_o rfl ?_
    | (refine redd fun p cs as_ hcs has hf => ?_; simp only [Un.cells, Un.atoms, Un.fact, List.cons_append, List.nil_append] at hcs has hf; subst hcs has)
    | (refine redi (fun hc => ?_) (fun hc => ?_) <;> try first | (exfalso; omega) | exact absurd rfl hc)
    | ((refine wa_begin 16 [false, false, false, false, false] [] ?_ <;> (first | refine wa_f 0 fun hbi => ?_ | refine wa_p 0 ?_ | fail) <;> (first | refine wa_f 1 fun hbi => ?_ | refine wa_p 1 ?_ | fail) <;> (refine wa_do 2 ?_ <;> (repeat' (first | refine red ?_ | refine redc fun r => ?_ | refine redv fun sv => ?_ | refine redf fun hbi => ?_ | refine redn fun b => ?_ | refine reds ?_ | refine redi (fun hc => ?_) (fun hc => ?_) | fail))) <;> (refine wa_do 3 ?_ <;> (repeat' (first | refine red ?_ | refine redc fun r => ?_ | refine redv fun sv => ?_ | refine redf fun hbi => ?_ | refine redn fun b => ?_ | refine reds ?_ | refine redi (fun hc => ?_) (fun hc => ?_) | fail))) <;> (first | refine wa_p 4 ?_ | refine wa_p0 4 ?_ | (refine wa_do 4 ?_ <;> (repeat' (first | refine red ?_ | refine redc fun r => ?_ | refine redv fun sv => ?_ | refine redf fun hbi => ?_ | refine redn fun b => ?_ | refine reds ?_ | refine redi (fun hc => ?_) (fun hc => ?_) | fail))) | fail)) <;> refine wa_end ?_)
    | fail)
  all_goals exact ⟨(), rfl, ent_e⟩

end Go.Proofs.Ytckbndcgkkohaaa
