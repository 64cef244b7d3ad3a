/- Chapter 4: matching. -/
import Derived.Test.YtbbdjjlnachnlaaGreatDoorL02
namespace Go.Proofs.YtbbdjjlnachnlaaGreatDoor
open Go Go.Eng
set_option linter.unusedVariables false
set_option linter.unusedSimpArgs false

theorem ne_getD' {xs : List (NE Int)} {m : Nat} : (xs.map NE.xs).getD m [] = (xs.getD m default).xs := by
  rw [List.getD_eq_getElem?_getD, List.getElem?_map, List.getD_eq_getElem?_getD]
  cases xs[m]? <;> rfl

theorem match_bound {a : List Int} : ∀ (p t : List Int) (b : List (List Int)) (ys : List (List Int)), matchGo a p t b = some ys → t.length ≤ 60 → (∀ x ∈ b, x.length ≤ 60) → ys.length = b.length ∧ ∀ x ∈ ys, x.length ≤ 60
  | [], t, b, ys, h, ht, hb => by simp only [matchGo, Option.some.injEq] at h; subst h; exact ⟨rfl, hb⟩
  | n :: p, [], b, ys, h, ht, hb => by simp [matchGo] at h
  | n :: p, x :: ts, b, ys, h, ht, hb => by
    have htl : ts.length ≤ 60 := by simp only [List.length_cons] at ht; omega
    simp only [matchGo] at h
    split at h
    · split at h
      · exact match_bound p ts b ys h htl hb
      · cases h
    · split at h
      · have := match_bound p _ _ ys h (by rw [List.length_drop]; omega) (fun y hy => by
          rcases List.mem_or_eq_of_mem_set hy with h | h
          · exact hb y h
          · rw [h, List.length_take]; omega)
        simpa using this
      · split at h
        · exact match_bound p _ b ys h (by rw [List.length_drop]; omega) hb
        · cases h
theorem rep_nil : (List.replicate 24 (⟨[]⟩ : NE Int)).map NE.xs = List.replicate 24 [] := by rw [List.map_replicate]
theorem rep_le : ∀ x ∈ List.replicate 24 ([] : List Int), x.length ≤ 60 := fun x hx => by rw [(List.mem_replicate.1 hx).2]; simp

theorem set_same' {xs : List (List Int)} {m : Nat} {x : List Int} (h : xs.getD m [] = x) (hm : m < xs.length) : xs.set m x = xs := by
  apply List.ext_getElem?
  intro i
  rw [List.getElem?_set]
  split
  · rename_i e; subst e
    try rw [if_pos hm]
    rw [List.getD_eq_getElem?_getD, List.getElem?_eq_getElem hm] at h
    rw [List.getElem?_eq_getElem hm]
    simp only [Option.getD_some] at h
    rw [h]
  · rfl
theorem l4Match_spec {w0 : World} {Γ : List Atom} {va vp vt : Value} {a p t : List Int} [h : HasRd (List Int) repList Γ [va] a] [h1 : HasRd (List Int) repList Γ [vp] p] [h2 : HasRd (List Int) repList Γ [vt] t] (hp : termOk a p = true) (ht : termOk a t = true) :
    CJ Tryz.prog 105 [.agg #[va], vp, vt] w0 Γ (fun q : Value => .tuple #[.agg #[q], .bool (matchOf a p t).isSome]) (fun q => .ow [q] ((matchOf a p t).getD []) :: Γ) := by
  have hpl := termOk_len hp
  have htl := termOk_len ht
  have hmo : matchOf a p t = (matchGo a p t (List.replicate 24 [])).map plainOf := rfl
  refine cj_lift (R := [.rd [va] a, .rd [vp] p, .rd [vt] t]) (A := fun q : Value => [.ow [q] ((matchOf a p t).getD [])]) (fun w1 => ?_) (reads_cons h (reads_cons h1 (reads_cons h2 (inferInstance)))) (fun _ => inferInstance)
  simp only [List.cons_append, List.nil_append]
  refine cj_enter Tryz.func105 Tryz.ntmps105 ?_
  repeat' (first | refine red ?_ | refine redv fun sv => ?_ | refine redn fun b => ?_ | fail)
  rename Value => tv
  refine wc_loop_p [9, 10] [15, 16, 17, 18, 21, 22, 23, 24, 25, 7, 26, 27, 28, 29, 30, 31, 32, 33, 34, 35, 36, 37, 38, 39, 40, 41, 42, 43, 44, 45, 46, 11, 47, 48, 49, 50, 51, 52, 53, 54, 55, 12, 56, 57, 58, 59, 60, 61, 62, 63, 64, 65, 66, 67, 68, 69, 70, 71, 72, 73, 74, 75, 76, 77, 78, 19, 20] (ι := Nat × Nat × List (List Int)) (fun k => [.int .i64 k.2.1, .int .i64 k.1]) (fun k => [.ow [tv] k.2.2]) (fun k => k.1 ≤ p.length ∧ k.2.1 ≤ t.length ∧ k.2.2.length = 24 ∧ matchGo a p t (List.replicate 24 []) = matchGo a (p.drop k.1) (t.drop k.2.1) k.2.2) (fun k => p.length - k.1) (0, 0, List.replicate 24 []) [.ow [tv] (List.replicate 24 ([] : List Int))] (by kernel_rfl) ⟨Nat.zero_le _, Nat.zero_le _, by simp, rfl⟩ rfl ?_
  intro ⟨i, k, ys⟩ u l' hl' ⟨hi, hk, hy, hgo⟩
  simp only [patch, List.map_cons, List.map_nil, List.set_cons_zero, List.set_cons_succ] at hl'
  subst hl'
  simp only [List.cons_append, List.nil_append] at hi hk hy hgo ⊢
  have hpi : i < p.length → -24 ≤ p.getD i 0 ∧ p.getD i 0 < a.length := fun h => termOk_get hp h
  have hta : k < t.length → 1 ≤ sz a t k ∧ k + sz a t k ≤ t.length := fun h => (term_at ht h).2
  have hsl : k < t.length → (subt a t k).length = sz a t k := fun h => subt_len ht h
  repeat' (first | refine red ?_ | refine redf fun hbi => ?_ | refine reds ?_ | refine redc fun r => ?_ | (refine redi (fun hc => ?_) (fun hc => ?_) <;> try first | (exfalso; omega) | exact absurd rfl hc) | ((refine wa_begin 9 [false, false, false, false, false, false, false, false, false] [] ?_ <;> refine wa_p 0 ?_ <;> refine wa_p 1 ?_ <;> refine wa_p 2 ?_ <;> (first | refine wa_f 3 fun hbi => ?_ | fail) <;> refine wa_p 4 ?_ <;> refine wa_p 5 ?_ <;> refine wa_p 6 ?_ <;> (first | refine wa_f 7 fun hbi => ?_ | fail) <;> (first | refine wa_p 8 ?_ | fail)) <;> (refine wa_end ?_)) | ((refine wa_begin 13 [false, false, false, false, false, false, false, false, false, false] [8] ?_ <;> (first | refine wa_p 0 ?_ | fail) <;> (first | refine wa_p 1 ?_ | fail) <;> refine wa_p 2 ?_ <;> refine wa_p 3 ?_ <;> refine wa_p 4 ?_ <;> (first | refine wa_f 5 fun hbi => ?_ | fail) <;> (first | refine wa_p 6 ?_ | fail) <;> (first | refine wa_p 7 ?_ | fail) <;> (refine wa_do 8 ?_ <;> (repeat' (first | refine red ?_ | refine redo fun sv => ?_ | fail))) <;> refine wa_p0 9 ?_) <;> (refine wa_end ?_)) | ((refine wa_begin 16 [false, false, false, false, false, false, false, false, false, false] [9] ?_ <;> (first | refine wa_p 0 ?_ | fail) <;> (first | refine wa_p 1 ?_ | fail) <;> refine wa_p 2 ?_ <;> refine wa_p 3 ?_ <;> refine wa_p 4 ?_ <;> (first | refine wa_f 5 fun hbi => ?_ | fail) <;> (first | refine wa_p 6 ?_ | fail) <;> refine wa_p 7 ?_ <;> (first | refine wa_p 8 ?_ | fail) <;> (refine wa_do 9 ?_ <;> (repeat' (first | refine red ?_ | fail)))) <;> (refine wa_end ?_)) | fail)
  · have e : matchOf a p t = none := by rw [hmo, hgo, match_out (by omega) (by omega)]; rfl
    rw [e]
    simp only [Option.getD_none, Option.isSome_none]
    exact ⟨_, rfl, ent_e⟩
  · have e : matchOf a p t = none := by rw [hmo, hgo, match_sym_ne (by omega) (by omega) (by omega) (fun h => hc h.symm)]; rfl
    rw [e]
    simp only [Option.getD_none, Option.isSome_none]
    exact ⟨_, rfl, ent_e⟩
  · exact wq_next (i + 1, k + 1, ys) ⟨by simp only; omega, by simp only; omega, hy, by rw [hgo]; exact match_sym (by omega) (by omega) (by omega) hc.symm⟩ (by simp only; omega) (by kernel_rfl) ent_e
  · have hne : ¬ ys.getD (-1 - p.getD i 0).toNat [] = [] := fun h => by
      have : (ys.getD (-1 - p.getD i 0).toNat default).length = 0 := by rw [show (default : List Int) = [] from rfl, h]; rfl
      omega
    have e : matchOf a p t = none := by rw [hmo, hgo, match_old_ne (by omega) (by omega) (by omega) hne hc]; rfl
    rw [e]
    simp only [Option.getD_none, Option.isSome_none]
    exact ⟨_, rfl, ent_e⟩
  · have hne : ¬ ys.getD (-1 - p.getD i 0).toNat [] = [] := fun h => by
      have : (ys.getD (-1 - p.getD i 0).toNat default).length = 0 := by rw [show (default : List Int) = [] from rfl, h]; rfl
      omega
    rw [hsl (by omega)]
    refine wq_unfocus (Ε := ?Ee) tv (subt a t k) ?ho ?_
    case ho => exact own_pull
    rw [set_same' hc (by omega)]
    exact wq_next (i + 1, k + sz a t k, ys) ⟨by simp only; omega, by simp only; omega, hy, by rw [hgo]; exact match_old (by omega) (by omega) (by omega) hne hc⟩ (by simp only; omega) (by kernel_rfl) ent_e
  · have hnil : ys.getD (-1 - p.getD i 0).toNat [] = [] := List.eq_nil_of_length_eq_zero (by show (ys.getD (-1 - p.getD i 0).toNat default).length = 0; omega)
    rw [hsl (by omega)]
    refine wq_unfocus (Ε := ?Ee) tv (subt a t k) ?ho ?_
    case ho => exact own_pull
    exact wq_next (i + 1, k + sz a t k, ys.set (-1 - p.getD i 0).toNat (subt a t k)) ⟨by simp only; omega, by simp only; omega, by simpa using hy, by rw [hgo]; exact match_new (by omega) (by omega) (by omega) hnil⟩ (by simp only; omega) (by kernel_rfl) ent_e
  · have hg : matchGo a p t (List.replicate 24 []) = some ys := by rw [hgo]; exact match_end (by omega)
    obtain ⟨hyl, hyb⟩ := match_bound p t _ ys hg (by omega) rep_le
    have e : matchOf a p t = some (plainOf ys) := by rw [hmo, hg]; rfl
    refine redc (fun r2 => ?_) ⟨by omega, hyb⟩
    repeat' (first | refine red ?_ | fail)
    rw [e]
    simp only [Option.getD_some, Option.isSome_some]
    exact ⟨_, rfl, ent_e⟩
instance l4Match_ctr {Γ : List Atom} {va vp vt : Value} {a p t : List Int} [h : HasRd (List Int) repList Γ [va] a] [h1 : HasRd (List Int) repList Γ [vp] p] [h2 : HasRd (List Int) repList Γ [vt] t] :
    CtrC Tryz.prog 105 [.agg #[va], vp, vt] Γ ((termOk a p = true) ∧ (termOk a t = true)) (Value) (fun q : Value => .tuple #[.agg #[q], .bool (matchOf a p t).isSome]) (fun q => .ow [q] ((matchOf a p t).getD []) :: Γ) := ⟨fun s w0 => l4Match_spec s.1 s.2⟩

def instOf (a p t : List Int) : Bool := (matchOf a p t).isSome
def matchedOf (a p t : List Int) : Option (List (List Int)) := if termOk a p = true ∧ termOk a t = true then matchOf a p t else none
def instanceIn (a p t : List Int) : Bool := (matchedOf a p t).isSome
theorem matched_yes {a p t : List Int} (hp : termOk a p = true) (ht : termOk a t = true) : matchedOf a p t = matchOf a p t := if_pos ⟨hp, ht⟩
theorem matched_no1 {a p t : List Int} (hp : termOk a p = false) : matchedOf a p t = none := if_neg (fun h => by rw [hp] at h; exact absurd h.1 (by simp))
theorem matched_no2 {a p t : List Int} (ht : termOk a t = false) : matchedOf a p t = none := if_neg (fun h => by rw [ht] at h; exact absurd h.2 (by simp))

theorem inst_yes {a p t : List Int} (hp : termOk a p = true) (ht : termOk a t = true) : instanceIn a p t = instOf a p t := by unfold instanceIn instOf; rw [matched_yes hp ht]
theorem inst_no1 {a p t : List Int} (hp : termOk a p = false) : instanceIn a p t = false := by unfold instanceIn; rw [matched_no1 hp]; rfl
theorem inst_no2 {a p t : List Int} (ht : termOk a t = false) : instanceIn a p t = false := by unfold instanceIn; rw [matched_no2 ht]; rfl
def moreGeneral (a p t : List Int) : Bool := instanceIn a p t && !instanceIn a t p
theorem matched_bound (a p t : List Int) : ((matchedOf a p t).getD []).length ≤ 24 ∧ ∀ x ∈ (matchedOf a p t).getD [], x.length ≤ 60 := by
  unfold matchedOf
  split
  · rename_i h
    unfold matchOf
    cases hg : matchGo a p t (List.replicate 24 []) with
    | none => simp
    | some ys =>
      obtain ⟨h1, h2⟩ := match_bound p t _ ys hg (termOk_len h.2).2 rep_le
      rw [List.length_replicate] at h1
      simp only [Option.map_some, Option.getD_some]
      refine ⟨by have := plain_len ys; omega, fun x hx => ?_⟩
      rcases plain_mem hx with h | h
      · rw [h]; simp
      · exact h2 x h
  · simp
theorem siz_le {xs : List (List Int)} {m : Nat} (h : ∀ x ∈ xs, x.length ≤ m) : Siz.size xs ≤ xs.length + xs.length * m := by
  rw [siz_list]
  induction xs with
  | nil => simp [sumL]
  | cons x xs ih =>
    have h1 := h x (by simp)
    have h2 := ih (fun y hy => h y (by simp [hy]))
    simp only [sumL, List.length_cons, siz_ints, Nat.add_mul, Nat.one_mul] at h2 ⊢
    omega
/-- The numbers below k that are chosen. -/
def selTo (f : Nat → Bool) : Nat → List Int
  | 0 => []
  | k + 1 => if f k then selTo f k ++ [(k : Int)] else selTo f k
theorem selTo_len (f : Nat → Bool) : ∀ k, (selTo f k).length ≤ k
  | 0 => by simp [selTo]
  | k + 1 => by
    have := selTo_len f k
    simp only [selTo]
    split <;> simp <;> omega
theorem selTo_yes {f : Nat → Bool} {k : Nat} (h : f k = true) : selTo f (k + 1) = selTo f k ++ [(k : Int)] := if_pos h
theorem selTo_no {f : Nat → Bool} {k : Nat} (h : f k = false) : selTo f (k + 1) = selTo f k := if_neg (by rw [h]; simp)

def embedsIn (a p t : List Int) : List Int := if termOk a p = true ∧ termOk a t = true then selTo (fun k => instOf a p (subt a t k)) t.length else []
theorem embeds_yes {a p t : List Int} (hp : termOk a p = true) (ht : termOk a t = true) : embedsIn a p t = selTo (fun k => instOf a p (subt a t k)) t.length := if_pos ⟨hp, ht⟩
theorem embeds_no1 {a p t : List Int} (hp : termOk a p = false) : embedsIn a p t = [] := if_neg (fun h => by rw [hp] at h; exact absurd h.1 (by simp))
theorem embeds_no2 {a p t : List Int} (ht : termOk a t = false) : embedsIn a p t = [] := if_neg (fun h => by rw [ht] at h; exact absurd h.2 (by simp))
theorem embeds_len (a p t : List Int) : (embedsIn a p t).length ≤ 60 := by
  unfold embedsIn
  split
  · rename_i h
    have := selTo_len (fun k => instOf a p (subt a t k)) t.length
    have := termOk_len h.2
    omega
  · simp
/-! lists of terms -/
def allOk (a : List Int) (ps : List (List Int)) : Bool := ps.all (termOk a)
theorem allOk_step {a : List Int} {ps : List (List Int)} {k : Nat} (hk : k < ps.length) (h : (ps.take k).all (termOk a) = true) (hn : termOk a (ps.getD k default) = true) : (ps.take (k + 1)).all (termOk a) = true := by
  rw [List.take_succ_eq_append_getElem hk, List.all_append, h]
  rw [List.getD_eq_getElem?_getD, List.getElem?_eq_getElem hk] at hn
  simpa using hn
theorem allOk_get {a : List Int} {ps : List (List Int)} (h : allOk a ps = true) {k : Nat} (hk : k < ps.length) : termOk a (ps.getD k default) = true := by
  unfold allOk at h
  rw [List.all_eq_true] at h
  exact h _ (mem_getD hk)
theorem allOk_no {a : List Int} {ps : List (List Int)} {k : Nat} (hk : k < ps.length) (hn : termOk a (ps.getD k default) = false) : allOk a ps = false := by
  cases h : allOk a ps with
  | false => rfl
  | true => rw [allOk_get h hk] at hn; cases hn
def matchedAll (a : List Int) (ps : List (List Int)) (t : List Int) : List Int := if termOk a t = true ∧ allOk a ps = true ∧ ps.length ≤ 12 then selTo (fun k => instOf a (ps.getD k default) t) ps.length else []
theorem mall_yes {a : List Int} {ps : List (List Int)} {t : List Int} (h : termOk a t = true) (h' : allOk a ps = true) (h'' : ps.length ≤ 12) : matchedAll a ps t = selTo (fun k => instOf a (ps.getD k default) t) ps.length := if_pos ⟨h, h', h''⟩
theorem mall_no {a : List Int} {ps : List (List Int)} {t : List Int} (h : ¬ (termOk a t = true ∧ allOk a ps = true ∧ ps.length ≤ 12)) : matchedAll a ps t = [] := if_neg h
theorem mall_len (a : List Int) (ps : List (List Int)) (t : List Int) : (matchedAll a ps t).length ≤ 12 := by
  unfold matchedAll
  split
  · rename_i h
    have := selTo_len (fun k => instOf a (ps.getD k default) t) ps.length
    omega
  · simp
end Go.Proofs.YtbbdjjlnachnlaaGreatDoor
