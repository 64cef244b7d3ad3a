/- Forms of terms, as functions: the reference. -/
import Derived.Test.YtjblieilblcdnaaTraH
namespace Go.Proofs.Ytjblieilblcdnaa
open Go Go.Eng
set_option linter.unusedVariables false
set_option linter.unusedSimpArgs false
set_option synthInstance.maxHeartbeats 400000
set_option synthInstance.maxSize 1000
set_option maxHeartbeats 4000000
set_option maxRecDepth 20000

/-- The sum of two forms, if it is not too great. -/
noncomputable def addF (z y : SPoly) (m : Int) : Option SPoly := if dcP (AddP z y m) = true then some (z.1 + m * y.1, addL z.2 y.2 m y.2.length) else none
theorem addF_t {z y : SPoly} {m : Int} (h : AddP z y m) : addF z y m = some (z.1 + m * y.1, addL z.2 y.2 m y.2.length) := if_pos (dcP_t h)
theorem addF_f {z y : SPoly} {m : Int} (h : ¬ AddP z y m) : addF z y m = none := if_neg (by rw [dcP_f h]; decide)
theorem addF_b {z y o : SPoly} {m : Int} (hz : FormB z) (hy : FormB y) (hm : 0 ≤ m ∧ m ≤ 9) (h : addF z y m = some o) : FormB o := by
  by_cases hp : AddP z y m
  · rw [addF_t hp] at h
    obtain rfl := Option.some.inj h
    have hmy := mul_in hm hy.c
    have hzc := hz.c
    have hp2 := hp.2
    refine ⟨by simp only; omega, by simp only [addL_len]; have := hz.l; have := hy.l; omega, fun i => ?_⟩
    by_cases hi : i < max z.2.length y.2.length
    · have h1 := hp.1 i (by rw [addL_len]; exact hi)
      refine ⟨?_, h1⟩
      show 0 ≤ (addL z.2 y.2 m y.2.length).getD i 0
      rw [addL_get hi]
      have h2 := (hz.g i).1
      have h3 := (mul_in hm (hy.g i)).1
      split <;> omega
    · show 0 ≤ (addL z.2 y.2 m y.2.length).getD i 0 ∧ _
      rw [getD_big (by rw [addL_len]; omega)]
      omega
  · rw [addF_f hp] at h; cases h
/-- A symbol's form, of the forms of its arguments. -/
noncomputable def sumF (F : List Int → Option SPoly) (q : SPoly) (us : List (Sh (List Int))) : Nat → Option SPoly
  | 0 => some (q.1, [])
  | k + 1 => (sumF F q us k).bind fun o => (F (us.getD k default).v).bind fun f => addF o f (q.2.getD k 0)
def unitL (n : Nat) : List Int := (List.replicate n (0 : Int)).set (n - 1) 1
/-- The form of a term, by a form for each symbol. -/
noncomputable def formF (a : List Int) (ps : List SPoly) : Nat → List Int → Option SPoly
  | 0, _ => none
  | n + 1, t => if t.getD 0 0 < 0 then some (0, unitL (-t.getD 0 0).toNat) else sumF (formF a ps n) (ps.getD (t.getD 0 0).toNat default) (partsW a t (agN a t)) (agN a t)
theorem unit_b {n : Nat} (hn : n ≤ 24) : FormB (0, unitL n) := by
  refine ⟨by simp only; omega, by unfold unitL; simpa using hn, fun i => ?_⟩
  show 0 ≤ (unitL n).getD i 0 ∧ (unitL n).getD i 0 ≤ 1000000000000
  unfold unitL
  rw [List.getD_eq_getElem?_getD, List.getElem?_set, List.length_replicate]
  split
  · split
    · decide
    · decide
  · rw [List.getElem?_replicate]
    split
    · decide
    · decide
theorem sumF_b {F : List Int → Option SPoly} {q : SPoly} {n : Int} {us : List (Sh (List Int))} (hq : PolyP q n) (hF : ∀ k o, k < us.length → F (us.getD k default).v = some o → FormB o) : ∀ k, k ≤ us.length → (us.length ≤ q.2.length) → ∀ o, sumF F q us k = some o → FormB o
  | 0, _, _, o, h => by
    obtain rfl := Option.some.inj (show some (q.1, []) = some o from h)
    have := hq.1
    exact ⟨by simp only; omega, by simp, fun i => by simp⟩
  | k + 1, hk, hl, o, h => by
    obtain ⟨o1, h1, h2⟩ := Option.bind_eq_some_iff.1 (show (sumF F q us k).bind _ = some o from h)
    obtain ⟨f, h3, h4⟩ := Option.bind_eq_some_iff.1 h2
    exact addF_b (sumF_b hq hF k (by omega) hl o1 h1) (hF k f (by omega) h3) (hq.2.2 k (by omega)) h4
/-- The arguments are right terms, and shorter. -/
theorem part_ok {a t : List Int} (ht : termOk a t = true) (hd : 0 ≤ t.getD 0 0) {k : Nat} (hk : k < agN a t) : termOk a ((partsW a t (agN a t)).getD k default).v = true ∧ ((partsW a t (agN a t)).getD k default).v.length < t.length := by
  have hlt := termOk_len ht
  have hw := wtm_of ht
  have hpn := partsW_len a t (agN a t)
  have hm := getD_memD (xs := partsW a t (agN a t)) (k := k) (by omega)
  obtain ⟨i, hi, e2⟩ := partsW_mem hm
  rw [e2]
  have hN : agN a (sqL t) = agN a t := by unfold agN; rw [sqL_get (by omega), sqV_pos hd]
  have hlt2 := agP_lt hw.ok (i := i) (by rw [hN]; exact hi)
  rw [sqL_len] at hlt2
  show termOk a (subW a t (agP a (sqL t) i)) = true ∧ (subW a t (agP a (sqL t) i)).length < t.length
  rw [subW_plain ht]
  refine ⟨subt_ok ht hlt2.1, ?_⟩
  unfold subt
  rw [List.length_take, List.length_drop]
  omega
theorem formF_b {a : List Int} {ps : List SPoly} (hp : PolysP a ps) : ∀ n t o, termOk a t = true → formF a ps n t = some o → FormB o
  | 0, t, o, _, h => by cases (show none = some o from h)
  | n + 1, t, o, ht, h => by
    have hg := termOk_get ht (k := 0) (by have := termOk_len ht; omega)
    by_cases h0 : t.getD 0 0 < 0
    · have e : formF a ps (n + 1) t = some (0, unitL (-t.getD 0 0).toNat) := if_pos h0
      rw [e] at h
      obtain rfl := Option.some.inj h
      exact unit_b (by omega)
    · have e : formF a ps (n + 1) t = sumF (formF a ps n) (ps.getD (t.getD 0 0).toNat default) (partsW a t (agN a t)) (agN a t) := if_neg h0
      rw [e] at h
      have hag := agN_le ht
      have hak : ar a (t.getD 0 0) = a.getD (t.getD 0 0).toNat 0 := by unfold ar; rw [if_neg (by omega)]
      have hq := hp.2.2 (t.getD 0 0).toNat (by have := hp.2.1; omega)
      have hpn := partsW_len a t (agN a t)
      have hql := hq.2.1
      exact sumF_b hq (fun k o hk h2 => formF_b hp n _ o (part_ok ht (by omega) (by omega)).1 h2) (agN a t) (by omega) (by omega) o h
/-- A form, or none. -/
abbrev FormT (r : Option SPoly) : Type := { t : SPoly × Bool // t.2 = r.isSome ∧ (t.2 = true → r = some t.1) }
structure FrC (a : List Int) (ps : List SPoly) (n : Nat) (t : List Int) : Prop where
  pp : PolysP a ps
  tm : termOk a t = true
  len : t.length ≤ n
end Go.Proofs.Ytjblieilblcdnaa
namespace Go.Proofs.Ytjblieilblcdnaa
open Go Go.Eng
set_option linter.unusedVariables false
set_option linter.unusedSimpArgs false
set_option synthInstance.maxHeartbeats 400000
set_option synthInstance.maxSize 1000
set_option maxHeartbeats 4000000
set_option maxRecDepth 20000

/-- The parts are right terms, not long. -/
structure SmC (a : List Int) (ps : List SPoly) (n : Nat) (q : SPoly) (us : List (Sh (List Int))) : Prop where
  pp : PolysP a ps
  qp : PolyP q us.length
  ul : us.length ≤ 3
  tm : ∀ k, k < us.length → termOk a (us.getD k default).v = true ∧ (us.getD k default).v.length ≤ n
theorem sumF_none {F : List Int → Option SPoly} {q : SPoly} {us : List (Sh (List Int))} {k : Nat} (h : sumF F q us k = none) : ∀ j, sumF F q us (k + j) = none
  | 0 => h
  | j + 1 => by
    show (sumF F q us (k + j)).bind _ = none
    rw [sumF_none h j]; rfl
theorem l15Sum_step {n : Nat} (ih : ∀ {w0 : World} {Γ : List Atom} {v0 v1 vt : Value} {a t : List Int} {ps : List SPoly} [h0 : HasRd (List Int) repList Γ [v0] a] [h1 : HasIm (List SPoly) repList Γ [v1] ps] [h2 : HasIm (List Int) repList Γ [vt] t] (hs : FrC a ps n t), CJ Try.prog 93 [.agg #[v0], v1, vt] w0 Γ (fun q : Value × FormT (formF a ps n t) => .tuple #[.agg #[.int .i64 q.2.1.1.1, q.1], .bool q.2.1.2]) (fun q => .ow [q.1] q.2.1.1.2 :: Γ)) {w0 : World} {Γ : List Atom} {v0 v1 vq vu : Value} {a : List Int} {ps : List SPoly} {q : SPoly} {us : List (Sh (List Int))} [h0 : HasRd (List Int) repList Γ [v0] a] [h1 : HasRd (List SPoly) repList Γ [v1] ps] [h2 : HasRd (List Int) repList Γ [vq] q.2] [h3 : HasRd (List (Sh (List Int))) repList Γ [vu] us] (hs : SmC a ps n q us) :
    CJ Try.prog 94 [.agg #[v0], v1, .agg #[.int .i64 q.1, vq], vu] w0 Γ (fun p : Value × FormT (sumF (formF a ps n) q us us.length) => .tuple #[.agg #[.int .i64 p.2.1.1.1, p.1], .bool p.2.1.2]) (fun p => .ow [p.1] p.2.1.1.2 :: Γ) := by
  haveI hI : ∀ (Δ : List Atom) (v0 v1 vt : Value) (a t : List Int) (ps : List SPoly) [HasRd (List Int) repList Δ [v0] a] [HasIm (List SPoly) repList Δ [v1] ps] [HasIm (List Int) repList Δ [vt] t], CtrC Try.prog 93 [.agg #[v0], v1, vt] Δ (FrC a ps n t) (Value × FormT (formF a ps n t)) (fun q => .tuple #[.agg #[.int .i64 q.2.1.1.1, q.1], .bool q.2.1.2]) (fun q => .ow [q.1] q.2.1.1.2 :: Δ) := fun Δ v0 v1 vt a t ps _ _ _ => ⟨fun hs _ => ih hs⟩
  refine cj_lift (R := [.rd [v0] a, .rd [v1] ps, .rd [vq] q.2, .rd [vu] us]) (A := fun p : Value × FormT (sumF (formF a ps n) q us us.length) => [.ow [p.1] p.2.1.1.2]) (fun w1 => ?_) (reads_cons h0 (reads_cons h1 (reads_cons h2 (reads_cons h3 inferInstance)))) (fun _ => inferInstance)
  simp only [List.cons_append, List.nil_append]
  obtain ⟨hpp, hqp, hul, htm⟩ := hs
  have hql := hqp.2.1
  have hrl : us.length ≤ us.length := Nat.le_refl _
  refine cj_enter Try.func94 Try.ntmps94 ?_
  repeat' (first | refine red ?_ | refine redn fun b => ?_ | fail)
  refine wc_loop_p [11] [19, 20, 21, 22, 26, 27, 28, 29, 30, 31, 32, 25, 33, 34, 12, 13, 35, 36, 37, 9, 39, 40, 41, 42, 43, 44, 45, 46, 38, 47, 48, 14, 15, 49, 50, 51, 52, 23, 24] (ι := Value × SPoly × Nat) (fun k => [.int .i64 k.2.2]) (fun k => [.bk b [.int .i64 k.2.1.1, k.1], .ow [k.1] k.2.1.2]) (fun k => k.2.2 ≤ us.length ∧ sumF (formF a ps n) q us k.2.2 = some k.2.1) (fun k => us.length - k.2.2) (.slice none 0 0, (q.1, []), 0) [.bk b [.int .i64 q.1, .slice none 0 0], .ow [.slice none 0 0] ([] : List Int)] (by kernel_rfl) ⟨Nat.zero_le _, rfl⟩ rfl ?_
  intro ⟨so, o, k⟩ u l' hl' ⟨hk, hS⟩
  simp only [patch, List.map_cons, List.map_nil, List.set_cons_zero, List.set_cons_succ] at hl'
  subst hl'
  simp only [List.cons_append, List.nil_append] at hk hS ⊢
  have hob := sumF_b hqp (fun j z hj h2 => formF_b hpp n _ z (htm j hj).1 h2) k hk (by omega) o hS
  by_cases hkl : k < us.length
  · have hfc : FrC a ps n (us.getD k default).v := ⟨hpp, (htm k hkl).1, (htm k hkl).2⟩
    have hsk : sumF (formF a ps n) q us (k + 1) = (formF a ps n (us.getD k default).v).bind fun f => addF o f (q.2.getD k 0) := by
      show (sumF (formF a ps n) q us k).bind _ = _
      rw [hS]; rfl
    have hall : sumF (formF a ps n) q us (k + 1) = none → sumF (formF a ps n) q us us.length = none := fun h => by
      have := sumF_none h (us.length - (k + 1))
      rw [show k + 1 + (us.length - (k + 1)) = us.length by omega] at this
      exact this
    repeat' (first | refine red ?_ | (refine redi (fun hc => ?_) (fun hc => ?_) <;> try first | (exfalso; omega) | with_reducible first | exact absurd rfl hc | exact absurd hc Bool.false_ne_true | exact absurd hc Bool.false_ne_true.symm) | ((refine wa_begin 5 [false, false, false, false, false, false, false, false, false, false, false, false, false] [] ?_ <;> refine wa_p 0 ?_ <;> refine wa_p 1 ?_ <;> refine wa_p 2 ?_ <;> refine wa_p 3 ?_ <;> (first | (refine wa_deep 4 fun p cs as_ asb_ hcs has hasb hf => ?_; simp only [Un.cells, Un.atoms, Un.fact, List.cons_append, List.nil_append] at hcs has hasb hf; subst hcs has hasb) | fail) <;> (first | refine wa_p 5 ?_ | fail) <;> (refine wa_two 6 10 ?_ ?_; rotate_right; (focus ((repeat' (first | refine red ?_ | refine redn fun b => ?_ | fail)) <;> (refine wa_do 6 ?_ <;> (repeat' (first | refine red ?_ | (refine redc fun r => ?_; try have hr := Subtype.property r) | fail))) <;> refine wa_p 7 ?_ <;> refine wa_p 8 ?_ <;> refine wa_p 9 ?_ <;> (refine wa_do 11 ?_ <;> (repeat' (first | refine red ?_ | fail))) <;> refine wa_p 12 ?_)); rotate_right; (focus ((repeat' (first | refine red ?_ | (refine redc fun r => ?_; try have hr := Subtype.property r) | fail)) <;> refine wa_p 7 ?_ <;> refine wa_p 8 ?_ <;> refine wa_p 9 ?_ <;> (refine wa_do 10 ?_ <;> (repeat' (first | refine red ?_ | refine redn fun b => ?_ | fail))) <;> (refine wa_do 11 ?_ <;> (repeat' (first | refine red ?_ | fail))) <;> refine wa_p 12 ?_)))) <;> (refine wa_end ?_)) | fail)
    all_goals first
      | (have hno : formF a ps n (us.getD k default).v = none := by
           have h1 := r.2.2.1
           rw [hc] at h1
           exact Option.isNone_iff_eq_none.1 (by rw [← Option.not_isSome, ← h1]; rfl)
         have hz := hall (by rw [hsk, hno]; rfl)
         exact ⟨(.slice none 0 0, ⟨((0, []), false), by rw [hz]; rfl, fun h => nomatch h⟩), rfl, ent_e⟩)
      | skip
    all_goals
      have hrs := r.2.2.2 hc
      have hrb := formF_b hpp n _ _ (htm k hkl).1 hrs
      have hqk := hqp.2.2 k (by omega)
      have hadd : FormB o ∧ FormB r.2.1.1 ∧ 0 ≤ q.2.getD k 0 ∧ q.2.getD k 0 ≤ 9 := ⟨hob, hrb, hqk⟩
      have hsk2 : sumF (formF a ps n) q us (k + 1) = addF o r.2.1.1 (q.2.getD k 0) := hsk.trans (congrArg (fun z => z.bind fun f => addF o f (q.2.getD k 0)) hrs)
      repeat' (first | refine red ?_ | refine reds ?_ | (refine redi (fun hc => ?_) (fun hc => ?_) <;> try first | (exfalso; omega) | with_reducible first | exact absurd rfl hc | exact absurd hc Bool.false_ne_true | exact absurd hc Bool.false_ne_true.symm) | ((refine wa_begin 8 [false, false, false, false, false, false, false, false, false, false, false, false, false, false] [] ?_ <;> (first | refine wa_p 0 ?_ | fail) <;> (first | refine wa_p 1 ?_ | fail) <;> (first | refine wa_p 2 ?_ | fail) <;> (first | refine wa_p 3 ?_ | fail) <;> refine wa_p 4 ?_ <;> refine wa_p 5 ?_ <;> (first | refine wa_f 6 fun hbi => ?_ | fail) <;> (refine wa_two 7 11 ?_ ?_; rotate_right; (focus ((repeat' (first | refine red ?_ | refine redn fun b => ?_ | fail)) <;> (refine wa_do 7 ?_ <;> (repeat' (first | refine red ?_ | (refine redc fun r => ?_; try have hr := Subtype.property r) | fail))) <;> refine wa_p 8 ?_ <;> refine wa_p 9 ?_ <;> refine wa_p 10 ?_ <;> (refine wa_do 12 ?_ <;> (repeat' (first | refine red ?_ | fail))) <;> refine wa_p 13 ?_)); rotate_right; (focus ((repeat' (first | refine red ?_ | (refine redc fun r => ?_; try have hr := Subtype.property r) | fail)) <;> refine wa_p 8 ?_ <;> refine wa_p 9 ?_ <;> refine wa_p 10 ?_ <;> (refine wa_do 11 ?_ <;> (repeat' (first | refine red ?_ | refine redn fun b => ?_ | fail))) <;> (refine wa_do 12 ?_ <;> (repeat' (first | refine red ?_ | fail))) <;> refine wa_p 13 ?_)))) <;> (refine wa_end ?_)) | fail)
      all_goals first
        | (have hnp : ¬ AddP _ _ _ := fun h => by
             have h1 := r.2.2.1
             rw [hc, dcP_t h] at h1
             cases h1
           have hz := hall (hsk2.trans (addF_f hnp))
           exact ⟨(.slice none 0 0, ⟨((0, []), false), by rw [hz]; rfl, fun h => nomatch h⟩), rfl, ent_e⟩)
        | (have hyp := dcP_iff.1 (r.2.2.1.symm.trans hc)
           have he := r.2.2.2 hc
           exact wq_next (r.1, r.2.1.1, k + 1) ⟨by simp only; omega, by rw [hsk2, addF_t hyp, he]⟩ (by simp only; omega) (by kernel_rfl) ent_e)
  · obtain rfl : k = us.length := by omega
    repeat' (first | refine red ?_ | (refine redi (fun hc => ?_) (fun hc => ?_) <;> try first | (exfalso; omega) | with_reducible first | exact absurd rfl hc | exact absurd hc Bool.false_ne_true | exact absurd hc Bool.false_ne_true.symm) | fail)
    exact ⟨(so, ⟨(o, true), by rw [hS]; rfl, fun _ => hS⟩), rfl, ent_e⟩
theorem l15Form_step {n : Nat} (ih : ∀ {w0 : World} {Γ : List Atom} {v0 v1 vt : Value} {a t : List Int} {ps : List SPoly} [h0 : HasRd (List Int) repList Γ [v0] a] [h1 : HasIm (List SPoly) repList Γ [v1] ps] [h2 : HasIm (List Int) repList Γ [vt] t] (hs : FrC a ps n t), CJ Try.prog 93 [.agg #[v0], v1, vt] w0 Γ (fun q : Value × FormT (formF a ps n t) => .tuple #[.agg #[.int .i64 q.2.1.1.1, q.1], .bool q.2.1.2]) (fun q => .ow [q.1] q.2.1.1.2 :: Γ)) {w0 : World} {Γ : List Atom} {v0 v1 vt : Value} {a t : List Int} {ps : List SPoly} [h0 : HasRd (List Int) repList Γ [v0] a] [h1 : HasIm (List SPoly) repList Γ [v1] ps] [h2 : HasIm (List Int) repList Γ [vt] t] (hs : FrC a ps (n + 1) t) :
    CJ Try.prog 93 [.agg #[v0], v1, vt] w0 Γ (fun q : Value × FormT (formF a ps (n + 1) t) => .tuple #[.agg #[.int .i64 q.2.1.1.1, q.1], .bool q.2.1.2]) (fun q => .ow [q.1] q.2.1.1.2 :: Γ) := by
  haveI hI : ∀ (Δ : List Atom) (v0 v1 vq vu : Value) (a : List Int) (ps : List SPoly) (q : SPoly) (us : List (Sh (List Int))) [HasRd (List Int) repList Δ [v0] a] [HasRd (List SPoly) repList Δ [v1] ps] [HasRd (List Int) repList Δ [vq] q.2] [HasRd (List (Sh (List Int))) repList Δ [vu] us], CtrC Try.prog 94 [.agg #[v0], v1, .agg #[.int .i64 q.1, vq], vu] Δ (SmC a ps n q us) (Value × FormT (sumF (formF a ps n) q us us.length)) (fun p => .tuple #[.agg #[.int .i64 p.2.1.1.1, p.1], .bool p.2.1.2]) (fun p => .ow [p.1] p.2.1.1.2 :: Δ) := fun Δ v0 v1 vq vu a ps q us _ _ _ _ => ⟨fun hs _ => l15Sum_step ih hs⟩
  obtain ⟨hpp, htm, hln⟩ := hs
  have hl := termOk_len htm
  have hg := termOk_get htm (k := 0) (by omega)
  have hw := wtm_of htm
  have hpl := hpp.2.1
  by_cases hneg : t.getD 0 0 < 0
  · refine cj_enter Try.func93 Try.ntmps93 ?_
    repeat' (first | refine red ?_ | refine redf fun hbi => ?_ | refine reds ?_ | refine redv fun sv => ?_ | refine redn fun b => ?_ | (refine redi (fun hc => ?_) (fun hc => ?_) <;> try first | (exfalso; omega) | with_reducible first | exact absurd rfl hc | exact absurd hc Bool.false_ne_true | exact absurd hc Bool.false_ne_true.symm) | ((refine wa_begin 3 [false, false, false, false, false, false, false, false] [7] ?_ <;> (first | refine wa_p 0 ?_ | fail) <;> (first | refine wa_p 1 ?_ | fail) <;> refine wa_p 2 ?_ <;> refine wa_p 3 ?_ <;> (first | refine wa_f 4 fun hbi => ?_ | fail) <;> (first | refine wa_p 5 ?_ | fail) <;> refine wa_p 6 ?_ <;> (refine wa_do 7 ?_ <;> (repeat' (first | refine red ?_ | refine reds ?_ | fail)))) <;> (refine wa_end ?_)) | fail)
    have e : formF a ps (n + 1) t = some (0, unitL (-t.getD 0 0).toNat) := if_pos hneg
    have e2 : (List.replicate (-t.getD 0 0).toNat (0 : Int)).set (-1 - t.getD 0 0).toNat 1 = unitL (-t.getD 0 0).toNat := by
      unfold unitL
      congr 1
      omega
    rw [e2, e]
    exact ⟨(sv, ⟨((0, unitL (-t.getD 0 0).toNat), true), rfl, fun _ => rfl⟩), rfl, ent_e⟩
  · have hwt : WTm a t ∧ 0 ≤ t.getD 0 0 := ⟨hw, by omega⟩
    have hag := agN_le htm
    have hak : ar a (t.getD 0 0) = a.getD (t.getD 0 0).toNat 0 := by unfold ar; rw [if_neg (by omega)]
    have hq := hpp.2.2 (t.getD 0 0).toNat (by omega)
    have hpn := partsW_len a t (agN a t)
    have hsm : SmC a ps n (ps.getD (t.getD 0 0).toNat default) (partsW a t (agN a t)) := ⟨hpp, by rw [hpn, ← hag.1, hak]; exact hq, by omega, fun k hk => by
      have h := part_ok htm (by omega) (k := k) (by omega)
      exact ⟨h.1, by omega⟩⟩
    have e : formF a ps (n + 1) t = sumF (formF a ps n) (ps.getD (t.getD 0 0).toNat default) (partsW a t (agN a t)) (partsW a t (agN a t)).length := by
      rw [hpn]; exact if_neg hneg
    refine cj_enter Try.func93 Try.ntmps93 ?_
    repeat' (first | refine red ?_ | refine redf fun hbi => ?_ | refine reds ?_ | refine redn fun b => ?_ | (refine redi (fun hc => ?_) (fun hc => ?_) <;> try first | (exfalso; omega) | with_reducible first | exact absurd rfl hc | exact absurd hc Bool.false_ne_true | exact absurd hc Bool.false_ne_true.symm) | ((refine wa_begin 5 [false, false, false, false, false, false, false, false, false, false, false, false, false, false, false, false] [14] ?_ <;> refine wa_p 0 ?_ <;> refine wa_p 1 ?_ <;> refine wa_p 2 ?_ <;> refine wa_p 3 ?_ <;> refine wa_p 4 ?_ <;> (first | refine wa_f 5 fun hbi => ?_ | fail) <;> (first | (refine wa_deep 6 fun p cs as_ asb_ hcs has hasb hf => ?_; simp only [Un.cells, Un.atoms, Un.fact, List.cons_append, List.nil_append] at hcs has hasb hf; subst hcs has hasb) | fail) <;> (first | refine wa_p 7 ?_ | fail) <;> refine wa_p 8 ?_ <;> refine wa_p 9 ?_ <;> (refine wa_do 10 ?_ <;> (repeat' (first | refine red ?_ | (refine redc fun r => ?_; try have hr := Subtype.property r) | fail))) <;> (refine wa_do 11 ?_ <;> (repeat' (first | refine red ?_ | (refine redc fun r => ?_; try have hr := Subtype.property r) | fail))) <;> refine wa_p 12 ?_ <;> refine wa_p 13 ?_ <;> (refine wa_do 14 ?_ <;> (repeat' (first | refine red ?_ | fail))) <;> refine wa_p0 15 ?_) <;> (refine wa_end ?_)) | fail)
    rw [e]
    exact ⟨r, rfl, ent_e⟩
theorem l15Form_all : ∀ (n : Nat) {w0 : World} {Γ : List Atom} {v0 v1 vt : Value} {a t : List Int} {ps : List SPoly} [h0 : HasRd (List Int) repList Γ [v0] a] [h1 : HasIm (List SPoly) repList Γ [v1] ps] [h2 : HasIm (List Int) repList Γ [vt] t] (hs : FrC a ps n t), CJ Try.prog 93 [.agg #[v0], v1, vt] w0 Γ (fun q : Value × FormT (formF a ps n t) => .tuple #[.agg #[.int .i64 q.2.1.1.1, q.1], .bool q.2.1.2]) (fun q => .ow [q.1] q.2.1.1.2 :: Γ)
  | 0, _, _, _, _, _, _, _, _, _, _, _, hs => by
    have h1 := termOk_len hs.tm
    have h2 := hs.len
    omega
  | n + 1, _, _, _, _, _, _, _, _, _, _, _, hs => l15Form_step (l15Form_all n) hs
/-- The form of a term. -/
noncomputable def frmO (a : List Int) (ps : List SPoly) (t : List Int) : Option SPoly := formF a ps 60 t
noncomputable def sumO (a : List Int) (ps : List SPoly) (q : SPoly) (us : List (Sh (List Int))) : Option SPoly := sumF (formF a ps 60) q us us.length
theorem l15Form_spec {w0 : World} {Γ : List Atom} {v0 v1 vt : Value} {a t : List Int} {ps : List SPoly} [h0 : HasRd (List Int) repList Γ [v0] a] [h1 : HasIm (List SPoly) repList Γ [v1] ps] [h2 : HasIm (List Int) repList Γ [vt] t] (hs : FrC a ps 60 t) :
    CJ Try.prog 93 [.agg #[v0], v1, vt] w0 Γ (fun q : Value × FormT (frmO a ps t) => .tuple #[.agg #[.int .i64 q.2.1.1.1, q.1], .bool q.2.1.2]) (fun q => .ow [q.1] q.2.1.1.2 :: Γ) := by
  exact l15Form_all 60 hs
instance l15Form_ctr {Γ : List Atom} {v0 v1 vt : Value} {a t : List Int} {ps : List SPoly} [h0 : HasRd (List Int) repList Γ [v0] a] [h1 : HasIm (List SPoly) repList Γ [v1] ps] [h2 : HasIm (List Int) repList Γ [vt] t] :
    CtrC Try.prog 93 [.agg #[v0], v1, vt] Γ (FrC a ps 60 t) (Value × FormT (frmO a ps t)) (fun q : Value × FormT (frmO a ps t) => .tuple #[.agg #[.int .i64 q.2.1.1.1, q.1], .bool q.2.1.2]) (fun q => .ow [q.1] q.2.1.1.2 :: Γ) := ⟨fun s w0 => l15Form_spec s⟩

theorem l15Sum_spec {w0 : World} {Γ : List Atom} {v0 v1 vq vu : Value} {a : List Int} {ps : List SPoly} {q : SPoly} {us : List (Sh (List Int))} [h0 : HasRd (List Int) repList Γ [v0] a] [h1 : HasRd (List SPoly) repList Γ [v1] ps] [h2 : HasRd (List Int) repList Γ [vq] q.2] [h3 : HasRd (List (Sh (List Int))) repList Γ [vu] us] (hs : SmC a ps 60 q us) :
    CJ Try.prog 94 [.agg #[v0], v1, .agg #[.int .i64 q.1, vq], vu] w0 Γ (fun p : Value × FormT (sumO a ps q us) => .tuple #[.agg #[.int .i64 p.2.1.1.1, p.1], .bool p.2.1.2]) (fun p => .ow [p.1] p.2.1.1.2 :: Γ) := by
  exact l15Sum_step (l15Form_all 60) hs
instance l15Sum_ctr {Γ : List Atom} {v0 v1 vq vu : Value} {a : List Int} {ps : List SPoly} {q : SPoly} {us : List (Sh (List Int))} [h0 : HasRd (List Int) repList Γ [v0] a] [h1 : HasRd (List SPoly) repList Γ [v1] ps] [h2 : HasRd (List Int) repList Γ [vq] q.2] [h3 : HasRd (List (Sh (List Int))) repList Γ [vu] us] :
    CtrC Try.prog 94 [.agg #[v0], v1, .agg #[.int .i64 q.1, vq], vu] Γ (SmC a ps 60 q us) (Value × FormT (sumO a ps q us)) (fun p : Value × FormT (sumO a ps q us) => .tuple #[.agg #[.int .i64 p.2.1.1.1, p.1], .bool p.2.1.2]) (fun p => .ow [p.1] p.2.1.1.2 :: Γ) := ⟨fun s w0 => l15Sum_spec s⟩

end Go.Proofs.Ytjblieilblcdnaa
