/- A reading laid down once more. -/
import Derived.Test.YtjblieilblcdnaaEngY
import Derived.Test.YtjblieilblcdnaaMee1
import Derived.Test.YtjblieilblcdnaaL06
namespace Go.Proofs.Ytjblieilblcdnaa
open Go Go.Eng
set_option linter.unusedVariables false
theorem cj_dupD {P : Program} {f : FuncId} {vs : List Value} {w0 : World} {Γ : List Atom} {α : Type} {i : Rep α} {cs : List Value} {x : α} {ρ : Type} {r : ρ → Value} {Γ' : ρ → List Atom} [hr : HasIm α i Γ cs x] (h : CJ P f vs w0 (@Atom.rd α i cs x :: Γ) r Γ') : CJ P f vs w0 Γ r Γ' := fun w hs => by
  obtain ⟨hbel, F, hnd, hl, hsep⟩ := hs
  exact h w ⟨hbel, F, hnd, hl, [], F, rfl, ⟨rfl, hr.get hsep⟩, hsep⟩
end Go.Proofs.Ytjblieilblcdnaa
namespace Go.Proofs.Ytjblieilblcdnaa
open Go Go.Eng
set_option linter.unusedVariables false
set_option linter.unusedSimpArgs false
set_option synthInstance.maxHeartbeats 400000
set_option synthInstance.maxSize 1000
set_option maxHeartbeats 4000000
set_option maxRecDepth 20000

theorem l13End_spec {w0 : World} {Γ : List Atom} {v0 v : Value} {a t : List Int} {at_ : Int} {k0 : Nat} [hm : ToN at_ k0] [h0 : HasRd (List Int) repList Γ [v0] a] [h2 : HasRd (List Int) repList Γ [v] t] (hs : WTm a t ∧ 0 ≤ at_ ∧ at_ < t.length) : CJ Try.prog 54 [.agg #[v0], v, .int .i64 at_] w0 Γ (fun _ : Unit => .int .i64 (k0 + szW a t k0 : Nat)) (fun _ => Γ) := by
  refine cj_lift (R := [.rd [v0] a, .rd [v] t]) (A := fun _ => []) (fun w1 => ?_) (reads_cons h0 (reads_cons h2 (inferInstance))) (fun _ => inferInstance)
  simp only [List.cons_append, List.nil_append]
  obtain ⟨hs1, hs2, hs3⟩ := hs
  obtain rfl : at_ = (k0 : Int) := by have := hm.eq; omega
  have hl := hs1.len
  have hql := sqL_len t
  have hta := term_at hs1.ok (k := k0) (by omega)
  have hsz : szW a t k0 = sz a (sqL t) k0 := rfl
  refine cj_enter Try.func54 Try.ntmps54 ?_
  repeat' (first | refine red ?_ | refine redn fun b => ?_ | fail)
  refine wc_loop_c [2, 7] [8, 9, 10, 11, 12, 13, 14, 15, 16, 17, 18, 19, 20, 21, 22, 23, 24, 25, 26, 27, 28] (ι := Nat × Nat) (fun k => [.int .i64 k.1, .int .i64 k.2]) (fun k => k0 ≤ k.1 ∧ k.1 ≤ t.length ∧ k.2 ≤ 3 * k.1 + 1 ∧ (skp a (badS a) ((sqL t).drop k.1) k.2).1 = true ∧ k.1 + (skp a (badS a) ((sqL t).drop k.1) k.2).2 = k0 + sz a (sqL t) k0) (fun k => t.length - k.1 + (if k.2 = 0 then 0 else 1)) (k0, 1) (by kernel_rfl) ⟨Nat.le_refl _, by omega, by omega, hta.1, rfl⟩ ?_
  intro ⟨k, m⟩ u l' hl' ⟨hk0, hk, hm3, h1, h2⟩
  simp only [patch, List.map_cons, List.map_nil, List.set_cons_zero, List.set_cons_succ] at hl'
  subst hl'
  simp only at hk0 hk hm3 h1 h2 ⊢
  cases m with
  | zero =>
    simp only [skp] at h2
    repeat' (first | refine red ?_ | (refine redi (fun hc => ?_) (fun hc => ?_) <;> try first | (exfalso; omega) | with_reducible first | exact absurd rfl hc | exact absurd hc Bool.false_ne_true | exact absurd hc Bool.false_ne_true.symm) | fail)
    exact ⟨(), ret_int (by omega), ent_e⟩
  | succ m =>
    by_cases hlt : k < t.length
    · have hlt' : k < (sqL t).length := by omega
      have hg := termOk_get hs1.ok hlt'
      have hg2 := hs1.get hlt
      have hb := ar_bounds (termOk_sig hs1.ok) hg.2
      have hgk := sqL_get hlt
      rw [drop_get hlt'] at h1 h2
      simp only [skp] at h1 h2
      have hbad : badS a ((sqL t).getD k 0) = false := by unfold badS; exact decide_eq_false (by omega)
      rw [if_neg (by rw [hbad]; simp)] at h1 h2
      simp only at h1 h2
      rw [hgk] at h1 h2 hb
      by_cases hneg : 0 ≤ t.getD k 0
      · rw [sqV_pos hneg] at h1 h2 hb
        have har : ar a (t.getD k 0) = a.getD (t.getD k 0).toNat 0 := by unfold ar; rw [if_neg (by omega)]
        repeat' (first | refine red ?_ | refine redf fun hbi => ?_ | refine reds ?_ | (refine redi (fun hc => ?_) (fun hc => ?_) <;> try first | (exfalso; omega) | with_reducible first | exact absurd rfl hc | exact absurd hc Bool.false_ne_true | exact absurd hc Bool.false_ne_true.symm) | ((refine wa_begin 4 [false, false, false, false, false, false, false, false, false, false, false] [] ?_ <;> refine wa_p 0 ?_ <;> (first | refine wa_p 1 ?_ | fail) <;> (first | refine wa_p 2 ?_ | fail) <;> refine wa_p 3 ?_ <;> refine wa_p 4 ?_ <;> refine wa_p 5 ?_ <;> (first | refine wa_f 6 fun hbi => ?_ | fail) <;> refine wa_p 7 ?_ <;> (first | refine wa_f 8 fun hbi => ?_ | fail) <;> (first | refine wa_p 9 ?_ | fail) <;> refine wa_p 10 ?_) <;> (refine wa_end ?_)) | fail)
        rw [show ((m + 1 : Nat) : Int) + a.getD (t.getD k 0).toNat 0 - 1 = ((m + (ar a (t.getD k 0)).toNat : Nat) : Int) by omega]
        exact wq_next (k + 1, m + (ar a (t.getD k 0)).toNat) ⟨by simp only; omega, by simp only; omega, by simp only; omega, h1, by simp only; omega⟩ (by simp only [Nat.succ_ne_zero, if_false]; split <;> omega) (by kernel_rfl) ent_e
      · have hsn := (sqV_sign (t.getD k 0)).2 (by omega)
        have har : ar a (sqV (t.getD k 0)) = 0 := by unfold ar; rw [if_pos hsn]
        rw [har] at h1 h2
        simp only [Int.toNat_zero, Nat.add_zero] at h1 h2
        repeat' (first | refine red ?_ | refine redf fun hbi => ?_ | refine reds ?_ | (refine redi (fun hc => ?_) (fun hc => ?_) <;> try first | (exfalso; omega) | with_reducible first | exact absurd rfl hc | exact absurd hc Bool.false_ne_true | exact absurd hc Bool.false_ne_true.symm) | fail)
        rw [show ((m + 1 : Nat) : Int) - 1 = (m : Int) by omega]
        exact wq_next (k + 1, m) ⟨by simp only; omega, by simp only; omega, by simp only; omega, h1, by simp only; omega⟩ (by simp only [Nat.succ_ne_zero, if_false]; split <;> omega) (by kernel_rfl) ent_e
    · rw [List.drop_of_length_le (by omega)] at h1
      simp [skp] at h1
instance l13End_ctr {Γ : List Atom} {v0 v : Value} {a t : List Int} {at_ : Int} {k0 : Nat} [hm : ToN at_ k0] [h0 : HasRd (List Int) repList Γ [v0] a] [h2 : HasRd (List Int) repList Γ [v] t] :
    CtrC Try.prog 54 [.agg #[v0], v, .int .i64 at_] Γ (WTm a t ∧ 0 ≤ at_ ∧ at_ < t.length) (Unit) (fun _ : Unit => .int .i64 (k0 + szW a t k0 : Nat)) (fun _ => Γ) := ⟨fun s w0 => l13End_spec s⟩

theorem l13Parts_spec {w0 : World} {Γ : List Atom} {v0 v : Value} {a t : List Int} [h0 : HasRd (List Int) repList Γ [v0] a] [h2 : HasIm (List Int) repList Γ [v] t] (hs : WTm a t ∧ 0 ≤ t.getD 0 0) : CJ Try.prog 81 [.agg #[v0], v] w0 Γ (fun q : Value => q) (fun q => .ow [q] (partsW a t (agN a t)) :: Γ) := by
  obtain ⟨hs1, hs2⟩ := hs
  have hl := hs1.len
  have hql := sqL_len t
  have hg := hs1.get (k := 0) (by omega)
  have hN : agN a (sqL t) = agN a t := by unfold agN; rw [sqL_get (by omega), sqV_pos hs2]
  obtain ⟨hn1, hn2⟩ := agN_le hs1.ok
  rw [hN] at hn1 hn2
  rw [sqL_get (by omega), sqV_pos hs2] at hn1
  have har : ar a (t.getD 0 0) = a.getD (t.getD 0 0).toNat 0 := by unfold ar; rw [if_neg (by omega)]
  refine cj_enter Try.func81 Try.ntmps81 ?_
  repeat' (first | refine red ?_ | refine redf fun hbi => ?_ | refine reds ?_ | refine redv fun sv => ?_ | refine redn fun b => ?_ | (refine redi (fun hc => ?_) (fun hc => ?_) <;> try first | (exfalso; omega) | with_reducible first | exact absurd rfl hc | exact absurd hc Bool.false_ne_true | exact absurd hc Bool.false_ne_true.symm) | fail)
  refine wc_ow0 (α := List Int) (β := Sh (List Int)) sv rfl ?_
  refine wc_loop_p [5, 6, 7] [15, 16, 17, 18, 19, 20, 21, 22, 23, 26, 27, 28, 29, 8, 30, 31, 32, 33, 34, 35, 36, 37, 24, 25] (ι := Nat × Value) (fun k => [k.2, .int .i64 (agP a (sqL t) k.1), .int .i64 k.1]) (fun k => [.ow [k.2] (partsW a t k.1)]) (fun k => k.1 ≤ agN a t) (fun k => agN a t - k.1) (0, sv) [.ow [sv] ([] : List (Sh (List Int)))] (by kernel_rfl) (Nat.zero_le _) rfl ?_
  intro ⟨k, sw⟩ u l' hl' hk
  simp only [patch, List.map_cons, List.map_nil, List.set_cons_zero, List.set_cons_succ] at hl'
  subst hl'
  simp only [List.cons_append, List.nil_append] at hk ⊢
  have hpl := partsW_len a t k
  have hlt := fun h => agP_lt hs1.ok (i := k) h
  have hle := (agP_skp hs1.ok k (by omega)).1
  rw [hN] at hlt
  rw [hql] at hlt hle
  have hsz := fun h => hs1.at (hlt h).1
  have e : (t.take (agP a (sqL t) k + szW a t (agP a (sqL t) k))).drop (agP a (sqL t) k) = subW a t (agP a (sqL t) k) := by
    unfold subW; rw [List.drop_take]; congr 1; omega
  by_cases hkn : k < agN a t
  · have hsz1 := hsz hkn
    have hlt1 := hlt hkn
    repeat' (first | refine red ?_ | refine reds ?_ | (refine redc fun r => ?_; try have hr := Subtype.property r) | refine redv fun sv => ?_ | (refine redi (fun hc => ?_) (fun hc => ?_) <;> try first | (exfalso; omega) | with_reducible first | exact absurd rfl hc | exact absurd hc Bool.false_ne_true | exact absurd hc Bool.false_ne_true.symm) | ((refine wa_begin 6 [false, false, false, false, false, false, false, false, false] [] ?_ <;> refine wa_p 0 ?_ <;> (first | refine wa_p 1 ?_ | fail) <;> (first | refine wa_p 2 ?_ | fail) <;> refine wa_p 3 ?_ <;> refine wa_p 4 ?_ <;> (first | refine wa_f 5 fun hbi => ?_ | fail) <;> refine wa_p 6 ?_ <;> (first | refine wa_f 7 fun hbi => ?_ | fail) <;> refine wa_p 8 ?_) <;> (refine wa_end ?_)) | fail)
    simp only [Int.toNat_natCast, List.map_cons, List.map_nil]
    rw [e, show partsW a t k ++ [Sh.mk (subW a t (agP a (sqL t) k))] = partsW a t (k + 1) from rfl]
    exact wq_next (k + 1, sv) (by simp only; omega) (by simp only; omega) (by kernel_rfl) ent_e
  · repeat' (first | refine red ?_ | (refine redi (fun hc => ?_) (fun hc => ?_) <;> try first | (exfalso; omega) | with_reducible first | exact absurd rfl hc | exact absurd hc Bool.false_ne_true | exact absurd hc Bool.false_ne_true.symm) | ((refine wa_begin 6 [false, false, false, false, false, false, false, false, false] [] ?_ <;> refine wa_p 0 ?_ <;> (first | refine wa_p 1 ?_ | fail) <;> (first | refine wa_p 2 ?_ | fail) <;> refine wa_p 3 ?_ <;> refine wa_p 4 ?_ <;> (first | refine wa_f 5 fun hbi => ?_ | fail) <;> refine wa_p 6 ?_ <;> (first | refine wa_f 7 fun hbi => ?_ | fail) <;> refine wa_p 8 ?_) <;> (refine wa_end ?_)) | fail)
    rw [show agN a t = k by omega]
    exact ⟨_, rfl, ent_e⟩
instance l13Parts_ctr {Γ : List Atom} {v0 v : Value} {a t : List Int} [h0 : HasRd (List Int) repList Γ [v0] a] [h2 : HasIm (List Int) repList Γ [v] t] :
    CtrC Try.prog 81 [.agg #[v0], v] Γ (WTm a t ∧ 0 ≤ t.getD 0 0) (Value) (fun q : Value => q) (fun q => .ow [q] (partsW a t (agN a t)) :: Γ) := ⟨fun s w0 => l13Parts_spec s⟩

theorem awayL_succ {t : List Int} {k : Nat} {n : Int} (h : k < t.length) : awayL (t.take (k + 1)) n = awayL (t.take k) n ++ [if t.getD k 0 < 0 then t.getD k 0 - n else t.getD k 0] := by
  rw [List.take_succ_eq_append_getElem h, List.getD_eq_getElem?_getD, List.getElem?_eq_getElem h]
  unfold awayL
  rw [List.map_append]
  rfl
theorem l11Away_spec {w0 : World} {Γ : List Atom} {v : Value} {t : List Int} [h : HasIm (List Int) repList Γ [v] t] (hs : t.length ≤ 60 ∧ ∀ x ∈ t, -48 ≤ x) : CJ Try.prog 58 [v, .int .i64 24] w0 Γ (fun q : Value => q) (fun q => .ow [q] (awayL t 24) :: Γ) := by
  obtain ⟨hl, hlo⟩ := hs
  refine cj_enter Try.func58 Try.ntmps58 ?_
  repeat' (first | refine red ?_ | refine redv fun sv => ?_ | fail)
  refine wc_loop_p [5, 6] [8, 9, 10, 11, 14, 15, 16, 17, 18, 19, 20, 21, 22, 23, 24, 25, 26, 27, 28, 29, 30, 31, 32, 33, 34, 12, 13] (ι := Value × Nat) (fun k => [k.1, .int .i64 k.2]) (fun k => [.ow [k.1] (awayL (t.take k.2) 24)]) (fun k => k.2 ≤ t.length) (fun k => t.length - k.2) (sv, 0) [.ow [sv] ([] : List Int)] (by kernel_rfl) (Nat.zero_le _) rfl ?_
  intro ⟨sw, k⟩ u l' hl' hk
  simp only [patch, List.map_cons, List.map_nil, List.set_cons_zero, List.set_cons_succ] at hl'
  subst hl'
  simp only [List.cons_append, List.nil_append] at hk ⊢
  have hal : (awayL (t.take k) 24).length ≤ 60 := by rw [awayL_len, List.length_take]; omega
  by_cases hkl : k < t.length
  · have hlk := hlo _ (getD_mem hkl)
    have hs := awayL_succ (n := 24) hkl
    by_cases hneg : t.getD k 0 < 0
    · rw [if_pos hneg] at hs
      repeat' (first | refine red ?_ | refine redf fun hbi => ?_ | refine reds ?_ | refine redv fun sv => ?_ | (refine redi (fun hc => ?_) (fun hc => ?_) <;> try first | (exfalso; omega) | with_reducible first | exact absurd rfl hc | exact absurd hc Bool.false_ne_true | exact absurd hc Bool.false_ne_true.symm) | fail)
      rw [← hs]
      exact wq_next (sv, k + 1) (by simp only; omega) (by simp only; omega) (by kernel_rfl) ent_e
    · rw [if_neg hneg] at hs
      repeat' (first | refine red ?_ | refine redf fun hbi => ?_ | refine reds ?_ | refine redv fun sv => ?_ | (refine redi (fun hc => ?_) (fun hc => ?_) <;> try first | (exfalso; omega) | with_reducible first | exact absurd rfl hc | exact absurd hc Bool.false_ne_true | exact absurd hc Bool.false_ne_true.symm) | fail)
      rw [← hs]
      exact wq_next (sv, k + 1) (by simp only; omega) (by simp only; omega) (by kernel_rfl) ent_e
  · repeat' (first | refine red ?_ | (refine redi (fun hc => ?_) (fun hc => ?_) <;> try first | (exfalso; omega) | with_reducible first | exact absurd rfl hc | exact absurd hc Bool.false_ne_true | exact absurd hc Bool.false_ne_true.symm) | fail)
    rw [List.take_of_length_le (by omega)]
    exact ⟨sw, rfl, ent_e⟩
/-! ### What stands for a variable -/
/-- A term as the meeting goes through it. -/
structure VOk (t : List Int) : Prop where
  len : 1 ≤ t.length ∧ t.length ≤ 60
  lo : ∀ x ∈ t, -48 ≤ x
  one : t.getD 0 0 < 0 → t = [t.getD 0 0]
theorem WTm.v {a t : List Int} (h : WTm a t) : VOk t := ⟨h.len, h.lo, h.var⟩
def bsV (bs : List (Sh (List Int))) : List (List Int) := bs.map Sh.v
theorem bsV_len (bs : List (Sh (List Int))) : (bsV bs).length = bs.length := List.length_map ..
theorem bsV_get (bs : List (Sh (List Int))) (m : Nat) : (bs.getD m default).v = (bsV bs).getD m [] := by
  unfold bsV
  rw [List.getD_eq_getElem?_getD, List.getD_eq_getElem?_getD, List.getElem?_map]
  cases bs[m]? <;> rfl
structure MeB (bs : List (Sh (List Int))) : Prop where
  ex : ∃ E ρ, Ex (bsV bs) E ρ
  ok : ∀ t ∈ bsV bs, t = [] ∨ VOk t
theorem MeB.len {bs : List (Sh (List Int))} (h : MeB bs) : bs.length = 48 := by
  obtain ⟨E, ρ, hE⟩ := h.ex
  rw [← bsV_len]; exact hE.len
theorem MeB.at {bs : List (Sh (List Int))} (h : MeB bs) {x : Int} (hx : -48 ≤ x ∧ x < 0) (h0 : bdW (bsV bs) x ≠ []) : VOk (bdW (bsV bs) x) ∧ bdW (bsV bs) x ∈ bsV bs := by
  have hl := h.len
  have hm : bdW (bsV bs) x ∈ bsV bs := by
    unfold bdW
    rw [List.getD_eq_getElem?_getD, List.getElem?_eq_getElem (by rw [bsV_len]; omega)]
    exact List.getElem_mem _
  exact ⟨(h.ok _ hm).resolve_left h0, hm⟩
/-- What stands for a term at its head. -/
inductive HdOf (bs : List (List Int)) : List Int → List Int → Prop
  | rfl (t : List Int) : HdOf bs t t
  | step (x : Int) (u : List Int) : -48 ≤ x → x < 0 → bdW bs x ≠ [] → HdOf bs (bdW bs x) u → HdOf bs [x] u
theorem HdOf.snoc {bs : List (List Int)} {t : List Int} {x : Int} (h : HdOf bs t [x]) (h1 : -48 ≤ x) (h2 : x < 0) (h3 : bdW bs x ≠ []) : HdOf bs t (bdW bs x) := by
  generalize e : [x] = u at h
  induction h with
  | rfl => subst e; exact .step x _ h1 h2 h3 (.rfl _)
  | step y u a1 a2 a3 _ ih => exact .step y _ a1 a2 a3 (ih e)
structure HdP (bs : List (Sh (List Int))) (t u : List Int) : Prop where
  ok : VOk u
  fr : u.getD 0 0 < 0 → bdW (bsV bs) (u.getD 0 0) = []
  st : ∀ E ρ, Ex (bsV bs) E ρ → u.flatMap E = t.flatMap E
  mem : u = t ∨ u ∈ bsV bs
  hd : HdOf (bsV bs) t u
def hdM (ρ : Int → Nat) (t : List Int) : Nat := if t.getD 0 0 < 0 then ρ (t.getD 0 0) + 1 else 0
theorem VOk.h0 {t : List Int} (h : VOk t) : -48 ≤ t.getD 0 0 := h.lo _ (getD_mem (by have := h.len; omega))
theorem hd_step {bs : List (Sh (List Int))} {t u : List Int} (hB : MeB bs) (ok : VOk u) (st : ∀ E ρ, Ex (bsV bs) E ρ → u.flatMap E = t.flatMap E) (h0 : u.getD 0 0 < 0) (hne : bdW (bsV bs) (u.getD 0 0) ≠ []) :
    VOk (bdW (bsV bs) (u.getD 0 0)) ∧ (∀ E ρ, Ex (bsV bs) E ρ → (bdW (bsV bs) (u.getD 0 0)).flatMap E = t.flatMap E) ∧ bdW (bsV bs) (u.getD 0 0) ∈ bsV bs ∧ ∀ E ρ, Ex (bsV bs) E ρ → hdM ρ (bdW (bsV bs) (u.getD 0 0)) < hdM ρ u := by
  have hlo := ok.h0
  obtain ⟨h1, h2⟩ := hB.at ⟨hlo, h0⟩ hne
  refine ⟨h1, fun E ρ hE => ?_, h2, fun E ρ hE => ?_⟩
  · have e1 := st E ρ hE
    rw [ok.one h0, List.flatMap_cons, List.flatMap_nil, List.append_nil, hE.bo _ hlo h0 hne] at e1
    exact e1
  · unfold hdM
    rw [if_pos h0]
    split
    · have := (hE.rk _ hlo h0 hne _ (getD_mem (t := bdW (bsV bs) (u.getD 0 0)) (k := 0) (by have := h1.len; omega))).2
      omega
    · omega
theorem l11Head_spec {w0 : World} {Γ Δ : List Atom} {bb : Nat} {sv vt : Value} {bs : List (Sh (List Int))} {t : List Int} [hb : HasBk Γ bb [sv]] [h3 : PullOw (List (Sh (List Int))) repList Γ [sv] bs Δ] [hb1 : HasBk Δ bb [sv]] [h2 : HasIm (List Int) repList Δ [vt] t] (hs : MeB bs ∧ VOk t) :
    CJ Try.prog 79 [.pointer (some ⟨bb, 0, none⟩), vt] w0 Γ (fun q : { q : Value × List Int // HdP bs t q.2 } => q.1.1) (fun q => .rd [q.1.1] q.1.2 :: .ow [sv] bs :: Δ) := by
  refine cj_perm h3.perm ?_
  refine cj_dupD (i := repList) (cs := [vt]) (x := t) ?_
  obtain ⟨hB, hT⟩ := hs
  obtain ⟨EE, ρ, hE⟩ := hB.ex
  have hbl := hB.len
  have hget := bsV_get bs
  refine cj_enter Try.func79 Try.ntmps79 ?_
  repeat' (first | refine red ?_ | fail)
  refine wc_loop_p [1] [5, 6, 7, 8, 9, 10, 11, 12, 13, 14, 15, 16, 17, 18, 19, 20, 21, 22, 23, 24, 25, 26, 27, 28, 29, 30, 31, 32] (ι := Value × List Int) (fun k => [k.1]) (fun k => [.rd [k.1] k.2]) (fun k => VOk k.2 ∧ (∀ E ρ, Ex (bsV bs) E ρ → k.2.flatMap E = t.flatMap E) ∧ (k.2 = t ∨ k.2 ∈ bsV bs) ∧ HdOf (bsV bs) t k.2) (fun k => hdM ρ k.2) (vt, t) [.rd [vt] t] (by kernel_rfl) ⟨hT, fun _ _ _ => rfl, .inl rfl, .rfl t⟩ rfl ?_
  intro ⟨vu, x⟩ u l' hl' ⟨hk1, hk2, hk3, hk4⟩
  simp only [patch, List.map_cons, List.map_nil, List.set_cons_zero, List.set_cons_succ] at hl'
  subst hl'
  simp only [List.cons_append, List.nil_append] at hk1 hk2 hk3 hk4 ⊢
  have hx0 := hk1.h0
  have hxl := hk1.len
  have he : (bs.getD (-1 - x.getD 0 0).toNat default).v = bdW (bsV bs) (x.getD 0 0) := hget _
  repeat' (first | refine red ?_ | (refine redi (fun hc => ?_) (fun hc => ?_) <;> try first | (exfalso; omega) | with_reducible first | exact absurd rfl hc | exact absurd hc Bool.false_ne_true | exact absurd hc Bool.false_ne_true.symm) | ((refine wa_begin 1 [false, false, false, false, false, false, false, false, false, false, false, false, false, false, false, false, false, false] [] ?_ <;> refine wa_p 0 ?_ <;> refine wa_p 1 ?_ <;> (first | refine wa_f 2 fun hbi => ?_ | fail) <;> refine wa_p 3 ?_ <;> refine wa_p 4 ?_ <;> (first | (refine wa_if 9 (fun hc => ?_) (fun hc => ?_) <;> (try first | (exfalso; omega) | with_reducible first | exact absurd rfl hc | exact absurd hc Bool.false_ne_true | exact absurd hc Bool.false_ne_true.symm) <;> first | refine wa_pg 5 ?_ | refine wa_no 5 ?_) | fail) <;> (first | refine wa_pg 6 ?_ | refine wa_no 6 ?_ | fail) <;> (first | refine wa_pg 7 ?_ | refine wa_no 7 ?_ | fail) <;> (first | refine wa_pg 8 ?_ | refine wa_no 8 ?_ | fail) <;> (first | refine wa_pg 9 ?_ | refine wa_no 9 ?_ | fail) <;> (first | refine wa_pg 10 ?_ | refine wa_no 10 ?_ | fail) <;> (first | refine wa_pg 11 ?_ | refine wa_no 11 ?_ | fail) <;> (first | refine wa_pg 12 ?_ | refine wa_no 12 ?_ | fail) <;> (first | refine wa_pg 13 ?_ | refine wa_no 13 ?_ | fail) <;> (first | refine wa_no 14 ?_ | (refine wa_do 14 ?_ <;> (repeat' (first | refine red ?_ | refine redv fun sv => ?_ | fail))) | fail) <;> (first | refine wa_no 15 ?_ | (refine wa_do 15 ?_ <;> (repeat' (first | refine red ?_ | fail))) | fail) <;> (first | refine wa_pg 16 ?_ | refine wa_no 16 ?_ | fail) <;> (first | refine wa_p 17 ?_ | fail)) <;> (refine wa_end ?_)) | ((refine wa_begin 2 [false, false, false, false, false, false, false, false, false, false, false] [] ?_ <;> refine wa_p 0 ?_ <;> (first | refine wa_p 1 ?_ | fail) <;> (first | refine wa_p 2 ?_ | fail) <;> (first | refine wa_p 3 ?_ | fail) <;> refine wa_p 4 ?_ <;> refine wa_p 5 ?_ <;> (first | refine wa_f 6 fun hbi => ?_ | fail) <;> (first | refine wa_p 7 ?_ | fail) <;> (first | refine wa_p 8 ?_ | fail) <;> (first | (refine wa_do 9 ?_ <;> (repeat' (first | refine red ?_ | refine redv fun sv => ?_ | fail))) | fail) <;> refine wa_p 10 ?_) <;> (refine wa_end ?_)) | fail)
  · have hne : bdW (bsV bs) (x.getD 0 0) ≠ [] := fun e => by
      have hc2 : (0 : Int) < (bs.getD (-1 - x.getD 0 0).toNat default).v.length := by assumption
      rw [he, e] at hc2; simp at hc2
    obtain ⟨s1, s2, s3, s4⟩ := hd_step hB hk1 hk2 (by omega) hne
    have hsn : HdOf (bsV bs) t (bs.getD (-1 - x.getD 0 0).toNat default).v := by
      rw [he]
      rw [hk1.one (by omega)] at hk4
      exact hk4.snoc hx0 (by omega) hne
    rw [← he] at s1 s2 s3 s4
    exact wq_next (sv, (bs.getD (-1 - x.getD 0 0).toNat default).v) ⟨s1, s2, .inr s3, hsn⟩ (s4 EE ρ hE) (by kernel_rfl) ent_e
  · have hz : bdW (bsV bs) (x.getD 0 0) = [] := by
      rw [← he]
      exact List.length_eq_zero_iff.1 (by omega)
    exact ⟨⟨(vu, x), ⟨hk1, fun _ => hz, hk2, hk3, hk4⟩⟩, rfl, ent_e⟩
  · exact ⟨⟨(vu, x), ⟨hk1, fun h => by simp only at h; omega, hk2, hk3, hk4⟩⟩, rfl, ent_e⟩
instance l11Head_ctr {Γ Δ : List Atom} {bb : Nat} {sv vt : Value} {bs : List (Sh (List Int))} {t : List Int} [hb : HasBk Γ bb [sv]] [h3 : PullOw (List (Sh (List Int))) repList Γ [sv] bs Δ] [hb1 : HasBk Δ bb [sv]] [h2 : HasIm (List Int) repList Δ [vt] t] :
    CtrC Try.prog 79 [.pointer (some ⟨bb, 0, none⟩), vt] Γ (MeB bs ∧ VOk t) ({ q : Value × List Int // HdP bs t q.2 }) (fun q : { q : Value × List Int // HdP bs t q.2 } => q.1.1) (fun q => .rd [q.1.1] q.1.2 :: .ow [sv] bs :: Δ) := ⟨fun s w0 => l11Head_spec s⟩

end Go.Proofs.Ytjblieilblcdnaa
