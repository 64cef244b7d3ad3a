/- Two terms are made the same, as far as that can be: the reference. -/
import Derived.Test.YtjblieilblcdnaaMee4
namespace Go.Proofs.Ytjblieilblcdnaa
open Go Go.Eng
set_option linter.unusedVariables false
set_option linter.unusedSimpArgs false
set_option synthInstance.maxHeartbeats 400000
set_option synthInstance.maxSize 1000
set_option maxHeartbeats 4000000
set_option maxRecDepth 20000

attribute [local instance 350] shBuild
/-! ### Plain -/
theorem agW_end {a u : List Int} (hu : WTm a u) (h0 : 0 ≤ u.getD 0 0) : agP a (sqL u) (agN a u) = u.length := by
  have hl := hu.len
  have hN : agN a (sqL u) = agN a u := by unfold agN; rw [sqL_get (by omega), sqV_pos h0]
  have h1 := agP_skp hu.ok (agN a (sqL u)) (Nat.le_refl _)
  rw [Nat.sub_self, hN, sqL_len] at h1
  have h2 := congrArg Prod.snd h1.2
  simp only [skp] at h2
  omega
theorem takeW {a u : List Int} (hu : WTm a u) (h0 : 0 ≤ u.getD 0 0) : ∀ i, i ≤ agN a u → u.take (agP a (sqL u) i) = u.getD 0 0 :: ((partsW a u i).map Sh.v).flatten
  | 0, _ => by
    have := hu.len
    cases u with
    | nil => simp at this
    | cons x xs => rfl
  | i + 1, hi => by
    have ih := takeW hu h0 i (by omega)
    have e : agP a (sqL u) (i + 1) = agP a (sqL u) i + szW a u (agP a (sqL u) i) := rfl
    rw [e, List.take_add, ih]
    show _ = u.getD 0 0 :: ((partsW a u i ++ [(⟨subW a u (agP a (sqL u) i)⟩ : Sh (List Int))]).map Sh.v).flatten
    rw [List.map_append, List.flatten_append]
    simp [subW]
theorem partsW_all {a u : List Int} (hu : WTm a u) (h0 : 0 ≤ u.getD 0 0) : u = u.getD 0 0 :: ((partsW a u (agN a u)).map Sh.v).flatten := by
  have h1 := takeW hu h0 (agN a u) (Nat.le_refl _)
  rw [agW_end hu h0, List.take_length] at h1
  exact h1
theorem pdS_flat (E : Int → List Int) : ∀ ts : List (List Int), (ts.flatten.flatMap E).length = pdS E ts
  | [] => rfl
  | t :: ts => by
    have ih := pdS_flat E ts
    have e : pdS E (t :: ts) = (t.flatMap E).length + pdS E ts := by unfold pdS; simp
    rw [List.flatten_cons, List.flatMap_append, List.length_append, ih, e]
theorem partsW_pd {a u : List Int} {bs : List (List Int)} {E : Int → List Int} {ρ : Int → Nat} (hE : Ex bs E ρ) (hu : WTm a u) (h0 : 0 ≤ u.getD 0 0) : pdS E (bsV (partsW a u (agN a u))) + 1 = (u.flatMap E).length := by
  conv => rhs; rw [partsW_all hu h0]
  rw [List.flatMap_cons, hE.sym _ h0, List.length_append, pdS_flat]
  show pdS E ((partsW a u (agN a u)).map Sh.v) + 1 = _
  rw [List.length_singleton]; omega
theorem partsW_wtm {a u : List Int} (hu : WTm a u) (h0 : 0 ≤ u.getD 0 0) : ∀ y ∈ partsW a u (agN a u), WTm a y.v := fun y hy => by
  obtain ⟨i, hi, rfl⟩ := partsW_mem hy
  exact hu.sub (agW_lt hu h0 hi)
theorem agN_3 {a u : List Int} (hu : WTm a u) (h0 : 0 ≤ u.getD 0 0) : agN a u ≤ 3 := by
  have hl := hu.len
  have hN : agN a (sqL u) = agN a u := by unfold agN; rw [sqL_get (by omega), sqV_pos h0]
  have := (agN_le hu.ok).2
  omega
structure BsW (a : List Int) (bs : List (Sh (List Int))) (E : Int → List Int) (ρ : Int → Nat) : Prop where
  ex : Ex (bsV bs) E ρ
  wt : ∀ t ∈ bsV bs, t = [] ∨ WTm a t
theorem BsW.mb {a : List Int} {bs : List (Sh (List Int))} {E : Int → List Int} {ρ : Int → Nat} (h : BsW a bs E ρ) : MeB bs := ⟨⟨E, ρ, h.ex⟩, fun t ht => (h.wt t ht).imp id fun h => h.v⟩
theorem BsW.hd {a : List Int} {bs : List (Sh (List Int))} {E : Int → List Int} {ρ : Int → Nat} (h : BsW a bs E ρ) {t u : List Int} (ht : WTm a t) (hp : HdP bs t u) : WTm a u := by
  rcases hp.mem with e | e
  · rw [e]; exact ht
  · exact (h.wt u e).resolve_left fun e => by
      have := hp.ok.len
      rw [e] at this; simp at this
theorem bsV_set (bs : List (Sh (List Int))) (k : Nat) (v : List Int) : bsV (bs.set k ⟨v⟩) = (bsV bs).set k v := by
  unfold bsV; rw [List.map_set]
theorem BsW.bind {a : List Int} {bs : List (Sh (List Int))} {E : Int → List Int} {ρ : Int → Nat} (h : BsW a bs E ρ) {x : Int} {v : List Int} (hx : -48 ≤ x ∧ x < 0) (h0 : bdW (bsV bs) x = []) (hv : WTm a v) (hn : x ∉ v.flatMap E) :
    BsW a (bs.set (-1 - x).toNat ⟨v⟩) (exB E x (v.flatMap E)) (exR E ρ x (v.map ρ).sum) := by
  refine ⟨?_, fun t ht => ?_⟩
  · rw [bsV_set]
    exact ex_bind h.ex hx h0 hv.ne hv.lo hn
  · rw [bsV_set] at ht
    rcases List.mem_or_eq_of_mem_set ht with h1 | h1
    · exact h.wt t h1
    · rw [h1]; exact .inr hv
theorem bind_keep {bs : List (List Int)} {x : Int} {v : List Int} (hl : bs.length = 48) (hx : -48 ≤ x ∧ x < 0) (h0 : bdW bs x = []) : ∀ z, -48 ≤ z → z < 0 → bdW bs z ≠ [] → bdW (bs.set (-1 - x).toNat v) z = bdW bs z := fun z h1 h2 h3 => by
  rw [bdW_set hl hx ⟨h1, h2⟩, if_neg fun e => h3 (by rw [e]; exact h0)]
/-- A turn that binds makes the measure less. -/
theorem ms_bind {a : List Int} {bs : List (Sh (List Int))} {E : Int → List Int} {ρ : Int → Nat} (h : BsW a bs E ρ) {x : Int} {v : List Int} (hx : -48 ≤ x ∧ x < 0) (h0 : bdW (bsV bs) x = []) (hv : WTm a v) {ts : List (List Int)} {s : Nat} (h1 : pdS E ts ≤ s) (h2 : (v.flatMap E).length ≤ s) :
    msF (ubW (bsV (bs.set (-1 - x).toNat ⟨v⟩))) (pdS (exB E x (v.flatMap E)) ts) < msF (ubW (bsV bs)) s := by
  have hl := h.ex.len
  have hub := ubW_set (bs := bsV bs) (k := (-1 - x).toNat) (v := v) (by omega) h0 hv.ne
  rw [bsV_set, ← hub]
  refine msF_bind ?_
  have h3 := pdS_bind (E := E) (x := x) (b := v.flatMap E) (ex_flat_pos h.ex hv.ne hv.lo) ts
  exact Nat.le_trans h3 (Nat.mul_le_mul h1 h2)
theorem bsV_app (a b : List (Sh (List Int))) : bsV (a ++ b) = bsV a ++ bsV b := by unfold bsV; rw [List.map_append]
structure MtC (a : List Int) (bs : List (Sh (List Int))) (s t : List Int) : Prop where
  bd : ∃ E ρ, BsW a bs E ρ
  s : WTm a s
  t : WTm a t
abbrev MtT (a : List Int) : Type := { q : Bool × List (Sh (List Int)) // ∃ E ρ, BsW a q.2 E ρ }
/-- What waits on both sides. -/
structure MtI (a : List Int) (ls rs bs : List (Sh (List Int))) (E : Int → List Int) (ρ : Int → Nat) (lvs : List Lvl) : Prop where
  b : BsW a bs E ρ
  ln : ls.length = rs.length
  l : ∀ y ∈ ls, WTm a y.v
  r : ∀ y ∈ rs, WTm a y.v
  lv : LvI a (bsV bs) lvs
  fl : lvF lvs = ls
theorem last_sh {ls : List (Sh (List Int))} {n : Nat} (h : ls.length = n + 1) : ls = ls.take n ++ [ls.getD n default] := by
  have h1 := List.take_append_drop n ls
  have h2 : ls.drop n = [ls.getD n default] := by
    rw [List.drop_eq_getElem_cons (by omega), List.drop_of_length_le (by omega), List.getD_eq_getElem?_getD, List.getElem?_eq_getElem (by omega)]; rfl
  rw [h2] at h1
  exact h1.symm
theorem pd_last {E : Int → List Int} {ls : List (Sh (List Int))} {n : Nat} (h : ls.length = n + 1) : pdS E (bsV ls) = pdS E (bsV (ls.take n)) + ((ls.getD n default).v.flatMap E).length := by
  conv => lhs; rw [last_sh h]
  rw [bsV_app, pdS_append]
  show _ + pdS E [(ls.getD n default).v] = _
  rw [pdS_one]
theorem l11Meet_spec {w0 : World} {Γ Δ : List Atom} {bb : Nat} {so va vs vt : Value} {bs : List (Sh (List Int))} {a s t : List Int} [hb : HasBk Γ bb [so]] [h3 : PullOw (List (Sh (List Int))) repList Γ [so] bs Δ] [hb1 : HasBk Δ bb [so]] [h0 : HasIm (List Int) repList Δ [va] a] [h1 : HasIm (List Int) repList Δ [vs] s] [h2 : HasIm (List Int) repList Δ [vt] t] (hs : MtC a bs s t) :
    CJ Try.prog 57 [.agg #[va], .pointer (some ⟨bb, 0, none⟩), vs, vt] w0 Γ (fun q : MtT a => .bool q.1.1) (fun q => .ow [so] q.1.2 :: Δ) := by
  refine cj_perm h3.perm ?_
  refine cj_dupD (i := repList) (cs := [vt]) (x := t) ?_
  refine cj_dupD (i := repList) (cs := [vs]) (x := s) ?_
  refine cj_dupD (i := repList) (cs := [va]) (x := a) ?_
  obtain ⟨⟨E0, ρ0, hB0⟩, hS, hT⟩ := hs
  refine cj_enter Try.func57 Try.ntmps57 ?_
  repeat' (first | refine red ?_ | refine redv fun sv => ?_ | refine redn fun b => ?_ | fail)
  rename_i vl
  refine wc_loop_p [9, 10] [17, 18, 19, 20, 21, 22, 23, 24, 25, 26, 27, 11, 28, 29, 30, 31, 32, 33, 34, 35, 12, 36, 37, 38, 39, 40, 41, 42, 43, 44, 45, 57, 58, 59, 60, 61, 62, 63, 64, 65, 66, 67, 68, 69, 56, 71, 72, 73, 74, 70, 75, 76, 77, 78, 79, 80, 8, 81, 82, 83, 84, 85, 86, 87, 88, 89, 90, 92, 93, 94, 95, 91, 96, 97, 98, 99, 100, 101, 102, 103, 104, 105, 106, 107, 108, 109, 110, 111, 113, 114, 115, 116, 117, 118, 119, 112, 46, 47, 48, 49, 50, 51, 52, 53, 54, 55] (ι := (Value × List (Sh (List Int))) × (Value × List (Sh (List Int))) × List (Sh (List Int)) × (Int → List Int) × (Int → Nat) × List Lvl) (fun k => [k.1.1, k.2.1.1]) (fun k => [.ow [k.1.1] k.1.2, .ow [k.2.1.1] k.2.1.2, .ow [so] k.2.2.1]) (fun k => MtI a k.1.2 k.2.1.2 k.2.2.1 k.2.2.2.1 k.2.2.2.2.1 k.2.2.2.2.2) (fun k => msF (ubW (bsV k.2.2.1)) (pdS k.2.2.2.1 (bsV k.1.2 ++ bsV k.2.1.2))) ((vl, [Sh.mk s]), (sv, [Sh.mk t]), bs, E0, ρ0, [([], [Sh.mk s])]) [.ow [vl] [Sh.mk s], .ow [sv] [Sh.mk t], .ow [so] bs] (by kernel_rfl) ⟨hB0, rfl, fun y hy => by rw [List.mem_singleton] at hy; rw [hy]; exact hS, fun y hy => by rw [List.mem_singleton] at hy; rw [hy]; exact hT, .base _ (by simp), rfl⟩ rfl ?_
  intro ⟨⟨wl, ls⟩, ⟨wr, rs⟩, b, EE, ρ, lv⟩ u l' hl' hI
  simp only [patch, List.map_cons, List.map_nil, List.set_cons_zero, List.set_cons_succ] at hl'
  subst hl'
  simp only [List.cons_append, List.nil_append] at hI ⊢
  have hB := hI.b
  have hbl := hB.ex.len
  rw [bsV_len] at hbl
  have hln := hI.ln
  by_cases hz : ls.length = 0
  · repeat' (first | refine red ?_ | (refine redi (fun hc => ?_) (fun hc => ?_) <;> try first | (exfalso; omega) | with_reducible first | exact absurd rfl hc | exact absurd hc Bool.false_ne_true | exact absurd hc Bool.false_ne_true.symm) | fail)
    exact ⟨⟨(true, b), ⟨EE, ρ, hB⟩⟩, rfl, ent_e⟩
  · obtain ⟨n, hn⟩ : ∃ n, ls.length = n + 1 := ⟨ls.length - 1, by omega⟩
    have hrn : rs.length = n + 1 := by omega
    haveI : ToN ((ls.length : Int) - 1) n := ⟨by omega⟩
    haveI : ToN ((rs.length : Int) - 1) n := ⟨by omega⟩
    have htl : (ls.take n).length = n := by rw [List.length_take]; omega
    have htr : (rs.take n).length = n := by rw [List.length_take]; omega
    have hlm : (ls.getD n default) ∈ ls := by rw [List.getD_eq_getElem?_getD, List.getElem?_eq_getElem (by omega)]; exact List.getElem_mem _
    have hrm : (rs.getD n default) ∈ rs := by rw [List.getD_eq_getElem?_getD, List.getElem?_eq_getElem (by omega)]; exact List.getElem_mem _
    have hlw := hI.l _ hlm
    have hrw := hI.r _ hrm
    have hpl := pd_last (E := EE) hn
    have hpr := pd_last (E := EE) hrn
    have hll : ls.length ≤ 8970 := by rw [← hI.fl]; exact lvF_le hB.ex hI.lv
    obtain ⟨p, rr, rest, hlv1, hlv2, hlv3⟩ := lv_pop hI.lv (hI.fl.trans (last_sh hn))
    have hMl : MeB b ∧ VOk (ls.getD n default).v := ⟨hB.mb, hlw.v⟩
    have hMr : MeB b ∧ VOk (rs.getD n default).v := ⟨hB.mb, hrw.v⟩
    repeat' (first | refine red ?_ | refine reds ?_ | (refine redc fun r => ?_; try have hr := Subtype.property r) | refine redv fun sv => ?_ | (refine redi (fun hc => ?_) (fun hc => ?_) <;> try first | (exfalso; omega) | with_reducible first | exact absurd rfl hc | exact absurd hc Bool.false_ne_true | exact absurd hc Bool.false_ne_true.symm) | fail)
    rename_i svl
    rename { q : Value × List Int // HdP b (ls.getD n default).v q.2 } => ru
    rename { q : Value × List Int // HdP b (rs.getD n default).v q.2 } => rv
    obtain ⟨⟨pu, y⟩, hu⟩ := ru
    obtain ⟨⟨pv, z⟩, hv⟩ := rv
    simp only at hu hv ⊢
    clear hr
    have hyw := hB.hd hlw hu
    have hzw := hB.hd hrw hv
    have hyl := hyw.len
    have hzl := hzw.len
    have hy0 := hyw.get (k := 0) (by omega)
    have hz0 := hzw.get (k := 0) (by omega)
    have hnl : ∀ q ∈ ls.take n, WTm a q.v := fun q hq => hI.l q (List.mem_of_mem_take hq)
    have hnr : ∀ q ∈ rs.take n, WTm a q.v := fun q hq => hI.r q (List.mem_of_mem_take hq)
    have hey := hu.st EE ρ hB.ex
    have hez := hv.st EE ρ hB.ex
    have hly := ex_flat_pos hB.ex hyw.ne hyw.lo
    have hlz := ex_flat_pos hB.ex hzw.ne hzw.lo
    rw [← hey] at hpl
    rw [← hez] at hpr
    have hpd : pdS EE (bsV ls ++ bsV rs) = pdS EE (bsV (ls.take n) ++ bsV (rs.take n)) + (y.flatMap EE).length + (z.flatMap EE).length := by
      rw [pdS_append, pdS_append]; omega
    by_cases hyv : y.getD 0 0 < 0
    · have hfy := hu.fr hyv
      by_cases hyz : y.getD 0 0 = z.getD 0 0
      · repeat' (first | refine red ?_ | with_reducible refine wq_blk_o rfl ?_ | (refine redi (fun hc => ?_) (fun hc => ?_) <;> try first | (exfalso; omega) | with_reducible first | exact absurd rfl hc | exact absurd hc Bool.false_ne_true | exact absurd hc Bool.false_ne_true.symm) | ((refine wa_begin 10 [false, false, false, false, false, false, false, false, false, false, false, false, false, false] [] ?_ <;> refine wa_p 0 ?_ <;> refine wa_p 1 ?_ <;> (first | refine wa_f 2 fun hbi => ?_ | fail) <;> refine wa_p 3 ?_ <;> refine wa_p 4 ?_ <;> (first | refine wa_f 5 fun hbi => ?_ | fail) <;> (first | refine wa_p 6 ?_ | fail) <;> refine wa_p 7 ?_ <;> (first | (refine wa_if 64 (fun hc => ?_) (fun hc => ?_) <;> (try first | (exfalso; omega) | with_reducible first | exact absurd rfl hc | exact absurd hc Bool.false_ne_true | exact absurd hc Bool.false_ne_true.symm) <;> first | refine wa_pg 8 ?_ | refine wa_no 8 ?_) | fail) <;> (first | refine wa_pg 9 ?_ | fail) <;> (first | refine wa_pg 10 ?_ | fail) <;> (first | refine wa_pg 11 ?_ | fail) <;> (first | refine wa_p 12 ?_ | fail) <;> refine wa_p 13 ?_) <;> (refine wa_end ?_)) | fail)
        exact wq_next ((svl, ls.take n), (sv, rs.take n), b, EE, ρ, (p, rr) :: rest) ⟨hB, by simp only; omega, hnl, hnr, hlv1, hlv2⟩ (by simp only; exact msF_lt _ (by omega)) (by kernel_rfl) ent_e
      · have hoc : OcC b (y.getD 0 0) z := ⟨hB.mb, hzw.v, ⟨hy0.1, hyv⟩, hfy⟩
        repeat' (first | refine red ?_ | refine redf fun hbi => ?_ | refine reds ?_ | (refine redc fun r => ?_; try have hr := Subtype.property r) | (refine redi (fun hc => ?_) (fun hc => ?_) <;> try first | (exfalso; omega) | with_reducible first | exact absurd rfl hc | exact absurd hc Bool.false_ne_true | exact absurd hc Bool.false_ne_true.symm) | ((refine wa_begin 10 [false, false, false, false, false, false, false, false, false, false, false, false, false, false] [] ?_ <;> refine wa_p 0 ?_ <;> refine wa_p 1 ?_ <;> (first | refine wa_f 2 fun hbi => ?_ | fail) <;> refine wa_p 3 ?_ <;> refine wa_p 4 ?_ <;> (first | refine wa_f 5 fun hbi => ?_ | fail) <;> (first | refine wa_p 6 ?_ | fail) <;> refine wa_p 7 ?_ <;> (first | (refine wa_if 64 (fun hc => ?_) (fun hc => ?_) <;> (try first | (exfalso; omega) | with_reducible first | exact absurd rfl hc | exact absurd hc Bool.false_ne_true | exact absurd hc Bool.false_ne_true.symm) <;> first | refine wa_pg 8 ?_ | refine wa_no 8 ?_) | fail) <;> (first | refine wa_no 9 ?_ | fail) <;> (first | refine wa_no 10 ?_ | fail) <;> (first | refine wa_no 11 ?_ | fail) <;> (first | refine wa_p 12 ?_ | fail) <;> refine wa_p 13 ?_) <;> (refine wa_end ?_)) | ((refine wa_begin 14 [false, false, false, false, false, false, false, false, false, false, false] [10] ?_ <;> refine wa_p 0 ?_ <;> (first | refine wa_p 1 ?_ | fail) <;> (first | refine wa_p 2 ?_ | fail) <;> (first | refine wa_p 3 ?_ | fail) <;> refine wa_p 4 ?_ <;> refine wa_p 5 ?_ <;> (first | refine wa_f 6 fun hbi => ?_ | fail) <;> (first | refine wa_p 7 ?_ | fail) <;> refine wa_p 8 ?_ <;> (first | refine wa_p 9 ?_ | fail) <;> (refine wa_do 10 ?_ <;> (repeat' (first | refine red ?_ | refine reds ?_ | fail)))) <;> (refine wa_end ?_)) | fail)
        · exact ⟨⟨(false, b), ⟨EE, ρ, hB⟩⟩, rfl, ent_e⟩
        · have hno := hr hc EE ρ hB.ex
          have hkeep := bind_keep (bs := bsV b) (v := z) hB.ex.len ⟨hy0.1, hyv⟩ hfy
          refine wq_next ((svl, ls.take n), (sv, rs.take n), b.set (-1 - y.getD 0 0).toNat ⟨z⟩, exB EE (y.getD 0 0) (z.flatMap EE), exR EE ρ (y.getD 0 0) (z.map ρ).sum, (p, rr) :: rest) ⟨hB.bind ⟨hy0.1, hyv⟩ hfy hzw hno, by simp only; omega, hnl, hnr, ?_, hlv2⟩ ?_ (by kernel_rfl) ent_e
          · simp only
            rw [bsV_set]
            exact hlv1.bind hkeep
          · simp only
            exact ms_bind hB ⟨hy0.1, hyv⟩ hfy hzw (by omega) (by omega)
    · by_cases hzv : z.getD 0 0 < 0
      · have hfz := hv.fr hzv
        have hoc : OcC b (z.getD 0 0) y := ⟨hB.mb, hyw.v, ⟨hz0.1, hzv⟩, hfz⟩
        repeat' (first | refine red ?_ | refine redf fun hbi => ?_ | refine reds ?_ | (refine redc fun r => ?_; try have hr := Subtype.property r) | (refine redi (fun hc => ?_) (fun hc => ?_) <;> try first | (exfalso; omega) | with_reducible first | exact absurd rfl hc | exact absurd hc Bool.false_ne_true | exact absurd hc Bool.false_ne_true.symm) | ((refine wa_begin 10 [false, false, false, false, false, false, false, false, false, false, false, false, false, false] [] ?_ <;> refine wa_p 0 ?_ <;> refine wa_p 1 ?_ <;> (first | refine wa_f 2 fun hbi => ?_ | fail) <;> refine wa_p 3 ?_ <;> refine wa_p 4 ?_ <;> (first | refine wa_f 5 fun hbi => ?_ | fail) <;> (first | refine wa_p 6 ?_ | fail) <;> refine wa_p 7 ?_ <;> (first | (refine wa_if 64 (fun hc => ?_) (fun hc => ?_) <;> (try first | (exfalso; omega) | with_reducible first | exact absurd rfl hc | exact absurd hc Bool.false_ne_true | exact absurd hc Bool.false_ne_true.symm) <;> first | refine wa_pg 8 ?_ | refine wa_no 8 ?_) | fail) <;> (first | refine wa_no 9 ?_ | fail) <;> (first | refine wa_no 10 ?_ | fail) <;> (first | refine wa_no 11 ?_ | fail) <;> (first | refine wa_p 12 ?_ | fail) <;> refine wa_p 13 ?_) <;> (refine wa_end ?_)) | ((refine wa_begin 18 [false, false, false, false, false, false, false, false, false, false, false] [10] ?_ <;> refine wa_p 0 ?_ <;> (first | refine wa_p 1 ?_ | fail) <;> (first | refine wa_p 2 ?_ | fail) <;> (first | refine wa_p 3 ?_ | fail) <;> refine wa_p 4 ?_ <;> refine wa_p 5 ?_ <;> (first | refine wa_f 6 fun hbi => ?_ | fail) <;> (first | refine wa_p 7 ?_ | fail) <;> refine wa_p 8 ?_ <;> (first | refine wa_p 9 ?_ | fail) <;> (refine wa_do 10 ?_ <;> (repeat' (first | refine red ?_ | refine reds ?_ | fail)))) <;> (refine wa_end ?_)) | fail)
        · exact ⟨⟨(false, b), ⟨EE, ρ, hB⟩⟩, rfl, ent_e⟩
        · have hno := hr hc EE ρ hB.ex
          have hkeep := bind_keep (bs := bsV b) (v := y) hB.ex.len ⟨hz0.1, hzv⟩ hfz
          refine wq_next ((svl, ls.take n), (sv, rs.take n), b.set (-1 - z.getD 0 0).toNat ⟨y⟩, exB EE (z.getD 0 0) (y.flatMap EE), exR EE ρ (z.getD 0 0) (y.map ρ).sum, (p, rr) :: rest) ⟨hB.bind ⟨hz0.1, hzv⟩ hfz hyw hno, by simp only; omega, hnl, hnr, ?_, hlv2⟩ ?_ (by kernel_rfl) ent_e
          · simp only
            rw [bsV_set]
            exact hlv1.bind hkeep
          · simp only
            exact ms_bind hB ⟨hz0.1, hzv⟩ hfz hyw (by omega) (by omega)
      · have hwy : WTm a y ∧ 0 ≤ y.getD 0 0 := ⟨hyw, by omega⟩
        have hwz : WTm a z ∧ 0 ≤ z.getD 0 0 := ⟨hzw, by omega⟩
        have hny := agN_3 hyw hwy.2
        have hnz := agN_3 hzw hwz.2
        have hpyl := partsW_len a y (agN a y)
        have hpzl := partsW_len a z (agN a z)
        have hpy := partsW_pd hB.ex hyw hwy.2
        have hpz := partsW_pd hB.ex hzw hwz.2
        have hag : y.getD 0 0 = z.getD 0 0 → agN a y = agN a z := fun e => by unfold agN; rw [e]
        repeat' (first | refine red ?_ | refine redf fun hbi => ?_ | refine reds ?_ | (refine redc fun r => ?_; try have hr := Subtype.property r) | refine redv fun sv => ?_ | (refine redi (fun hc => ?_) (fun hc => ?_) <;> try first | (exfalso; omega) | with_reducible first | exact absurd rfl hc | exact absurd hc Bool.false_ne_true | exact absurd hc Bool.false_ne_true.symm) | ((refine wa_begin 10 [false, false, false, false, false, false, false, false, false, false, false, false, false, false] [] ?_ <;> refine wa_p 0 ?_ <;> refine wa_p 1 ?_ <;> (first | refine wa_f 2 fun hbi => ?_ | fail) <;> refine wa_p 3 ?_ <;> refine wa_p 4 ?_ <;> (first | refine wa_f 5 fun hbi => ?_ | fail) <;> (first | refine wa_p 6 ?_ | fail) <;> refine wa_p 7 ?_ <;> (first | (refine wa_if 64 (fun hc => ?_) (fun hc => ?_) <;> (try first | (exfalso; omega) | with_reducible first | exact absurd rfl hc | exact absurd hc Bool.false_ne_true | exact absurd hc Bool.false_ne_true.symm) <;> first | refine wa_pg 8 ?_ | refine wa_no 8 ?_) | fail) <;> (first | refine wa_pg 9 ?_ | refine wa_no 9 ?_ | fail) <;> (first | refine wa_pg 10 ?_ | refine wa_no 10 ?_ | fail) <;> (first | refine wa_pg 11 ?_ | refine wa_no 11 ?_ | fail) <;> (first | refine wa_p 12 ?_ | fail) <;> refine wa_p 13 ?_) <;> (refine wa_end ?_)) | ((refine wa_begin 19 [false, false, false, false, false, false, false, false] [] ?_ <;> refine wa_p 0 ?_ <;> refine wa_p 1 ?_ <;> (first | refine wa_f 2 fun hbi => ?_ | fail) <;> refine wa_p 3 ?_ <;> refine wa_p 4 ?_ <;> (first | refine wa_f 5 fun hbi => ?_ | fail) <;> (first | refine wa_p 6 ?_ | fail) <;> refine wa_p 7 ?_) <;> (refine wa_end ?_)) | fail)
        all_goals first
          | exact ⟨⟨(false, b), ⟨EE, ρ, hB⟩⟩, rfl, ent_e⟩
          | skip
        have hag2 := hag (by assumption)
        rename_i svl2
        refine wq_next ((svl2, ls.take n ++ partsW a y (agN a y)), (sv, rs.take n ++ partsW a z (agN a z)), b, EE, ρ, ((ls.getD n default).v, partsW a y (agN a y)) :: (p, rr) :: rest) ⟨hB, ?_, ?_, ?_, ?_, ?_⟩ ?_ (by kernel_rfl) ent_e
        · simp only [List.length_append]; omega
        · exact fun q hq => (List.mem_append.1 hq).elim (hnl q) (partsW_wtm hyw hwy.2 q)
        · exact fun q hq => (List.mem_append.1 hq).elim (hnr q) (partsW_wtm hzw hwz.2 q)
        · exact lv_push hlv1 hlv3 hlw.len.2 hu.hd hyw hwy.2 hny
        · show lvF ((p, rr) :: rest) ++ _ = _
          rw [hlv2]
        · simp only
          refine msF_lt _ ?_
          rw [bsV_app, bsV_app, pdS_append, pdS_append, pdS_append]
          rw [pdS_append] at hpd
          rw [pdS_append] at hpd
          rw [pdS_append]
          omega
instance l11Meet_ctr {Γ Δ : List Atom} {bb : Nat} {so va vs vt : Value} {bs : List (Sh (List Int))} {a s t : List Int} [hb : HasBk Γ bb [so]] [h3 : PullOw (List (Sh (List Int))) repList Γ [so] bs Δ] [hb1 : HasBk Δ bb [so]] [h0 : HasIm (List Int) repList Δ [va] a] [h1 : HasIm (List Int) repList Δ [vs] s] [h2 : HasIm (List Int) repList Δ [vt] t] :
    CtrC Try.prog 57 [.agg #[va], .pointer (some ⟨bb, 0, none⟩), vs, vt] Γ (MtC a bs s t) (MtT a) (fun q : MtT a => .bool q.1.1) (fun q => .ow [so] q.1.2 :: Δ) := ⟨fun s w0 => l11Meet_spec s⟩

end Go.Proofs.Ytjblieilblcdnaa
