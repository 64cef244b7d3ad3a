/- A round of the construction: the program. -/
import Derived.Test.YtbbdjjlnachnlaaGreatDoorShelfM
import Derived.Test.YtbbdjjlnachnlaaGreatDoorNrmU
namespace Go.Proofs.YtbbdjjlnachnlaaGreatDoor
open Go Go.Eng
set_option linter.unusedVariables false
set_option linter.unusedSimpArgs false
set_option synthInstance.maxHeartbeats 400000
set_option synthInstance.maxSize 1000
set_option maxHeartbeats 0
set_option maxRecDepth 20000

abbrev MpS : Type := Mp Tryz.prog tKey KS
/-- What a round starts from. -/
structure RM (a : List Int) (sh ls sets : List (List Int)) : Prop where
  nc : NC a sh ls
  cl : (∀ k, k < sh.length → Closed a sh (sh.getD k default)) ∧ ∀ k, k < ls.length → Closed a sh (ls.getD k default)
  nd : sets.Nodup
  l16 : sets.length ≤ 16
  nn : ∀ t ∈ sets, NonN t
abbrev RdN (im : ImO) (a : List Int) (sets : List (List Int)) : Type := { p : Value × List (List Int) × Bool // (p.2.2 = true → p.2.1 = rndG im a sets ∧ p.2.1.length ≤ 16 ∧ ∀ t ∈ p.2.1, NonN t) ∧ (p.2.2 = false → 16 < (rndG im a sets).length) }
theorem selN_nn (f : Nat → Bool) : ∀ n, ∀ x ∈ selN f n, 0 ≤ x ∧ x < (n : Int)
  | 0 => fun x hx => by cases hx
  | n + 1 => fun x hx => by
    unfold selN at hx
    rw [List.mem_append] at hx
    rcases hx with hx | hx
    · have := selN_nn f n x hx
      omega
    · split at hx
      · rw [List.mem_singleton] at hx; omega
      · cases hx
theorem imN_nn {a : List Int} {sh ls : List (List Int)} {f : Nat} {ts : List (List Int)} {s : List Int} (h : imN a sh ls f ts = some s) : NonN s ∧ s.length ≤ sh.length ∧ ∀ x ∈ s, x < (sh.length : Int) := by
  unfold imN at h
  split at h
  · cases h
  · injection h with h
    rw [← h]
    exact ⟨fun x hx => (selN_nn _ _ x hx).1, selN_len _ _, fun x hx => (selN_nn _ _ x hx).2⟩
theorem listed_pre2 {xs ys : List (List Int)} (h : xs <+: ys) {l : List Int} (hl : ∀ q ∈ l, 0 ≤ q ∧ q < xs.length) : listed ys l = listed xs l := by
  unfold listed
  refine List.map_congr_left fun q hq => ?_
  have := hl q hq
  obtain ⟨t, rfl⟩ := h
  rw [List.getD_eq_getElem?_getD, List.getD_eq_getElem?_getD, List.getElem?_append_left (by omega)]
theorem addO_new {out : List (List Int)} {s : List Int} (h : s ∉ out) : addO out (some s) = out ++ [s] := by
  show addNew out s = _
  unfold addNew; rw [if_neg h]
theorem addO_old {out : List (List Int)} {s : List Int} (h : s ∈ out) : addO out (some s) = out := by
  show addNew out s = _
  unfold addNew; rw [if_pos h]
theorem rowU_le {im : ImO} {ar : List Int} {sets : List (List Int)} {f : Nat} {out : List (List Int)} {rs : List STrans} : ∀ i, (rowUG im ar sets f out rs i).length ≤ rs.length + i
  | 0 => Nat.le_refl _
  | i + 1 => by
    have h1 := rowU_le (im := im) (ar := ar) (sets := sets) (f := f) (out := out) (rs := rs) i
    have h2 := trO_len f (dig sets.length (arN ar f) i) (rowG im ar sets f out (i + 1)) (im f (listed sets (dig sets.length (arN ar f) i)))
    show (rowUG im ar sets f out rs i ++ _).length ≤ _
    rw [List.length_append]; omega
theorem symU_le {im : ImO} {ar : List Int} {sets : List (List Int)} (h3 : ∀ f, f < ar.length → sets.length ^ arN ar f ≤ 4096) : ∀ f, f ≤ ar.length → (symUG im ar sets f).length ≤ f * 4096
  | 0, _ => Nat.le_refl _
  | f + 1, hf => by
    have h1 := symU_le (im := im) h3 f (by omega)
    have h2 := rowU_le (im := im) (ar := ar) (sets := sets) (f := f) (out := symG im ar sets f) (rs := symUG im ar sets f) (sets.length ^ arN ar f)
    have := h3 f (by omega)
    show (rowUG im ar sets f (symG im ar sets f) (symUG im ar sets f) (sets.length ^ arN ar f)).length ≤ _
    rw [Nat.succ_mul]; omega
theorem nround_spec {w0 : World} {Γ Δ1 Δ2 Δ : List Atom} {bx : Nat} {v vl vh vk vs vm : Value} {a : List Int} {sh ls sets : List (List Int)} [hb : PullBk Γ bx [v, vl, vh, vk, vs, vm] Δ1] [h3 : PullOw (List (Sh (List Int))) repList Δ1 [vs] (sets.map Sh.mk) Δ2] [hm : PullOw MpS repMp Δ2 [vm] (Mp.mk sets.length (numK sets)) Δ] [h0 : HasRd (List Int) repList Δ [v] a] [h1 : HasIm (List SForm) repList Δ [vl] (formL a sh ls)] [h2 : HasIm (List SForm) repList Δ [vh] (formL a sh sh)] [hk : HasRd (List Int) repList Δ [vk] ([] : List Int)] [ht : HasRd Tab repTab Δ [tabV] (Tab.mk Lib.pow10Tab)] (hs : RM a sh ls sets) :
    CJ Tryz.prog 139 [.pointer (some ⟨bx, 0, none⟩)] w0 Γ (fun q : RdN (imN a sh ls) a sets × Value => .tuple #[q.2, .bool q.1.1.2.2]) (fun q => .bk bx [v, vl, vh, vk, q.1.1.1, vm] :: .ow [q.1.1.1] (q.1.1.2.1.map Sh.mk) :: .ow [vm] (Mp.mk q.1.1.2.1.length (numK q.1.1.2.1) : MpS) :: .ow [q.2] (if q.1.1.2.2 = true then symUG (imN a sh ls) a sets a.length else []) :: Δ) := by
  refine cj_perm (hb.perm.trans ((h3.perm.trans (hm.perm.cons _)).cons _)) ?_
  obtain ⟨hnc, hcl, hnd, hl16, hnn⟩ := hs
  obtain ⟨im, him⟩ : ∃ im, im = imN a sh ls := ⟨_, rfl⟩
  rw [← him]
  have hsg := sigOk_len hnc.sg
  have hml : (sets.map Sh.mk).length = sets.length := List.length_map ..
  refine cj_enter Tryz.func139 Tryz.ntmps139 ?_
  repeat' (first | refine red ?_ | fail)
  refine wc_nil_ow (α := STrans) (iα := repProd) ?_
  refine wc_loop_p [4, 25] [26, 27, 28, 29, 6, 7, 30, 31, 32, 33, 34, 35, 36, 37, 38, 39, 40, 41, 42, 43, 44, 45, 8, 9, 46, 56, 57, 58, 59, 55, 60, 61, 10, 11, 62, 63, 65, 66, 67, 68, 69, 70, 71, 64, 72, 73, 12, 13, 74, 75, 76, 77, 78, 79, 80, 81, 82, 83, 84, 85, 86, 87, 88, 89, 90, 91, 92, 93, 94, 95, 96, 97, 98, 99, 100, 101, 102, 103, 2, 3, 104, 105, 106, 107, 108, 109, 110, 111, 47, 48, 49, 50, 51, 52, 53, 54, 112] (ι := Value × Value × Nat) (fun k => [k.2.1, .int .i64 k.2.2]) (fun k => [.bk bx [v, vl, vh, vk, k.1, vm], .ow [k.1] ((symG im a sets k.2.2).map Sh.mk), .ow [vm] (Mp.mk (symG im a sets k.2.2).length (numK (symG im a sets k.2.2)) : MpS), .ow [k.2.1] (symUG im a sets k.2.2)]) (fun k => k.2.2 ≤ a.length ∧ (symG im a sets k.2.2).length ≤ 16 ∧ ∀ t ∈ symG im a sets k.2.2, NonN t) (fun k => a.length - k.2.2) (vs, .slice none 0 0, 0) [.bk bx [v, vl, vh, vk, vs, vm], .ow [vs] (sets.map Sh.mk), .ow [vm] (Mp.mk sets.length (numK sets) : MpS), .ow [.slice none 0 0] ([] : List STrans)] (by kernel_rfl) ⟨Nat.zero_le _, hl16, hnn⟩ rfl ?_
  intro ⟨sv, rv, f⟩ u l' hl' ⟨hf, hm16, hmn⟩
  simp only [patch, List.map_cons, List.map_nil, List.set_cons_zero, List.set_cons_succ] at hl'
  subst hl'
  simp only [List.cons_append, List.nil_append] at hf hm16 hmn ⊢
  by_cases hfa : f < a.length
  · obtain ⟨hf0, hf3⟩ := sig_el hnc.sg hfa
    have harN : a.getD f 0 = ((arN a f : Nat) : Int) := by unfold arN; omega
    have hu3 := symU_le (im := im) (ar := a) (sets := sets) (fun f hf => pow_4096 hl16 (by have := (sig_el hnc.sg hf).2; unfold arN; omega)) f (by omega)
    have hp3 : sets.length ^ arN a f ≤ 4096 := pow_4096 hl16 (by omega)
    by_cases hskip : 0 < arN a f ∧ sets.length = 0
    · repeat' (first | refine red ?_ | refine redf fun hbi => ?_ | refine reds ?_ | (refine redi (fun hc => ?_) (fun hc => ?_) <;> try first | (exfalso; omega) | with_reducible first | exact absurd rfl hc | exact absurd hc Bool.false_ne_true | exact absurd hc Bool.false_ne_true.symm) | fail)
      · have hN0 : sets.length ^ arN a f = 0 := by rw [hskip.2]; exact Nat.zero_pow hskip.1
        have e1 : symG im a sets (f + 1) = symG im a sets f := by show rowG _ _ _ _ _ _ = _; rw [hN0]; rfl
        have e2 : symUG im a sets (f + 1) = symUG im a sets f := by show rowUG _ _ _ _ _ _ _ = _; rw [hN0]; rfl
        exact wq_next (sv, rv, f + 1) ⟨by simp only; omega, by simp only; rw [e1]; exact hm16, by simp only; rw [e1]; exact hmn⟩ (by simp only; omega) (by kernel_rfl) (by simp only; rw [e1, e2]; exact ent_e)
      all_goals (exfalso; omega)
    have hpos : 0 < sets.length ^ arN a f := by
      by_cases ha0 : arN a f = 0
      · rw [ha0]; exact Nat.one_pos
      · exact Nat.pow_pos (by omega)
    obtain ⟨N, hN⟩ : ∃ N, N = sets.length ^ arN a f := ⟨_, rfl⟩
    have hr0 : List.replicate (a.getD f 0).toNat (0 : Int) = if 0 < N then dig sets.length (arN a f) 0 else List.replicate (arN a f) (0 : Int) := by
      rw [if_pos (by omega), dig_zero, harN, Int.toNat_natCast]
    repeat' (first | refine red ?_ | refine redf fun hbi => ?_ | refine reds ?_ | (refine redc fun r => ?_; try have hr := Subtype.property r) | (refine redi (fun hc => ?_) (fun hc => ?_) <;> try first | (exfalso; omega) | with_reducible first | exact absurd rfl hc | exact absurd hc Bool.false_ne_true | exact absurd hc Bool.false_ne_true.symm) | fail)
    all_goals first | (exfalso; exact absurd ‹(f : Int) ∈ ([] : List Int)› (by simp)) | skip
    all_goals rename Value => lv
    all_goals rw [hr0]
    all_goals
      refine wc_loop_p [4, 9] [46, 56, 57, 58, 59, 55, 60, 61, 10, 11, 62, 63, 65, 66, 67, 68, 69, 70, 71, 64, 72, 73, 12, 13, 74, 75, 76, 77, 78, 79, 80, 81, 82, 83, 84, 85, 86, 87, 88, 89, 90, 91, 92, 93, 94, 95, 96, 97, 98, 99, 100, 101, 102, 103, 2, 3, 104, 105, 106, 107, 108, 109, 110, 111, 47, 48, 49, 50, 51, 52, 53, 54] (ι := Value × Value × Nat) (fun k => [k.2.1, .bool (decide (k.2.2 < N))]) (fun k => [.bk bx [v, vl, vh, vk, k.1, vm], .ow [k.1] ((rowG im a sets f (symG im a sets f) k.2.2).map Sh.mk), .ow [vm] (Mp.mk (rowG im a sets f (symG im a sets f) k.2.2).length (numK (rowG im a sets f (symG im a sets f) k.2.2)) : MpS), .ow [k.2.1] (rowUG im a sets f (symG im a sets f) (symUG im a sets f) k.2.2), .ow [lv] (if k.2.2 < N then dig sets.length (arN a f) k.2.2 else List.replicate (arN a f) (0 : Int))]) (fun k => k.2.2 ≤ N ∧ (rowG im a sets f (symG im a sets f) k.2.2).length ≤ 16 ∧ ∀ t ∈ rowG im a sets f (symG im a sets f) k.2.2, NonN t) (fun k => N - k.2.2) (sv, rv, 0) [.bk bx [v, vl, vh, vk, sv, vm], .ow [sv] ((symG im a sets f).map Sh.mk), .ow [vm] (Mp.mk (symG im a sets f).length (numK (symG im a sets f)) : MpS), .ow [rv] (symUG im a sets f), .ow [lv] (if 0 < N then dig sets.length (arN a f) 0 else List.replicate (arN a f) (0 : Int))] (by simp only [show decide (0 < N) = true from decide_eq_true (by omega)]; kernel_rfl) ⟨Nat.zero_le _, hm16, hmn⟩ rfl ?_
      intro ⟨sc, rc, i⟩ u l' hl' ⟨hi, hm16, hmn⟩
      simp only [patch, List.map_cons, List.map_nil, List.set_cons_zero, List.set_cons_succ] at hl'
      subst hl'
      simp only [List.cons_append, List.nil_append] at hi hm16 hmn ⊢
      by_cases hlt : i < N
      · simp only [if_pos hlt, decide_eq_true hlt]
        have hlt' : i < sets.length ^ arN a f := by omega
        have hdl := dig_len sets.length (arN a f) i
        obtain ⟨l, hl⟩ : ∃ l, l = dig sets.length (arN a f) i := ⟨_, rfl⟩
        rw [← hl] at hdl ⊢
        have hel : ∀ q ∈ l, 0 ≤ q ∧ q < sets.length := by rw [hl]; exact dig_el hlt'
        obtain ⟨mc, hmc⟩ : ∃ mc, mc = rowG im a sets f (symG im a sets f) i := ⟨_, rfl⟩
        have hpre : sets <+: mc := by
          rw [hmc]
          have h1 := symG_pre im a sets 0 f
          rw [Nat.zero_add] at h1
          have h2 := rowG_pre im a sets f (symG im a sets f) 0 i
          rw [Nat.zero_add] at h2
          exact h1.trans h2
        rw [← hmc] at hm16 hmn ⊢
        have hpl : sets.length ≤ mc.length := hpre.length_le
        have hlm : listed mc l = listed sets l := listed_pre2 hpre hel
        have hrc : RC a sh ls mc f l := ⟨hnc, hcl, hfa, by rw [hdl], fun q hq => by have := hel q hq; omega⟩
        have hru := rowU_le (im := im) (ar := a) (sets := sets) (f := f) (out := symG im a sets f) (rs := symUG im a sets f) i
        have hnx : NxL sets.length (arN a f) i := ⟨by omega, by
          by_cases ha0 : arN a f = 0
          · exact .inr ha0
          · exact .inl (by by_cases h0 : sets.length = 0
                           · rw [h0, Nat.zero_pow (by omega)] at hpos; omega
                           · omega), by omega, hlt'⟩
        have hnz : NxZ sets.length (arN a f) i (((sets.map Sh.mk).length : Int) - 1) := ⟨hnx, by omega⟩
        have hmcl : (mc.map Sh.mk).length = mc.length := List.length_map ..
        haveI : ToN (a.getD f 0) (arN a f) := ⟨rfl⟩
        subst hl
        repeat' (first | refine red ?_ | refine reds ?_ | (refine redc fun r => ?_; try have hr := Subtype.property r) | (refine redi (fun hc => ?_) (fun hc => ?_) <;> try first | (exfalso; omega) | with_reducible first | exact absurd rfl hc | exact absurd hc Bool.false_ne_true | exact absurd hc Bool.false_ne_true.symm) | fail)
        · have hnone : im f (listed sets (dig sets.length (arN a f) i)) = none := by
            rw [him, ← hlm]
            cases h : imN a sh ls f (listed mc (dig sets.length (arN a f) i)) with
            | none => rfl
            | some s => rw [h] at hc; cases hc
          have e1 : rowG im a sets f (symG im a sets f) (i + 1) = mc := by
            show addO (rowG im a sets f (symG im a sets f) i) (im f (listed sets (dig sets.length (arN a f) i))) = _
            rw [hnone, ← hmc]; rfl
          have e2 : rowUG im a sets f (symG im a sets f) (symUG im a sets f) (i + 1) = rowUG im a sets f (symG im a sets f) (symUG im a sets f) i := by
            show _ ++ trO _ _ _ (im f (listed sets (dig sets.length (arN a f) i))) = _
            rw [hnone]; exact List.append_nil _
          rw [← hN]
          exact wq_next (sc, rc, i + 1) ⟨by simp only; omega, by simp only; rw [e1]; exact hm16, by simp only; rw [e1]; exact hmn⟩ (by simp only; omega) (by kernel_rfl) (by simp only; rw [e1, e2]; exact ent_e)
        obtain ⟨s, hsm⟩ := Option.isSome_iff_exists.1 hc
        rw [hsm]
        simp only [Option.getD_some]
        rename Value => qv
        refine wc_share qv ?_
        obtain ⟨hsn, hsl, hst⟩ := imN_nn hsm
        have hslen := hnc.slen
        have him2 : im f (listed sets (dig sets.length (arN a f) i)) = some s := by rw [him, ← hlm]; exact hsm
        have hokk : Ky.ok (KS.mk (s.length : Int) (S (jnT 44 (nT s) s.length))) := ⟨⟨by show -9223372036854775808 ≤ (s.length : Int); omega, by show (s.length : Int) ≤ 9223372036854775807; omega⟩, by
          show (S (jnT 44 (nT s) s.length)).size ≤ maxLen
          rw [S_size]
          have h1 := (jnT_len 44 (nT s) s.length).1
          have h2 := nT_sz s (fun x hx => ⟨by have := hsn x hx; omega, by have := hst x hx; omega⟩)
          unfold maxLen; omega⟩
        have hsx : s.length ≤ 1048576 := by omega
        have hun : ∀ ys : List (List Int), rowG im a sets f (symG im a sets f) (i + 1) = ys → rowUG im a sets f (symG im a sets f) (symUG im a sets f) (i + 1) = rowUG im a sets f (symG im a sets f) (symUG im a sets f) i ++ [((f : Int), dig sets.length (arN a f) i, placeOf ys s)] := fun ys hys => by
          show _ ++ trO _ _ (rowG im a sets f (symG im a sets f) (i + 1)) (im f (listed sets (dig sets.length (arN a f) i))) = _
          rw [him2, hys]; rfl
        have hrw := rowG_rnd (im := im) (ar := a) (sets := sets) hfa (i := i + 1) (by omega)
        have hrwl := hrw.length_le
        by_cases hin : s ∈ mc
        · haveI : MapAt (numK mc) (KS.mk (s.length : Int) (S (jnT 44 (nT s) s.length))) (some (.int .i64 ((mc.idxOf s : Nat) : Int))) := ⟨by
            show numK mc (lkey s) = _
            unfold numK; rw [if_pos ((mem_lkey hsn hmn).2 hin), idx_lkey hsn hmn]⟩
          have e1 : rowG im a sets f (symG im a sets f) (i + 1) = mc := by
            show addO (rowG im a sets f (symG im a sets f) i) (im f (listed sets (dig sets.length (arN a f) i))) = _
            rw [him2, ← hmc]; exact addO_old hin
          have e2 := hun mc e1
          have hpl2 : placeOf mc s = ((mc.idxOf s : Nat) : Int) := if_pos hin
          rw [hpl2] at e2
          have hix := List.idxOf_lt_length_of_mem hin
          ((refine wa_begin 13 [false, false, false, false, false, false, false, false, false, false, false, false] [] ?_ <;> refine wa_p 0 ?_ <;> (first | refine wa_p 1 ?_ | fail) <;> (first | refine wa_p 2 ?_ | fail) <;> (first | refine wa_p 3 ?_ | fail) <;> refine wa_p 4 ?_ <;> (refine wa_do 5 ?_ <;> (repeat' (first | refine red ?_ | (refine redc fun r => ?_; try have hr := Subtype.property r) | fail))) <;> (refine wa_do 6 ?_ <;> (repeat' (first | refine red ?_ | refine reds ?_ | fail))) <;> refine wa_p 7 ?_ <;> refine wa_p 8 ?_ <;> refine wa_p 9 ?_ <;> refine wa_p 10 ?_ <;> refine wa_p 11 ?_) <;> (refine wa_end ?_))
          repeat' (first | refine red ?_ | refine reds ?_ | (refine redc fun r => ?_; try have hr := Subtype.property r) | refine redv fun sv => ?_ | (refine redi (fun hc => ?_) (fun hc => ?_) <;> try first | (exfalso; omega) | with_reducible first | exact absurd rfl hc | exact absurd hc Bool.false_ne_true | exact absurd hc Bool.false_ne_true.symm) | fail)
          rw [← e2, ← hN]
          exact wq_next (sc, sv, i + 1) ⟨by simp only; omega, by simp only; rw [e1]; exact hm16, by simp only; rw [e1]; exact hmn⟩ (by simp only; omega) (by kernel_rfl) (by simp only [e1]; exact ent_e)
        · haveI : MapAt (numK mc) (KS.mk (s.length : Int) (S (jnT 44 (nT s) s.length))) none := ⟨by
            show numK mc (lkey s) = _
            unfold numK; rw [if_neg (fun h => hin ((mem_lkey hsn hmn).1 h))]⟩
          have e1 : rowG im a sets f (symG im a sets f) (i + 1) = mc ++ [s] := by
            show addO (rowG im a sets f (symG im a sets f) i) (im f (listed sets (dig sets.length (arN a f) i))) = _
            rw [him2, ← hmc]; exact addO_new hin
          have e2 := hun _ e1
          have hpl2 : placeOf (mc ++ [s]) s = (mc.length : Int) := by
            unfold placeOf
            rw [if_pos (by simp), List.idxOf_append, if_neg hin]; simp
          rw [hpl2] at e2
          have hokm : Ky.ok (KS.mk (s.length : Int) (S (jnT 44 (nT s) s.length))) ∧ mc.length < maxLen := ⟨hokk, by unfold maxLen; omega⟩
          have hnm : numK (mc ++ [s]) = upd (numK mc) (KS.mk (s.length : Int) (S (jnT 44 (nT s) s.length))) (.int .i64 (mc.length : Int)) := (numK_add (fun h => hin ((mem_lkey hsn hmn).1 h))).symm
          have hal : (mc ++ [s]).length = mc.length + 1 := by simp
          ((refine wa_begin 13 [false, false, false, false, false, false, false, false, false, false, false, false] [] ?_ <;> refine wa_p 0 ?_ <;> (first | refine wa_p 1 ?_ | fail) <;> (first | refine wa_p 2 ?_ | fail) <;> (first | refine wa_p 3 ?_ | fail) <;> refine wa_p 4 ?_ <;> (refine wa_do 5 ?_ <;> (repeat' (first | refine red ?_ | (refine redc fun r => ?_; try have hr := Subtype.property r) | fail))) <;> (refine wa_do 6 ?_ <;> (repeat' (first | refine red ?_ | refine reds ?_ | fail))) <;> refine wa_p 7 ?_ <;> refine wa_p 8 ?_ <;> refine wa_p 9 ?_ <;> refine wa_p 10 ?_ <;> refine wa_p 11 ?_) <;> (refine wa_end ?_))
          repeat' (first | refine red ?_ | (refine redi (fun hc => ?_) (fun hc => ?_) <;> try first | (exfalso; omega) | with_reducible first | exact absurd rfl hc | exact absurd hc Bool.false_ne_true | exact absurd hc Bool.false_ne_true.symm) | fail)
          ((refine wa_begin 16 [false, false, false, false, false, false, false, false] [7] ?_ <;> refine wa_p 0 ?_ <;> (first | refine wa_p 1 ?_ | fail) <;> (first | refine wa_p 2 ?_ | fail) <;> (first | refine wa_p 3 ?_ | fail) <;> refine wa_p 4 ?_ <;> refine wa_p 6 ?_ <;> (refine wa_do 5 ?_ <;> (repeat' (first | refine red ?_ | (refine redc fun r => ?_; try have hr := Subtype.property r) | fail))) <;> (refine wa_do 7 ?_ <;> (repeat' (first | refine red ?_ | refine reds ?_ | fail)))) <;> (refine wa_end ?_))
          repeat' (first | refine red ?_ | refine reds ?_ | (refine redc fun r => ?_; try have hr := Subtype.property r) | refine redv fun sv => ?_ | (refine redi (fun hc => ?_) (fun hc => ?_) <;> try first | (exfalso; omega) | with_reducible first | exact absurd rfl hc | exact absurd hc Bool.false_ne_true | exact absurd hc Bool.false_ne_true.symm) | fail)
          all_goals rw [show upd (numK mc) (KS.mk (s.length : Int) (S (jnT 44 (nT s) s.length))) (.int .i64 ((mc.map Sh.mk).length : Int)) = numK (mc ++ [s]) by rw [hmcl]; exact hnm.symm, ← List.map_append, ← hal]
          · have hl17 : 16 < (mc ++ [s]).length := by
              simp only [List.length_append, List.length_map, List.length_singleton] at hc ⊢
              omega
            refine ⟨(⟨(sv, mc ++ [s], false), ⟨fun h => (by cases h), fun _ => by rw [e1] at hrwl; omega⟩⟩, .slice none 0 0), rfl, ?_⟩
            simp only [Bool.false_eq_true, if_false]
            exact ent_e
          · have hm17 : (mc ++ [s]).length ≤ 16 := by
              simp only [List.length_append, List.length_map, List.length_singleton] at hc ⊢
              omega
            have hmn2 : ∀ t ∈ mc ++ [s], NonN t := fun t ht => by
              rcases List.mem_append.1 ht with h | h
              · exact hmn t h
              · rw [List.mem_singleton.1 h]; exact hsn
            rename_i scN _ _ _ _
            rw [show ((List.map Sh.mk mc).length : Int) = (mc.length : Int) by rw [hmcl], ← e2, ← hN]
            exact wq_next (scN, sv, i + 1) ⟨by simp only; omega, by simp only; rw [e1]; exact hm17, by simp only; rw [e1]; exact hmn2⟩ (by simp only; omega) (by kernel_rfl) (by simp only [e1]; exact ent_e)
      · simp only [if_neg hlt, decide_eq_false hlt]
        have hiN : i = sets.length ^ arN a f := by omega
        repeat' (first | refine red ?_ | refine reds ?_ | fail)
        rw [hiN] at hm16 hmn ⊢
        exact wq_next (sc, rc, f + 1) ⟨by simp only; omega, hm16, hmn⟩ (by simp only; omega) (by kernel_rfl) (by
          show Ent _ _ (.bk bx [v, vl, vh, vk, sc, vm] :: .ow [sc] ((rowG im a sets f (symG im a sets f) (sets.length ^ arN a f)).map Sh.mk) :: .ow [vm] (Mp.mk (rowG im a sets f (symG im a sets f) (sets.length ^ arN a f)).length (numK (rowG im a sets f (symG im a sets f) (sets.length ^ arN a f))) : MpS) :: .ow [rc] (rowUG im a sets f (symG im a sets f) (symUG im a sets f) (sets.length ^ arN a f)) :: _)
          exact ent_e)
  · have hfe : f = a.length := by omega
    subst hfe
    repeat' (first | refine red ?_ | (refine redi (fun hc => ?_) (fun hc => ?_) <;> try first | (exfalso; omega) | with_reducible first | exact absurd rfl hc | exact absurd hc Bool.false_ne_true | exact absurd hc Bool.false_ne_true.symm) | fail)
    refine ⟨(⟨(sv, symG im a sets a.length, true), ⟨fun _ => ⟨rfl, hm16, hmn⟩, fun h => (by cases h)⟩⟩, rv), rfl, ?_⟩
    simp only [if_true]
    exact ent_e
instance nround_ctr {Γ Δ1 Δ2 Δ : List Atom} {bx : Nat} {v vl vh vk vs vm : Value} {a : List Int} {sh ls sets : List (List Int)} [hb : PullBk Γ bx [v, vl, vh, vk, vs, vm] Δ1] [h3 : PullOw (List (Sh (List Int))) repList Δ1 [vs] (sets.map Sh.mk) Δ2] [hm : PullOw MpS repMp Δ2 [vm] (Mp.mk sets.length (numK sets)) Δ] [h0 : HasRd (List Int) repList Δ [v] a] [h1 : HasIm (List SForm) repList Δ [vl] (formL a sh ls)] [h2 : HasIm (List SForm) repList Δ [vh] (formL a sh sh)] [hk : HasRd (List Int) repList Δ [vk] ([] : List Int)] [ht : HasRd Tab repTab Δ [tabV] (Tab.mk Lib.pow10Tab)] :
    CtrC Tryz.prog 139 [.pointer (some ⟨bx, 0, none⟩)] Γ (RM a sh ls sets) (RdN (imN a sh ls) a sets × Value) (fun q : RdN (imN a sh ls) a sets × Value => .tuple #[q.2, .bool q.1.1.2.2]) (fun q => .bk bx [v, vl, vh, vk, q.1.1.1, vm] :: .ow [q.1.1.1] (q.1.1.2.1.map Sh.mk) :: .ow [vm] (Mp.mk q.1.1.2.1.length (numK q.1.1.2.1) : MpS) :: .ow [q.2] (if q.1.1.2.2 = true then symUG (imN a sh ls) a sets a.length else []) :: Δ) := ⟨fun s w0 => nround_spec s⟩

end Go.Proofs.YtbbdjjlnachnlaaGreatDoor
