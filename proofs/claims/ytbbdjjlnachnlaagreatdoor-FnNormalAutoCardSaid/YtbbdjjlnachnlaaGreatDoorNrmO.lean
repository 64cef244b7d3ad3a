/- All rounds: the program. -/
import Derived.Test.YtbbdjjlnachnlaaGreatDoorNrmM
namespace Go.Proofs.YtbbdjjlnachnlaaGreatDoor
open Go Go.Eng
set_option linter.unusedVariables false
set_option linter.unusedSimpArgs false
set_option synthInstance.maxHeartbeats 400000
set_option synthInstance.maxSize 1000
set_option maxHeartbeats 0
set_option maxRecDepth 20000

/-- What all rounds answer. -/
abbrev AlN (im : ImO) (a : List Int) : Type := { p : (Value × Value) × List (List Int) × Bool // (p.2.2 = true → fixG im a 17 [] = (if p.2.1 = [] then none else some p.2.1) ∧ p.2.1.length ≤ 16) ∧ (p.2.2 = false → fixG im a 17 [] = none) }
theorem all_spec {w0 : World} {Γ Δ1 Δ : List Atom} {bx : Nat} {v vl vh vk vs vm : Value} {a : List Int} {sh ls : List (List Int)} [hb : PullBk Γ bx [v, vl, vh, vk, vs, vm] Δ1] [h3 : PullOw (List (Sh (List Int))) repList Δ1 [vs] ([] : List (Sh (List Int))) Δ] [h0 : HasRd (List Int) repList Δ [v] a] [h1 : HasIm (List SForm) repList Δ [vl] (formL a sh ls)] [h2 : HasIm (List SForm) repList Δ [vh] (formL a sh sh)] [hk : HasRd (List Int) repList Δ [vk] ([] : List Int)] [ht : HasRd Tab repTab Δ [tabV] (Tab.mk Lib.pow10Tab)] (hs : RM a sh ls []) :
    CJ Tryz.prog 82 [.pointer (some ⟨bx, 0, none⟩)] w0 Γ (fun q : AlN (imN a sh ls) a × Value => .tuple #[q.2, .bool q.1.1.2.2]) (fun q => .bk bx [v, vl, vh, vk, q.1.1.1.1, q.1.1.1.2] :: .ow [q.1.1.1.1] (q.1.1.2.1.map Sh.mk) :: .ow [q.2] (if q.1.1.2.2 = true then allG (imN a sh ls) a q.1.1.2.1 else []) :: Δ) := by
  refine cj_perm (hb.perm.trans (h3.perm.cons _)) ?_
  refine cj_enter Tryz.func82 Tryz.ntmps82 ?_
  repeat' (first | refine red ?_ | refine redv fun sv => ?_ | fail)
  rename Value => mv
  have hmap0 : (fun x => none : KS → Option Value) = numK [] := numK_nil.symm
  rw [hmap0]
  refine wc_loop_p [2] [11, 12, 13, 14, 15, 4, 17, 18, 16, 19, 20, 5, 6, 21, 22, 23, 24, 25, 26, 27, 28, 29, 30, 31, 32, 33, 3] (ι := Value × List (List Int) × Nat) (fun k => [.slice none 0 0]) (fun k => [.bk bx [v, vl, vh, vk, k.1, mv], .ow [k.1] (k.2.1.map Sh.mk), .ow [mv] (Mp.mk k.2.1.length (numK k.2.1) : MpS)]) (fun k => RM a sh ls k.2.1 ∧ 17 ≤ k.2.2 + k.2.1.length ∧ fixG (imN a sh ls) a k.2.2 k.2.1 = fixG (imN a sh ls) a 17 []) (fun k => 16 - k.2.1.length) (vs, [], 17) [.bk bx [v, vl, vh, vk, vs, mv], .ow [vs] ([] : List (Sh (List Int))), .ow [mv] (Mp.mk 0 (numK []) : MpS)] (by kernel_rfl) ⟨hs, by simp, rfl⟩ rfl ?_
  intro ⟨sv, s, k⟩ u l' hl' ⟨hrm, hk, he⟩
  simp only [patch, List.map_cons, List.map_nil, List.set_cons_zero, List.set_cons_succ] at hl'
  subst hl'
  simp only [List.cons_append, List.nil_append] at hrm hk he ⊢
  have hsl := hrm.l16
  have hpre := (rndG_pre (imN a sh ls) a s).length_le
  have hml : (s.map Sh.mk).length = s.length := List.length_map ..
  obtain ⟨k, rfl⟩ : ∃ j, k = j + 1 := ⟨k - 1, by omega⟩
  unfold fixG at he
  repeat' (first | refine red ?_ | (refine redc fun r => ?_; try have hr := Subtype.property r) | (refine redi (fun hc => ?_) (fun hc => ?_) <;> try first | (exfalso; omega) | with_reducible first | exact absurd rfl hc | exact absurd hc Bool.false_ne_true | exact absurd hc Bool.false_ne_true.symm) | fail)
  · obtain ⟨⟨⟨rv, rs, ro⟩, hr1, hr2⟩, rq⟩ := r
    simp only at hc hr1 hr2 ⊢
    subst hc
    rw [if_pos (hr2 rfl)] at he
    refine ⟨(⟨((rv, mv), rs, false), ⟨fun h => (by cases h), fun _ => he.symm⟩⟩, rq), rfl, ?_⟩
    simp only [Bool.false_eq_true, if_false]
    exact ent_e
  · rename_i hok
    obtain ⟨⟨⟨rv, rs, ro⟩, hr1, hr2⟩, rq⟩ := r
    simp only [List.length_map] at hc hok hr1 hr2 ⊢
    subst hok
    obtain ⟨h1, h2, h3⟩ := hr1 rfl
    have hle : (rndG (imN a sh ls) a s).length = s.length := by rw [← h1]; omega
    have hrs : rs = s := by rw [h1]; exact (pre_same (rndG_pre (imN a sh ls) a s) (by omega)).symm
    subst hrs
    rw [if_neg (by omega), if_pos hle] at he
    refine ⟨(⟨((rv, mv), rs, true), ⟨fun _ => ⟨he.symm, h2⟩, fun h => (by cases h)⟩⟩, rq), rfl, ?_⟩
    simp only [if_true, symUG_same hle a.length (Nat.le_refl _)]
    show Ent _ _ (_ :: _ :: .ow [rq] (trSG (imN a sh ls) a rs a.length) :: Δ)
    exact ent_e
  · rename_i hok
    obtain ⟨⟨⟨rv, rs, ro⟩, hr1, hr2⟩, rq⟩ := r
    simp only [List.length_map] at hc hok hr1 hr2 ⊢
    subst hok
    obtain ⟨h1, h2, h3⟩ := hr1 rfl
    have hlen : (rndG (imN a sh ls) a s).length = rs.length := by rw [h1]
    rw [if_neg (by omega), if_neg (by omega), ← h1] at he
    exact wq_next (rv, rs, k) ⟨⟨hrm.nc, hrm.cl, by rw [h1]; exact rndG_nodup hrm.nd, h2, h3⟩, by simp only; omega, he⟩ (by simp only; omega) (by kernel_rfl) ent_e
instance all_ctr {Γ Δ1 Δ : List Atom} {bx : Nat} {v vl vh vk vs vm : Value} {a : List Int} {sh ls : List (List Int)} [hb : PullBk Γ bx [v, vl, vh, vk, vs, vm] Δ1] [h3 : PullOw (List (Sh (List Int))) repList Δ1 [vs] ([] : List (Sh (List Int))) Δ] [h0 : HasRd (List Int) repList Δ [v] a] [h1 : HasIm (List SForm) repList Δ [vl] (formL a sh ls)] [h2 : HasIm (List SForm) repList Δ [vh] (formL a sh sh)] [hk : HasRd (List Int) repList Δ [vk] ([] : List Int)] [ht : HasRd Tab repTab Δ [tabV] (Tab.mk Lib.pow10Tab)] :
    CtrC Tryz.prog 82 [.pointer (some ⟨bx, 0, none⟩)] Γ (RM a sh ls []) (AlN (imN a sh ls) a × Value) (fun q : AlN (imN a sh ls) a × Value => .tuple #[q.2, .bool q.1.1.2.2]) (fun q => .bk bx [v, vl, vh, vk, q.1.1.1.1, q.1.1.1.2] :: .ow [q.1.1.1.1] (q.1.1.2.1.map Sh.mk) :: .ow [q.2] (if q.1.1.2.2 = true then allG (imN a sh ls) a q.1.1.2.1 else []) :: Δ) := ⟨fun s w0 => all_spec s⟩

end Go.Proofs.YtbbdjjlnachnlaaGreatDoor
namespace Go.Proofs.YtbbdjjlnachnlaaGreatDoor
open Go Go.Eng
set_option linter.unusedVariables false
set_option linter.unusedSimpArgs false
set_option synthInstance.maxHeartbeats 400000
set_option synthInstance.maxSize 1000
set_option maxHeartbeats 0
set_option maxRecDepth 20000

instance oneMap {Γ : List Atom} {b : Option Nat} : OneC Γ (.map b) := ⟨fun _ => rfl⟩
theorem up_set {n k : Nat} (h : k < n) : ((upTo n).take k ++ List.replicate (n - k) 0).set k (k : Int) = (upTo n).take (k + 1) ++ List.replicate (n - (k + 1)) 0 := by
  have hl : ((upTo n).take k).length = k := by rw [List.length_take, upTo_len]; omega
  obtain ⟨m, hm⟩ : ∃ m, n - k = m + 1 := ⟨n - k - 1, by omega⟩
  rw [hm, List.set_append_right _ _ (by omega), hl, Nat.sub_self, List.replicate_succ, List.set_cons_zero, List.take_succ_eq_append_getElem (by rw [upTo_len]; exact h), List.append_assoc, show n - (k + 1) = m by omega]
  have := upTo_get h
  rw [List.getD_eq_getElem?_getD, List.getElem?_eq_getElem (by rw [upTo_len]; exact h)] at this
  rw [show (upTo n)[k]'(by rw [upTo_len]; exact h) = (k : Int) from this]
  rfl
theorem firstPerm_spec {w0 : World} {Γ : List Atom} {i : Int} {n : Nat} [hm : ToN i n] (hn : 0 ≤ i ∧ i ≤ 1048576) :
    CJ Tryz.prog 83 [.int .i64 i] w0 Γ (fun q : Value => q) (fun q => .ow [q] (upTo n) :: Γ) := by
  obtain rfl : i.toNat = n := hm.eq
  obtain ⟨n, rfl⟩ : ∃ n : Nat, i = (n : Int) := ⟨i.toNat, by omega⟩
  rw [Int.toNat_natCast]
  refine cj_enter Tryz.func83 Tryz.ntmps83 ?_
  repeat' (first | refine red ?_ | refine redv fun sv => ?_ | fail)
  refine wc_loop_p [9] [10, 11, 4, 12, 13, 14, 15, 16] (ι := Nat) (fun k => [.int .i64 k]) (fun k => [.ow [sv] ((upTo n).take k ++ List.replicate (n - k) 0)]) (fun k => k ≤ n) (fun k => n - k) 0 [.ow [sv] (List.replicate ((n : Nat) : Int).toNat (0 : Int))] (by kernel_rfl) (Nat.zero_le _) rfl ?_
  intro k u l' hl' hk
  simp only [patch, List.map_cons, List.map_nil, List.set_cons_zero, List.set_cons_succ] at hl'
  subst hl'
  simp only [List.cons_append, List.nil_append] at hk ⊢
  have hrl : (List.replicate ((n : Nat) : Int).toNat (0 : Int)).length = n := by simp
  have hkl : ((upTo n).take k ++ List.replicate (n - k) (0 : Int)).length = n := by rw [List.length_append, List.length_take, upTo_len, List.length_replicate]; omega
  repeat' (first | refine red ?_ | refine reds ?_ | (refine redi (fun hc => ?_) (fun hc => ?_) <;> try first | (exfalso; omega) | with_reducible first | exact absurd rfl hc | exact absurd hc Bool.false_ne_true | exact absurd hc Bool.false_ne_true.symm) | fail)
  · rw [up_set (by omega)]
    exact wq_next (k + 1) (by omega) (by omega) (by kernel_rfl) ent_e
  · rw [show k = n by omega, Nat.sub_self, List.replicate_zero, List.append_nil, show (upTo n).take n = upTo n from List.take_of_length_le (by rw [upTo_len]; exact Nat.le_refl _)]
    exact ⟨sv, rfl, ent_e⟩
instance firstPerm_ctr {Γ : List Atom} {i : Int} {n : Nat} [hm : ToN i n] :
    CtrC Tryz.prog 83 [.int .i64 i] Γ (0 ≤ i ∧ i ≤ 1048576) (Value) (fun q : Value => q) (fun q => .ow [q] (upTo n) :: Γ) := ⟨fun s w0 => firstPerm_spec s⟩

theorem norm_closed {x : SSystem} (h : LlP x) (hS : ShpF x.1 (leftsL x)) : (∀ k, k < (shapesOf x.1 (leftsL x)).length → Closed x.1 (shapesOf x.1 (leftsL x)) ((shapesOf x.1 (leftsL x)).getD k default)) ∧ ∀ k, k < (leftsL x).length → Closed x.1 (shapesOf x.1 (leftsL x)) ((leftsL x).getD k default) :=
  ⟨fun k hk => shape_closed (lefts_ok h) (fun s hs => (hS.shp.mem s).2 hs) ((hS.shp.mem _).1 (getD_memD hk)), fun k hk => left_closed (fun s hs => (hS.shp.mem s).2 hs) (getD_memD hk) ((lsC_of h).ok k hk)⟩
theorem shape_hd {a : List Int} {ls : List (List Int)} (hls : ∀ l ∈ ls, termOk a l = true) {s : List Int} (h : IsShape a ls s) : 0 ≤ s.getD 0 0 := by
  obtain ⟨l, hl, k, hk1, hk2, hk3, rfl⟩ := h
  have ht := hls l hl
  have hu := subt_ok ht hk2
  have hsl := subt_len ht hk2
  have hul := termOk_len hu
  have h4 : (subt a l k).getD 0 0 = l.getD k 0 := by
    have h6 : 0 < (subt a l k).length := by omega
    unfold subt
    rw [List.getD_eq_getElem?_getD, List.getElem?_take_of_lt (by omega), List.getElem?_drop, List.getD_eq_getElem?_getD, Nat.add_zero]
  have h5 := (ren_get (t := subt a l k) (k := 0) (by omega)).1
  exact Int.not_lt.1 fun h6 => by have := h5.1 h6; omega
theorem normalAuto_spec {w0 : World} {Γ : List Atom} {v0 v1 : Value} {x : SSystem} [h0 : HasRd (List Int) repList Γ [v0] x.1] [h1 : HasRd (List SRule) repList Γ [v1] x.2] [ht : HasRd (Tab) repTab Γ [tabV] (Tab.mk Lib.pow10Tab)] (hL : LlP x) :
    CJ Tryz.prog 31 [.agg #[v0, v1]] w0 Γ (fun q : Value × Value => .tuple #[.agg #[.int .i64 (normD x).1, q.1, q.2], .bool (normA x).isSome]) (fun q => .ow [q.1] (normD x).2.1 :: .ow [q.2] (normD x).2.2 :: Γ) := by
  refine cj_lift (R := [.rd [v0] x.1, .rd [v1] x.2, .rd [tabV] (Tab.mk Lib.pow10Tab)]) (A := fun q : Value × Value => [.ow [q.1] (normD x).2.1, .ow [q.2] (normD x).2.2]) (fun w1 => ?_) (reads_cons h0 (reads_cons h1 (reads_cons ht (inferInstance)))) (fun _ => inferInstance)
  simp only [List.cons_append, List.nil_append]
  rw [normD_yes hL, norm_yes hL]
  have hls := lsC_of hL
  have hll := hls.len
  have hsl := sigOk_len (sysOk_iff.1 hL.1).1.1
  have hS := shpF_of hls
  have hnc := nc_of hL hS
  have hcl := norm_closed hL hS
  have hsn := hnc.slen
  have hfa : FmA x.1 (shapesOf x.1 (leftsL x)) (leftsL x) := ⟨fun k hk => ⟨hnc.lok k hk, by have hk2 := hk; rw [leftsL_len] at hk2; rw [leftsL_get hk2]; exact (sys_leftN hL.1 hk2).2⟩, by omega⟩
  have hfb : FmA x.1 (shapesOf x.1 (leftsL x)) (shapesOf x.1 (leftsL x)) := ⟨fun k hk => ⟨hnc.sok k hk, shape_hd (lefts_ok hL) ((hS.shp.mem _).1 (getD_memD hk))⟩, by omega⟩
  have hrm : RM x.1 (shapesOf x.1 (leftsL x)) (leftsL x) [] := ⟨hnc, hcl, List.nodup_nil, by simp, fun t ht => by cases ht⟩
  refine cj_enter Tryz.func31 Tryz.ntmps31 ?_
  refine wc_nil_ow (α := Sh (List Int)) (iα := by infer_instance) ?_
  refine wc_nil_ow (α := Int) (iα := by infer_instance) ?_
  refine wc_share (α := List Int) (.slice none 0 0) ?_
  repeat' (first | refine red ?_ | (refine redc fun r => ?_; try have hr := Subtype.property r) | refine redn fun b => ?_ | fail)
  refine wl_share r ?_
  repeat' (first | refine red ?_ | (refine redc fun r => ?_; try have hr := Subtype.property r) | ((refine wa_begin 3 [false, false, false, false, false, false, false, false, false, false, false, false, false, false, false] [] ?_ <;> (first | refine wa_p 0 ?_ | fail) <;> refine wa_p 1 ?_ <;> (first | refine wa_p 2 ?_ | fail) <;> refine wa_p 3 ?_ <;> refine wa_p 4 ?_ <;> refine wa_p 5 ?_ <;> (first | refine wa_p 7 ?_ | fail) <;> refine wa_p 8 ?_ <;> refine wa_p 9 ?_ <;> refine wa_p 10 ?_ <;> (refine wa_do 6 ?_ <;> (repeat' (first | refine red ?_ | (refine redc fun r => ?_; try have hr := Subtype.property r) | fail))) <;> (refine wa_do 11 ?_ <;> (repeat' (first | refine red ?_ | (refine redc fun r => ?_; try have hr := Subtype.property r) | fail))) <;> (refine wa_do 12 ?_ <;> (repeat' (first | refine red ?_ | fail))) <;> (refine wa_do 13 ?_ <;> (repeat' (first | refine red ?_ | refine redn fun b => ?_ | fail))) <;> refine wa_p 14 ?_) <;> (refine wa_end ?_)) | fail)
  rename_i rl
  refine wl_share r ?_
  refine wl_share rl ?_
  repeat' (first | refine red ?_ | (refine redc fun r => ?_; try have hr := Subtype.property r) | (refine redi (fun hc => ?_) (fun hc => ?_) <;> try first | (exfalso; omega) | with_reducible first | exact absurd rfl hc | exact absurd hc Bool.false_ne_true | exact absurd hc Bool.false_ne_true.symm) | fail)
  · have h5 := autG_none (r.1.2.2 hc)
    rw [autD_none h5, h5]
    exact ⟨(.slice none 0 0, .slice none 0 0), rfl, ent_e⟩
  · rename_i hok
    have h6 := (r.1.2.1 hok).1
    rw [if_pos (List.length_eq_zero_iff.1 (by rw [List.length_map] at hc; omega))] at h6
    have h5 := autG_none h6
    rw [autD_none h5, h5]
    exact ⟨(.slice none 0 0, .slice none 0 0), rfl, ent_e⟩
  · rename_i hok hne
    have h6 := (r.1.2.1 hok).1
    rw [if_neg (fun e => hne (by rw [e]; rfl))] at h6
    rw [if_pos hok] at hc
    have h5 := autG_many h6 (by omega)
    rw [autD_none h5, h5]
    exact ⟨(.slice none 0 0, .slice none 0 0), rfl, ent_e⟩
  · rename_i hok hne
    obtain ⟨h6, h16⟩ := r.1.2.1 hok
    rw [if_neg (fun e => hne (by rw [e]; rfl))] at h6
    rw [if_pos hok] at hc ⊢
    have h5 := autG_some h6 (by omega)
    have hml : (r.1.1.2.1.map Sh.mk).length = r.1.1.2.1.length := List.length_map ..
    rw [autD_some h5, h5]
    repeat' (first | refine red ?_ | ((refine wa_begin 7 [false, false, false, false, false, false, false, false, false, false, false, false, false, false, false] [13] ?_ <;> refine wa_p 0 ?_ <;> (first | refine wa_p 1 ?_ | fail) <;> (first | refine wa_p 2 ?_ | fail) <;> (first | refine wa_p 3 ?_ | fail) <;> (first | refine wa_p 4 ?_ | fail) <;> refine wa_p 5 ?_ <;> refine wa_p 6 ?_ <;> (first | refine wa_p 7 ?_ | fail) <;> (first | refine wa_p 8 ?_ | fail) <;> (first | refine wa_p 9 ?_ | fail) <;> (first | refine wa_p 10 ?_ | fail) <;> (refine wa_do 11 ?_ <;> (repeat' (first | refine red ?_ | (refine redc fun r => ?_; try have hr := Subtype.property r) | fail))) <;> (refine wa_do 12 ?_ <;> (repeat' (first | refine red ?_ | fail))) <;> (refine wa_do 13 ?_ <;> (repeat' (first | refine red ?_ | fail))) <;> refine wa_p0 14 ?_) <;> (refine wa_end ?_)) | fail)
    rename_i rr
    rw [hml]
    exact ⟨(rr.2, r), rfl, ent_e⟩
instance normalAuto_ctr {Γ : List Atom} {v0 v1 : Value} {x : SSystem} [h0 : HasRd (List Int) repList Γ [v0] x.1] [h1 : HasRd (List SRule) repList Γ [v1] x.2] [ht : HasRd (Tab) repTab Γ [tabV] (Tab.mk Lib.pow10Tab)] :
    CtrC Tryz.prog 31 [.agg #[v0, v1]] Γ (LlP x) (Value × Value) (fun q : Value × Value => .tuple #[.agg #[.int .i64 (normD x).1, q.1, q.2], .bool (normA x).isSome]) (fun q => .ow [q.1] (normD x).2.1 :: .ow [q.2] (normD x).2.2 :: Γ) := ⟨fun s w0 => normalAuto_spec s⟩

theorem impl_NormalAuto_spec {w0 : World} {Γ : List Atom} {v0 v1 : Value} {x : SSystem} [h0 : HasRd (List Int) repList Γ [v0] x.1] [h1 : HasRd (List SRule) repList Γ [v1] x.2] [ht : HasRd (Tab) repTab Γ [tabV] (Tab.mk Lib.pow10Tab)] :
    CJ Tryz.prog 8 [.agg #[v0, v1]] w0 Γ (fun q : Value × Value => .tuple #[.agg #[.int .i64 (normD x).1, q.1, q.2], .bool (normA x).isSome]) (fun q => .ow [q.1] (normD x).2.1 :: .ow [q.2] (normD x).2.2 :: Γ) := by
  refine cj_lift (R := [.rd [v0] x.1, .rd [v1] x.2, .rd [tabV] (Tab.mk Lib.pow10Tab)]) (A := fun q : Value × Value => [.ow [q.1] (normD x).2.1, .ow [q.2] (normD x).2.2]) (fun w1 => ?_) (reads_cons h0 (reads_cons h1 (reads_cons ht (inferInstance)))) (fun _ => inferInstance)
  simp only [List.cons_append, List.nil_append]
  by_cases hL : LlP x
  · refine cj_enter Tryz.func8 Tryz.ntmps8 ?_
    repeat' (first | refine red ?_ | (refine redc fun r => ?_; try have hr := Subtype.property r) | refine redn fun b => ?_ | (refine redi (fun hc => ?_) (fun hc => ?_) <;> try first | (exfalso; omega) | with_reducible first | exact absurd rfl hc | exact absurd hc Bool.false_ne_true | exact absurd hc Bool.false_ne_true.symm) | fail)
    · exact absurd hL hc
    exact ⟨r, rfl, ent_e⟩
  · rw [normD_none (norm_no hL), norm_no hL]
    refine cj_enter Tryz.func8 Tryz.ntmps8 ?_
    repeat' (first | refine red ?_ | (refine redc fun r => ?_; try have hr := Subtype.property r) | refine redn fun b => ?_ | (refine redi (fun hc => ?_) (fun hc => ?_) <;> try first | (exfalso; omega) | with_reducible first | exact absurd rfl hc | exact absurd hc Bool.false_ne_true | exact absurd hc Bool.false_ne_true.symm) | fail)
    · exact ⟨(.slice none 0 0, .slice none 0 0), rfl, ent_e⟩
    · exact absurd hc hL
instance impl_NormalAuto_ctr {Γ : List Atom} {v0 v1 : Value} {x : SSystem} [h0 : HasRd (List Int) repList Γ [v0] x.1] [h1 : HasRd (List SRule) repList Γ [v1] x.2] [ht : HasRd (Tab) repTab Γ [tabV] (Tab.mk Lib.pow10Tab)] :
    CtrC Tryz.prog 8 [.agg #[v0, v1]] Γ (True) (Value × Value) (fun q : Value × Value => .tuple #[.agg #[.int .i64 (normD x).1, q.1, q.2], .bool (normA x).isSome]) (fun q => .ow [q.1] (normD x).2.1 :: .ow [q.2] (normD x).2.2 :: Γ) := ⟨fun s w0 => impl_NormalAuto_spec⟩

end Go.Proofs.YtbbdjjlnachnlaaGreatDoor
