/- The greatest numbers: the reference. -/
import Derived.Test.YtjblieilblcdnaaTraJ
import Derived.Test.YtjblieilblcdnaaNode2
import Derived.Test.YtjblieilblcdnaaTraN
namespace Go.Proofs.Ytjblieilblcdnaa
open Go Go.Eng
set_option linter.unusedVariables false
set_option linter.unusedSimpArgs false
set_option synthInstance.maxHeartbeats 400000
set_option synthInstance.maxSize 1000
set_option maxHeartbeats 4000000
set_option maxRecDepth 20000

theorem dg1_app {t : List Int} {q : Int} (h : Dg1 t) (hq : 0 ≤ q ∧ q ≤ 1) : Dg1 (t ++ [q]) := fun z hz => by
  rcases List.mem_append.1 hz with h1 | h1
  · exact h z h1
  · rw [List.mem_singleton] at h1; rw [h1]; exact hq
theorem flag_in (v : Bool) : 0 ≤ flag v ∧ flag v ≤ 1 := by cases v <;> decide
abbrev MsT (a : List Int) : Type := { t : List Int // t.length = numN a a.length + numN a a.length ∧ Dg1 t }
theorem l18Most_spec {w0 : World} {Γ : List Atom} {v1 v2 : Value} {a hd : List Int} [h1 : HasRd (List Int) repList Γ [v1] a] [h2 : HasRd (List Int) repList Γ [v2] hd] (hs : sigOk a = true) :
    CJ Try.prog 65 [.agg #[v1], v2] w0 Γ (fun q : Value × MsT a => q.1) (fun q => .ow [q.1] q.2.1 :: Γ) := by
  refine cj_lift (R := [.rd [v1] a, .rd [v2] hd]) (A := fun q : Value × MsT a => [.ow [q.1] q.2.1]) (fun w1 => ?_) (reads_cons h1 (reads_cons h2 (inferInstance))) (fun _ => inferInstance)
  simp only [List.cons_append, List.nil_append]
  have hsg := sigOk_len hs
  have hmx := numN_max hs a.length (Nat.le_refl _)
  refine cj_enter Try.func65 Try.ntmps65 ?_
  repeat' (first | refine red ?_ | refine redv fun sv => ?_ | refine redn fun b => ?_ | fail)
  refine wc_loop_p [5, 6] [11, 12, 13, 14, 15, 7, 18, 19, 20, 21, 22, 23, 24, 27, 28, 29, 25, 26, 16, 17] (ι := Value × List Int × Nat) (fun k => [k.1, .int .i64 k.2.2]) (fun k => [.ow [k.1] k.2.1]) (fun k => k.2.2 ≤ a.length ∧ k.2.1.length = numN a k.2.2 ∧ Dg1 k.2.1) (fun k => a.length - k.2.2) (sv, [], 0) [.ow [sv] ([] : List Int)] (by kernel_rfl) ⟨Nat.zero_le _, rfl, fun i hi => absurd hi (by simp)⟩ rfl ?_
  intro ⟨so, t, f⟩ u l' hl' ⟨hf, htl, hdt⟩
  simp only [patch, List.map_cons, List.map_nil, List.set_cons_zero, List.set_cons_succ] at hl'
  subst hl'
  simp only [List.cons_append, List.nil_append] at hf htl hdt ⊢
  by_cases hfl : f < a.length
  · have haf := sigOk_get hs hfl
    have hn2 : numN a (f + 1) = numN a f + 1 + (a.getD f 0).toNat := rfl
    have hm1 := numN_max hs (f + 1) (by omega)
    repeat' (first | refine red ?_ | (refine redi (fun hc => ?_) (fun hc => ?_) <;> try first | (exfalso; omega) | with_reducible first | exact absurd rfl hc | exact absurd hc Bool.false_ne_true | exact absurd hc Bool.false_ne_true.symm) | fail)
    refine wc_loop_p [5, 7] [18, 19, 20, 21, 22, 23, 24, 27, 28, 29, 25, 26] (ι := Value × List Int × Nat) (fun k => [k.1, .int .i64 k.2.2]) (fun k => [.ow [k.1] k.2.1]) (fun k => (k.2.2 : Int) ≤ a.getD f 0 + 1 ∧ k.2.1.length = numN a f + k.2.2 ∧ Dg1 k.2.1) (fun k => (a.getD f 0 + 1).toNat - k.2.2) (so, t, 0) [.ow [so] t] (by kernel_rfl) ⟨by simp only; omega, htl, hdt⟩ rfl ?_
    intro ⟨sp, z, k⟩ u2 l2 hl2 ⟨hk, hzl, hdz⟩
    simp only [patch, List.map_cons, List.map_nil, List.set_cons_zero, List.set_cons_succ] at hl2
    subst hl2
    simp only [List.cons_append, List.nil_append] at hk hzl hdz ⊢
    by_cases hkl : (k : Int) ≤ a.getD f 0
    · repeat' (first | refine red ?_ | refine redf fun hbi => ?_ | refine reds ?_ | refine redv fun sv => ?_ | (refine redi (fun hc => ?_) (fun hc => ?_) <;> try first | (exfalso; omega) | with_reducible first | exact absurd rfl hc | exact absurd hc Bool.false_ne_true | exact absurd hc Bool.false_ne_true.symm) | fail)
      exact wq_next (sv, z ++ [1], k + 1) ⟨by simp only; omega, by simp only [List.length_append, List.length_cons, List.length_nil]; omega, dg1_app hdz (by omega)⟩ (by simp only; omega) (by kernel_rfl) ent_e
    · repeat' (first | refine red ?_ | refine redf fun hbi => ?_ | refine reds ?_ | (refine redi (fun hc => ?_) (fun hc => ?_) <;> try first | (exfalso; omega) | with_reducible first | exact absurd rfl hc | exact absurd hc Bool.false_ne_true | exact absurd hc Bool.false_ne_true.symm) | fail)
      exact wq_next (sp, z, f + 1) ⟨by simp only; omega, by simp only; omega, hdz⟩ (by simp only; omega) (by kernel_rfl) ent_e
  · obtain rfl : f = a.length := by omega
    repeat' (first | refine red ?_ | (refine redi (fun hc => ?_) (fun hc => ?_) <;> try first | (exfalso; omega) | with_reducible first | exact absurd rfl hc | exact absurd hc Bool.false_ne_true | exact absurd hc Bool.false_ne_true.symm) | fail)
    refine wc_loop_p [5, 8] [30, 31, 32, 33, 34, 37, 38, 39, 9, 40, 41, 42, 43, 44, 45, 46, 49, 50, 51, 52, 53, 54, 55, 47, 48, 35, 36] (ι := Value × List Int × Nat) (fun k => [k.1, .int .i64 k.2.2]) (fun k => [.ow [k.1] k.2.1]) (fun k => k.2.2 ≤ a.length ∧ k.2.1.length = numN a a.length + numN a k.2.2 ∧ Dg1 k.2.1) (fun k => a.length - k.2.2) (so, t, 0) [.ow [so] t] (by kernel_rfl) ⟨Nat.zero_le _, by rw [htl]; rfl, hdt⟩ rfl ?_
    intro ⟨sq, y, f⟩ u l' hl' ⟨hf, hyl, hdy⟩
    simp only [patch, List.map_cons, List.map_nil, List.set_cons_zero, List.set_cons_succ] at hl'
    subst hl'
    simp only [List.cons_append, List.nil_append] at hf hyl hdy ⊢
    by_cases hfl : f < a.length
    · have haf := sigOk_get hs hfl
      have hn2 : numN a (f + 1) = numN a f + 1 + (a.getD f 0).toNat := rfl
      have hm1 := numN_max hs (f + 1) (by omega)
      have hd0 := dg1_app hdy (q := 0) (by omega)
      repeat' (first | refine red ?_ | refine redv fun sv => ?_ | (refine redi (fun hc => ?_) (fun hc => ?_) <;> try first | (exfalso; omega) | with_reducible first | exact absurd rfl hc | exact absurd hc Bool.false_ne_true | exact absurd hc Bool.false_ne_true.symm) | fail)
      refine wc_loop_p [5, 9] [40, 41, 42, 43, 44, 45, 46, 49, 50, 51, 52, 53, 54, 55, 47, 48] (ι := Value × List Int × Nat) (fun k => [k.1, .int .i64 k.2.2]) (fun k => [.ow [k.1] k.2.1]) (fun k => (k.2.2 : Int) ≤ a.getD f 0 ∧ k.2.1.length = numN a a.length + numN a f + 1 + k.2.2 ∧ Dg1 k.2.1) (fun k => (a.getD f 0).toNat - k.2.2) (sv, y ++ [0], 0) [.ow [sv] (y ++ [0])] (by kernel_rfl) ⟨by simp only; omega, by simp only [List.length_append, List.length_cons, List.length_nil]; omega, hd0⟩ rfl ?_
      intro ⟨sp, z, k⟩ u2 l2 hl2 ⟨hk, hzl, hdz⟩
      simp only [patch, List.map_cons, List.map_nil, List.set_cons_zero, List.set_cons_succ] at hl2
      subst hl2
      simp only [List.cons_append, List.nil_append] at hk hzl hdz ⊢
      by_cases hkl : (k : Int) < a.getD f 0
      · have hfi := flag_in (decide ((f : Int) ∈ hd))
        repeat' (first | refine red ?_ | refine redf fun hbi => ?_ | refine reds ?_ | (refine redc fun r => ?_; try have hr := Subtype.property r) | refine redv fun sv => ?_ | (refine redi (fun hc => ?_) (fun hc => ?_) <;> try first | (exfalso; omega) | with_reducible first | exact absurd rfl hc | exact absurd hc Bool.false_ne_true | exact absurd hc Bool.false_ne_true.symm) | fail)
        exact wq_next (sv, z ++ [flag (decide ((f : Int) ∈ hd))], k + 1) ⟨by simp only; omega, by simp only [List.length_append, List.length_cons, List.length_nil]; omega, dg1_app hdz hfi⟩ (by simp only; omega) (by kernel_rfl) ent_e
      · repeat' (first | refine red ?_ | refine redf fun hbi => ?_ | refine reds ?_ | (refine redi (fun hc => ?_) (fun hc => ?_) <;> try first | (exfalso; omega) | with_reducible first | exact absurd rfl hc | exact absurd hc Bool.false_ne_true | exact absurd hc Bool.false_ne_true.symm) | fail)
        exact wq_next (sp, z, f + 1) ⟨by simp only; omega, by simp only; omega, hdz⟩ (by simp only; omega) (by kernel_rfl) ent_e
    · obtain rfl : f = a.length := by omega
      repeat' (first | refine red ?_ | (refine redi (fun hc => ?_) (fun hc => ?_) <;> try first | (exfalso; omega) | with_reducible first | exact absurd rfl hc | exact absurd hc Bool.false_ne_true | exact absurd hc Bool.false_ne_true.symm) | fail)
      exact ⟨(sq, ⟨y, hyl, hdy⟩), rfl, ent_e⟩
instance l18Most_ctr {Γ : List Atom} {v1 v2 : Value} {a hd : List Int} [h1 : HasRd (List Int) repList Γ [v1] a] [h2 : HasRd (List Int) repList Γ [v2] hd] :
    CtrC Try.prog 65 [.agg #[v1], v2] Γ (sigOk a = true) (Value × MsT a) (fun q : Value × MsT a => q.1) (fun q => .ow [q.1] q.2.1 :: Γ) := ⟨fun s w0 => l18Most_spec s⟩

end Go.Proofs.Ytjblieilblcdnaa
namespace Go.Eng
open Go Go.RowKit
set_option synthInstance.maxHeartbeats 400000
section
variable {P : Program} {ops : Array Oper} {Q : Exit → Act → World → Prop} {w0 : World} {rest : List Oper} {l l' : List Value} {Γ Δ Ε : List Atom} {ty : TypeId} {v : Value} {pos : String} {after : Array Edge} {d : Nat}
/-- A list of shared things, read. -/
theorem wl_rdSh {β : Type} {iβ : Rep β} (sv : Value) {xs : List (Sh β)} [hp : PullOw (List (Sh β)) repList Γ [sv] xs Δ] (h : WL P ops Q w0 rest l (@Atom.rd (List β) repList [sv] (xs.map Sh.v) :: Δ)) : WL P ops Q w0 rest l Γ := fun w hs => h w (by
  haveI hi : ToRd (List β) repList Γ sv (xs.map Sh.v) Δ True := inferInstance
  exact hi.ent trivial w0 w hs)
/-- Append to an empty list: what is appended is shared. -/
theorem append_sh0 {T k by_ : Nat} {x y : Operand} {ov tv : Value} {β : Type} {iβ : Rep β} {ys : List β} [hx : Ev l x ov] [hy : Ev l y tv] [hT : Sl P T k by_] [h1 : PullOw (List β) repList Γ [ov] [] Δ] [h2 : HasIm (List β) repList Δ [tv] ys] [hk : SzIs β k] :
    RedV (WL P ops Q w0 (⟨some d, .call { callee := .builtin .append, args := #[x, y], argTypes := #[T, T] }, ty, pos, after, none⟩ :: rest) l Γ) (ys.length * by_ ≤ 140737488355328) (fun sv => WL P ops Q w0 rest (l.set d sv) (.ow [sv] (ys.map Sh.mk) :: Δ)) := ⟨fun s h => by
  refine wl_toSh (xs := ([] : List β)) ov ?_
  haveI : PullOw (List (Sh β)) repList (@Atom.ow (List (Sh β)) repList [ov] (([] : List β).map Sh.mk) :: Δ) [ov] ([] : List (Sh β)) Δ := ⟨.refl _⟩
  exact wl_append_sh (xs := ([] : List (Sh β))) (ys := ys) hk.eq (by simpa using s) h⟩
end
end Go.Eng
namespace Go.Proofs.Ytjblieilblcdnaa
open Go Go.Eng
set_option linter.unusedVariables false
set_option linter.unusedSimpArgs false
set_option synthInstance.maxHeartbeats 400000
set_option synthInstance.maxSize 1000
set_option maxHeartbeats 4000000
set_option maxRecDepth 20000
attribute [local instance 1250] append_sh0

theorem shv_mk {α : Type} (l : List α) : (l.map Sh.mk).map Sh.v = l := by rw [List.map_map]; exact List.map_id l
theorem l16PolysR_spec {w0 : World} {Γ : List Atom} {v1 v2 : Value} {a xs : List Int} [h1 : HasRd (List Int) repList Γ [v1] a] [h2 : HasRd (List Int) repList Γ [v2] xs] (hs : PlC a xs) :
    CJ Try.prog 67 [.agg #[v1], v2] w0 Γ (fun q : Value × PlT a => q.1) (fun q => .rd [q.1] q.2.1 :: Γ) := by
  exact cj_mono (l16Polys_spec hs) (fun q => ⟨q, rfl, ent_rd q.1 ent_e⟩)
instance l16PolysR_ctr {Γ : List Atom} {v1 v2 : Value} {a xs : List Int} [h1 : HasRd (List Int) repList Γ [v1] a] [h2 : HasRd (List Int) repList Γ [v2] xs] :
    CtrC Try.prog 67 [.agg #[v1], v2] Γ (PlC a xs) (Value × PlT a) (fun q : Value × PlT a => q.1) (fun q => .rd [q.1] q.2.1 :: Γ) := ⟨fun s w0 => l16PolysR_spec s⟩

attribute [local instance 2000] l16PolysR_ctr
structure MkC (x : SSystem) (ds : List SDep) (s : List Int) (pl : List SPoly) (most : List Int) : Prop where
  wg : WgC x ds s
  pp : PolysP x.1 pl
  ml : most.length = numN x.1 x.1.length
  md : Dg1 most
abbrev MkT (x : SSystem) (ds : List SDep) (s : List Int) (pl : List SPoly) : Type := { q : List SPoly × Bool // q.2 = true → MarkP x.1 q.1 ∧ q.1.take x.1.length = pl ∧ WghP x ds s q.1 ∧ 0 < (wghD x ds s q.1).length }
theorem mark_app {a : List Int} {pl pm : List SPoly} (h1 : PolysP a pl) (h2 : PolysP a pm) : MarkP a (pl ++ pm) ∧ (pl ++ pm).take a.length = pl := by
  have e1 : (pl ++ pm).take a.length = pl := by rw [← h1.2.1]; exact List.take_left
  have e2 : (pl ++ pm).drop a.length = pm := by rw [← h1.2.1]; exact List.drop_left
  have l1 := h1.2.1
  have l2 := h2.2.1
  exact ⟨⟨by rw [List.length_append]; omega, by rw [e1]; exact h1, by rw [e2]; exact h2⟩, e1⟩
theorem mo_lt {n i j : Nat} {m : Bool} (hj : j < 4 ^ n) (h : m = true → i < j) : (if m = true then 4 ^ n - j + 1 else 0) < (if true = true then 4 ^ n - i + 1 else 0) := by
  rw [if_pos rfl]
  cases m with
  | false => rw [if_neg (by decide)]; omega
  | true => have := h rfl; rw [if_pos rfl]; omega
theorem l18Marked_spec {w0 : World} {Γ : List Atom} {v0 v1 vd vs vp vm : Value} {x : SSystem} {ds : List SDep} {s most : List Int} {pl : List SPoly} [h0 : HasIm (List Int) repList Γ [v0] x.1] [h1 : HasIm (List SRule) repList Γ [v1] x.2] [h4 : HasIm (List SDep) repList Γ [vd] ds] [h2 : HasIm (List Int) repList Γ [vs] s] [h3 : HasIm (List SPoly) repList Γ [vp] pl] [h5 : HasIm (List Int) repList Γ [vm] most] (hs : MkC x ds s pl most) :
    CJ Try.prog 69 [.agg #[v0, v1], vd, vs, vp, vm] w0 Γ (fun q : Value × MkT x ds s pl => .tuple #[q.1, .bool q.2.1.2]) (fun q => .rd [q.1] q.2.1.1 :: Γ) := by
  obtain ⟨hwg, hpp, hml, hmd⟩ := hs
  have hsa := (sysOk_iff.1 hwg.ok).1.1
  have hsg := sigOk_len hsa
  have hmx := numN_max hsa x.1.length (Nat.le_refl _)
  have hll := hpp.2.1
  refine cj_enter Try.func69 Try.ntmps69 ?_
  repeat' (first | refine red ?_ | refine redv fun sv => ?_ | refine redn fun b => ?_ | fail)
  refine wc_loop_p [12, 13] [22, 23, 24, 25, 26, 27, 28, 29, 30, 14, 32, 33, 34, 35, 36, 31, 37, 38, 15, 16, 39, 40, 41, 42, 43, 44, 45, 10, 11, 47, 48, 49, 46, 50, 51, 17, 18, 52, 53] (ι := Value × List Int × Bool) (fun k => [k.1, .bool k.2.2]) (fun k => [.ow [k.1] k.2.1]) (fun k => k.2.1.length = most.length ∧ Dg1 k.2.1) (fun k => if k.2.2 = true then 4 ^ most.length - val4 k.2.1 + 1 else 0) (sv, List.replicate most.length 0, true) [.ow [sv] (List.replicate most.length (0 : Int))] (by kernel_rfl) ⟨by simp, fun q hq => by have := (List.mem_replicate.1 hq).2; omega⟩ rfl ?_
  intro ⟨sq, xs, mo⟩ u l' hl' ⟨hxl, hxd⟩
  simp only [patch, List.map_cons, List.map_nil, List.set_cons_zero, List.set_cons_succ] at hl'
  subst hl'
  simp only [List.cons_append, List.nil_append] at hxl hxd ⊢
  have hv := val4_lt hxd.dig
  rw [hxl] at hv
  cases mo with
  | false =>
    repeat' (first | refine red ?_ | refine redv fun sv => ?_ | fail)
    exact ⟨(sv, ⟨([], false), fun h => nomatch h⟩), rfl, ent_rd sv ent_e⟩
  | true =>
    have hplc : PlC x.1 xs := ⟨hsa, by omega, hxd⟩
    have hnxc : NxC xs most := ⟨hxl, by omega, hxd, hmd⟩
    have hlm : (List.map Sh.mk pl).length = x.1.length := by rw [List.length_map]; exact hll
    repeat' (first | refine red ?_ | fail)
    ((refine wa_begini 4 [false, false, false, false, false, false, false, false, false] [] ?_ <;> refine wa_p 1 ?_ <;> (first | refine wa_p 3 ?_ | fail) <;> refine wa_p 4 ?_ <;> refine wa_p 5 ?_ <;> (refine wa_do 0 ?_ <;> (repeat' (first | refine red ?_ | refine redv fun sv => ?_ | fail))) <;> (refine wa_do 2 ?_ <;> (repeat' (first | refine red ?_ | refine redv fun sv => ?_ | fail))) <;> (refine wa_do 6 ?_ <;> (repeat' (first | refine red ?_ | (refine redc fun r => ?_; (try have hr := Subtype.property r); try (have hr2 := r.2.2.2.1)) | fail))) <;> (refine wa_do 7 ?_ <;> (repeat' (first | refine red ?_ | refine redv fun sv => ?_ | fail))) <;> refine wa_p 8 ?_) <;> (refine wa_end ?_))
    repeat' (first | refine red ?_ | fail)
    refine wl_rdSh sv ?_
    simp only [List.map_append, shv_mk]
    obtain ⟨hmk, hpt⟩ := mark_app hpp r.2.2
    rename Value × PlT x.1 => q
    repeat' (first | refine red ?_ | (refine redc fun r => ?_; try have hr := Subtype.property r) | (refine redi (fun hc => ?_) (fun hc => ?_) <;> try first | (exfalso; omega) | with_reducible first | exact absurd rfl hc | exact absurd hc Bool.false_ne_true | exact absurd hc Bool.false_ne_true.symm) | fail)
    · exact ⟨(sv, ⟨(pl ++ q.2.1, true), fun _ => ⟨hmk, hpt, by assumption, by simp only; omega⟩⟩), rfl, ent_e⟩
    all_goals
      have hr3 := r.2.2
      have hvr := val4_lt hr3.2.1.dig
      rw [hr3.1.trans hxl] at hvr
      exact wq_next (r.1, r.2.1.1, r.2.1.2) ⟨hr3.1.trans hxl, hr3.2.1⟩ (mo_lt hvr hr3.2.2) (by kernel_rfl) ent_e
instance l18Marked_ctr {Γ : List Atom} {v0 v1 vd vs vp vm : Value} {x : SSystem} {ds : List SDep} {s most : List Int} {pl : List SPoly} [h0 : HasIm (List Int) repList Γ [v0] x.1] [h1 : HasIm (List SRule) repList Γ [v1] x.2] [h4 : HasIm (List SDep) repList Γ [vd] ds] [h2 : HasIm (List Int) repList Γ [vs] s] [h3 : HasIm (List SPoly) repList Γ [vp] pl] [h5 : HasIm (List Int) repList Γ [vm] most] :
    CtrC Try.prog 69 [.agg #[v0, v1], vd, vs, vp, vm] Γ (MkC x ds s pl most) (Value × MkT x ds s pl) (fun q : Value × MkT x ds s pl => .tuple #[q.1, .bool q.2.1.2]) (fun q => .rd [q.1] q.2.1.1 :: Γ) := ⟨fun s w0 => l18Marked_spec s⟩

abbrev FmT (x : SSystem) (s : List Int) : Type := { q : List SPoly × Bool // q.2 = true → WgbP x s q.1 ∧ 0 < (wgbD x s q.1).length }
theorem FirstMarked_spec {w0 : World} {Γ : List Atom} {v0 v1 vs : Value} {x : SSystem} {s : List Int} [h0 : HasIm (List Int) repList Γ [v0] x.1] [h1 : HasIm (List SRule) repList Γ [v1] x.2] [h2 : HasIm (List Int) repList Γ [vs] s] :
    CJ Try.prog 43 [.agg #[v0, v1], vs] w0 Γ (fun q : Value × FmT x s => .tuple #[q.1, .bool q.2.1.2]) (fun q => .rd [q.1] q.2.1.1 :: Γ) := by
  have hpl := pairsD_len x
  by_cases hP : PairsP x ∧ StC (pairsD x).length s
  · obtain ⟨hok, hst⟩ := hP
    have hph := pairs_good hok
    have hsl := hst.len
    have hsa := (sysOk_iff.1 hok.1).1.1
    have hsg := sigOk_len hsa
    have hmx := numN_max hsa x.1.length (Nat.le_refl _)
    have hhd : HdC (pairsD x) s := ⟨hpl, hst, fun k hk => by
      have h := hph.c.tm k hk
      have h1 := termOk_len h.1
      have h2 := termOk_len h.2
      omega⟩
    refine cj_enter Try.func43 Try.ntmps43 ?_
    repeat' (first | refine red ?_ | (refine redc fun r => ?_; try have hr := Subtype.property r) | refine redv fun sv => ?_ | refine redn fun b => ?_ | (refine redi (fun hc => ?_) (fun hc => ?_) <;> try first | (exfalso; omega) | with_reducible first | exact absurd rfl hc | exact absurd hc Bool.false_ne_true | exact absurd hc Bool.false_ne_true.symm) | ((refine wa_begin 4 [false, false, false, false, false, false, false] [] ?_ <;> (first | refine wa_p 0 ?_ | fail) <;> refine wa_p 1 ?_ <;> refine wa_p 2 ?_ <;> refine wa_p 3 ?_ <;> (refine wa_do 4 ?_ <;> (repeat' (first | refine red ?_ | (refine redc fun r => ?_; try have hr := Subtype.property r) | fail))) <;> (refine wa_do 5 ?_ <;> (repeat' (first | refine red ?_ | (refine redc fun r => ?_; try have hr := Subtype.property r) | fail))) <;> refine wa_p 6 ?_) <;> (refine wa_end ?_)) | fail)
    · exact absurd hok hc
    · exact absurd hst hc
    · rename Value × MsT x.1 => ms
      obtain ⟨vm, mst, hml, hmd⟩ := ms
      simp only
      rename_i pv _ _
      refine wc_share pv ?_
      refine wc_share vm ?_
      refine wc_loop_c [9, 10] [40, 41, 42, 43, 46, 47, 48, 49, 50, 51, 52, 44, 45] (ι := Int × Nat) (fun k => [.int .i64 k.1, .int .i64 k.2]) (fun k => k.2 ≤ mst.length ∧ -1 ≤ k.1 ∧ k.1 ≤ 20000) (fun k => mst.length - k.2) (1, 0) (by kernel_rfl) ⟨Nat.zero_le _, by decide, by decide⟩ ?_
      intro ⟨tr, k⟩ u l' hl' ⟨hk, ht1, ht2⟩
      simp only [patch, List.map_cons, List.map_nil, List.set_cons_zero, List.set_cons_succ] at hl'
      subst hl'
      simp only at hk ht1 ht2 ⊢
      by_cases hkl : k < mst.length
      · have hmk := hmd _ (getD_mem hkl)
        repeat' (first | refine red ?_ | refine redf fun hbi => ?_ | refine reds ?_ | (refine redc fun r => ?_; try have hr := Subtype.property r) | (refine redi (fun hc => ?_) (fun hc => ?_) <;> try first | (exfalso; omega) | with_reducible first | exact absurd rfl hc | exact absurd hc Bool.false_ne_true | exact absurd hc Bool.false_ne_true.symm) | fail)
        exact wq_next (r.1, k + 1) ⟨by simp only; omega, r.2⟩ (by simp only; omega) (by kernel_rfl) ent_e
      · obtain rfl : k = mst.length := by omega
        have hq : ((mst.length : Nat) : Int).tdiv 2 = ((numN x.1 x.1.length : Nat) : Int) := by
          rw [Int.tdiv_eq_ediv_of_nonneg (by omega)]; omega
        repeat' (first | refine red ?_ | refine reds ?_ | refine redv fun sv => ?_ | (refine redi (fun hc => ?_) (fun hc => ?_) <;> try first | (exfalso; omega) | with_reducible first | exact absurd rfl hc | exact absurd hc Bool.false_ne_true | exact absurd hc Bool.false_ne_true.symm) | fail)
        simp only [hq, Int.toNat_natCast]
        refine wc_loop_p [12, 13] [60, 61, 62, 63, 64, 14, 65, 66, 67, 69, 70, 71, 72, 73, 74, 75, 76, 68, 77, 78, 15, 16, 79, 80, 4, 5, 82, 83, 84, 85, 86, 81, 87, 88, 17, 18, 89, 90] (ι := Value × List Int × Bool) (fun k => [k.1, .bool k.2.2]) (fun k => [.ow [k.1] k.2.1]) (fun k => k.2.1.length = numN x.1 x.1.length ∧ Dg1 k.2.1) (fun k => if k.2.2 = true then 4 ^ numN x.1 x.1.length - val4 k.2.1 + 1 else 0) (sv, List.replicate (numN x.1 x.1.length) 0, decide (0 < tr)) [.ow [sv] (List.replicate (numN x.1 x.1.length) (0 : Int))] (by kernel_rfl) ⟨by simp, fun q hq => by have := (List.mem_replicate.1 hq).2; omega⟩ rfl ?_
        intro ⟨sq, xs, mo⟩ u l' hl' ⟨hxl, hxd⟩
        simp only [patch, List.map_cons, List.map_nil, List.set_cons_zero, List.set_cons_succ] at hl'
        subst hl'
        simp only [List.cons_append, List.nil_append] at hxl hxd ⊢
        have hv := val4_lt hxd.dig
        rw [hxl] at hv
        cases mo with
        | false =>
          repeat' (first | refine red ?_ | refine redv fun sv => ?_ | fail)
          exact ⟨(sv, ⟨([], false), fun h => nomatch h⟩), rfl, ent_rd sv ent_e⟩
        | true =>
          have hplc : PlC x.1 xs := ⟨hsa, hxl, hxd⟩
          have hdt : ∀ n, Dg1 (mst.take n) := fun n q h => hmd q (List.mem_of_mem_take h)
          have hdd : ∀ n, Dg1 (mst.drop n) := fun n q h => hmd q (List.mem_of_mem_drop h)
          have hnxc : NxC xs (mst.take (numN x.1 x.1.length)) := ⟨by rw [List.length_take]; omega, by rw [List.length_take]; omega, hxd, hdt _⟩
          have hdl : (mst.drop (numN x.1 x.1.length)).length = numN x.1 x.1.length := by rw [List.length_drop]; omega
          have hwg : WgC x (pairsD x) s := ⟨hok.1, hpl, hst⟩
          have hnl : ∀ r : Value × NxT xs, val4 r.2.1.1 < 4 ^ numN x.1 x.1.length := fun r => by
            have h := val4_lt r.2.2.2.1.dig
            rwa [r.2.2.1.trans hxl] at h
          repeat' (first | refine red ?_ | (refine redc fun r => ?_; try have hr := Subtype.property r) | refine redv fun sv => ?_ | (refine redi (fun hc => ?_) (fun hc => ?_) <;> try first | (exfalso; omega) | with_reducible first | exact absurd rfl hc | exact absurd hc Bool.false_ne_true | exact absurd hc Bool.false_ne_true.symm) | fail)
          · rename Value × PlT x.1 => q
            have hmc : MkC x (pairsD x) s q.2.1 (mst.drop (numN x.1 x.1.length)) := ⟨hwg, q.2.2, hdl, hdd _⟩
            repeat' (first | refine red ?_ | (refine redc fun r => ?_; try have hr := Subtype.property r) | refine redv fun sv => ?_ | (refine redi (fun hc => ?_) (fun hc => ?_) <;> try first | (exfalso; omega) | with_reducible first | exact absurd rfl hc | exact absurd hc Bool.false_ne_true | exact absurd hc Bool.false_ne_true.symm) | ((refine wa_begin 16 [false, false, false, false, false, false, false, false, false, false, false, false, false] [] ?_ <;> (first | refine wa_p 0 ?_ | fail) <;> refine wa_p 1 ?_ <;> refine wa_p 2 ?_ <;> refine wa_p 3 ?_ <;> refine wa_p 4 ?_ <;> refine wa_p 5 ?_ <;> (refine wa_do 6 ?_ <;> (repeat' (first | refine red ?_ | refine redv fun sv => ?_ | fail))) <;> (refine wa_do 7 ?_ <;> (repeat' (first | refine red ?_ | (refine redc fun r => ?_; try have hr := Subtype.property r) | fail))) <;> refine wa_p 8 ?_ <;> refine wa_p 9 ?_ <;> refine wa_p 10 ?_ <;> refine wa_p 11 ?_ <;> refine wa_p 12 ?_) <;> (refine wa_end ?_)) | fail)
            · obtain ⟨g1, g2, g3, g4⟩ := r.2.2 hc
              have hW : WgbP x s r.2.1.1 := ⟨hok, hst, g1, by rw [g2]; assumption, g3⟩
              exact ⟨(r.1, ⟨(r.2.1.1, true), fun _ => ⟨hW, by rw [wgbD_yes hW]; exact g4⟩⟩), rfl, ent_e⟩
            · exact wq_next (r.1, r.2.1.1, r.2.1.2) ⟨r.2.2.1.trans hxl, r.2.2.2.1⟩ (mo_lt (hnl r) r.2.2.2.2) (by kernel_rfl) ent_e
          · exact wq_next (r.1, r.2.1.1, r.2.1.2) ⟨r.2.2.1.trans hxl, r.2.2.2.1⟩ (mo_lt (hnl r) r.2.2.2.2) (by kernel_rfl) ent_e
  · refine cj_enter Try.func43 Try.ntmps43 ?_
    repeat' (first | refine red ?_ | (refine redc fun r => ?_; try have hr := Subtype.property r) | refine redv fun sv => ?_ | refine redn fun b => ?_ | (refine redi (fun hc => ?_) (fun hc => ?_) <;> try first | (exfalso; omega) | with_reducible first | exact absurd rfl hc | exact absurd hc Bool.false_ne_true | exact absurd hc Bool.false_ne_true.symm) | fail)
    · exact ⟨(sv, ⟨([], false), fun h => nomatch h⟩), rfl, ent_rd sv ent_e⟩
    · exact ⟨(sv, ⟨([], false), fun h => nomatch h⟩), rfl, ent_rd sv ent_e⟩
    · exact absurd ⟨by assumption, by assumption⟩ hP
instance FirstMarked_ctr {Γ : List Atom} {v0 v1 vs : Value} {x : SSystem} {s : List Int} [h0 : HasIm (List Int) repList Γ [v0] x.1] [h1 : HasIm (List SRule) repList Γ [v1] x.2] [h2 : HasIm (List Int) repList Γ [vs] s] :
    CtrC Try.prog 43 [.agg #[v0, v1], vs] Γ (True) (Value × FmT x s) (fun q : Value × FmT x s => .tuple #[q.1, .bool q.2.1.2]) (fun q => .rd [q.1] q.2.1.1 :: Γ) := ⟨fun s w0 => FirstMarked_spec⟩

end Go.Proofs.Ytjblieilblcdnaa
