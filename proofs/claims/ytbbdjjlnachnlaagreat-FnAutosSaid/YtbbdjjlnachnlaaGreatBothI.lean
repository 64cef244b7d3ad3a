/- The product of automata: the program's pairs. -/
import Derived.Test.YtbbdjjlnachnlaaGreatBothP
import Derived.Test.YtbbdjjlnachnlaaGreatMtx
namespace Go.Proofs.YtbbdjjlnachnlaaGreat
open Go Go.Eng
set_option linter.unusedVariables false
set_option linter.unusedSimpArgs false
set_option synthInstance.maxHeartbeats 400000
set_option synthInstance.maxSize 1000
set_option maxHeartbeats 2000000
set_option maxRecDepth 20000


/-- All argument pairs are marked. -/
def FitG (g : Nat → Bool) (r s : STrans) (n : Nat) : Prop := r.1 = s.1 ∧ ∀ i, i < n → g ((r.2.1.getD i 0).toNat * 16 + (s.2.1.getD i 0).toNat) = true
structure FitC (r s : STrans) : Prop where
  len : r.1 = s.1 → r.2.1.length = s.2.1.length
  r16 : ∀ q ∈ r.2.1, 0 ≤ q ∧ q < 16
  s16 : ∀ q ∈ s.2.1, 0 ≤ q ∧ q < 16
theorem fits_spec {w0 : World} {Γ : List Atom} {b : Nat} {a0 a1 a2 a3 a4 a5 v v1 : Value} {g : Nat → Bool} {r s : STrans} [hb : HasBk Γ b (a0 :: a1 :: a2 :: a3 :: a4 :: a5 :: bitV g)] [h : HasRd (List Int) repList Γ [v] r.2.1] [h1 : HasRd (List Int) repList Γ [v1] s.2.1] (hC : FitC r s) :
    CJ Tryz.prog 52 [.pointer (some ⟨b, 0, none⟩), .agg #[.int .i64 r.1, v, .int .i64 r.2.2], .agg #[.int .i64 s.1, v1, .int .i64 s.2.2]] w0 Γ (fun _ : Unit => .bool (decC (FitG g r s r.2.1.length))) (fun _ => Γ) := by
  refine cj_len v fun hlx => ?_
  refine cj_len v1 fun hly => ?_
  refine cj_enter Tryz.func52 Tryz.ntmps52 ?_
  repeat' (first | refine red ?_ | refine redn fun b => ?_ | (refine redi (fun hc => ?_) (fun hc => ?_) <;> try first | (exfalso; omega) | with_reducible first | exact absurd rfl hc | exact absurd hc Bool.false_ne_true | exact absurd hc Bool.false_ne_true.symm) | fail)
  · exact ⟨(), ret_bool (decC_f fun h => hc h.1), ent_e⟩
  have hsy : r.1 = s.1 := by assumption
  have hle := hC.len hsy
  refine wc_loop_c [16] [17, 18, 7, 19, 20, 21, 22, 23, 24, 25, 26, 27, 28, 29, 30, 31, 32, 33, 34, 35, 6, 36] (ι := Nat) (fun k => [.int .i64 k]) (fun k => k ≤ r.2.1.length ∧ FitG g r s k) (fun k => r.2.1.length - k) 0 (by kernel_rfl) ⟨Nat.zero_le _, hsy, fun i hi => by omega⟩ ?_
  intro k u l' hl' ⟨hk, hkk⟩
  simp only [patch, List.map_cons, List.map_nil, List.set_cons_zero, List.set_cons_succ] at hl'
  subst hl'
  by_cases hkl : k < r.2.1.length
  · have h3 := hC.r16 _ (getK hkl)
    have h4 := hC.s16 _ (getK (show k < s.2.1.length by omega))
    repeat' (first | refine red ?_ | refine reds ?_ | (refine redi (fun hc => ?_) (fun hc => ?_) <;> try first | (exfalso; omega) | with_reducible first | exact absurd rfl hc | exact absurd hc Bool.false_ne_true | exact absurd hc Bool.false_ne_true.symm) | ((refine wa_begin 6 [false, false, false, false, false, false, false, false, false, false, false, false, false, false, false, false, false] [] ?_ <;> refine wa_p 0 ?_ <;> (first | refine wa_p 1 ?_ | fail) <;> (first | refine wa_p 2 ?_ | fail) <;> refine wa_p 3 ?_ <;> refine wa_p 4 ?_ <;> (first | refine wa_f 5 fun hbi => ?_ | fail) <;> (first | refine wa_p 6 ?_ | fail) <;> (first | refine wa_p 7 ?_ | fail) <;> refine wa_p 8 ?_ <;> refine wa_p 9 ?_ <;> (first | refine wa_f 10 fun hbi => ?_ | fail) <;> (first | refine wa_p 11 ?_ | fail) <;> (first | refine wa_p 12 ?_ | fail) <;> (first | refine wa_p 13 ?_ | fail) <;> (first | refine wa_p 14 ?_ | fail) <;> (first | refine wa_p 15 ?_ | fail) <;> (first | refine wa_p 16 ?_ | fail)) <;> (refine wa_end ?_)) | fail)
    · exact ⟨(), ret_bool (decC_f fun h => by have := h.2 k hkl; rw [hc] at this; cases this), ent_e⟩
    · refine wq_next (k + 1) ⟨by omega, hsy, fun i hi => ?_⟩ (by omega) (by kernel_rfl) ent_e
      by_cases e : i = k
      · rw [e]; exact hc
      · exact hkk.2 i (by omega)
  · repeat' (first | refine red ?_ | (refine redi (fun hc => ?_) (fun hc => ?_) <;> try first | (exfalso; omega) | with_reducible first | exact absurd rfl hc | exact absurd hc Bool.false_ne_true | exact absurd hc Bool.false_ne_true.symm) | fail)
    exact ⟨(), ret_bool (decC_t (by rw [show r.2.1.length = k by omega]; exact hkk)), ent_e⟩
instance fits_ctr {Γ : List Atom} {b : Nat} {a0 a1 a2 a3 a4 a5 v v1 : Value} {g : Nat → Bool} {r s : STrans} [hb : HasBk Γ b (a0 :: a1 :: a2 :: a3 :: a4 :: a5 :: bitV g)] [h : HasRd (List Int) repList Γ [v] r.2.1] [h1 : HasRd (List Int) repList Γ [v1] s.2.1] :
    CtrC Tryz.prog 52 [.pointer (some ⟨b, 0, none⟩), .agg #[.int .i64 r.1, v, .int .i64 r.2.2], .agg #[.int .i64 s.1, v1, .int .i64 s.2.2]] Γ (FitC r s) (Unit) (fun _ : Unit => .bool (decC (FitG g r s r.2.1.length))) (fun _ => Γ) := ⟨fun s w0 => fits_spec s⟩

/-! ### How many are marked -/
def cntB (g : Nat → Bool) : Nat := ((List.range 256).filter g).length
theorem cntB_le (g : Nat → Bool) : cntB g ≤ 256 := by
  unfold cntB
  exact Nat.le_trans (List.length_filter_le _ _) (by simp)
theorem cntB_up {g : Nat → Bool} {j : Nat} (hj : j < 256) (h : g j = false) : cntB (upF g j true) = cntB g + 1 := by
  unfold cntB
  have h1 : ((List.range 256).filter (upF g j true)).length = (j :: (List.range 256).filter g).length := nd_eq (nd_filter _ (nd_range _)) (List.nodup_cons.2 ⟨fun hm => by
    rw [List.mem_filter] at hm
    rw [h] at hm
    exact Bool.noConfusion hm.2, nd_filter _ (nd_range _)⟩) fun i => by
    rw [List.mem_filter, List.mem_cons, List.mem_filter, List.mem_range]
    unfold upF
    by_cases e : i = j
    · rw [if_pos e]; exact ⟨fun _ => .inl e, fun _ => ⟨by omega, rfl⟩⟩
    · rw [if_neg e]; exact ⟨fun h => .inr h, fun h => h.resolve_left e⟩
  rw [h1]; rfl
theorem cntB_zero : cntB (fun _ => false) = 0 := by
  unfold cntB
  rw [List.length_eq_zero_iff, List.filter_eq_nil_iff]
  simp
/-- What is marked is reached. -/
def SndG (x y : SAuto) (g : Nat → Bool) : Prop := ∀ p q : Nat, p < 16 → q < 16 → g (p * 16 + q) = true → PR x y (p : Int) (q : Int)
/-- Nothing more comes by these two. -/
def ShutG (g : Nat → Bool) (r s : STrans) : Prop := FitG g r s r.2.1.length → g (r.2.2.toNat * 16 + s.2.2.toNat) = true
theorem auto16 {a : List Int} {x : SAuto} (h : AutoP a x) {r : STrans} (hr : r ∈ x.2.1) : (∀ q ∈ r.2.1, 0 ≤ q ∧ q < 16) ∧ 0 ≤ r.2.2 ∧ r.2.2 < 16 := inS_of h r hr
theorem full_of {a : List Int} {x y : SAuto} (h : AutoP a x) (h' : AutoP a y) {g : Nat → Bool} (hc : ∀ r ∈ x.2.1, ∀ s ∈ y.2.1, ShutG g r s) {p q : Int} (hp : PR x y p q) : g (p.toNat * 16 + q.toNat) = true := by
  induction hp with
  | mk r s hr hs he _ ih => exact hc r hr s hs ⟨he, ih⟩
theorem cnt_prL {a : List Int} {x y : SAuto} (h : AutoP a x) (h' : AutoP a y) {g : Nat → Bool} (hs : SndG x y g) (hc : ∀ r ∈ x.2.1, ∀ s ∈ y.2.1, ShutG g r s) : cntB g = (prL x y).length := by
  have hb : ∀ p q, (p, q) ∈ prL x y → (0 ≤ p ∧ p < 16) ∧ 0 ≤ q ∧ q < 16 := fun p q hm => by
    have h1 := pr2_in h h' ((prL_mem h h').1 hm)
    have h2 := h.2.1
    have h3 := h'.2.1
    omega
  have e : (prL x y).length = ((prL x y).map fun z => z.1.toNat * 16 + z.2.toNat).length := by rw [List.length_map]
  rw [e]
  unfold cntB
  refine nd_eq (nd_filter _ (nd_range _)) (nd_map (prL_nd x y) fun z hz z' hz' e => ?_) fun i => ?_
  · obtain ⟨p, q⟩ := z
    obtain ⟨p', q'⟩ := z'
    have h1 := hb p q hz
    have h2 := hb p' q' hz'
    simp only at e
    rw [Prod.mk.injEq]
    omega
  · rw [List.mem_filter, List.mem_range, List.mem_map]
    constructor
    · rintro ⟨h1, h2⟩
      refine ⟨(((i / 16 : Nat) : Int), ((i % 16 : Nat) : Int)), (prL_mem h h').2 (hs (i / 16) (i % 16) (by omega) (by omega) (by rw [show i / 16 * 16 + i % 16 = i by omega]; exact h2)), ?_⟩
      simp only [Int.toNat_natCast]
      omega
    · rintro ⟨⟨p, q⟩, hz, rfl⟩
      have h1 := hb p q hz
      exact ⟨by simp only; omega, full_of h h' hc ((prL_mem h h').1 hz)⟩
def GrC (x y : SAuto) : Prop := ∃ a, AutoP a x ∧ AutoP a y
abbrev GrT (x y : SAuto) : Type := { g : Nat → Bool // ∀ p q : Int, 0 ≤ p ∧ p < 16 → 0 ≤ q ∧ q < 16 → (g (p.toNat * 16 + q.toNat) = true ↔ PR x y p q) }
theorem upF_same {α : Type} (g : Nat → α) (j : Nat) (v : α) : upF g j v j = v := by unfold upF; rw [if_pos rfl]
theorem upF_mono {g : Nat → Bool} {j i : Nat} (h : g i = true) : upF g j true i = true := by unfold upF; split <;> first | rfl | exact h
theorem snd_up {x y : SAuto} {g : Nat → Bool} (h : SndG x y g) {p q : Nat} (hp : p < 16) (hq : q < 16) (hP : PR x y (p : Int) (q : Int)) : SndG x y (upF g (p * 16 + q) true) := fun p' q' hp' hq' hu => by
  unfold upF at hu
  split at hu
  · rename_i e
    have e1 : p' = p := by omega
    have e2 : q' = q := by omega
    rw [e1, e2]; exact hP
  · exact h p' q' hp' hq' hu
theorem snd_fit {a : List Int} {x y : SAuto} (h : AutoP a x) (h' : AutoP a y) {g : Nat → Bool} (hs : SndG x y g) {r s : STrans} (hr : r ∈ x.2.1) (hs' : s ∈ y.2.1) (hf : FitG g r s r.2.1.length) : PR x y r.2.2 s.2.2 := by
  refine Pr2.mk r s hr hs' hf.1 fun i hi => ?_
  have hl := auto_len h h' hr hs' hf.1
  have h1 := (auto16 h hr).1 _ (getK hi)
  have h2 := (auto16 h' hs').1 _ (getK (show i < s.2.1.length by omega))
  have := hs _ _ (by omega) (by omega) (hf.2 i hi)
  rw [show (((r.2.1.getD i 0).toNat : Nat) : Int) = r.2.1.getD i 0 by omega, show (((s.2.1.getD i 0).toNat : Nat) : Int) = s.2.1.getD i 0 by omega] at this
  exact this
theorem grow_spec {w0 : World} {Γ Δ : List Atom} {bp : Nat} {va va1 vb vb1 : Value} {x y : SAuto} [hb : PullBk Γ bp (.int .i64 x.1 :: va :: va1 :: .int .i64 y.1 :: vb :: vb1 :: bitV fun _ => false) Δ] [h : HasIm (List STrans) repList Δ [va] x.2.1] [h1 : HasIm (List STrans) repList Δ [vb] y.2.1] (hC : GrC x y) :
    CJ Tryz.prog 50 [.pointer (some ⟨bp, 0, none⟩)] w0 Γ (fun _ : GrT x y => .int .i64 ((prL x y).length : Int)) (fun q => .bk bp (.int .i64 x.1 :: va :: va1 :: .int .i64 y.1 :: vb :: vb1 :: bitV q.1) :: Δ) := by
  refine cj_perm hb.perm ?_
  obtain ⟨a, ax, ay⟩ := hC
  have hxl := ax.2.2.1
  have hyl := ay.2.2.1
  refine cj_enter Tryz.func50 Tryz.ntmps50 ?_
  repeat' (first | refine red ?_ | fail)
  refine wc_loop_p [3, 4] [9, 10, 11, 12, 13, 14, 15, 16, 17, 18, 19, 6, 20, 21, 22, 23, 24, 25, 26, 27, 28, 29, 8, 30, 31, 32, 33, 34, 35, 36, 37, 38, 39, 40, 41, 42, 43, 44, 45, 46, 47, 48, 49, 50, 51, 52, 53, 54, 55, 56, 57, 58, 59] (ι := (Nat → Bool) × Bool) (fun k => [.int .i64 (cntB k.1 : Int), .bool k.2]) (fun k => [.bk bp (.int .i64 x.1 :: va :: va1 :: .int .i64 y.1 :: vb :: vb1 :: bitV k.1)]) (fun k => SndG x y k.1 ∧ (k.2 = false → ∀ r ∈ x.2.1, ∀ s ∈ y.2.1, ShutG k.1 r s)) (fun k => 2 * (256 - cntB k.1) + (if k.2 then 1 else 0)) (fun _ => false, true) [.bk bp (.int .i64 x.1 :: va :: va1 :: .int .i64 y.1 :: vb :: vb1 :: bitV fun _ => false)] (by simp only [cntB_zero]; kernel_rfl) ⟨fun p q _ _ h => (by cases h), fun h => (by cases h)⟩ rfl ?_
  intro ⟨g, ag⟩ u l' hl' ⟨hg, hgc⟩
  simp only [patch, List.map_cons, List.map_nil, List.set_cons_zero, List.set_cons_succ] at hl'
  subst hl'
  simp only [List.cons_append, List.nil_append] at hg hgc ⊢
  have hcl := cntB_le g
  repeat' (first | refine red ?_ | (refine redi (fun hc => ?_) (fun hc => ?_) <;> try first | (exfalso; omega) | with_reducible first | exact absurd rfl hc | exact absurd hc Bool.false_ne_true | exact absurd hc Bool.false_ne_true.symm) | fail)
  · subst hc
    refine wc_loop_p [3, 4, 16] [17, 18, 19, 6, 20, 21, 22, 23, 24, 25, 26, 27, 28, 29, 8, 30, 31, 32, 33, 34, 35, 36, 37, 38, 39, 40, 41, 42, 43, 44, 45, 46, 47, 48, 49, 50, 51, 52, 53, 54, 55, 56, 57, 58, 59] (ι := (Nat → Bool) × Bool × Nat) (fun k => [.int .i64 (cntB k.1 : Int), .bool k.2.1, .int .i64 k.2.2]) (fun k => [.bk bp (.int .i64 x.1 :: va :: va1 :: .int .i64 y.1 :: vb :: vb1 :: bitV k.1)]) (fun k => k.2.2 ≤ x.2.1.length ∧ SndG x y k.1 ∧ (k.2.1 = true → cntB g < cntB k.1) ∧ (k.2.1 = false → k.1 = g ∧ ∀ j, j < k.2.2 → ∀ s ∈ y.2.1, ShutG g (x.2.1.getD j default) s)) (fun k => x.2.1.length - k.2.2) (g, false, 0) [.bk bp (.int .i64 x.1 :: va :: va1 :: .int .i64 y.1 :: vb :: vb1 :: bitV g)] (by kernel_rfl) ⟨Nat.zero_le _, hg, fun h => (by cases h), fun _ => ⟨rfl, fun j hj => absurd hj (Nat.not_lt_zero _)⟩⟩ rfl ?_
    intro ⟨g2, ag, k⟩ u l' hl' ⟨hk, hg2, hag, hnag⟩
    simp only [patch, List.map_cons, List.map_nil, List.set_cons_zero, List.set_cons_succ] at hl'
    subst hl'
    simp only [List.cons_append, List.nil_append] at hk hg2 hag hnag ⊢
    by_cases hkl : k < x.2.1.length
    · have hrm := getT hkl
      have hr16 := auto16 ax hrm
      repeat' (first | refine red ?_ | refine redn fun b => ?_ | (refine redd fun p cs as_ hcs has hf => ?_; simp only [Un.cells, Un.atoms, Un.fact, List.cons_append, List.nil_append] at hcs has hf; subst hcs has) | (refine redi (fun hc => ?_) (fun hc => ?_) <;> try first | (exfalso; omega) | with_reducible first | exact absurd rfl hc | exact absurd hc Bool.false_ne_true | exact absurd hc Bool.false_ne_true.symm) | fail)
      refine wc_loop_p [3, 4, 26] [27, 28, 29, 8, 30, 31, 32, 33, 34, 35, 36, 37, 38, 39, 40, 41, 42, 43, 44, 45, 46, 47, 48, 49, 50, 51, 52, 53, 54, 55, 56, 57, 58] (ι := (Nat → Bool) × Bool × Nat) (fun k => [.int .i64 (cntB k.1 : Int), .bool k.2.1, .int .i64 k.2.2]) (fun k => [.bk bp (.int .i64 x.1 :: va :: va1 :: .int .i64 y.1 :: vb :: vb1 :: bitV k.1)]) (fun m => m.2.2 ≤ y.2.1.length ∧ SndG x y m.1 ∧ (m.2.1 = true → cntB g < cntB m.1) ∧ (m.2.1 = false → m.1 = g ∧ (∀ j, j < k → ∀ s ∈ y.2.1, ShutG g (x.2.1.getD j default) s) ∧ ∀ j, j < m.2.2 → ShutG g (x.2.1.getD k default) (y.2.1.getD j default))) (fun m => y.2.1.length - m.2.2) (g2, ag, 0) [.bk bp (.int .i64 x.1 :: va :: va1 :: .int .i64 y.1 :: vb :: vb1 :: bitV g2)] (by kernel_rfl) ⟨Nat.zero_le _, hg2, hag, fun h => ⟨(hnag h).1, (hnag h).2, fun j hj => absurd hj (Nat.not_lt_zero _)⟩⟩ rfl ?_
      intro ⟨g3, ag3, m⟩ u l' hl' ⟨hm, hg3, hag3, hnag3⟩
      simp only [patch, List.map_cons, List.map_nil, List.set_cons_zero, List.set_cons_succ] at hl'
      subst hl'
      simp only [List.cons_append, List.nil_append] at hm hg3 hag3 hnag3 ⊢
      by_cases hml : m < y.2.1.length
      · have hsm := getT hml
        have hs16 := auto16 ay hsm
        have hfc : FitC (x.2.1.getD k default) (y.2.1.getD m default) := ⟨fun e => auto_len ax ay hrm hsm e, hr16.1, hs16.1⟩
        have hcl3 := cntB_le g3
        have hj : (x.2.1.getD k default).2.2.toNat * 16 + (y.2.1.getD m default).2.2.toNat < 256 := by omega
        have hnext : ∀ j, j < m + 1 → (j < m → ShutG g (x.2.1.getD k default) (y.2.1.getD j default)) → (j = m → ShutG g (x.2.1.getD k default) (y.2.1.getD m default)) → ShutG g (x.2.1.getD k default) (y.2.1.getD j default) := fun j hj h1 h2 => by
          by_cases e : j = m
          · rw [e]; exact h2 e
          · exact h1 (by omega)
        repeat' (first | refine red ?_ | refine reds ?_ | refine redn fun b => ?_ | (refine redd fun p cs as_ hcs has hf => ?_; simp only [Un.cells, Un.atoms, Un.fact, List.cons_append, List.nil_append] at hcs has hf; subst hcs has) | (refine redi (fun hc => ?_) (fun hc => ?_) <;> try first | (exfalso; omega) | with_reducible first | exact absurd rfl hc | exact absurd hc Bool.false_ne_true | exact absurd hc Bool.false_ne_true.symm) | ((refine wa_begin 11 [false, false, false, false, false, false, false, false, false, false, false, false, false, false, false, false, false] [] ?_ <;> refine wa_p 0 ?_ <;> (first | refine wa_p 1 ?_ | fail) <;> (first | refine wa_p 2 ?_ | fail) <;> (first | refine wa_p 3 ?_ | fail) <;> (first | refine wa_p 4 ?_ | fail) <;> (first | refine wa_p 5 ?_ | fail) <;> (first | refine wa_p 6 ?_ | fail) <;> (first | refine wa_p 7 ?_ | fail) <;> (first | refine wa_p 8 ?_ | fail) <;> (first | refine wa_p 9 ?_ | fail) <;> (first | refine wa_p 10 ?_ | fail) <;> refine wa_p 11 ?_ <;> (first | (refine wa_if 41 (fun hc => ?_) (fun hc => ?_) <;> (try first | (exfalso; omega) | with_reducible first | exact absurd rfl hc | exact absurd hc Bool.false_ne_true | exact absurd hc Bool.false_ne_true.symm) <;> first | refine wa_pg 12 ?_ | refine wa_no 12 ?_) | fail) <;> (first | refine wa_pg 13 ?_ | refine wa_no 13 ?_ | fail) <;> (first | refine wa_pg 14 ?_ | refine wa_no 14 ?_ | fail) <;> (refine wa_do 15 ?_ <;> (repeat' (first | refine red ?_ | (refine redc fun r => ?_; try have hr := Subtype.property r) | fail))) <;> (first | refine wa_p 16 ?_ | fail)) <;> (refine wa_end ?_)) | ((refine wa_begin 12 [false, false, false, false, false, false, false, false, false, false] [9] ?_ <;> refine wa_p 0 ?_ <;> (first | refine wa_p 1 ?_ | fail) <;> (first | refine wa_p 2 ?_ | fail) <;> (first | refine wa_p 3 ?_ | fail) <;> (first | refine wa_p 4 ?_ | fail) <;> (first | refine wa_p 5 ?_ | fail) <;> (first | refine wa_p 6 ?_ | fail) <;> (first | refine wa_p 7 ?_ | fail) <;> (first | refine wa_p 8 ?_ | fail) <;> (refine wa_do 9 ?_ <;> (repeat' (first | refine red ?_ | refine reds ?_ | fail)))) <;> (refine wa_end ?_)) | fail)
        · have hup := cntB_up hj ‹g3 _ = false›
          have hP := snd_fit ax ay hg3 hrm hsm hc
          rw [show ((cntB g3 : Nat) : Int) + 1 = ((cntB (upF g3 ((x.2.1.getD k default).2.2.toNat * 16 + (y.2.1.getD m default).2.2.toNat) true) : Nat) : Int) by rw [hup]; rfl]
          refine wq_next (upF g3 ((x.2.1.getD k default).2.2.toNat * 16 + (y.2.1.getD m default).2.2.toNat) true, true, m + 1) ⟨by simp only; omega, snd_up hg3 (by omega) (by omega) ?_, fun _ => ?_, fun h => (by cases h)⟩ (by simp only; omega) (by kernel_rfl) ent_e
          · rw [show (((x.2.1.getD k default).2.2.toNat : Nat) : Int) = (x.2.1.getD k default).2.2 by omega, show (((y.2.1.getD m default).2.2.toNat : Nat) : Int) = (y.2.1.getD m default).2.2 by omega]
            exact hP
          · simp only [hup]
            cases ag3
            · have := (hnag3 rfl).1; rw [this]; omega
            · have := hag3 rfl; omega
        · refine wq_next (g3, ag3, m + 1) ⟨by simp only; omega, hg3, hag3, fun h => ⟨(hnag3 h).1, (hnag3 h).2.1, fun j hj => hnext j hj ((hnag3 h).2.2 j) fun _ hf => ?_⟩⟩ (by simp only; omega) (by kernel_rfl) ent_e
          rw [← (hnag3 h).1] at hf
          exact absurd hf hc
        · refine wq_next (g3, ag3, m + 1) ⟨by simp only; omega, hg3, hag3, fun h => ⟨(hnag3 h).1, (hnag3 h).2.1, fun j hj => hnext j hj ((hnag3 h).2.2 j) fun _ hf => ?_⟩⟩ (by simp only; omega) (by kernel_rfl) ent_e
          rw [← (hnag3 h).1]; exact hc
      · repeat' (first | refine red ?_ | refine reds ?_ | (refine redi (fun hc => ?_) (fun hc => ?_) <;> try first | (exfalso; omega) | with_reducible first | exact absurd rfl hc | exact absurd hc Bool.false_ne_true | exact absurd hc Bool.false_ne_true.symm) | fail)
        refine wq_next (g3, ag3, k + 1) ⟨by simp only; omega, hg3, hag3, fun h => ⟨(hnag3 h).1, fun j hj s hs => ?_⟩⟩ (by simp only; omega) (by kernel_rfl) ent_e
        by_cases e : j = k
        · obtain ⟨i, hi, rfl⟩ := List.getElem_of_mem hs
          have := (hnag3 h).2.2 i (by omega)
          rw [e]
          rw [List.getD_eq_getElem?_getD (l := y.2.1), List.getElem?_eq_getElem hi] at this
          exact this
        · exact (hnag3 h).2.1 j (by simp only at hj; omega) s hs
    · repeat' (first | refine red ?_ | (refine redi (fun hc => ?_) (fun hc => ?_) <;> try first | (exfalso; omega) | with_reducible first | exact absurd rfl hc | exact absurd hc Bool.false_ne_true | exact absurd hc Bool.false_ne_true.symm) | fail)
      refine wq_next (g2, ag) ⟨hg2, fun h => ?_⟩ ?_ (by kernel_rfl) ent_e
      · obtain ⟨rfl, h2⟩ := hnag h
        intro r hr s hs
        obtain ⟨i, hi, rfl⟩ := List.getElem_of_mem hr
        have := h2 i (by omega) s hs
        rw [List.getD_eq_getElem?_getD, List.getElem?_eq_getElem hi] at this
        exact this
      · have := cntB_le g2
        simp only
        cases ag
        · have := (hnag rfl).1
          rw [this]
          simp
        · have := hag rfl
          simp
          omega
  · have hgc := hgc hc
    refine ⟨⟨g, fun p q hp hq => ⟨fun h => ?_, fun h => full_of ax ay hgc h⟩⟩, by rw [cnt_prL ax ay hg hgc], ent_e⟩
    have := hg p.toNat q.toNat (by omega) (by omega) h
    rw [show ((p.toNat : Nat) : Int) = p by omega, show ((q.toNat : Nat) : Int) = q by omega] at this
    exact this
instance grow_ctr {Γ Δ : List Atom} {bp : Nat} {va va1 vb vb1 : Value} {x y : SAuto} [hb : PullBk Γ bp (.int .i64 x.1 :: va :: va1 :: .int .i64 y.1 :: vb :: vb1 :: bitV fun _ => false) Δ] [h : HasIm (List STrans) repList Δ [va] x.2.1] [h1 : HasIm (List STrans) repList Δ [vb] y.2.1] :
    CtrC Tryz.prog 50 [.pointer (some ⟨bp, 0, none⟩)] Γ (GrC x y) (GrT x y) (fun _ : GrT x y => .int .i64 ((prL x y).length : Int)) (fun q => .bk bp (.int .i64 x.1 :: va :: va1 :: .int .i64 y.1 :: vb :: vb1 :: bitV q.1) :: Δ) := ⟨fun s w0 => grow_spec s⟩

end Go.Proofs.YtbbdjjlnachnlaaGreat
