/- The states that a term reaches: the reference's side. -/
import Derived.Test.YtbbdjjlnachnlaaGreatDoorKids
namespace Go.Proofs.YtbbdjjlnachnlaaGreatDoor
open Go Go.Eng
set_option linter.unusedVariables false
set_option linter.unusedSimpArgs false
set_option synthInstance.maxHeartbeats 400000
set_option synthInstance.maxSize 1000

noncomputable def pL (P : Int → Prop) : List Int := ((List.range 16).filter (fun i => decC (P (Int.ofNat i)))).map Int.ofNat
theorem listN_pL {P : Int → Prop} {s : Nat} (h : ∀ i : Nat, i < 16 → (s.testBit i = true ↔ P (i : Int))) : listN s 16 = pL P := by
  unfold listN pL
  congr 1
  refine List.filter_congr (fun i hi => ?_)
  rw [Bool.eq_iff_iff, decC_iff]
  exact h i (by simpa using hi)
theorem pL_of {P : Int → Prop} {xs : List Int} (hi : ∀ q, P q → 0 ≤ q ∧ q < 16) (h : xs.Pairwise (· < ·)) (hm : ∀ q, q ∈ xs ↔ P q) : xs = pL P := by
  refine sorted_ext h ?_ (fun q => ?_)
  · unfold pL
    refine List.Pairwise.map _ (fun a b (hab : a < b) => ?_) (List.Pairwise.filter _ List.pairwise_lt_range)
    show (a : Int) < (b : Int)
    omega
  · rw [hm]
    unfold pL
    rw [List.mem_map]
    constructor
    · intro hq
      have := hi q hq
      refine ⟨q.toNat, ?_, ?_⟩
      · rw [List.mem_filter, decC_iff, List.mem_range]
        refine ⟨by omega, ?_⟩
        rw [show Int.ofNat q.toNat = q by show ((q.toNat : Nat) : Int) = q; omega]
        exact hq
      · show ((q.toNat : Nat) : Int) = q
        omega
    · rintro ⟨i, hi, rfl⟩
      rw [List.mem_filter, decC_iff] at hi
      exact hi.2
/-- The transition leads from these arguments. -/
def Fit (sym : Int) (P : Nat → Int → Prop) (n : Nat) (r : STrans) : Prop := r.1 = sym ∧ ∀ i, i < n → P i (r.2.1.getD i 0)
def Img (rs : List STrans) (m : Nat) (sym : Int) (P : Nat → Int → Prop) (n : Nat) (q : Int) : Prop := ∃ j, j < m ∧ Fit sym P n (rs.getD j default) ∧ (rs.getD j default).2.2 = q
theorem img_zero {rs : List STrans} {sym : Int} {P : Nat → Int → Prop} {n : Nat} {q : Int} : ¬ Img rs 0 sym P n q := fun ⟨j, hj, _⟩ => by omega
theorem img_yes {rs : List STrans} {m : Nat} {sym : Int} {P : Nat → Int → Prop} {n : Nat} {q : Int} (h : Fit sym P n (rs.getD m default)) : Img rs (m + 1) sym P n q ↔ q = (rs.getD m default).2.2 ∨ Img rs m sym P n q := by
  constructor
  · rintro ⟨j, hj, h1, h2⟩
    by_cases e : j = m
    · exact .inl (by rw [← h2, e])
    · exact .inr ⟨j, by omega, h1, h2⟩
  · rintro (e | ⟨j, hj, h1, h2⟩)
    · exact ⟨m, by omega, h, e.symm⟩
    · exact ⟨j, by omega, h1, h2⟩
theorem img_no {rs : List STrans} {m : Nat} {sym : Int} {P : Nat → Int → Prop} {n : Nat} {q : Int} (h : ¬ Fit sym P n (rs.getD m default)) : Img rs (m + 1) sym P n q ↔ Img rs m sym P n q := by
  constructor
  · rintro ⟨j, hj, h1, h2⟩
    by_cases e : j = m
    · rw [e] at h1; exact absurd h1 h
    · exact ⟨j, by omega, h1, h2⟩
  · rintro ⟨j, hj, h1, h2⟩
    exact ⟨j, by omega, h1, h2⟩
theorem img_in {rs : List STrans} (hi : InS rs) {m : Nat} (hm : m ≤ rs.length) {sym : Int} {P : Nat → Int → Prop} {n : Nat} {q : Int} (h : Img rs m sym P n q) : 0 ≤ q ∧ q < 16 := by
  obtain ⟨j, hj, _, rfl⟩ := h
  exact (hi _ (getT (by omega))).2
inductive Rs (a t : List Int) (rs : List STrans) : Nat → Int → Prop
  | mk (k j : Nat) (hj : j < rs.length) (hs : (rs.getD j default).1 = t.getD k 0) (h : ∀ i, i < arK a t k → Rs a t rs (kidN a t (k + 1) i) ((rs.getD j default).2.1.getD i 0)) : Rs a t rs k (rs.getD j default).2.2
theorem rs_img {a t : List Int} {rs : List STrans} {k : Nat} {P : Nat → Int → Prop} (hP : ∀ i, i < arK a t k → ∀ q, P i q ↔ Rs a t rs (kidN a t (k + 1) i) q) (q : Int) : Img rs rs.length (t.getD k 0) P (arK a t k) q ↔ Rs a t rs k q := by
  constructor
  · rintro ⟨j, hj, ⟨h1, h2⟩, rfl⟩
    exact Rs.mk k j hj h1 (fun i hi => (hP i hi _).1 (h2 i hi))
  · rintro ⟨k, j, hj, hs, h⟩
    exact ⟨j, hj, ⟨hs, fun i hi => (hP i hi _).2 (h i hi)⟩, rfl⟩
theorem rs_cast {a t : List Int} {rs : List STrans} {k k' : Nat} {q : Int} (e : k = k') : Rs a t rs k q ↔ Rs a t rs k' q := by rw [e]
theorem auto_args {a t : List Int} {x : SAuto} (h : AutoP a x) {k : Nat} (hk : 0 ≤ t.getD k 0) : ∀ j, j < x.2.1.length → (x.2.1.getD j default).1 = t.getD k 0 → (x.2.1.getD j default).2.1.length = arK a t k := by
  intro j hj he
  have h1 := ((h.2.2.2.2 j hj).1).2.1
  unfold arK ar
  rw [if_neg (by omega), ← he]
  omega
abbrev ImgT (rs : List STrans) (sym : Int) (P : Nat → Int → Prop) (n : Nat) : Type := { ys : List Int // ys.Pairwise (· < ·) ∧ ∀ q, q ∈ ys ↔ Img rs rs.length sym P n q }
def InL (args : List (List Int)) (i : Nat) (q : Int) : Prop := q ∈ args.getD i default
theorem l23Image_spec {w0 : World} {Γ : List Atom} {v0 v1 va : Value} {x : SAuto} {sym : Int} {args : List (List Int)} [h0 : HasRd (List STrans) repList Γ [v0] x.2.1] [h1 : HasRd (List Int) repList Γ [v1] x.2.2] [h2 : HasRd (List (List Int)) repList Γ [va] args] (hx : InS x.2.1 ∧ ∀ j, j < x.2.1.length → (x.2.1.getD j default).1 = sym → (x.2.1.getD j default).2.1.length = args.length) : CJ Tryz.prog 150 [.agg #[.int .i64 x.1, v0, v1], .int .i64 sym, va] w0 Γ (fun p : Value × ImgT x.2.1 sym (InL args) args.length => p.1) (fun p => .ow [p.1] p.2.1 :: Γ) := by
  refine cj_lift (R := [.rd [v0] x.2.1, .rd [v1] x.2.2, .rd [va] args]) (A := fun p : Value × ImgT x.2.1 sym (InL args) args.length => [.ow [p.1] p.2.1]) (fun w1 => ?_) (reads_cons h0 (reads_cons h1 (reads_cons h2 inferInstance))) (fun _ => inferInstance)
  simp only [List.cons_append, List.nil_append]
  obtain ⟨hin, hlen⟩ := hx
  refine cj_len v0 fun hly => ?_
  refine cj_len va fun hlz => ?_
  refine cj_enter Tryz.func150 Tryz.ntmps150 ?_
  repeat' (first | refine red ?_ | refine redv fun sv => ?_ | refine redn fun b => ?_ | fail)
  refine wc_loop_p [7, 8] [13, 14, 15, 16, 17, 20, 21, 22, 23, 24, 9, 25, 26, 27, 28, 10, 11, 29, 30, 31, 32, 33, 34, 35, 38, 39, 40, 41, 42, 43, 44, 45, 46, 47, 36, 37, 48, 49, 50, 51, 52, 18, 19] (ι := (List Int × Value) × Nat) (fun k => [k.1.2, .int .i64 k.2]) (fun k => [.ow [k.1.2] k.1.1]) (fun k => k.2 ≤ x.2.1.length ∧ k.1.1.Pairwise (· < ·) ∧ ∀ q, q ∈ k.1.1 ↔ Img x.2.1 k.2 sym (InL args) args.length q) (fun k => x.2.1.length - k.2) (([], sv), 0) [.ow [sv] ([] : List Int)] (by kernel_rfl) ⟨Nat.zero_le _, List.Pairwise.nil, fun q => ⟨fun h => by simp at h, fun h => absurd h img_zero⟩⟩ rfl ?_
  intro ⟨⟨ys, sy⟩, k⟩ u l' hl' ⟨hk, hp, hm⟩
  simp only [patch, List.map_cons, List.map_nil, List.set_cons_zero, List.set_cons_succ] at hl'
  subst hl'
  simp only [List.cons_append, List.nil_append] at hk hp hm ⊢
  have hyl := sorted_len hp (fun q hq => img_in hin hk ((hm q).1 hq))
  by_cases hkl : k < x.2.1.length
  · obtain ⟨hx1, hx2, hx3⟩ := hin _ (getT hkl)
    have hln := hlen k hkl
    repeat' (first | refine red ?_ | refine redn fun b => ?_ | (refine redd fun p cs as_ hcs has hf => ?_; simp only [Un.cells, Un.atoms, Un.fact, List.cons_append, List.nil_append] at hcs has hf; subst hcs has) | (refine redi (fun hc => ?_) (fun hc => ?_) <;> try first | (exfalso; omega) | exact absurd rfl hc) | fail)
    refine wc_loop_c [10, 11] [29, 30, 31, 32, 33, 34, 35, 38, 39, 40, 41, 42, 43, 44, 45, 46, 47, 36, 37] (ι := Bool × Nat) (fun j => [.bool j.1, .int .i64 j.2]) (fun j => j.2 ≤ args.length ∧ (j.1 = true ↔ Fit sym (InL args) j.2 (x.2.1.getD k default))) (fun j => args.length - j.2) (decide ((x.2.1.getD k default).1 = sym), 0) (by kernel_rfl) ⟨Nat.zero_le _, by simp [Fit]⟩ ?_
    intro ⟨is, j⟩ u l' hl' ⟨hj, hjs⟩
    simp only [patch, List.map_cons, List.map_nil, List.set_cons_zero, List.set_cons_succ] at hl'
    subst hl'
    simp only at hj hjs
    cases is
    · have hno : ¬ Fit sym (InL args) args.length (x.2.1.getD k default) := fun h => by
        have := hjs.2 ⟨h.1, fun i hi => h.2 i (by omega)⟩
        cases this
      repeat' (first | refine red ?_ | refine reds ?_ | (refine redi (fun hc => ?_) (fun hc => ?_) <;> try first | (exfalso; omega) | exact absurd rfl hc) | fail)
      all_goals exact wq_next ((ys, sy), k + 1) ⟨by simp only; omega, hp, fun q => (hm q).trans (img_no hno).symm⟩ (by simp only; omega) (by kernel_rfl) ent_e
    · obtain ⟨hts, hta⟩ := hjs.1 rfl
      have hln2 := hln hts
      repeat' (first | refine red ?_ | refine reds ?_ | refine redc fun r => ?_ | (refine redi (fun hc => ?_) (fun hc => ?_) <;> try first | (exfalso; omega) | exact absurd rfl hc) | ((refine wa_begin 10 [false, false, false, false, false, false, false, false, false, false, false] [] ?_ <;> refine wa_p 0 ?_ <;> refine wa_p 1 ?_ <;> (first | (refine wa_deep 2 fun p cs as_ asb_ hcs has hasb hf => ?_; simp only [Un.cells, Un.atoms, Un.fact, List.cons_append, List.nil_append] at hcs has hasb hf; subst hcs has hasb) | fail) <;> (first | refine wa_p 3 ?_ | fail) <;> (first | refine wa_p 4 ?_ | fail) <;> (first | refine wa_p 5 ?_ | fail) <;> refine wa_p 6 ?_ <;> refine wa_p 7 ?_ <;> (first | refine wa_f 8 fun hbi => ?_ | fail) <;> (refine wa_do 9 ?_ <;> (repeat' (first | refine red ?_ | refine redc fun r => ?_ | fail))) <;> refine wa_p 10 ?_) <;> (refine wa_end ?_)) | fail)
      · refine wq_next (decide ((x.2.1.getD k default).2.1.getD j 0 ∈ args.getD j default), j + 1) ⟨by simp only; omega, ?_⟩ (by simp only; omega) (by kernel_rfl) ent_e
        simp only
        rw [decide_eq_true_iff]
        constructor
        · refine fun h => ⟨hts, fun i hi => ?_⟩
          by_cases e : i = j
          · rw [e]; exact h
          · exact hta i (by omega)
        · exact fun h => h.2 j (by omega)
      · have hri := r.2.2
        have hyes : Fit sym (InL args) args.length (x.2.1.getD k default) := ⟨hts, fun i hi => hta i (by omega)⟩
        exact wq_next ((r.2.1, r.1), k + 1) ⟨by simp only; omega, hri.1, fun q => by simp only; rw [hri.2.1, img_yes hyes, hm]⟩ (by simp only; omega) (by kernel_rfl) ent_e
  · repeat' (first | refine red ?_ | (refine redi (fun hc => ?_) (fun hc => ?_) <;> try first | (exfalso; omega) | exact absurd rfl hc) | fail)
    obtain rfl : k = x.2.1.length := by omega
    exact ⟨(sy, ⟨ys, hp, hm⟩), rfl, ent_e⟩
instance l23Image_ctr {Γ : List Atom} {v0 v1 va : Value} {x : SAuto} {sym : Int} {args : List (List Int)} [h0 : HasRd (List STrans) repList Γ [v0] x.2.1] [h1 : HasRd (List Int) repList Γ [v1] x.2.2] [h2 : HasRd (List (List Int)) repList Γ [va] args] :
    CtrC Tryz.prog 150 [.agg #[.int .i64 x.1, v0, v1], .int .i64 sym, va] Γ (InS x.2.1 ∧ ∀ j, j < x.2.1.length → (x.2.1.getD j default).1 = sym → (x.2.1.getD j default).2.1.length = args.length) (Value × ImgT x.2.1 sym (InL args) args.length) (fun p : Value × ImgT x.2.1 sym (InL args) args.length => p.1) (fun p => .ow [p.1] p.2.1 :: Γ) := ⟨fun s w0 => l23Image_spec s⟩

structure AG (a : List Int) (x : SAuto) (t : List Int) : Prop where
  au : AutoP a x
  gr : GrP a t
abbrev StT (a t : List Int) (rs : List STrans) (m : Nat) : Type := { ys : List Int // ys.Pairwise (· < ·) ∧ ∀ q, q ∈ ys ↔ Rs a t rs m q }
theorem l23States_rec (n : Nat) : ∀ {w0 : World} {Γ : List Atom} {v v0 v1 vt : Value} {a t : List Int} {x : SAuto} {k : Int} {m : Nat} [hm : ToN k m] [h : HasRd (List Int) repList Γ [v] a] [h0 : HasRd (List STrans) repList Γ [v0] x.2.1] [h1 : HasRd (List Int) repList Γ [v1] x.2.2] [h2 : HasRd (List Int) repList Γ [vt] t] (hs : AG a x t ∧ (0 ≤ k ∧ k < t.length) ∧ (t.length : Int) - k ≤ n), CJ Tryz.prog 101 [.agg #[v], .agg #[.int .i64 x.1, v0, v1], vt, .int .i64 k] w0 Γ (fun p : Value × StT a t x.2.1 m => p.1) (fun p => .ow [p.1] p.2.1 :: Γ) := by
  induction n with
  | zero =>
    intro w0 Γ v v0 v1 vt a t x k m hm h h0 h1 h2 hs
    omega
  | succ n ih =>
    intro w0 Γ v v0 v1 vt a t x k m hm h h0 h1 h2 hs
    haveI hI : ∀ (Δ : List Atom) (v v0 v1 vt : Value) (a t : List Int) (x : SAuto) (k : Int) (m : Nat) [ToN k m] [HasRd (List Int) repList Δ [v] a] [HasRd (List STrans) repList Δ [v0] x.2.1] [HasRd (List Int) repList Δ [v1] x.2.2] [HasRd (List Int) repList Δ [vt] t], CtrC Tryz.prog 101 [.agg #[v], .agg #[.int .i64 x.1, v0, v1], vt, .int .i64 k] Δ (AG a x t ∧ (0 ≤ k ∧ k < t.length) ∧ (t.length : Int) - k ≤ n) (Value × StT a t x.2.1 m) (fun p => p.1) (fun p => .ow [p.1] p.2.1 :: Δ) := fun Δ _ _ _ _ _ _ _ _ _ _ _ _ _ _ => ⟨fun s w0 => ih s⟩
    refine cj_lift (R := [.rd [v] a, .rd [v0] x.2.1, .rd [v1] x.2.2, .rd [vt] t]) (A := fun p : Value × StT a t x.2.1 m => [.ow [p.1] p.2.1]) (fun w1 => ?_) (reads_cons h (reads_cons h0 (reads_cons h1 (reads_cons h2 (inferInstance))))) (fun _ => inferInstance)
    simp only [List.cons_append, List.nil_append]
    obtain ⟨hag, hk, hkn⟩ := hs
    have hx := hag.au
    have hg := hag.gr
    obtain rfl : k = (m : Int) := by have := hm.eq; omega
    have ht := hg.1
    have hl := termOk_len ht
    have hg0 := hg.2 m (by omega)
    have hin := inS_of hx
    obtain ⟨h3, _, _⟩ := arK_le ht (k := m) (by omega)
    have hkl := kidL_len a t m (arK a t m)
    refine cj_enter Tryz.func101 Tryz.ntmps101 ?_
    repeat' (first | refine red ?_ | refine redc fun r => ?_ | refine redv fun sv => ?_ | refine redn fun b => ?_ | fail)
    refine wc_share r ?_
    refine wc_loop_p [9, 11] [17, 18, 19, 20, 23, 24, 25, 26, 27, 28, 29, 30, 31, 32, 33, 21, 22] (ι := (List (List Int) × Value) × Nat) (fun i => [i.1.2, .int .i64 i.2]) (fun i => [.ow [i.1.2] i.1.1]) (fun i => i.2 ≤ arK a t m ∧ i.1.1.length = i.2 ∧ ∀ j, j < i.2 → ∀ q, InL i.1.1 j q ↔ Rs a t x.2.1 (kidN a t (m + 1) j) q) (fun i => arK a t m - i.2) (([], sv), 0) [.ow [sv] ([] : List (List Int))] (by kernel_rfl) ⟨Nat.zero_le _, rfl, fun j hj => by omega⟩ rfl ?_
    intro ⟨⟨ys, sy⟩, i⟩ u l' hl' ⟨hi, hyl, hys⟩
    simp only [patch, List.map_cons, List.map_nil, List.set_cons_zero, List.set_cons_succ] at hl'
    subst hl'
    simp only [List.cons_append, List.nil_append] at hi hyl hys ⊢
    by_cases hil : i < arK a t m
    · have hga := kidL_get (a := a) (t := t) (k := m) hil
      have hki := kid_lt ht (k := m) (by omega) hil
      have hkt : ((kidL a t m (arK a t m)).getD i 0).toNat = kidN a t (m + 1) i := by rw [hga, Int.toNat_natCast]
      repeat' (first | refine red ?_ | refine reds ?_ | (refine redi (fun hc => ?_) (fun hc => ?_) <;> try first | (exfalso; omega) | exact absurd rfl hc) | ((refine wa_begin 6 [false, false, false, false, false, false, false, false, false, false, false, false] [10] ?_ <;> refine wa_p 0 ?_ <;> refine wa_p 1 ?_ <;> (first | refine wa_p 2 ?_ | fail) <;> refine wa_p 3 ?_ <;> refine wa_p 4 ?_ <;> refine wa_p 5 ?_ <;> refine wa_p 6 ?_ <;> (first | refine wa_f 7 fun hbi => ?_ | fail) <;> (refine wa_do 8 ?_ <;> (repeat' (first | refine red ?_ | refine redc fun r => ?_ | fail))) <;> (refine wa_do 9 ?_ <;> (repeat' (first | refine red ?_ | refine redv fun sv => ?_ | fail))) <;> (refine wa_do 10 ?_ <;> (repeat' (first | refine red ?_ | refine redv fun sv => ?_ | fail))) <;> refine wa_p0 11 ?_) <;> (refine wa_end ?_)) | fail)
      refine wq_next ((ys ++ [r.2.1], sv), i + 1) ⟨by simp only; omega, by simp [hyl], fun j hj q => ?_⟩ (by simp only; omega) (by kernel_rfl) ent_e
      simp only at hj
      unfold InL
      by_cases e : j = i
      · subst e
        have h5 := (r.2.2.2 q).trans (rs_cast hkt)
        rw [← h5, List.getD_eq_getElem?_getD, List.getElem?_append_right (by omega), hyl, Nat.sub_self]
        rfl
      · rw [List.getD_eq_getElem?_getD, List.getElem?_append_left (by omega), ← List.getD_eq_getElem?_getD]
        exact hys j (by omega) q
    · obtain rfl : i = arK a t m := by omega
      have hcond : InS x.2.1 ∧ ∀ j, j < x.2.1.length → (x.2.1.getD j default).1 = t.getD m 0 → (x.2.1.getD j default).2.1.length = ys.length := ⟨hin, by rw [hyl]; exact auto_args hx hg0⟩
      repeat' (first | refine red ?_ | (refine redi (fun hc => ?_) (fun hc => ?_) <;> try first | (exfalso; omega) | exact absurd rfl hc) | ((refine wa_begin 7 [false, false, false, false, false, false, false, false] [] ?_ <;> (first | refine wa_p 0 ?_ | fail) <;> refine wa_p 1 ?_ <;> refine wa_p 2 ?_ <;> refine wa_p 3 ?_ <;> (first | refine wa_f 4 fun hbi => ?_ | fail) <;> refine wa_p 5 ?_ <;> (refine wa_do 6 ?_ <;> (repeat' (first | refine red ?_ | refine redc fun r => ?_ | fail))) <;> refine wa_p 7 ?_) <;> (refine wa_end ?_)) | fail)
      refine ⟨(r.1, ⟨r.2.1, r.2.2.1, fun q => ?_⟩), rfl, ent_e⟩
      rw [r.2.2.2 q, hyl]
      exact rs_img (fun j hj q => hys j hj q) q
theorem l23States_spec {w0 : World} {Γ : List Atom} {v v0 v1 vt : Value} {a t : List Int} {x : SAuto} {k : Int} {m : Nat} [hm : ToN k m] [h : HasRd (List Int) repList Γ [v] a] [h0 : HasRd (List STrans) repList Γ [v0] x.2.1] [h1 : HasRd (List Int) repList Γ [v1] x.2.2] [h2 : HasRd (List Int) repList Γ [vt] t] (hs : AG a x t ∧ (0 ≤ k ∧ k < t.length)) : CJ Tryz.prog 101 [.agg #[v], .agg #[.int .i64 x.1, v0, v1], vt, .int .i64 k] w0 Γ (fun p : Value × StT a t x.2.1 m => p.1) (fun p => .ow [p.1] p.2.1 :: Γ) := by
  exact l23States_rec 60 ⟨hs.1, hs.2, by have := (termOk_len hs.1.gr.1).2; omega⟩
instance l23States_ctr {Γ : List Atom} {v v0 v1 vt : Value} {a t : List Int} {x : SAuto} {k : Int} {m : Nat} [hm : ToN k m] [h : HasRd (List Int) repList Γ [v] a] [h0 : HasRd (List STrans) repList Γ [v0] x.2.1] [h1 : HasRd (List Int) repList Γ [v1] x.2.2] [h2 : HasRd (List Int) repList Γ [vt] t] :
    CtrC Tryz.prog 101 [.agg #[v], .agg #[.int .i64 x.1, v0, v1], vt, .int .i64 k] Γ (AG a x t ∧ (0 ≤ k ∧ k < t.length)) (Value × StT a t x.2.1 m) (fun p : Value × StT a t x.2.1 m => p.1) (fun p => .ow [p.1] p.2.1 :: Γ) := ⟨fun s w0 => l23States_spec s⟩

theorem rs_in {a t : List Int} {rs : List STrans} (hi : InS rs) {k : Nat} {q : Int} (h : Rs a t rs k q) : 0 ≤ q ∧ q < 16 := by
  cases h with
  | mk _ j hj _ _ => exact (hi _ (getT hj)).2
noncomputable def statesOf (a : List Int) (x : SAuto) (t : List Int) : List Int := if decC (AutoP a x ∧ GrP a t) = true then pL (Rs a t x.2.1 0) else []
theorem st_yes {a t : List Int} {x : SAuto} (h : AutoP a x) (h' : GrP a t) : statesOf a x t = pL (Rs a t x.2.1 0) := by unfold statesOf; rw [if_pos (decC_t ⟨h, h'⟩)]
theorem st_no {a t : List Int} {x : SAuto} (h : ¬ (AutoP a x ∧ GrP a t)) : statesOf a x t = [] := by unfold statesOf; rw [if_neg (by rw [decC_f h]; decide)]
theorem spec_StatesOf_spec {w0 : World} {Γ : List Atom} {v v0 v1 vt : Value} {a t : List Int} {x : SAuto} [h : HasRd (List Int) repList Γ [v] a] [h0 : HasRd (List STrans) repList Γ [v0] x.2.1] [h1 : HasRd (List Int) repList Γ [v1] x.2.2] [h2 : HasRd (List Int) repList Γ [vt] t] : CJ Tryz.prog 41 [.agg #[v], .agg #[.int .i64 x.1, v0, v1], vt] w0 Γ (fun q : Value => q) (fun q => .ow [q] (statesOf a x t) :: Γ) := by
  refine cj_lift (R := [.rd [v] a, .rd [v0] x.2.1, .rd [v1] x.2.2, .rd [vt] t]) (A := fun q => [.ow [q] (statesOf a x t)]) (fun w1 => ?_) (reads_cons h (reads_cons h0 (reads_cons h1 (reads_cons h2 (inferInstance))))) (fun _ => inferInstance)
  simp only [List.cons_append, List.nil_append]
  by_cases hok : AutoP a x ∧ GrP a t
  · obtain ⟨hx, hg⟩ := hok
    have hag : AG a x t := ⟨hx, hg⟩
    have hl := termOk_len hg.1
    rw [st_yes hx hg]
    refine cj_enter Tryz.func41 Tryz.ntmps41 ?_
    repeat' (first | refine red ?_ | refine redc fun r => ?_ | refine redv fun sv => ?_ | refine redn fun b => ?_ | (refine redi (fun hc => ?_) (fun hc => ?_) <;> try first | (exfalso; omega) | exact absurd rfl hc) | fail)
    all_goals first
      | (exfalso; exact ‹¬ AutoP a x› hx)
      | (exfalso; exact ‹¬ GrP a t› hg)
      | skip
    have hri := r.2.2
    rw [← pL_of (fun q hq => rs_in (inS_of hx) hq) hri.1 hri.2]
    exact ⟨_, rfl, ent_e⟩
  · rw [st_no hok]
    refine cj_enter Tryz.func41 Tryz.ntmps41 ?_
    repeat' (first | refine red ?_ | refine redc fun r => ?_ | refine redv fun sv => ?_ | refine redn fun b => ?_ | (refine redi (fun hc => ?_) (fun hc => ?_) <;> try first | (exfalso; omega) | exact absurd rfl hc) | fail)
    all_goals first
      | exact ⟨_, rfl, ent_e⟩
      | (exfalso; exact hok ⟨by assumption, by assumption⟩)
instance spec_StatesOf_ctr {Γ : List Atom} {v v0 v1 vt : Value} {a t : List Int} {x : SAuto} [h : HasRd (List Int) repList Γ [v] a] [h0 : HasRd (List STrans) repList Γ [v0] x.2.1] [h1 : HasRd (List Int) repList Γ [v1] x.2.2] [h2 : HasRd (List Int) repList Γ [vt] t] :
    CtrC Tryz.prog 41 [.agg #[v], .agg #[.int .i64 x.1, v0, v1], vt] Γ (True) (Value) (fun q : Value => q) (fun q => .ow [q] (statesOf a x t) :: Γ) := ⟨fun s w0 => spec_StatesOf_spec⟩

end Go.Proofs.YtbbdjjlnachnlaaGreatDoor
