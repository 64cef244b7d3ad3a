/- The states that a term reaches: the program's side, and the law. -/
import Derived.Test.YtbbdjjlnachnlaaGreatDoorStat
import Derived.Test.YtbbdjjlnachnlaaGreatDoorNrmO
namespace Go.Proofs.YtbbdjjlnachnlaaGreatDoor
open Go Go.Eng
set_option linter.unusedVariables false
set_option linter.unusedSimpArgs false
set_option synthInstance.maxHeartbeats 400000
set_option synthInstance.maxSize 1000

instance : Op_ Tryz.prog 68 U32 repU32 := op_u32 Tryz.underlying68 (by kernel_rfl)
instance : Op_ Tryz.prog 123 (List U32) repList := op_slice Tryz.underlying123 (by kernel_rfl) inferInstance
def InB (args : List U32) (i : Nat) (q : Int) : Prop := (args.getD i default).n.testBit q.toNat = true
def Small (args : List U32) : Prop := ∀ i, i < args.length → (args.getD i default).n < 65536
theorem reaches_spec {w0 : World} {Γ : List Atom} {v0 v1 va : Value} {x : SAuto} {sym : Int} {args : List U32} [h0 : HasRd (List STrans) repList Γ [v0] x.2.1] [h1 : HasRd (List Int) repList Γ [v1] x.2.2] [h2 : HasRd (List U32) repList Γ [va] args] (hx : InS x.2.1 ∧ (∀ j, j < x.2.1.length → (x.2.1.getD j default).1 = sym → (x.2.1.getD j default).2.1.length = args.length) ∧ Small args) : CJ Tryz.prog 99 [.agg #[.int .i64 x.1, v0, v1], .int .i64 sym, va] w0 Γ (fun p : { s : Nat // s < 65536 ∧ ∀ i : Nat, s.testBit i = true ↔ Img x.2.1 x.2.1.length sym (InB args) args.length (i : Int) } => .int .u32 (p.1 : Int)) (fun _ => Γ) := by
  refine cj_lift (R := [.rd [v0] x.2.1, .rd [v1] x.2.2, .rd [va] args]) (A := fun _ => []) (fun w1 => ?_) (reads_cons h0 (reads_cons h1 (reads_cons h2 (inferInstance)))) (fun _ => inferInstance)
  simp only [List.cons_append, List.nil_append]
  obtain ⟨hin, hlen, hsm⟩ := hx
  refine cj_len v0 fun hly => ?_
  refine cj_len va fun hlz => ?_
  refine cj_enter Tryz.func99 Tryz.ntmps99 ?_
  repeat' (first | refine red ?_ | refine redn fun b => ?_ | fail)
  refine wc_loop_c [7, 16] [17, 18, 19, 9, 20, 21, 22, 23, 10, 24, 25, 26, 27, 28, 29, 30, 31, 11, 12, 32, 33, 34, 35, 36, 37, 38, 39, 40, 41, 42, 43, 44, 45, 46, 47, 48, 49] (ι := Nat × Nat) (fun k => [.int .u32 (k.1 : Int), .int .i64 k.2]) (fun k => k.2 ≤ x.2.1.length ∧ k.1 < 65536 ∧ ∀ i : Nat, k.1.testBit i = true ↔ Img x.2.1 k.2 sym (InB args) args.length (i : Int)) (fun k => x.2.1.length - k.2) (0, 0) (by kernel_rfl) ⟨Nat.zero_le _, by decide, fun i => ⟨fun h => by simp at h, fun h => absurd h img_zero⟩⟩ ?_
  intro ⟨s, k⟩ u l' hl' ⟨hk, hs, hm⟩
  simp only [patch, List.map_cons, List.map_nil, List.set_cons_zero, List.set_cons_succ] at hl'
  subst hl'
  simp only at hk hs hm
  by_cases hkl : k < x.2.1.length
  · obtain ⟨hx1, hx2, hx3⟩ := hin _ (getT hkl)
    have hln := hlen k hkl
    repeat' (first | refine red ?_ | refine reds ?_ | refine redn fun b => ?_ | (refine redd fun p cs as_ hcs has hf => ?_; simp only [Un.cells, Un.atoms, Un.fact, List.cons_append, List.nil_append] at hcs has hf; subst hcs has) | (refine redi (fun hc => ?_) (fun hc => ?_) <;> try first | (exfalso; omega) | exact absurd rfl hc) | fail)
    · exact wq_next (s, k + 1) ⟨by simp only; omega, hs, fun i => (hm i).trans (img_no fun h => hc h.1).symm⟩ (by simp only; omega) (by kernel_rfl) ent_e
    have hln2 := hln hc
    refine wc_loop_c [10, 27] [28, 29, 30, 31, 11, 12, 32, 33, 34, 35, 36, 37, 38, 39, 40, 41] (ι := Bool × Nat) (fun j => [.bool j.1, .int .i64 j.2]) (fun j => j.2 ≤ args.length ∧ (j.1 = true ↔ Fit sym (InB args) j.2 (x.2.1.getD k default))) (fun j => args.length - j.2) (true, 0) (by kernel_rfl) ⟨Nat.zero_le _, by simp [Fit]; exact hc⟩ ?_
    intro ⟨is, j⟩ u l' hl' ⟨hj, hjs⟩
    simp only [patch, List.map_cons, List.map_nil, List.set_cons_zero, List.set_cons_succ] at hl'
    subst hl'
    simp only at hj hjs
    have hsmj : j < args.length → (args.getD j default).n < 65536 := hsm j
    have hx1j : j < (x.2.1.getD k default).2.1.length → 0 ≤ (x.2.1.getD k default).2.1.getD j 0 ∧ (x.2.1.getD k default).2.1.getD j 0 < 16 := fun h => hx1 _ (getK h)
    have hsmj' : j < args.length → (args.getD (j : Int).toNat default).n < 65536 := hsm j
    cases is
    · have hno : ¬ Fit sym (InB args) args.length (x.2.1.getD k default) := fun h => by
        have := hjs.2 ⟨h.1, fun i hi => h.2 i (by omega)⟩
        cases this
      repeat' (first | refine red ?_ | refine redf fun hbi => ?_ | refine reds ?_ | (refine redi (fun hc => ?_) (fun hc => ?_) <;> try first | (exfalso; omega) | exact absurd rfl hc) | fail)
      · refine wq_next (false, j + 1) ⟨by simp only; omega, ⟨fun h => (by cases h), fun h => ?_⟩⟩ (by simp only; omega) (by kernel_rfl) ent_e
        exact hjs.2 ⟨h.1, fun i hi => h.2 i (by simp only; omega)⟩
      · exact wq_next (s, k + 1) ⟨by simp only; omega, hs, fun i => (hm i).trans (img_no hno).symm⟩ (by simp only; omega) (by kernel_rfl) ent_e
    · obtain ⟨hts, hta⟩ := hjs.1 rfl
      repeat' (first | refine red ?_ | refine redf fun hbi => ?_ | refine reds ?_ | refine redc fun r => ?_ | (refine redi (fun hc => ?_) (fun hc => ?_) <;> try first | (exfalso; omega) | exact absurd rfl hc) | fail)
      · refine wq_next ((args.getD j default).n.testBit ((x.2.1.getD k default).2.1.getD j 0).toNat, j + 1) ⟨by simp only; omega, ?_⟩ (by simp only; omega) (by kernel_rfl) ent_e
        simp only
        constructor
        · refine fun h => ⟨hts, fun i hi => ?_⟩
          by_cases e : i = j
          · rw [e]; exact h
          · exact hta i (by omega)
        · exact fun h => h.2 j (by omega)
      · have hyes : Fit sym (InB args) args.length (x.2.1.getD k default) := ⟨hts, fun i hi => hta i (by omega)⟩
        refine wq_next (setB s (x.2.1.getD k default).2.2.toNat, k + 1) ⟨by simp only; omega, setB_lt hs (by omega), fun i => ?_⟩ (by simp only; omega) (by kernel_rfl) ent_e
        simp only
        rw [setB_bit, hm, img_yes hyes, show i = (x.2.1.getD k default).2.2.toNat ↔ (i : Int) = (x.2.1.getD k default).2.2 by omega]
  · repeat' (first | refine red ?_ | (refine redi (fun hc => ?_) (fun hc => ?_) <;> try first | (exfalso; omega) | exact absurd rfl hc) | fail)
    obtain rfl : k = x.2.1.length := by omega
    exact ⟨⟨s, hs, hm⟩, rfl, ent_e⟩
instance reaches_ctr {Γ : List Atom} {v0 v1 va : Value} {x : SAuto} {sym : Int} {args : List U32} [h0 : HasRd (List STrans) repList Γ [v0] x.2.1] [h1 : HasRd (List Int) repList Γ [v1] x.2.2] [h2 : HasRd (List U32) repList Γ [va] args] :
    CtrC Tryz.prog 99 [.agg #[.int .i64 x.1, v0, v1], .int .i64 sym, va] Γ (InS x.2.1 ∧ (∀ j, j < x.2.1.length → (x.2.1.getD j default).1 = sym → (x.2.1.getD j default).2.1.length = args.length) ∧ Small args) ({ s : Nat // s < 65536 ∧ ∀ i : Nat, s.testBit i = true ↔ Img x.2.1 x.2.1.length sym (InB args) args.length (i : Int) }) (fun p : { s : Nat // s < 65536 ∧ ∀ i : Nat, s.testBit i = true ↔ Img x.2.1 x.2.1.length sym (InB args) args.length (i : Int) } => .int .u32 (p.1 : Int)) (fun _ => Γ) := ⟨fun s w0 => reaches_spec s⟩

abbrev StB (a t : List Int) (rs : List STrans) (m : Nat) : Type := { s : Nat // s < 65536 ∧ ∀ i : Nat, s.testBit i = true ↔ Rs a t rs m (i : Int) }
theorem statesAt_rec (n : Nat) : ∀ {w0 : World} {Γ : List Atom} {v v0 v1 vt : Value} {a t : List Int} {x : SAuto} {k : Int} {m : Nat} [hm : ToN k m] [h : HasRd (List Int) repList Γ [v] a] [h0 : HasRd (List STrans) repList Γ [v0] x.2.1] [h1 : HasRd (List Int) repList Γ [v1] x.2.2] [h2 : HasRd (List Int) repList Γ [vt] t] (hs : AG a x t ∧ (0 ≤ k ∧ k < t.length) ∧ (t.length : Int) - k ≤ n), CJ Tryz.prog 39 [.agg #[.int .i64 x.1, v0, v1], .agg #[v], vt, .int .i64 k] w0 Γ (fun p : StB a t x.2.1 m => .int .u32 (p.1 : Int)) (fun _ => Γ) := by
  induction n with
  | zero =>
    intro w0 Γ v v0 v1 vt a t x k m hm h h0 h1 h2 hs
    omega
  | succ n ih =>
    intro w0 Γ v v0 v1 vt a t x k m hm h h0 h1 h2 hs
    haveI hI : ∀ (Δ : List Atom) (v v0 v1 vt : Value) (a t : List Int) (x : SAuto) (k : Int) (m : Nat) [ToN k m] [HasRd (List Int) repList Δ [v] a] [HasRd (List STrans) repList Δ [v0] x.2.1] [HasRd (List Int) repList Δ [v1] x.2.2] [HasRd (List Int) repList Δ [vt] t], CtrC Tryz.prog 39 [.agg #[.int .i64 x.1, v0, v1], .agg #[v], vt, .int .i64 k] Δ (AG a x t ∧ (0 ≤ k ∧ k < t.length) ∧ (t.length : Int) - k ≤ n) (StB a t x.2.1 m) (fun p => .int .u32 (p.1 : Int)) (fun _ => Δ) := fun Δ _ _ _ _ _ _ _ _ _ _ _ _ _ _ => ⟨fun s w0 => ih s⟩
    refine cj_lift (R := [.rd [v] a, .rd [v0] x.2.1, .rd [v1] x.2.2, .rd [vt] t]) (A := fun _ => []) (fun w1 => ?_) (reads_cons h (reads_cons h0 (reads_cons h1 (reads_cons h2 (inferInstance))))) (fun _ => inferInstance)
    simp only [List.cons_append, List.nil_append]
    obtain ⟨hag, hk, hkn⟩ := hs
    have hx := hag.au
    have hg := hag.gr
    obtain rfl : k = (m : Int) := by have := hm.eq; omega
    have ht := hg.1
    have hl := termOk_len ht
    have hg0 := hg.2 m (by omega)
    have hin := inS_of hx
    obtain ⟨h3, _, _⟩ := arK_le ht (k := m) (by omega)
    have hkl := kidL_len a t m (arK a t m)
    refine cj_enter Tryz.func39 Tryz.ntmps39 ?_
    repeat' (first | refine red ?_ | refine redc fun r => ?_ | refine redn fun b => ?_ | fail)
    refine wc_share r ?_
    refine wc_loop_p [9, 17] [18, 19, 20, 11, 21, 22, 23, 24, 25, 26, 27, 28, 29] (ι := (List U32 × Value) × Nat) (fun i => [i.1.2, .int .i64 i.2]) (fun i => [.ow [i.1.2] i.1.1]) (fun i => i.2 ≤ arK a t m ∧ i.1.1.length = i.2 ∧ Small i.1.1 ∧ ∀ j, j < i.2 → ∀ q : Nat, InB i.1.1 j q ↔ Rs a t x.2.1 (kidN a t (m + 1) j) q) (fun i => arK a t m - i.2) (([], .slice none 0 0), 0) [.ow [.slice none 0 0] ([] : List U32)] (by kernel_rfl) ⟨Nat.zero_le _, rfl, fun i hi => by simp at hi, fun j hj => by omega⟩ rfl ?_
    intro ⟨⟨ys, sy⟩, i⟩ u l' hl' ⟨hi, hyl, hysm, hys⟩
    simp only [patch, List.map_cons, List.map_nil, List.set_cons_zero, List.set_cons_succ] at hl'
    subst hl'
    simp only [List.cons_append, List.nil_append] at hi hyl hysm hys ⊢
    by_cases hil : i < arK a t m
    · have hga := kidL_get (a := a) (t := t) (k := m) hil
      have hki := kid_lt ht (k := m) (by omega) hil
      have hkt : ((kidL a t m (arK a t m)).getD i 0).toNat = kidN a t (m + 1) i := by rw [hga, Int.toNat_natCast]
      repeat' (first | refine red ?_ | refine redf fun hbi => ?_ | refine reds ?_ | refine redc fun r => ?_ | refine redv fun sv => ?_ | (refine redi (fun hc => ?_) (fun hc => ?_) <;> try first | (exfalso; omega) | exact absurd rfl hc) | fail)
      have hb : ∀ j, j < i + 1 → ((ys ++ [U32.mk r.1]).getD j default).n < 65536 ∧ (j = i → (ys ++ [U32.mk r.1]).getD j default = U32.mk r.1) ∧ (j < i → (ys ++ [U32.mk r.1]).getD j default = ys.getD j default) := fun j hj => by
        by_cases e : j = i
        · have e2 : (ys ++ [U32.mk r.1]).getD j default = U32.mk r.1 := by
            rw [e, List.getD_eq_getElem?_getD, List.getElem?_append_right (by omega), hyl, Nat.sub_self]
            rfl
          exact ⟨by rw [e2]; exact r.2.1, fun _ => e2, fun h => by omega⟩
        · have e2 : (ys ++ [U32.mk r.1]).getD j default = ys.getD j default := by
            rw [List.getD_eq_getElem?_getD, List.getElem?_append_left (by omega), ← List.getD_eq_getElem?_getD]
          exact ⟨by rw [e2]; exact hysm j (by omega), fun h => absurd h e, fun _ => e2⟩
      refine wq_next ((ys ++ [U32.mk r.1], sv), i + 1) ⟨by simp only; omega, by simp [hyl], fun j hj => (hb j (by simp [hyl] at hj; exact hj)).1, fun j hj q => ?_⟩ (by simp only; omega) (by kernel_rfl) ent_e
      simp only at hj
      unfold InB
      simp only
      by_cases e : j = i
      · rw [(hb j hj).2.1 e]
        have h5 := (r.2.2 q).trans (rs_cast hkt)
        rw [e]
        exact h5
      · rw [(hb j hj).2.2 (by omega)]
        exact hys j (by omega) q
    · obtain rfl : i = arK a t m := by omega
      have hcond : InS x.2.1 ∧ (∀ j, j < x.2.1.length → (x.2.1.getD j default).1 = t.getD m 0 → (x.2.1.getD j default).2.1.length = ys.length) ∧ Small ys := ⟨hin, by rw [hyl]; exact auto_args hx hg0, hysm⟩
      repeat' (first | refine red ?_ | (refine redi (fun hc => ?_) (fun hc => ?_) <;> try first | (exfalso; omega) | exact absurd rfl hc) | ((refine wa_begin 7 [false, false, false, false, false, false, false, false] [] ?_ <;> (first | refine wa_p 0 ?_ | fail) <;> refine wa_p 1 ?_ <;> refine wa_p 2 ?_ <;> refine wa_p 3 ?_ <;> (first | refine wa_f 4 fun hbi => ?_ | fail) <;> refine wa_p 5 ?_ <;> (refine wa_do 6 ?_ <;> (repeat' (first | refine red ?_ | refine redc fun r => ?_ | fail))) <;> refine wa_p 7 ?_) <;> (refine wa_end ?_)) | fail)
      refine ⟨⟨r.1, r.2.1, fun q => ?_⟩, rfl, ent_e⟩
      rw [r.2.2 q, hyl]
      have hP : ∀ i, i < arK a t m → ∀ q, (0 ≤ q ∧ InB ys i q) ↔ Rs a t x.2.1 (kidN a t (m + 1) i) q := fun i hi q => by
        constructor
        · intro h
          rw [← (show ((q.toNat : Nat) : Int) = q by omega)]
          exact (hys i hi q.toNat).1 h.2
        · intro h
          have h0 := (rs_in hin h).1
          refine ⟨h0, ?_⟩
          rw [← (show ((q.toNat : Nat) : Int) = q by omega)] at h ⊢
          exact (hys i hi q.toNat).2 h
      rw [← rs_img hP]
      constructor
      · rintro ⟨j, hj, ⟨h1, h2⟩, h3⟩
        refine ⟨j, hj, ⟨h1, fun i hi => ⟨?_, h2 i hi⟩⟩, h3⟩
        have hl3 := hcond.2.1 j hj h1
        exact ((hin _ (getT hj)).1 _ (getK (by omega))).1
      · rintro ⟨j, hj, ⟨h1, h2⟩, h3⟩
        exact ⟨j, hj, ⟨h1, fun i hi => (h2 i hi).2⟩, h3⟩
theorem statesAt_spec {w0 : World} {Γ : List Atom} {v v0 v1 vt : Value} {a t : List Int} {x : SAuto} {k : Int} {m : Nat} [hm : ToN k m] [h : HasRd (List Int) repList Γ [v] a] [h0 : HasRd (List STrans) repList Γ [v0] x.2.1] [h1 : HasRd (List Int) repList Γ [v1] x.2.2] [h2 : HasRd (List Int) repList Γ [vt] t] (hs : AG a x t ∧ (0 ≤ k ∧ k < t.length)) : CJ Tryz.prog 39 [.agg #[.int .i64 x.1, v0, v1], .agg #[v], vt, .int .i64 k] w0 Γ (fun p : StB a t x.2.1 m => .int .u32 (p.1 : Int)) (fun _ => Γ) := by
  exact statesAt_rec 60 ⟨hs.1, hs.2, by have := (termOk_len hs.1.gr.1).2; omega⟩
instance statesAt_ctr {Γ : List Atom} {v v0 v1 vt : Value} {a t : List Int} {x : SAuto} {k : Int} {m : Nat} [hm : ToN k m] [h : HasRd (List Int) repList Γ [v] a] [h0 : HasRd (List STrans) repList Γ [v0] x.2.1] [h1 : HasRd (List Int) repList Γ [v1] x.2.2] [h2 : HasRd (List Int) repList Γ [vt] t] :
    CtrC Tryz.prog 39 [.agg #[.int .i64 x.1, v0, v1], .agg #[v], vt, .int .i64 k] Γ (AG a x t ∧ (0 ≤ k ∧ k < t.length)) (StB a t x.2.1 m) (fun p : StB a t x.2.1 m => .int .u32 (p.1 : Int)) (fun _ => Γ) := ⟨fun s w0 => statesAt_spec s⟩

end Go.Proofs.YtbbdjjlnachnlaaGreatDoor
namespace Go.Proofs.YtbbdjjlnachnlaaGreatDoor
open Go Go.Eng
set_option linter.unusedVariables false
set_option linter.unusedSimpArgs false
set_option synthInstance.maxHeartbeats 400000
set_option synthInstance.maxSize 1000
set_option maxHeartbeats 0
set_option maxRecDepth 20000

/-- The state, if any. -/
noncomputable def nsO (x : SSystem) (t : List Int) : Int := if (normA x).isSome = true ∧ decC (GrP x.1 t) = true then (if (statesOf x.1 (normD x) t).length = 0 then -1 else (statesOf x.1 (normD x) t).getD 0 0) else -1
theorem spec_NormalStateOf_spec {w0 : World} {Γ : List Atom} {v0 v1 vt : Value} {x : SSystem} {t : List Int} [h0 : HasRd (List Int) repList Γ [v0] x.1] [h1 : HasRd (List SRule) repList Γ [v1] x.2] [h2 : HasRd (List Int) repList Γ [vt] t] :
    CJ Tryz.prog 12 [.agg #[v0, v1], vt] w0 Γ (fun _ : Unit => .int .i64 (nsO x t)) (fun _ => Γ) := by
  refine cj_lift (R := [.rd [v0] x.1, .rd [v1] x.2, .rd [vt] t]) (A := fun _ => []) (fun w1 => ?_) (reads_cons h0 (reads_cons h1 (reads_cons h2 (inferInstance)))) (fun _ => inferInstance)
  simp only [List.cons_append, List.nil_append]
  refine cj_enter Tryz.func12 Tryz.ntmps12 ?_
  repeat' (first | refine red ?_ | refine redf fun hbi => ?_ | refine reds ?_ | (refine redc fun r => ?_; try have hr := Subtype.property r) | refine redn fun b => ?_ | (refine redi (fun hc => ?_) (fun hc => ?_) <;> try first | (exfalso; omega) | with_reducible first | exact absurd rfl hc | exact absurd hc Bool.false_ne_true | exact absurd hc Bool.false_ne_true.symm) | fail)
  · refine ⟨(), ?_, ent_e⟩
    rw [nsO, if_neg (fun h => by rw [hc] at h; cases h.1)]
  · refine ⟨(), ?_, ent_e⟩
    rw [nsO, if_neg (fun h => hc (decC_iff.1 h.2))]
  · refine ⟨(), ?_, ent_e⟩
    have hok : (normA x).isSome = true := by assumption
    have hg : GrP x.1 t := by assumption
    rw [nsO, if_pos ⟨hok, decC_t hg⟩, if_pos (by omega)]
  · refine ⟨(), ?_, ent_e⟩
    have hok : (normA x).isSome = true := by assumption
    have hg : GrP x.1 t := by assumption
    rw [nsO, if_pos ⟨hok, decC_t hg⟩, if_neg (by omega)]
    try rfl
instance spec_NormalStateOf_ctr {Γ : List Atom} {v0 v1 vt : Value} {x : SSystem} {t : List Int} [h0 : HasRd (List Int) repList Γ [v0] x.1] [h1 : HasRd (List SRule) repList Γ [v1] x.2] [h2 : HasRd (List Int) repList Γ [vt] t] :
    CtrC Tryz.prog 12 [.agg #[v0, v1], vt] Γ (True) (Unit) (fun _ : Unit => .int .i64 (nsO x t)) (fun _ => Γ) := ⟨fun s w0 => spec_NormalStateOf_spec⟩

end Go.Proofs.YtbbdjjlnachnlaaGreatDoor
namespace Go.Proofs.YtbbdjjlnachnlaaGreatDoor
open Go Go.Eng
set_option linter.unusedVariables false
set_option linter.unusedSimpArgs false
set_option synthInstance.maxHeartbeats 400000
set_option synthInstance.maxSize 1000
def FrT (s t : STrans) : Prop := s.1 = t.1 ∧ s.2.1 = t.2.1
instance {P : Program} {l : List Value} {Γ : List Atom} {ty : TypeId} {v : Value} {T b off : Nat} {x : Operand} {cs : List Value} [h : Ev l x (.pointer (some ⟨b, off, none⟩))] [hT : Sc P T] [hp : HasPt Γ ⟨b, 0, none⟩ cs] [hv : Ge cs off v] : PuC P l Γ (.load T x) ty v := ⟨fun w0 => by
  haveI : Ev l x (.pointer (some ((⟨b, 0, none⟩ : Addr).add off))) := by rw [add_lit, Nat.zero_add]; exact h
  exact pu_load_ptf⟩
/-! what a sure automaton reaches -/
theorem pL_mem {P : Int → Prop} (hi : ∀ q, P q → 0 ≤ q ∧ q < 16) {q : Int} : q ∈ pL P ↔ P q := by
  unfold pL
  rw [List.mem_map]
  constructor
  · rintro ⟨i, hi, rfl⟩
    rw [List.mem_filter, decC_iff] at hi
    exact hi.2
  · intro hq
    have := hi q hq
    refine ⟨q.toNat, ?_, ?_⟩
    · rw [List.mem_filter, decC_iff, List.mem_range]
      refine ⟨by omega, ?_⟩
      rw [show Int.ofNat q.toNat = q by show ((q.toNat : Nat) : Int) = q; omega]
      exact hq
    · show ((q.toNat : Nat) : Int) = q
      omega
end Go.Proofs.YtbbdjjlnachnlaaGreatDoor
