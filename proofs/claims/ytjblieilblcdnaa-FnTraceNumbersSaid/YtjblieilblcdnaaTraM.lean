/- Pairs weighed by forms: the reference. -/
import Derived.Test.YtjblieilblcdnaaTraL
namespace Go.Proofs.Ytjblieilblcdnaa
open Go Go.Eng
set_option linter.unusedVariables false
set_option linter.unusedSimpArgs false
set_option synthInstance.maxHeartbeats 400000
set_option synthInstance.maxSize 1000
set_option maxHeartbeats 4000000
set_option maxRecDepth 20000

/-- The form of a term, if all is right. -/
noncomputable def fofO (a : List Int) (ps : List SPoly) (t : List Int) : Option SPoly := if dcP (PolysP a ps ∧ termOk a t = true) = true then frmO a ps t else none
theorem fofO_t {a t : List Int} {ps : List SPoly} (h : PolysP a ps ∧ termOk a t = true) : fofO a ps t = frmO a ps t := if_pos (dcP_t h)
theorem fofO_f {a t : List Int} {ps : List SPoly} (h : ¬ (PolysP a ps ∧ termOk a t = true)) : fofO a ps t = none := if_neg (by rw [dcP_f h]; decide)
theorem FormOf_spec {w0 : World} {Γ : List Atom} {v0 v1 vt : Value} {a t : List Int} {ps : List SPoly} [h0 : HasRd (List Int) repList Γ [v0] a] [h1 : HasRd (List SPoly) repList Γ [v1] ps] [h2 : HasRd (List Int) repList Γ [vt] t] :
    CJ Try.prog 89 [.agg #[v0], v1, vt] w0 Γ (fun q : Value × FormT (fofO a ps t) => .tuple #[.agg #[.int .i64 q.2.1.1.1, q.1], .bool q.2.1.2]) (fun q => .ow [q.1] q.2.1.1.2 :: Γ) := by
  refine cj_lift (R := [.rd [v0] a, .rd [v1] ps, .rd [vt] t]) (A := fun q : Value × FormT (fofO a ps t) => [.ow [q.1] q.2.1.1.2]) (fun w1 => ?_) (reads_cons h0 (reads_cons h1 (reads_cons h2 (inferInstance)))) (fun _ => inferInstance)
  simp only [List.cons_append, List.nil_append]
  by_cases hP : PolysP a ps ∧ termOk a t = true
  · have hl := termOk_len hP.2
    have hfr : FrC a ps 60 t := ⟨hP.1, hP.2, hl.2⟩
    rw [fofO_t hP]
    refine cj_enter Try.func89 Try.ntmps89 ?_
    repeat' (first | refine red ?_ | (refine redc fun r => ?_; try have hr := Subtype.property r) | refine redn fun b => ?_ | (refine redi (fun hc => ?_) (fun hc => ?_) <;> try first | (exfalso; omega) | with_reducible first | exact absurd rfl hc | exact absurd hc Bool.false_ne_true | exact absurd hc Bool.false_ne_true.symm) | fail)
    · exact absurd hP.1 hc
    · rw [hP.2] at hc; cases hc
    · exact ⟨r, rfl, ent_e⟩
  · rw [fofO_f hP]
    refine cj_enter Try.func89 Try.ntmps89 ?_
    repeat' (first | refine red ?_ | (refine redc fun r => ?_; try have hr := Subtype.property r) | refine redn fun b => ?_ | (refine redi (fun hc => ?_) (fun hc => ?_) <;> try first | (exfalso; omega) | with_reducible first | exact absurd rfl hc | exact absurd hc Bool.false_ne_true | exact absurd hc Bool.false_ne_true.symm) | fail)
    · exact ⟨(.slice none 0 0, ⟨((0, []), false), rfl, fun h => nomatch h⟩), rfl, ent_e⟩
    · exact ⟨(.slice none 0 0, ⟨((0, []), false), rfl, fun h => nomatch h⟩), rfl, ent_e⟩
    · exact absurd ⟨by assumption, by assumption⟩ hP
instance FormOf_ctr {Γ : List Atom} {v0 v1 vt : Value} {a t : List Int} {ps : List SPoly} [h0 : HasRd (List Int) repList Γ [v0] a] [h1 : HasRd (List SPoly) repList Γ [v1] ps] [h2 : HasRd (List Int) repList Γ [vt] t] :
    CtrC Try.prog 89 [.agg #[v0], v1, vt] Γ (True) (Value × FormT (fofO a ps t)) (fun q : Value × FormT (fofO a ps t) => .tuple #[.agg #[.int .i64 q.2.1.1.1, q.1], .bool q.2.1.2]) (fun q => .ow [q.1] q.2.1.1.2 :: Γ) := ⟨fun s w0 => FormOf_spec⟩

/-- No greater by forms. -/
def AtmO (F : List Int → Option SPoly) (s t : List Int) : Prop := ∃ z y, F s = some z ∧ F t = some y ∧ z.1 ≤ y.1 ∧ MostP z.2 y.2
def LesO (F : List Int → Option SPoly) (s t : List Int) : Prop := ∃ z y, F s = some z ∧ F t = some y ∧ z.1 < y.1 ∧ MostP z.2 y.2
theorem atmO_none {F : List Int → Option SPoly} {s t : List Int} (h : F s = none ∨ F t = none) : ¬ AtmO F s t := fun ⟨z, y, h1, h2, _⟩ => by
  rcases h with h | h
  · rw [h] at h1; cases h1
  · rw [h] at h2; cases h2
theorem lesO_none {F : List Int → Option SPoly} {s t : List Int} (h : F s = none ∨ F t = none) : ¬ LesO F s t := fun ⟨z, y, h1, h2, _⟩ => by
  rcases h with h | h
  · rw [h] at h1; cases h1
  · rw [h] at h2; cases h2
theorem atmO_some {F : List Int → Option SPoly} {s t : List Int} {z y : SPoly} (h1 : F s = some z) (h2 : F t = some y) : AtmO F s t ↔ z.1 ≤ y.1 ∧ MostP z.2 y.2 :=
  ⟨fun ⟨z', y', e1, e2, h⟩ => by rw [h1] at e1; rw [h2] at e2; cases e1; cases e2; exact h, fun h => ⟨z, y, h1, h2, h⟩⟩
theorem lesO_some {F : List Int → Option SPoly} {s t : List Int} {z y : SPoly} (h1 : F s = some z) (h2 : F t = some y) : LesO F s t ↔ z.1 < y.1 ∧ MostP z.2 y.2 :=
  ⟨fun ⟨z', y', e1, e2, h⟩ => by rw [h1] at e1; rw [h2] at e2; cases e1; cases e2; exact h, fun h => ⟨z, y, h1, h2, h⟩⟩
theorem dcP_cg {p q : Prop} (h : p ↔ q) : dcP p = dcP q := by rw [propext h]
theorem formT_none {o : Option SPoly} (q : FormT o) (h : q.1.2 = false) : o = none := Option.isNone_iff_eq_none.1 (by rw [← Option.not_isSome, ← q.2.1, h]; rfl)
theorem PolyAtMost_spec {w0 : World} {Γ : List Atom} {v0 v1 vs vt : Value} {a s t : List Int} {ps : List SPoly} [h0 : HasRd (List Int) repList Γ [v0] a] [h1 : HasRd (List SPoly) repList Γ [v1] ps] [h2 : HasRd (List Int) repList Γ [vs] s] [h3 : HasRd (List Int) repList Γ [vt] t] :
    CJ Try.prog 84 [.agg #[v0], v1, vs, vt] w0 Γ (fun _ : Unit => .bool (dcP (AtmO (fofO a ps) s t))) (fun _ => Γ) := by
  refine cj_lift (R := [.rd [v0] a, .rd [v1] ps, .rd [vs] s, .rd [vt] t]) (A := fun _ => []) (fun w1 => ?_) (reads_cons h0 (reads_cons h1 (reads_cons h2 (reads_cons h3 (inferInstance))))) (fun _ => inferInstance)
  simp only [List.cons_append, List.nil_append]
  refine cj_enter Try.func84 Try.ntmps84 ?_
  repeat' (first | refine red ?_ | (refine redc fun r => ?_; try have hr := Subtype.property r) | refine redn fun b => ?_ | (refine redi (fun hc => ?_) (fun hc => ?_) <;> try first | (exfalso; omega) | with_reducible first | exact absurd rfl hc | exact absurd hc Bool.false_ne_true | exact absurd hc Bool.false_ne_true.symm) | fail)
  all_goals
    rename Value × FormT (fofO a ps s) => r1
    rename Value × FormT (fofO a ps t) => r2
    first
      | exact ⟨(), ret_bool (dcP_f (atmO_none (.inl (formT_none r1.2 (by assumption))))), ent_e⟩
      | exact ⟨(), ret_bool (dcP_f (atmO_none (.inr (formT_none r2.2 (by assumption))))), ent_e⟩
      | (have g1 := r1.2.2.2 (by assumption)
         have g2 := r2.2.2.2 (by assumption)
         first
           | exact ⟨(), ret_bool (dcP_f fun h => by have := ((atmO_some g1 g2).1 h).1; omega), ent_e⟩
           | exact ⟨(), ret_bool (dcP_cg ((atmO_some g1 g2).trans ⟨fun h => h.2, fun h => ⟨by assumption, h⟩⟩)), ent_e⟩)
instance PolyAtMost_ctr {Γ : List Atom} {v0 v1 vs vt : Value} {a s t : List Int} {ps : List SPoly} [h0 : HasRd (List Int) repList Γ [v0] a] [h1 : HasRd (List SPoly) repList Γ [v1] ps] [h2 : HasRd (List Int) repList Γ [vs] s] [h3 : HasRd (List Int) repList Γ [vt] t] :
    CtrC Try.prog 84 [.agg #[v0], v1, vs, vt] Γ (True) (Unit) (fun _ : Unit => .bool (dcP (AtmO (fofO a ps) s t))) (fun _ => Γ) := ⟨fun s w0 => PolyAtMost_spec⟩

/-- By the forms no rule rises. -/
structure AlwP (x : SSystem) (ps : List SPoly) : Prop where
  ok : sysOk x = true
  pp : PolysP x.1 ps
  le : ∀ i, i < x.2.length → AtmO (fofO x.1 ps) (x.2.getD i default).2 (x.2.getD i default).1
theorem PolyAllows_spec {w0 : World} {Γ : List Atom} {v0 v1 vp : Value} {x : SSystem} {ps : List SPoly} [h0 : HasRd (List Int) repList Γ [v0] x.1] [h1 : HasRd (List SRule) repList Γ [v1] x.2] [h2 : HasRd (List SPoly) repList Γ [vp] ps] :
    CJ Try.prog 68 [.agg #[v0, v1], vp] w0 Γ (fun _ : Unit => .bool (dcP (AlwP x ps))) (fun _ => Γ) := by
  refine cj_lift (R := [.rd [v0] x.1, .rd [v1] x.2, .rd [vp] ps]) (A := fun _ => []) (fun w1 => ?_) (reads_cons h0 (reads_cons h1 (reads_cons h2 (inferInstance)))) (fun _ => inferInstance)
  simp only [List.cons_append, List.nil_append]
  refine cj_len v1 fun hlr => ?_
  refine cj_enter Try.func68 Try.ntmps68 ?_
  repeat' (first | refine red ?_ | (refine redc fun r => ?_; try have hr := Subtype.property r) | refine redn fun b => ?_ | (refine redi (fun hc => ?_) (fun hc => ?_) <;> try first | (exfalso; omega) | with_reducible first | exact absurd rfl hc | exact absurd hc Bool.false_ne_true | exact absurd hc Bool.false_ne_true.symm) | fail)
  · exact ⟨(), ret_bool (dcP_f fun h => by have := h.ok; rw [hc] at this; cases this), ent_e⟩
  · exact ⟨(), ret_bool (dcP_f fun h => hc h.pp), ent_e⟩
  rename PolysP x.1 ps => hpp
  rename sysOk x = true => hok
  refine wc_loop_c [5] [16, 17, 18, 19, 20, 23, 24, 25, 26, 27, 28, 29, 30, 31, 32, 33, 34, 35, 36, 37, 38, 39, 4, 21, 22] (ι := Nat) (fun k => [.int .i64 k]) (fun k => k ≤ x.2.length ∧ ∀ i, i < k → AtmO (fofO x.1 ps) (x.2.getD i default).2 (x.2.getD i default).1) (fun k => x.2.length - k) 0 (by kernel_rfl) ⟨Nat.zero_le _, fun f hf => absurd hf (Nat.not_lt_zero f)⟩ ?_
  intro k u l' hl' ⟨hk, hI⟩
  simp only [patch, List.map_cons, List.map_nil, List.set_cons_zero, List.set_cons_succ] at hl'
  subst hl'
  by_cases hkl : k < x.2.length
  · repeat' (first | refine red ?_ | refine reds ?_ | (refine redi (fun hc => ?_) (fun hc => ?_) <;> try first | (exfalso; omega) | with_reducible first | exact absurd rfl hc | exact absurd hc Bool.false_ne_true | exact absurd hc Bool.false_ne_true.symm) | ((refine wa_begin 6 [false, false, false, false, false, false, false, false, false, false, false, false, false, false, false, false, false] [] ?_ <;> (first | refine wa_p 0 ?_ | fail) <;> refine wa_p 1 ?_ <;> refine wa_p 2 ?_ <;> (first | refine wa_p 3 ?_ | fail) <;> (first | refine wa_p 4 ?_ | fail) <;> refine wa_p 5 ?_ <;> (first | (refine wa_deep 6 fun p cs as_ asb_ hcs has hasb hf => ?_; simp only [Un.cells, Un.atoms, Un.fact, List.cons_append, List.nil_append] at hcs has hasb hf; subst hcs has hasb) | fail) <;> (first | refine wa_p 7 ?_ | fail) <;> (first | refine wa_p 8 ?_ | fail) <;> (first | refine wa_p 9 ?_ | fail) <;> (first | refine wa_p 10 ?_ | fail) <;> refine wa_p 11 ?_ <;> (first | refine wa_p 12 ?_ | fail) <;> (first | refine wa_p 13 ?_ | fail) <;> (first | refine wa_p 14 ?_ | fail) <;> (refine wa_do 15 ?_ <;> (repeat' (first | refine red ?_ | (refine redc fun r => ?_; try have hr := Subtype.property r) | fail))) <;> (first | refine wa_p 16 ?_ | fail)) <;> (refine wa_end ?_)) | fail)
    · exact ⟨(), ret_bool (dcP_f fun h => hc (h.le k hkl)), ent_e⟩
    · exact wq_next (k + 1) ⟨by omega, fun f hf => by
        by_cases e : f = k
        · subst e; exact hc
        · exact hI f (by omega)⟩ (by omega) (by kernel_rfl) ent_e
  · obtain rfl : k = x.2.length := by omega
    repeat' (first | refine red ?_ | (refine redi (fun hc => ?_) (fun hc => ?_) <;> try first | (exfalso; omega) | with_reducible first | exact absurd rfl hc | exact absurd hc Bool.false_ne_true | exact absurd hc Bool.false_ne_true.symm) | fail)
    exact ⟨(), ret_bool (dcP_t ⟨hok, hpp, hI⟩), ent_e⟩
instance PolyAllows_ctr {Γ : List Atom} {v0 v1 vp : Value} {x : SSystem} {ps : List SPoly} [h0 : HasRd (List Int) repList Γ [v0] x.1] [h1 : HasRd (List SRule) repList Γ [v1] x.2] [h2 : HasRd (List SPoly) repList Γ [vp] ps] :
    CtrC Try.prog 68 [.agg #[v0, v1], vp] Γ (True) (Unit) (fun _ : Unit => .bool (dcP (AlwP x ps))) (fun _ => Γ) := ⟨fun s w0 => PolyAllows_spec⟩

/-- Polys for plain and marked symbols. -/
structure MarkP (a : List Int) (ps : List SPoly) : Prop where
  l : ps.length = 2 * a.length
  p : PolysP a (ps.take a.length)
  q : PolysP a (ps.drop a.length)
theorem MarkedOk_spec {w0 : World} {Γ : List Atom} {va vp : Value} {a : List Int} {ps : List SPoly} [h0 : HasRd (List Int) repList Γ [va] a] [h1 : HasRd (List SPoly) repList Γ [vp] ps] (hs : sigOk a = true) :
    CJ Try.prog 71 [.agg #[va], vp] w0 Γ (fun _ : Unit => .bool (dcP (MarkP a ps))) (fun _ => Γ) := by
  refine cj_lift (R := [.rd [va] a, .rd [vp] ps]) (A := fun _ => []) (fun w1 => ?_) (reads_cons h0 (reads_cons h1 (inferInstance))) (fun _ => inferInstance)
  simp only [List.cons_append, List.nil_append]
  have hsg := sigOk_len hs
  refine cj_len vp fun hlp => ?_
  refine cj_enter Try.func71 Try.ntmps71 ?_
  repeat' (first | refine red ?_ | refine redn fun b => ?_ | ((refine wa_begin 2 [false, false, false, false, false, false, false, false, false, false, false, false, false, false, false, false, false, false, false, false] [] ?_ <;> refine wa_p 0 ?_ <;> (first | refine wa_p 1 ?_ | fail) <;> refine wa_p 2 ?_ <;> (first | refine wa_p 3 ?_ | fail) <;> (first | refine wa_p 4 ?_ | fail) <;> refine wa_p 5 ?_ <;> (first | (refine wa_if 14 (fun hc => ?_) (fun hc => ?_) <;> (try first | (exfalso; omega) | with_reducible first | exact absurd rfl hc | exact absurd hc Bool.false_ne_true | exact absurd hc Bool.false_ne_true.symm) <;> first | refine wa_pg 6 ?_ | refine wa_no 6 ?_) | fail) <;> (first | refine wa_pg 7 ?_ | refine wa_no 7 ?_ | fail) <;> (first | refine wa_pg 8 ?_ | refine wa_no 8 ?_ | fail) <;> (refine wa_do 9 ?_ <;> (repeat' (first | refine red ?_ | refine redv fun sv => ?_ | fail))) <;> (refine wa_do 10 ?_ <;> (repeat' (first | refine red ?_ | (refine redc fun r => ?_; try have hr := Subtype.property r) | fail))) <;> (first | refine wa_p 11 ?_ | fail) <;> refine wa_p 12 ?_ <;> (first | refine wa_no 13 ?_ | (refine wa_if 21 (fun hc => ?_) (fun hc => ?_) <;> (try first | (exfalso; omega) | with_reducible first | exact absurd rfl hc | exact absurd hc Bool.false_ne_true | exact absurd hc Bool.false_ne_true.symm) <;> first | refine wa_pg 13 ?_ | refine wa_no 13 ?_) | fail) <;> (first | refine wa_pg 14 ?_ | refine wa_no 14 ?_ | fail) <;> (first | refine wa_pg 15 ?_ | refine wa_no 15 ?_ | fail) <;> (refine wa_do 16 ?_ <;> (repeat' (first | refine red ?_ | refine redv fun sv => ?_ | fail))) <;> (refine wa_do 17 ?_ <;> (repeat' (first | refine red ?_ | (refine redc fun r => ?_; try have hr := Subtype.property r) | fail))) <;> (first | refine wa_p 18 ?_ | fail) <;> refine wa_p 19 ?_) <;> (refine wa_end ?_)) | fail)
  all_goals first
    | exact ⟨(), ret_bool (dcP_f fun h => by have := h.l; omega), ent_e⟩
    | exact ⟨(), ret_bool (dcP_f fun h => by have := h.p; contradiction), ent_e⟩
    | exact ⟨(), ret_bool (dcP_cg ⟨fun h => h.q, fun h => ⟨by omega, by assumption, h⟩⟩), ent_e⟩
instance MarkedOk_ctr {Γ : List Atom} {va vp : Value} {a : List Int} {ps : List SPoly} [h0 : HasRd (List Int) repList Γ [va] a] [h1 : HasRd (List SPoly) repList Γ [vp] ps] :
    CtrC Try.prog 71 [.agg #[va], vp] Γ (sigOk a = true) (Unit) (fun _ : Unit => .bool (dcP (MarkP a ps))) (fun _ => Γ) := ⟨fun s w0 => MarkedOk_spec s⟩

/-- The form of a term whose head is marked. -/
noncomputable def headO (a : List Int) (ps : List SPoly) (t : List Int) : Option SPoly :=
  if dcP (MarkP a ps ∧ termOk a t = true) = true then (if t.getD 0 0 < 0 then frmO a (ps.take a.length) t else sumO a (ps.take a.length) (ps.getD ((a.length : Int) + t.getD 0 0).toNat default) (partsW a t (agN a t))) else none
theorem headO_f {a t : List Int} {ps : List SPoly} (h : ¬ (MarkP a ps ∧ termOk a t = true)) : headO a ps t = none := if_neg (by rw [dcP_f h]; decide)
theorem headO_v {a t : List Int} {ps : List SPoly} (h : MarkP a ps ∧ termOk a t = true) (h0 : t.getD 0 0 < 0) : headO a ps t = frmO a (ps.take a.length) t := by
  unfold headO; rw [if_pos (dcP_t h), if_pos h0]
theorem headO_s {a t : List Int} {ps : List SPoly} (h : MarkP a ps ∧ termOk a t = true) (h0 : ¬ t.getD 0 0 < 0) : headO a ps t = sumO a (ps.take a.length) (ps.getD ((a.length : Int) + t.getD 0 0).toNat default) (partsW a t (agN a t)) := by
  unfold headO; rw [if_pos (dcP_t h), if_neg h0]
theorem head_sm {a t : List Int} {ps : List SPoly} (h : MarkP a ps ∧ termOk a t = true) (h0 : ¬ t.getD 0 0 < 0) : SmC a (ps.take a.length) 60 (ps.getD ((a.length : Int) + t.getD 0 0).toNat default) (partsW a t (agN a t)) := by
  obtain ⟨hm, htm⟩ := h
  have hl := termOk_len htm
  have hg := termOk_get htm (k := 0) (by omega)
  have hag := agN_le htm
  have hak : ar a (t.getD 0 0) = a.getD (t.getD 0 0).toNat 0 := by unfold ar; rw [if_neg (by omega)]
  have hml := hm.l
  have hq := hm.q.2.2 (t.getD 0 0).toNat (by rw [List.length_drop]; omega)
  have hpn := partsW_len a t (agN a t)
  have e : ∀ z : Int, 0 ≤ z → (ps.drop a.length).getD z.toNat default = ps.getD ((a.length : Int) + z).toNat default := fun z hz => by
    rw [List.getD_eq_getElem?_getD, List.getElem?_drop, List.getD_eq_getElem?_getD, show a.length + z.toNat = ((a.length : Int) + z).toNat by omega]
  rw [e _ (by omega)] at hq
  exact ⟨hm.p, by rw [hpn, ← hag.1, hak]; exact hq, by omega, fun k hk => by
    have h := part_ok htm (by omega) (k := k) (by omega)
    exact ⟨h.1, by omega⟩⟩
theorem HeadForm_spec {w0 : World} {Γ : List Atom} {v0 v1 vt : Value} {a t : List Int} {ps : List SPoly} [h0 : HasRd (List Int) repList Γ [v0] a] [h1 : HasRd (List SPoly) repList Γ [v1] ps] [h2 : HasRd (List Int) repList Γ [vt] t] (hs : sigOk a = true) :
    CJ Try.prog 91 [.agg #[v0], v1, vt] w0 Γ (fun q : Value × FormT (headO a ps t) => .tuple #[.agg #[.int .i64 q.2.1.1.1, q.1], .bool q.2.1.2]) (fun q => .ow [q.1] q.2.1.1.2 :: Γ) := by
  refine cj_lift (R := [.rd [v0] a, .rd [v1] ps, .rd [vt] t]) (A := fun q : Value × FormT (headO a ps t) => [.ow [q.1] q.2.1.1.2]) (fun w1 => ?_) (reads_cons h0 (reads_cons h1 (reads_cons h2 (inferInstance)))) (fun _ => inferInstance)
  simp only [List.cons_append, List.nil_append]
  have hsg := sigOk_len hs
  by_cases hP : MarkP a ps ∧ termOk a t = true
  · have hl := termOk_len hP.2
    have hg := termOk_get hP.2 (k := 0) (by omega)
    have hml := hP.1.l
    have hfr : FrC a (ps.take a.length) 60 t := ⟨hP.1.p, hP.2, hl.2⟩
    by_cases hneg : t.getD 0 0 < 0
    · rw [headO_v hP hneg]
      refine cj_enter Try.func91 Try.ntmps91 ?_
      repeat' (first | refine red ?_ | refine redf fun hbi => ?_ | refine reds ?_ | (refine redc fun r => ?_; try have hr := Subtype.property r) | refine redn fun b => ?_ | (refine redi (fun hc => ?_) (fun hc => ?_) <;> try first | (exfalso; omega) | with_reducible first | exact absurd rfl hc | exact absurd hc Bool.false_ne_true | exact absurd hc Bool.false_ne_true.symm) | ((refine wa_begin 5 [false, false, false, false, false, false, false, false, false, false] [8] ?_ <;> refine wa_p 0 ?_ <;> refine wa_p 1 ?_ <;> refine wa_p 2 ?_ <;> refine wa_p 4 ?_ <;> (refine wa_do 3 ?_ <;> (repeat' (first | refine red ?_ | refine redv fun sv => ?_ | fail))) <;> (refine wa_do 5 ?_ <;> (repeat' (first | refine red ?_ | (refine redc fun r => ?_; try have hr := Subtype.property r) | fail))) <;> refine wa_p 6 ?_ <;> refine wa_p 7 ?_ <;> (refine wa_do 8 ?_ <;> (repeat' (first | refine red ?_ | fail))) <;> refine wa_p0 9 ?_) <;> (refine wa_end ?_)) | fail)
      · exact absurd hP.1 hc
      · rw [hP.2] at hc; cases hc
      · exact ⟨r, rfl, ent_e⟩
    · have hsm := head_sm hP hneg
      have hwt : WTm a t ∧ 0 ≤ t.getD 0 0 := ⟨wtm_of hP.2, by omega⟩
      rw [headO_s hP hneg]
      refine cj_enter Try.func91 Try.ntmps91 ?_
      repeat' (first | refine red ?_ | refine redf fun hbi => ?_ | refine reds ?_ | (refine redc fun r => ?_; try have hr := Subtype.property r) | refine redn fun b => ?_ | (refine redi (fun hc => ?_) (fun hc => ?_) <;> try first | (exfalso; omega) | with_reducible first | exact absurd rfl hc | exact absurd hc Bool.false_ne_true | exact absurd hc Bool.false_ne_true.symm) | ((refine wa_begin 6 [false, false, false, false, false, false, false, false, false, false, false, false, false, false, false, false, false, false, false, false] [18] ?_ <;> refine wa_p 0 ?_ <;> refine wa_p 1 ?_ <;> refine wa_p 2 ?_ <;> refine wa_p 4 ?_ <;> refine wa_p 5 ?_ <;> refine wa_p 6 ?_ <;> refine wa_p 7 ?_ <;> (first | refine wa_f 8 fun hbi => ?_ | fail) <;> (first | refine wa_p 9 ?_ | fail) <;> (first | (refine wa_deep 10 fun p cs as_ asb_ hcs has hasb hf => ?_; simp only [Un.cells, Un.atoms, Un.fact, List.cons_append, List.nil_append] at hcs has hasb hf; subst hcs has hasb) | fail) <;> (first | refine wa_p 11 ?_ | fail) <;> refine wa_p 12 ?_ <;> refine wa_p 13 ?_ <;> (refine wa_two 3 14 ?_ ?_; rotate_right; (focus ((repeat' (first | refine red ?_ | (refine redc fun r => ?_; try have hr := Subtype.property r) | fail)) <;> (refine wa_do 3 ?_ <;> (repeat' (first | refine red ?_ | refine redv fun sv => ?_ | fail))) <;> (refine wa_do 15 ?_ <;> (repeat' (first | refine red ?_ | (refine redc fun r => ?_; try have hr := Subtype.property r) | fail))) <;> refine wa_p 16 ?_ <;> refine wa_p 17 ?_ <;> (refine wa_do 18 ?_ <;> (repeat' (first | refine red ?_ | fail))) <;> refine wa_p0 19 ?_)); rotate_right; (focus ((repeat' (first | refine red ?_ | refine redv fun sv => ?_ | fail)) <;> (refine wa_do 14 ?_ <;> (repeat' (first | refine red ?_ | (refine redc fun r => ?_; try have hr := Subtype.property r) | fail))) <;> (refine wa_do 15 ?_ <;> (repeat' (first | refine red ?_ | (refine redc fun r => ?_; try have hr := Subtype.property r) | fail))) <;> refine wa_p 16 ?_ <;> refine wa_p 17 ?_ <;> (refine wa_do 18 ?_ <;> (repeat' (first | refine red ?_ | fail))) <;> refine wa_p0 19 ?_)))) <;> (refine wa_end ?_)) | fail)
      · exact absurd hP.1 hc
      · rw [hP.2] at hc; cases hc
      all_goals exact ⟨r, rfl, ent_e⟩
  · rw [headO_f hP]
    refine cj_enter Try.func91 Try.ntmps91 ?_
    repeat' (first | refine red ?_ | (refine redc fun r => ?_; try have hr := Subtype.property r) | refine redn fun b => ?_ | (refine redi (fun hc => ?_) (fun hc => ?_) <;> try first | (exfalso; omega) | with_reducible first | exact absurd rfl hc | exact absurd hc Bool.false_ne_true | exact absurd hc Bool.false_ne_true.symm) | fail)
    · exact ⟨(.slice none 0 0, ⟨((0, []), false), rfl, fun h => nomatch h⟩), rfl, ent_e⟩
    · exact ⟨(.slice none 0 0, ⟨((0, []), false), rfl, fun h => nomatch h⟩), rfl, ent_e⟩
    · exact absurd ⟨by assumption, by assumption⟩ hP
instance HeadForm_ctr {Γ : List Atom} {v0 v1 vt : Value} {a t : List Int} {ps : List SPoly} [h0 : HasRd (List Int) repList Γ [v0] a] [h1 : HasRd (List SPoly) repList Γ [v1] ps] [h2 : HasRd (List Int) repList Γ [vt] t] :
    CtrC Try.prog 91 [.agg #[v0], v1, vt] Γ (sigOk a = true) (Value × FormT (headO a ps t)) (fun q : Value × FormT (headO a ps t) => .tuple #[.agg #[.int .i64 q.2.1.1.1, q.1], .bool q.2.1.2]) (fun q => .ow [q.1] q.2.1.1.2 :: Γ) := ⟨fun s w0 => HeadForm_spec s⟩

theorem PairAtMost_spec {w0 : World} {Γ : List Atom} {v0 v1 vs vt : Value} {a s t : List Int} {i j : Int} {ps : List SPoly} [h0 : HasRd (List Int) repList Γ [v0] a] [h1 : HasRd (List SPoly) repList Γ [v1] ps] [h2 : HasRd (List Int) repList Γ [vs] s] [h3 : HasRd (List Int) repList Γ [vt] t] (hs : sigOk a = true) :
    CJ Try.prog 85 [.agg #[v0], v1, .agg #[vs, vt, .int .i64 i, .int .i64 j]] w0 Γ (fun _ : Unit => .bool (dcP (AtmO (headO a ps) t s))) (fun _ => Γ) := by
  refine cj_lift (R := [.rd [v0] a, .rd [v1] ps, .rd [vs] s, .rd [vt] t]) (A := fun _ => []) (fun w1 => ?_) (reads_cons h0 (reads_cons h1 (reads_cons h2 (reads_cons h3 (inferInstance))))) (fun _ => inferInstance)
  simp only [List.cons_append, List.nil_append]
  refine cj_enter Try.func85 Try.ntmps85 ?_
  repeat' (first | refine red ?_ | (refine redc fun r => ?_; try have hr := Subtype.property r) | refine redn fun b => ?_ | (refine redi (fun hc => ?_) (fun hc => ?_) <;> try first | (exfalso; omega) | with_reducible first | exact absurd rfl hc | exact absurd hc Bool.false_ne_true | exact absurd hc Bool.false_ne_true.symm) | fail)
  all_goals
    rename Value × FormT (headO a ps t) => r1
    rename Value × FormT (headO a ps s) => r2
    first
      | exact ⟨(), ret_bool (dcP_f (atmO_none (.inl (formT_none r1.2 (by assumption))))), ent_e⟩
      | exact ⟨(), ret_bool (dcP_f (atmO_none (.inr (formT_none r2.2 (by assumption))))), ent_e⟩
      | (have g1 := r1.2.2.2 (by assumption)
         have g2 := r2.2.2.2 (by assumption)
         first
           | exact ⟨(), ret_bool (dcP_f fun h => by have := ((atmO_some g1 g2).1 h).1; omega), ent_e⟩
           | exact ⟨(), ret_bool (dcP_cg ((atmO_some g1 g2).trans ⟨fun h => h.2, fun h => ⟨by assumption, h⟩⟩)), ent_e⟩)
instance PairAtMost_ctr {Γ : List Atom} {v0 v1 vs vt : Value} {a s t : List Int} {i j : Int} {ps : List SPoly} [h0 : HasRd (List Int) repList Γ [v0] a] [h1 : HasRd (List SPoly) repList Γ [v1] ps] [h2 : HasRd (List Int) repList Γ [vs] s] [h3 : HasRd (List Int) repList Γ [vt] t] :
    CtrC Try.prog 85 [.agg #[v0], v1, .agg #[vs, vt, .int .i64 i, .int .i64 j]] Γ (sigOk a = true) (Unit) (fun _ : Unit => .bool (dcP (AtmO (headO a ps) t s))) (fun _ => Γ) := ⟨fun s w0 => PairAtMost_spec s⟩

theorem PairLess_spec {w0 : World} {Γ : List Atom} {v0 v1 vs vt : Value} {a s t : List Int} {i j : Int} {ps : List SPoly} [h0 : HasRd (List Int) repList Γ [v0] a] [h1 : HasRd (List SPoly) repList Γ [v1] ps] [h2 : HasRd (List Int) repList Γ [vs] s] [h3 : HasRd (List Int) repList Γ [vt] t] (hs : sigOk a = true) :
    CJ Try.prog 86 [.agg #[v0], v1, .agg #[vs, vt, .int .i64 i, .int .i64 j]] w0 Γ (fun _ : Unit => .bool (dcP (LesO (headO a ps) t s))) (fun _ => Γ) := by
  refine cj_lift (R := [.rd [v0] a, .rd [v1] ps, .rd [vs] s, .rd [vt] t]) (A := fun _ => []) (fun w1 => ?_) (reads_cons h0 (reads_cons h1 (reads_cons h2 (reads_cons h3 (inferInstance))))) (fun _ => inferInstance)
  simp only [List.cons_append, List.nil_append]
  refine cj_enter Try.func86 Try.ntmps86 ?_
  repeat' (first | refine red ?_ | (refine redc fun r => ?_; try have hr := Subtype.property r) | refine redn fun b => ?_ | (refine redi (fun hc => ?_) (fun hc => ?_) <;> try first | (exfalso; omega) | with_reducible first | exact absurd rfl hc | exact absurd hc Bool.false_ne_true | exact absurd hc Bool.false_ne_true.symm) | fail)
  all_goals
    rename Value × FormT (headO a ps t) => r1
    rename Value × FormT (headO a ps s) => r2
    first
      | exact ⟨(), ret_bool (dcP_f (lesO_none (.inl (formT_none r1.2 (by assumption))))), ent_e⟩
      | exact ⟨(), ret_bool (dcP_f (lesO_none (.inr (formT_none r2.2 (by assumption))))), ent_e⟩
      | (have g1 := r1.2.2.2 (by assumption)
         have g2 := r2.2.2.2 (by assumption)
         first
           | exact ⟨(), ret_bool (dcP_f fun h => by have := ((lesO_some g1 g2).1 h).1; omega), ent_e⟩
           | exact ⟨(), ret_bool (dcP_cg ((lesO_some g1 g2).trans ⟨fun h => h.2, fun h => ⟨by assumption, h⟩⟩)), ent_e⟩)
instance PairLess_ctr {Γ : List Atom} {v0 v1 vs vt : Value} {a s t : List Int} {i j : Int} {ps : List SPoly} [h0 : HasRd (List Int) repList Γ [v0] a] [h1 : HasRd (List SPoly) repList Γ [v1] ps] [h2 : HasRd (List Int) repList Γ [vs] s] [h3 : HasRd (List Int) repList Γ [vt] t] :
    CtrC Try.prog 86 [.agg #[v0], v1, .agg #[vs, vt, .int .i64 i, .int .i64 j]] Γ (sigOk a = true) (Unit) (fun _ : Unit => .bool (dcP (LesO (headO a ps) t s))) (fun _ => Γ) := ⟨fun s w0 => PairLess_spec s⟩

end Go.Proofs.Ytjblieilblcdnaa
