/- Pairs of a system: the reference. -/
import Derived.Test.YtjblieilblcdnaaMee5
import Derived.Test.YtjblieilblcdnaaInto
namespace Go.Proofs.Ytjblieilblcdnaa
open Go Go.Eng
set_option linter.unusedVariables false
set_option linter.unusedSimpArgs false
set_option synthInstance.maxHeartbeats 400000
set_option synthInstance.maxSize 1000
set_option maxHeartbeats 4000000
set_option maxRecDepth 20000

abbrev SDep : Type := List Int × List Int × Int × Int
/-- The subterm at k, by its end. -/
theorem slice_sub {a t : List Int} (h : WTm a t) (k : Nat) : (t.take (k + szW a t k)).drop k = subW a t k := by
  unfold subW; rw [List.drop_take]; congr 1; omega
theorem rule_of {x : SSystem} (h : sysOk x = true) {k : Nat} (hk : k < x.2.length) : RuleP x.1 (x.2.getD k default) := of_decide_eq_true ((sysOk_iff.1 h).2 _ (getD_memD hk))
/-- The symbols that head a left side. -/
def DefN (x : SSystem) (k : Nat) (q : Int) : Prop := ∃ i, i < k ∧ (x.2.getD i default).1.getD 0 0 = q
theorem defN_zero {x : SSystem} (q : Int) : q ∈ ([] : List Int) ↔ DefN x 0 q := ⟨fun h => absurd h (by simp), fun ⟨i, hi, _⟩ => absurd hi (Nat.not_lt_zero i)⟩
theorem defN_succ {x : SSystem} {k : Nat} {q : Int} : DefN x (k + 1) q ↔ q = (x.2.getD k default).1.getD 0 0 ∨ DefN x k q := by
  constructor
  · rintro ⟨i, hi, e⟩
    by_cases h : i = k
    · subst h; exact .inl e.symm
    · exact .inr ⟨i, by omega, e⟩
  · rintro (e | ⟨i, hi, e⟩)
    · exact ⟨k, by omega, e.symm⟩
    · exact ⟨i, by omega, e⟩
instance {p : Prop} : BoolP (dcP p) p := ⟨dcP_iff⟩
theorem dcP_f {p : Prop} (h : ¬ p) : dcP p = false := by
  cases e : dcP p with
  | false => rfl
  | true => exact absurd (dcP_iff.1 e) h
instance {p : Prop} : BoolN (dcP p) (¬ p) := ⟨⟨fun h hp => Bool.noConfusion ((dcP_t hp).symm.trans h), dcP_f⟩⟩
abbrev DefT (x : SSystem) : Type := { ys : List Int // ys.length ≤ 12 ∧ ∀ q, q ∈ ys ↔ DefN x x.2.length q }
theorem l6Defined_spec {w0 : World} {Γ : List Atom} {v0 v1 : Value} {x : SSystem} [h0 : HasRd (List Int) repList Γ [v0] x.1] [h1 : HasRd (List SRule) repList Γ [v1] x.2] (hs : sysOk x = true) :
    CJ Try.prog 52 [.agg #[v0, v1]] w0 Γ (fun q : Value × DefT x => q.1) (fun q => .ow [q.1] q.2.1 :: Γ) := by
  refine cj_lift (R := [.rd [v0] x.1, .rd [v1] x.2]) (A := fun q : Value × DefT x => [.ow [q.1] q.2.1]) (fun w1 => ?_) (reads_cons h0 (reads_cons h1 (inferInstance))) (fun _ => inferInstance)
  simp only [List.cons_append, List.nil_append]
  have hl := (sysOk_iff.1 hs).1.2
  have hsg := sigOk_len (sysOk_iff.1 hs).1.1
  refine cj_enter Try.func52 Try.ntmps52 ?_
  repeat' (first | refine red ?_ | refine redv fun sv => ?_ | refine redn fun b => ?_ | fail)
  refine wc_loop_p [3, 4] [6, 7, 8, 9, 10, 13, 14, 15, 16, 17, 18, 19, 20, 21, 22, 11, 12] (ι := (Value × List Int) × Nat) (fun k => [k.1.1, .int .i64 k.2]) (fun k => [.ow [k.1.1] k.1.2]) (fun k => k.2 ≤ x.2.length ∧ k.1.2.Pairwise (· < ·) ∧ k.1.2.length ≤ k.2 ∧ ∀ q, q ∈ k.1.2 ↔ DefN x k.2 q) (fun k => x.2.length - k.2) ((sv, []), 0) [.ow [sv] ([] : List Int)] (by kernel_rfl) ⟨Nat.zero_le _, List.Pairwise.nil, Nat.le_refl _, defN_zero⟩ rfl ?_
  intro ⟨⟨sw, ys⟩, k⟩ u l' hl' ⟨hk, hp, hyl, hm⟩
  simp only [patch, List.map_cons, List.map_nil, List.set_cons_zero, List.set_cons_succ] at hl'
  subst hl'
  simp only [List.cons_append, List.nil_append] at hk hp hyl hm ⊢
  by_cases hkl : k < x.2.length
  · have hr := (rule_of hs hkl).1
    have hrl := termOk_len hr.1
    have hrg := termOk_get hr.1 (k := 0) (by omega)
    repeat' (first | refine red ?_ | refine redf fun hbi => ?_ | refine reds ?_ | (refine redc fun r => ?_; try have hr := Subtype.property r) | (refine redd fun p cs as_ hcs has hf => ?_; simp only [Un.cells, Un.atoms, Un.fact, List.cons_append, List.nil_append] at hcs has hf; subst hcs has) | (refine redi (fun hc => ?_) (fun hc => ?_) <;> try first | (exfalso; omega) | with_reducible first | exact absurd rfl hc | exact absurd hc Bool.false_ne_true | exact absurd hc Bool.false_ne_true.symm) | fail)
    exact wq_next ((r.1, r.2.1), k + 1) ⟨by simp only; omega, r.2.2.1, by have := r.2.2.2.2; simp only; omega, fun q => by simp only; rw [r.2.2.2.1 q, hm q, defN_succ]⟩ (by simp only; omega) (by kernel_rfl) ent_e
  · repeat' (first | refine red ?_ | (refine redi (fun hc => ?_) (fun hc => ?_) <;> try first | (exfalso; omega) | with_reducible first | exact absurd rfl hc | exact absurd hc Bool.false_ne_true | exact absurd hc Bool.false_ne_true.symm) | fail)
    obtain rfl : k = x.2.length := by omega
    exact ⟨(sw, ⟨ys, by omega, hm⟩), rfl, ent_e⟩
instance l6Defined_ctr {Γ : List Atom} {v0 v1 : Value} {x : SSystem} [h0 : HasRd (List Int) repList Γ [v0] x.1] [h1 : HasRd (List SRule) repList Γ [v1] x.2] :
    CtrC Try.prog 52 [.agg #[v0, v1]] Γ (sysOk x = true) (Value × DefT x) (fun q : Value × DefT x => q.1) (fun q => .ow [q.1] q.2.1 :: Γ) := ⟨fun s w0 => l6Defined_spec s⟩

/-- u stands in t, but not as t itself. -/
def PartP (a t u : List Int) (m : Nat) : Prop := ∃ k, 1 ≤ k ∧ k < m ∧ subt a t k = u
theorem partP_succ {a t u : List Int} {m : Nat} (h : ¬ PartP a t u m) (h' : ¬ subt a t m = u) : ¬ PartP a t u (m + 1) := fun ⟨k, h1, h2, h3⟩ => by
  by_cases e : k = m
  · subst e; exact h' h3
  · exact h ⟨k, h1, by omega, h3⟩
theorem l17Part_spec {w0 : World} {Γ : List Atom} {va vt vu : Value} {a t u : List Int} [h0 : HasRd (List Int) repList Γ [va] a] [h1 : HasRd (List Int) repList Γ [vt] t] [h2 : HasRd (List Int) repList Γ [vu] u] (hs : termOk a t = true) :
    CJ Try.prog 55 [.agg #[va], vt, vu] w0 Γ (fun _ : Unit => .bool (dcP (PartP a t u t.length))) (fun _ => Γ) := by
  refine cj_lift (R := [.rd [va] a, .rd [vt] t, .rd [vu] u]) (A := fun _ => []) (fun w1 => ?_) (reads_cons h0 (reads_cons h1 (reads_cons h2 (inferInstance)))) (fun _ => inferInstance)
  simp only [List.cons_append, List.nil_append]
  have hl := termOk_len hs
  have hw := wtm_of hs
  refine cj_enter Try.func55 Try.ntmps55 ?_
  repeat' (first | refine red ?_ | refine redn fun b => ?_ | fail)
  refine wc_loop_c [7] [8, 9, 10, 11, 14, 15, 16, 17, 18, 19, 20, 21, 22, 6, 12, 13] (ι := Nat) (fun k => [.int .i64 k]) (fun k => 1 ≤ k ∧ k ≤ t.length ∧ ¬ PartP a t u k) (fun k => t.length - k) 1 (by kernel_rfl) ⟨Nat.le_refl _, hl.1, fun ⟨k, h1, h2, _⟩ => by omega⟩ ?_
  intro k u1 l' hl' ⟨hk1, hk, hn⟩
  simp only [patch, List.map_cons, List.map_nil, List.set_cons_zero, List.set_cons_succ] at hl'
  subst hl'
  by_cases hkl : k < t.length
  · have hat := hw.at hkl
    have hsl := slice_sub hw k
    have hsp := subW_plain hs k
    repeat' (first | refine red ?_ | refine reds ?_ | (refine redc fun r => ?_; try have hr := Subtype.property r) | refine redv fun sv => ?_ | (refine redi (fun hc => ?_) (fun hc => ?_) <;> try first | (exfalso; omega) | with_reducible first | exact absurd rfl hc | exact absurd hc Bool.false_ne_true | exact absurd hc Bool.false_ne_true.symm) | fail)
    · exact ⟨(), ret_bool (dcP_t ⟨k, hk1, hkl, by rw [← hsp, ← hsl]; exact hc⟩), ent_e⟩
    · exact wq_next (k + 1) ⟨by omega, by omega, partP_succ hn fun e => hc (by rw [hsl, hsp]; exact e)⟩ (by omega) (by kernel_rfl) ent_e
  · repeat' (first | refine red ?_ | (refine redi (fun hc => ?_) (fun hc => ?_) <;> try first | (exfalso; omega) | with_reducible first | exact absurd rfl hc | exact absurd hc Bool.false_ne_true | exact absurd hc Bool.false_ne_true.symm) | fail)
    obtain rfl : k = t.length := by omega
    exact ⟨(), ret_bool (dcP_f hn), ent_e⟩
instance l17Part_ctr {Γ : List Atom} {va vt vu : Value} {a t u : List Int} [h0 : HasRd (List Int) repList Γ [va] a] [h1 : HasRd (List Int) repList Γ [vt] t] [h2 : HasRd (List Int) repList Γ [vu] u] :
    CtrC Try.prog 55 [.agg #[va], vt, vu] Γ (termOk a t = true) (Unit) (fun _ : Unit => .bool (dcP (PartP a t u t.length))) (fun _ => Γ) := ⟨fun s w0 => l17Part_spec s⟩

/-- There is a pair of rule r at place k. -/
def DepP (x : SSystem) (r k : Nat) : Prop := 0 ≤ (x.2.getD r default).2.getD k 0 ∧ DefN x x.2.length ((x.2.getD r default).2.getD k 0) ∧ ¬ PartP x.1 (x.2.getD r default).1 (subt x.1 (x.2.getD r default).2 k) (x.2.getD r default).1.length
noncomputable def depAt (x : SSystem) (r k : Nat) : Option SDep := if dcP (DepP x r k) = true then some ((x.2.getD r default).1, subt x.1 (x.2.getD r default).2 k, (r : Int), (k : Int)) else none
noncomputable def depD (x : SSystem) (r k : Nat) : SDep := (depAt x r k).getD ([], [], 0, 0)
theorem depAt_yes {x : SSystem} {r k : Nat} (h : DepP x r k) : depAt x r k = some ((x.2.getD r default).1, subt x.1 (x.2.getD r default).2 k, (r : Int), (k : Int)) := if_pos (dcP_t h)
theorem depAt_no {x : SSystem} {r k : Nat} (h : ¬ DepP x r k) : depAt x r k = none := if_neg (by rw [dcP_f h]; decide)
structure DpC (x : SSystem) (r k : Nat) : Prop where
  ok : sysOk x = true
  hr : r < x.2.length
  hk : k < (x.2.getD r default).2.length
theorem dep_none {x : SSystem} {r k : Nat} (h : ¬ DepP x r k) : depAt x r k = none ∧ depD x r k = ([], [], 0, 0) := ⟨depAt_no h, by unfold depD; rw [depAt_no h]; rfl⟩
theorem dep_some {x : SSystem} {r k : Nat} (h : DepP x r k) : (depAt x r k).isSome = true ∧ depD x r k = ((x.2.getD r default).1, subt x.1 (x.2.getD r default).2 k, (r : Int), (k : Int)) := ⟨by rw [depAt_yes h]; rfl, by unfold depD; rw [depAt_yes h]; rfl⟩
theorem l17At_spec {w0 : World} {Γ : List Atom} {v0 v1 : Value} {x : SSystem} {ri k : Nat} [h0 : HasRd (List Int) repList Γ [v0] x.1] [h1 : HasRd (List SRule) repList Γ [v1] x.2] (hs : DpC x ri k) :
    CJ Try.prog 36 [.agg #[v0, v1], .int .i64 (ri : Int), .int .i64 (k : Int)] w0 Γ (fun q : Value × Value => .tuple #[.agg #[q.1, q.2, .int .i64 (depD x ri k).2.2.1, .int .i64 (depD x ri k).2.2.2], .bool (depAt x ri k).isSome]) (fun q => .ow [q.1] (depD x ri k).1 :: .ow [q.2] (depD x ri k).2.1 :: Γ) := by
  refine cj_lift (R := [.rd [v0] x.1, .rd [v1] x.2]) (A := fun q : Value × Value => [.ow [q.1] (depD x ri k).1, .ow [q.2] (depD x ri k).2.1]) (fun w1 => ?_) (reads_cons h0 (reads_cons h1 (inferInstance))) (fun _ => inferInstance)
  simp only [List.cons_append, List.nil_append]
  obtain ⟨hok, hri, hk⟩ := hs
  have hR := (rule_of hok hri).1
  have hw := wtm_of hR.2.1
  have hat := hw.at hk
  have hsl := slice_sub hw k
  have hsp := subW_plain hR.2.1 k
  have hlL := termOk_len hR.1
  have hlR := termOk_len hR.2.1
  have hsbl := subt_len hR.2.1 hk
  have htm := hR.1
  have hrl := (sysOk_iff.1 hok).1.2
  refine cj_enter Try.func36 Try.ntmps36 ?_
  repeat' (first | refine red ?_ | (refine redc fun r => ?_; try have hr := Subtype.property r) | refine redn fun b => ?_ | (refine redd fun p cs as_ hcs has hf => ?_; simp only [Un.cells, Un.atoms, Un.fact, List.cons_append, List.nil_append] at hcs has hf; subst hcs has) | (refine redi (fun hc => ?_) (fun hc => ?_) <;> try first | (exfalso; omega) | with_reducible first | exact absurd rfl hc | exact absurd hc Bool.false_ne_true | exact absurd hc Bool.false_ne_true.symm) | ((refine wa_begin 2 [false, false, false, false, false, false, false, false, false, false, false, false, false, false, false, false, false] [] ?_ <;> (first | refine wa_p 0 ?_ | fail) <;> (first | refine wa_p 1 ?_ | fail) <;> refine wa_p 2 ?_ <;> refine wa_p 3 ?_ <;> (first | refine wa_f 4 fun hbi => ?_ | fail) <;> refine wa_p 5 ?_ <;> refine wa_p 6 ?_ <;> (first | (refine wa_if 21 (fun hc => ?_) (fun hc => ?_) <;> (try first | (exfalso; omega) | with_reducible first | exact absurd rfl hc | exact absurd hc Bool.false_ne_true | exact absurd hc Bool.false_ne_true.symm) <;> first | refine wa_pg 7 ?_ | refine wa_no 7 ?_) | fail) <;> (first | refine wa_pg 9 ?_ | refine wa_no 9 ?_ | fail) <;> (first | refine wa_pg 10 ?_ | refine wa_no 10 ?_ | fail) <;> (first | refine wa_pg 11 ?_ | refine wa_no 11 ?_ | fail) <;> (first | refine wa_pg 12 ?_ | refine wa_no 12 ?_ | fail) <;> (first | refine wa_pg 13 ?_ | refine wa_no 13 ?_ | fail) <;> (refine wa_do 8 ?_ <;> (repeat' (first | refine red ?_ | (refine redc fun r => ?_; try have hr := Subtype.property r) | fail))) <;> (refine wa_do 14 ?_ <;> (repeat' (first | refine red ?_ | (refine redc fun r => ?_; try have hr := Subtype.property r) | fail))) <;> (first | refine wa_pg 15 ?_ | refine wa_no 15 ?_ | fail) <;> (first | refine wa_p 16 ?_ | fail)) <;> (refine wa_end ?_)) | ((refine wa_begin 4 [false, false, false, false, false, false, false, false, false, false, false, false] [] ?_ <;> (first | refine wa_p 0 ?_ | fail) <;> (first | refine wa_p 1 ?_ | fail) <;> refine wa_p 2 ?_ <;> (first | refine wa_p 3 ?_ | fail) <;> refine wa_p 4 ?_ <;> (first | refine wa_p 5 ?_ | fail) <;> (first | refine wa_p 6 ?_ | fail) <;> refine wa_p 7 ?_ <;> (refine wa_do 8 ?_ <;> (repeat' (first | refine red ?_ | (refine redc fun r => ?_; try have hr := Subtype.property r) | fail))) <;> (refine wa_do 9 ?_ <;> (repeat' (first | refine red ?_ | refine redv fun sv => ?_ | fail))) <;> (refine wa_do 10 ?_ <;> (repeat' (first | refine red ?_ | (refine redc fun r => ?_; try have hr := Subtype.property r) | fail))) <;> refine wa_p 11 ?_) <;> (refine wa_end ?_)) | fail)
  · have hno := dep_none (x := x) (r := ri) (k := k) fun h => by have := h.1; omega
    rw [hno.2, hno.1]
    exact ⟨(.slice none 0 0, .slice none 0 0), rfl, ent_e⟩
  · rename Value × DefT x => df
    have hno := dep_none (x := x) (r := ri) (k := k) fun h => hc ((df.2.2.2 _).2 h.2.1)
    rw [hno.2, hno.1]
    exact ⟨(.slice none 0 0, .slice none 0 0), rfl, ent_e⟩
  all_goals
    rename Value × DefT x => df
    rw [hsl, hsp] at hc
  · have hno := dep_none (x := x) (r := ri) (k := k) fun h => h.2.2 hc
    rw [hno.2, hno.1]
    exact ⟨(.slice none 0 0, .slice none 0 0), rfl, ent_e⟩
  · have hyes := dep_some (x := x) (r := ri) (k := k) ⟨by omega, (df.2.2.2 _).1 (by assumption), hc⟩
    rw [hyes.2, hyes.1]
    simp only [hsl, hsp]
    rename_i vR _
    exact ⟨(r, vR), rfl, ent_e⟩
instance l17At_ctr {Γ : List Atom} {v0 v1 : Value} {x : SSystem} {ri k : Nat} [h0 : HasRd (List Int) repList Γ [v0] x.1] [h1 : HasRd (List SRule) repList Γ [v1] x.2] :
    CtrC Try.prog 36 [.agg #[v0, v1], .int .i64 (ri : Int), .int .i64 (k : Int)] Γ (DpC x ri k) (Value × Value) (fun q : Value × Value => .tuple #[.agg #[q.1, q.2, .int .i64 (depD x ri k).2.2.1, .int .i64 (depD x ri k).2.2.2], .bool (depAt x ri k).isSome]) (fun q => .ow [q.1] (depD x ri k).1 :: .ow [q.2] (depD x ri k).2.1 :: Γ) := ⟨fun s w0 => l17At_spec s⟩

noncomputable def depRow (x : SSystem) (r : Nat) (out : List SDep) : Nat → List SDep
  | 0 => out
  | k + 1 => depRow x r out k ++ (depAt x r k).toList
noncomputable def depAll (x : SSystem) : Nat → List SDep
  | 0 => []
  | r + 1 => depRow x r (depAll x r) (x.2.getD r default).2.length
/-- The pairs of a system. -/
noncomputable def pairsF (x : SSystem) : List SDep := depAll x x.2.length
theorem depRow_len (x : SSystem) (r : Nat) (out : List SDep) : ∀ k, (depRow x r out k).length ≤ out.length + k
  | 0 => Nat.le_refl _
  | k + 1 => by
    have := depRow_len x r out k
    have h : (depAt x r k).toList.length ≤ 1 := by cases depAt x r k <;> simp
    show (depRow x r out k ++ (depAt x r k).toList).length ≤ _
    rw [List.length_append]; omega
theorem depAll_len {x : SSystem} (hs : sysOk x = true) : ∀ r, r ≤ x.2.length → (depAll x r).length ≤ 60 * r
  | 0, _ => Nat.zero_le _
  | r + 1, hr => by
    have h1 := depAll_len hs r (by omega)
    have h2 := termOk_len (rule_of hs (k := r) (by omega)).1.2.1
    have h3 := depRow_len x r (depAll x r) (x.2.getD r default).2.length
    show (depRow x r (depAll x r) (x.2.getD r default).2.length).length ≤ _
    omega
theorem depRow_yes {x : SSystem} {r k : Nat} {out : List SDep} (h : (depAt x r k).isSome = true) : depRow x r out (k + 1) = depRow x r out k ++ [depD x r k] := by
  show depRow x r out k ++ (depAt x r k).toList = _
  unfold depD
  cases e : depAt x r k with
  | none => rw [e] at h; cases h
  | some d => rfl
theorem depRow_no {x : SSystem} {r k : Nat} {out : List SDep} (h : (depAt x r k).isSome = false) : depRow x r out (k + 1) = depRow x r out k := by
  show depRow x r out k ++ (depAt x r k).toList = _
  cases e : depAt x r k with
  | none => simp
  | some d => rw [e] at h; cases h
def PairsP (x : SSystem) : Prop := sysOk x = true ∧ (pairsF x).length ≤ 64
noncomputable def pairsD (x : SSystem) : List SDep := if dcP (PairsP x) = true then pairsF x else []
theorem pairsD_yes {x : SSystem} (h : PairsP x) : pairsD x = pairsF x := if_pos (dcP_t h)
theorem pairsD_no {x : SSystem} (h : ¬ PairsP x) : pairsD x = [] := if_neg (by rw [dcP_f h]; decide)
theorem pairsD_len (x : SSystem) : (pairsD x).length ≤ 64 := by
  by_cases h : PairsP x
  · rw [pairsD_yes h]; exact h.2
  · rw [pairsD_no h]; exact Nat.zero_le _
theorem depD_in {x : SSystem} {r k : Nat} (hr : r ≤ 1000) (hk : k ≤ 1000) : (0 ≤ (depD x r k).2.2.1 ∧ (depD x r k).2.2.1 ≤ 1000) ∧ 0 ≤ (depD x r k).2.2.2 ∧ (depD x r k).2.2.2 ≤ 1000 := by
  by_cases h : DepP x r k
  · rw [(dep_some h).2]; simp only; omega
  · rw [(dep_none h).2]; simp only; omega
theorem PairsOf_spec {w0 : World} {Γ : List Atom} {v0 v1 : Value} {x : SSystem} [h0 : HasRd (List Int) repList Γ [v0] x.1] [h1 : HasRd (List SRule) repList Γ [v1] x.2] :
    CJ Try.prog 25 [.agg #[v0, v1]] w0 Γ (fun q : Value => .tuple #[q, .bool (dcP (PairsP x))]) (fun q => .ow [q] (pairsD x) :: Γ) := by
  refine cj_lift (R := [.rd [v0] x.1, .rd [v1] x.2]) (A := fun q : Value => [.ow [q] (pairsD x)]) (fun w1 => ?_) (reads_cons h0 (reads_cons h1 (inferInstance))) (fun _ => inferInstance)
  simp only [List.cons_append, List.nil_append]
  refine cj_len v1 fun hl1 => ?_
  by_cases hs : sysOk x = true
  · have hrl := (sysOk_iff.1 hs).1.2
    refine cj_enter Try.func25 Try.ntmps25 ?_
    repeat' (first | refine red ?_ | (refine redc fun r => ?_; try have hr := Subtype.property r) | refine redv fun sv => ?_ | refine redn fun b => ?_ | (refine redi (fun hc => ?_) (fun hc => ?_) <;> try first | (exfalso; omega) | with_reducible first | exact absurd rfl hc | exact absurd hc Bool.false_ne_true | exact absurd hc Bool.false_ne_true.symm) | fail)
    · rw [hs] at hc; cases hc
    refine wc_loop_p [4, 5] [14, 15, 16, 17, 18, 6, 21, 22, 23, 24, 25, 26, 27, 28, 29, 33, 34, 35, 36, 32, 37, 38, 7, 8, 39, 40, 41, 42, 43, 30, 31, 19, 20] (ι := Value × Nat) (fun k => [k.1, .int .i64 k.2]) (fun k => [.ow [k.1] (depAll x k.2)]) (fun k => k.2 ≤ x.2.length) (fun k => x.2.length - k.2) (sv, 0) [.ow [sv] ([] : List SDep)] (by kernel_rfl) (Nat.zero_le _) rfl ?_
    intro ⟨so, ri⟩ u l' hl' hri
    simp only [patch, List.map_cons, List.map_nil, List.set_cons_zero, List.set_cons_succ] at hl'
    subst hl'
    simp only [List.cons_append, List.nil_append] at hri ⊢
    have hal := depAll_len hs ri hri
    by_cases hrl2 : ri < x.2.length
    · have hR := (rule_of hs hrl2).1
      have hlR := termOk_len hR.2.1
      repeat' (first | refine red ?_ | (refine redi (fun hc => ?_) (fun hc => ?_) <;> try first | (exfalso; omega) | with_reducible first | exact absurd rfl hc | exact absurd hc Bool.false_ne_true | exact absurd hc Bool.false_ne_true.symm) | fail)
      refine wc_loop_p [4, 6] [21, 22, 23, 24, 25, 26, 27, 28, 29, 33, 34, 35, 36, 32, 37, 38, 7, 8, 39, 40, 41, 42, 43, 30, 31] (ι := Value × Nat) (fun k => [k.1, .int .i64 k.2]) (fun k => [.ow [k.1] (depRow x ri (depAll x ri) k.2)]) (fun k => k.2 ≤ (x.2.getD ri default).2.length) (fun k => (x.2.getD ri default).2.length - k.2) (so, 0) [.ow [so] (depAll x ri)] (by kernel_rfl) (Nat.zero_le _) rfl ?_
      intro ⟨sp, k⟩ u2 l2 hl2 hk
      simp only [patch, List.map_cons, List.map_nil, List.set_cons_zero, List.set_cons_succ] at hl2
      subst hl2
      simp only [List.cons_append, List.nil_append] at hk ⊢
      have hdl := depRow_len x ri (depAll x ri) k
      by_cases hkl : k < (x.2.getD ri default).2.length
      · have hdp : DpC x ri k := ⟨hs, hrl2, hkl⟩
        obtain ⟨hd1, hd2⟩ := depD_in (x := x) (r := ri) (k := k) (by omega) (by omega)
        repeat' (first | refine red ?_ | refine reds ?_ | (refine redc fun r => ?_; try have hr := Subtype.property r) | refine redv fun sv => ?_ | refine redn fun b => ?_ | (refine redd fun p cs as_ hcs has hf => ?_; simp only [Un.cells, Un.atoms, Un.fact, List.cons_append, List.nil_append] at hcs has hf; subst hcs has) | (refine redi (fun hc => ?_) (fun hc => ?_) <;> try first | (exfalso; omega) | with_reducible first | exact absurd rfl hc | exact absurd hc Bool.false_ne_true | exact absurd hc Bool.false_ne_true.symm) | fail)
        · exact wq_next (sv, k + 1) (by simp only; omega) (by simp only; omega) (by kernel_rfl) (by simp only [depRow_yes hc]; exact ent_e)
        · exact wq_next (sp, k + 1) (by simp only; omega) (by simp only; omega) (by kernel_rfl) (by simp only [depRow_no hc]; exact ent_e)
      · obtain rfl : k = (x.2.getD ri default).2.length := by omega
        repeat' (first | refine red ?_ | refine reds ?_ | (refine redd fun p cs as_ hcs has hf => ?_; simp only [Un.cells, Un.atoms, Un.fact, List.cons_append, List.nil_append] at hcs has hf; subst hcs has) | (refine redi (fun hc => ?_) (fun hc => ?_) <;> try first | (exfalso; omega) | with_reducible first | exact absurd rfl hc | exact absurd hc Bool.false_ne_true | exact absurd hc Bool.false_ne_true.symm) | fail)
        exact wq_next (sp, ri + 1) (by simp only; omega) (by simp only; omega) (by kernel_rfl) (by show Ent _ _ (.ow [sp] (depRow x ri (depAll x ri) (x.2.getD ri default).2.length) :: _); exact ent_e)
    · obtain rfl : ri = x.2.length := by omega
      have hp64 : PairsP x ↔ (depAll x x.2.length).length ≤ 64 := ⟨fun h => h.2, fun h => ⟨hs, h⟩⟩
      repeat' (first | refine red ?_ | refine redv fun sv => ?_ | (refine redi (fun hc => ?_) (fun hc => ?_) <;> try first | (exfalso; omega) | with_reducible first | exact absurd rfl hc | exact absurd hc Bool.false_ne_true | exact absurd hc Bool.false_ne_true.symm) | fail)
      · have hno : ¬ PairsP x := fun h => by have := hp64.1 h; omega
        rw [pairsD_no hno, dcP_f hno]
        exact ⟨sv, rfl, ent_e⟩
      · have hyes : PairsP x := hp64.2 (by omega)
        rw [pairsD_yes hyes, dcP_t hyes]
        exact ⟨so, rfl, by show Ent _ _ (.ow [so] (depAll x x.2.length) :: _); exact ent_e⟩
  · have hno : ¬ PairsP x := fun h => hs h.1
    rw [pairsD_no hno, dcP_f hno]
    refine cj_enter Try.func25 Try.ntmps25 ?_
    repeat' (first | refine red ?_ | (refine redc fun r => ?_; try have hr := Subtype.property r) | refine redv fun sv => ?_ | refine redn fun b => ?_ | (refine redi (fun hc => ?_) (fun hc => ?_) <;> try first | (exfalso; omega) | with_reducible first | exact absurd rfl hc | exact absurd hc Bool.false_ne_true | exact absurd hc Bool.false_ne_true.symm) | fail)
    · exact ⟨sv, rfl, ent_e⟩
    · exact absurd hc hs
instance PairsOf_ctr {Γ : List Atom} {v0 v1 : Value} {x : SSystem} [h0 : HasRd (List Int) repList Γ [v0] x.1] [h1 : HasRd (List SRule) repList Γ [v1] x.2] :
    CtrC Try.prog 25 [.agg #[v0, v1]] Γ (True) (Value) (fun q : Value => .tuple #[q, .bool (dcP (PairsP x))]) (fun q => .ow [q] (pairsD x) :: Γ) := ⟨fun s w0 => PairsOf_spec⟩

end Go.Proofs.Ytjblieilblcdnaa
