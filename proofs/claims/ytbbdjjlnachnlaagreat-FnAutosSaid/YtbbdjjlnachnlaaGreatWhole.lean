/- Whether an automaton has a transition for every list of states. -/
import Derived.Test.YtbbdjjlnachnlaaGreatAutL
import Derived.Test.YtbbdjjlnachnlaaGreatAuto2
import Derived.Test.YtbbdjjlnachnlaaGreatSurI
import Derived.Test.YtbbdjjlnachnlaaGreatBothI
namespace Go.Proofs.YtbbdjjlnachnlaaGreat
open Go Go.Eng
set_option linter.unusedVariables false
set_option linter.unusedSimpArgs false
set_option synthInstance.maxHeartbeats 400000
set_option synthInstance.maxSize 1000
set_option maxHeartbeats 2000000
set_option maxRecDepth 20000


theorem whole1_spec {w0 : World} {Γ : List Atom} {b : Nat} {v v1 : Value} {ta tb : STrans} [hb : HasPt Γ ⟨b, 0, none⟩ [.int .i64 tb.1, v1, .int .i64 tb.2.2]] [h : HasRd (List Int) repList Γ [v] ta.2.1] [h1 : HasRd (List Int) repList Γ [v1] tb.2.1] : CJ Tryz.prog 76 [.agg #[.int .i64 ta.1, v, .int .i64 ta.2.2], .pointer (some ⟨b, 0, none⟩)] w0 Γ (fun _ : Unit => .bool (decide (FrT ta tb))) (fun _ => Γ) := by
  refine cj_lift (R := [.pt ⟨b, 0, none⟩ [.int .i64 tb.1, v1, .int .i64 tb.2.2], .rd [v] ta.2.1, .rd [v1] tb.2.1]) (A := fun _ => []) (fun w1 => ?_) (reads_pt hb (reads_cons h (reads_cons h1 inferInstance))) (fun _ => inferInstance)
  simp only [List.cons_append, List.nil_append]
  refine cj_enter Tryz.func76 Tryz.ntmps76 ?_
  repeat' (first | refine red ?_ | (refine redc fun r => ?_; try have hr := Subtype.property r) | refine redn fun b => ?_ | (refine redi (fun hc => ?_) (fun hc => ?_) <;> try first | (exfalso; omega) | with_reducible first | exact absurd rfl hc | exact absurd hc Bool.false_ne_true | exact absurd hc Bool.false_ne_true.symm) | fail)
  all_goals refine ⟨(), ret_bool ?_, ent_e⟩
  all_goals unfold FrT
  all_goals simp [*]
instance whole1_ctr {Γ : List Atom} {b : Nat} {v v1 : Value} {ta tb : STrans} [hb : HasPt Γ ⟨b, 0, none⟩ [.int .i64 tb.1, v1, .int .i64 tb.2.2]] [h : HasRd (List Int) repList Γ [v] ta.2.1] [h1 : HasRd (List Int) repList Γ [v1] tb.2.1] :
    CtrC Tryz.prog 76 [.agg #[.int .i64 ta.1, v, .int .i64 ta.2.2], .pointer (some ⟨b, 0, none⟩)] Γ (True) (Unit) (fun _ : Unit => .bool (decide (FrT ta tb))) (fun _ => Γ) := ⟨fun s w0 => whole1_spec⟩

theorem WIndexFuncU_spec {w0 : World} {Γ : List Atom} {b : Nat} {v v1 : Value} {tb : STrans} {ts : List STrans} [hb : HasPt Γ ⟨b, 0, none⟩ [.int .i64 tb.1, v1, .int .i64 tb.2.2]] [h : HasRd (List STrans) repList Γ [v] ts] [h1 : HasRd (List Int) repList Γ [v1] tb.2.1] : CJ Tryz.prog 128 [v, .func (.func 76) #[] #[.pointer (some ⟨b, 0, none⟩)]] w0 Γ (fun q : { n : Int // 0 ≤ n ↔ HasF tb ts ts.length } => .int .i64 q.1) (fun _ => Γ) := by
  refine cj_lift (R := [.pt ⟨b, 0, none⟩ [.int .i64 tb.1, v1, .int .i64 tb.2.2], .rd [v] ts, .rd [v1] tb.2.1]) (A := fun _ => []) (fun w1 => ?_) (reads_pt hb (reads_cons h (reads_cons h1 inferInstance))) (fun _ => inferInstance)
  simp only [List.cons_append, List.nil_append]
  refine cj_len v fun hlx => ?_
  refine cj_enter Tryz.func128 Tryz.ntmps128 ?_
  repeat' (first | refine red ?_ | fail)
  refine wc_loop_c [8] [9, 10, 5, 11, 12, 13, 14, 15, 16, 17, 4, 18] (ι := Nat) (fun k => [.int .i64 k]) (fun k => k ≤ ts.length ∧ ¬ HasF tb ts k) (fun k => ts.length - k) 0 (by kernel_rfl) ⟨Nat.zero_le _, fun ⟨i, hi, _⟩ => by omega⟩ ?_
  intro k u l' hl' ⟨hk, hkk⟩
  simp only [patch, List.map_cons, List.map_nil, List.set_cons_zero, List.set_cons_succ] at hl'
  subst hl'
  repeat' (first | refine red ?_ | refine reds ?_ | (refine redc fun r => ?_; try have hr := Subtype.property r) | (refine redd fun p cs as_ hcs has hf => ?_; simp only [Un.cells, Un.atoms, Un.fact, List.cons_append, List.nil_append] at hcs has hf; subst hcs has) | (refine redi (fun hc => ?_) (fun hc => ?_) <;> try first | (exfalso; omega) | with_reducible first | exact absurd rfl hc | exact absurd hc Bool.false_ne_true | exact absurd hc Bool.false_ne_true.symm) | fail)
  · exact ⟨⟨(k : Int), ⟨fun _ => ⟨k, by omega, hc⟩, fun _ => by omega⟩⟩, rfl, ent_e⟩
  · exact wq_next (k + 1) ⟨by omega, hasF_next hkk hc⟩ (by omega) (by kernel_rfl) ent_e
  · exact ⟨⟨-1, ⟨fun h => by omega, fun h => absurd (by rw [show ts.length = k by omega] at h; exact h) hkk⟩⟩, rfl, ent_e⟩
instance WIndexFuncU_ctr {Γ : List Atom} {b : Nat} {v v1 : Value} {tb : STrans} {ts : List STrans} [hb : HasPt Γ ⟨b, 0, none⟩ [.int .i64 tb.1, v1, .int .i64 tb.2.2]] [h : HasRd (List STrans) repList Γ [v] ts] [h1 : HasRd (List Int) repList Γ [v1] tb.2.1] :
    CtrC Tryz.prog 128 [v, .func (.func 76) #[] #[.pointer (some ⟨b, 0, none⟩)]] Γ (True) ({ n : Int // 0 ≤ n ↔ HasF tb ts ts.length }) (fun q : { n : Int // 0 ≤ n ↔ HasF tb ts ts.length } => .int .i64 q.1) (fun _ => Γ) := ⟨fun s w0 => WIndexFuncU_spec⟩

theorem WContainsFuncU_spec {w0 : World} {Γ : List Atom} {b : Nat} {v v1 : Value} {tb : STrans} {ts : List STrans} [hb : HasPt Γ ⟨b, 0, none⟩ [.int .i64 tb.1, v1, .int .i64 tb.2.2]] [h : HasRd (List STrans) repList Γ [v] ts] [h1 : HasRd (List Int) repList Γ [v1] tb.2.1] : CJ Tryz.prog 75 [v, .func (.func 76) #[] #[.pointer (some ⟨b, 0, none⟩)]] w0 Γ (fun _ : Unit => .bool (decC (HasF tb ts ts.length))) (fun _ => Γ) := by
  refine cj_lift (R := [.pt ⟨b, 0, none⟩ [.int .i64 tb.1, v1, .int .i64 tb.2.2], .rd [v] ts, .rd [v1] tb.2.1]) (A := fun _ => []) (fun w1 => ?_) (reads_pt hb (reads_cons h (reads_cons h1 inferInstance))) (fun _ => inferInstance)
  simp only [List.cons_append, List.nil_append]
  refine cj_enter Tryz.func75 Tryz.ntmps75 ?_
  repeat' (first | refine red ?_ | (refine redc fun r => ?_; try have hr := Subtype.property r) | fail)
  exact ⟨(), ret_bool (decC_of r.2).symm, ent_e⟩
instance WContainsFuncU_ctr {Γ : List Atom} {b : Nat} {v v1 : Value} {tb : STrans} {ts : List STrans} [hb : HasPt Γ ⟨b, 0, none⟩ [.int .i64 tb.1, v1, .int .i64 tb.2.2]] [h : HasRd (List STrans) repList Γ [v] ts] [h1 : HasRd (List Int) repList Γ [v1] tb.2.1] :
    CtrC Tryz.prog 75 [v, .func (.func 76) #[] #[.pointer (some ⟨b, 0, none⟩)]] Γ (True) (Unit) (fun _ : Unit => .bool (decC (HasF tb ts ts.length))) (fun _ => Γ) := ⟨fun s w0 => WContainsFuncU_spec⟩

def powS (s : Nat) (ar : List Int) : Nat → Nat
  | 0 => 0
  | k + 1 => powS s ar k + s ^ arN ar k
theorem powS_le {s : Nat} {ar : List Int} (hs : s ≤ 16) (ha : sigOk ar = true) : ∀ k, k ≤ ar.length → powS s ar k ≤ 4096 * k
  | 0, _ => Nat.le_refl _
  | k + 1, h => by
    have h1 := powS_le hs ha k (by omega)
    have h2 := (arN_eq ha (f := k) (by omega)).2
    have h3 : s ^ arN ar k ≤ 16 ^ arN ar k := Nat.pow_le_pow_left hs _
    have h4 : 16 ^ arN ar k ≤ 16 ^ 3 := Nat.pow_le_pow_right (by decide) h2
    unfold powS
    omega
theorem powS_trS {rs : List STrans} {ar : List Int} {sets : List (List Int)} : ∀ k, (trS rs ar sets k).length = powS sets.length ar k
  | 0 => rfl
  | k + 1 => by
    show (trR rs ar sets k (trS rs ar sets k) (sets.length ^ arN ar k)).length = _
    rw [trR_len, powS_trS k]; rfl
noncomputable def frsh (rs : List STrans) : Nat → Nat
  | 0 => 0
  | k + 1 => frsh rs k + (if decC (HasF (rs.getD k default) (rs.take k) (rs.take k).length) = true then 0 else 1)
theorem frsh_le (rs : List STrans) : ∀ k, frsh rs k ≤ k
  | 0 => Nat.le_refl _
  | k + 1 => by
    have := frsh_le rs k
    unfold frsh
    split <;> omega
theorem frsh_sure {rs : List STrans} (h : SureTo rs rs.length) : ∀ k, k ≤ rs.length → frsh rs k = k
  | 0, _ => rfl
  | k + 1, hk => by
    unfold frsh
    rw [frsh_sure h k (by omega), if_neg]
    intro h2
    obtain ⟨j, hj, he⟩ := (mem_takeF (by omega)).1 (decC_iff.1 h2)
    exact h k (by omega) j hj he
def pw (n j : Nat) : Int := ((n ^ j : Nat) : Int)
theorem pw_step (n j : Nat) : pw n j * (n : Int) = pw n (j + 1) := by
  unfold pw; rw [Nat.pow_succ]; exact (Int.natCast_mul _ _).symm
theorem pw_le {n j : Nat} (hn : n ≤ 16) (hj : j ≤ 4) : 0 ≤ pw n j ∧ pw n j ≤ 65536 := by
  unfold pw
  have h3 : n ^ j ≤ 16 ^ j := Nat.pow_le_pow_left hn _
  have h4 : 16 ^ j ≤ 16 ^ 4 := Nat.pow_le_pow_right (by decide) hj
  omega
def psI (n : Nat) (ar : List Int) (k : Nat) : Int := ((powS n ar k : Nat) : Int)
theorem psI_step (n : Nat) (ar : List Int) (k : Nat) : psI n ar k + pw n (arN ar k) = psI n ar (k + 1) := by
  unfold psI pw; rfl
theorem psI_le {n : Nat} {ar : List Int} (hn : n ≤ 16) (ha : sigOk ar = true) {k : Nat} (hk : k ≤ ar.length) : 0 ≤ psI n ar k ∧ psI n ar k ≤ 65536 := by
  have h1 := powS_le hn ha k hk
  have h2 := sigOk_len ha
  unfold psI
  omega
noncomputable def wholeB (ar : List Int) (x : SAuto) : Bool := decC (AutoP ar x ∧ powS x.1.toNat ar ar.length = frsh x.2.1 x.2.1.length)
theorem SureW.whole {a : List Int} {x z : SAuto} {sets : List (List Int)} (h : SureW a x z sets) (hs : SureTo z.2.1 z.2.1.length) : wholeB a z = true := by
  refine decC_t ⟨h.auto, ?_⟩
  rw [frsh_sure hs _ (Nat.le_refl _), h.ok]
  exact (powS_trS a.length).symm
theorem WholeIn_spec {w0 : World} {Γ : List Atom} {v v0 v1 : Value} {ar : List Int} {x : SAuto} [h : HasRd (List Int) repList Γ [v] ar] [h0 : HasRd (List STrans) repList Γ [v0] x.2.1] [h1 : HasRd (List Int) repList Γ [v1] x.2.2] : CJ Tryz.prog 25 [.agg #[v], .agg #[.int .i64 x.1, v0, v1]] w0 Γ (fun _ : Unit => .bool (wholeB ar x)) (fun _ => Γ) := by
  refine cj_lift (R := [.rd [v] ar, .rd [v0] x.2.1, .rd [v1] x.2.2]) (A := fun _ => []) (fun w1 => ?_) (reads_cons h (reads_cons h0 (reads_cons h1 (inferInstance)))) (fun _ => inferInstance)
  simp only [List.cons_append, List.nil_append]
  by_cases hau : AutoP ar x
  · have h16 := hau.2.1
    have hrl := hau.2.2.1
    have hal := sigOk_len hau.1
    obtain ⟨n, hn⟩ : ∃ n : Nat, x.1 = (n : Int) := ⟨x.1.toNat, by omega⟩
    have hpl := powS_le (s := n) (by omega) hau.1
    refine cj_enter Tryz.func25 Tryz.ntmps25 ?_
    repeat' (first | refine red ?_ | (refine redc fun r => ?_; try have hr := Subtype.property r) | refine redn fun b => ?_ | (refine redi (fun hc => ?_) (fun hc => ?_) <;> try first | (exfalso; omega) | with_reducible first | exact absurd rfl hc | exact absurd hc Bool.false_ne_true | exact absurd hc Bool.false_ne_true.symm) | fail)
    · exact absurd hau hc
    refine wc_loop_c [5, 18] [19, 20, 21, 7, 8, 22, 23, 24, 25, 26, 27, 28, 29, 30, 31, 32, 33] (ι := Nat) (fun k => [.int .i64 (psI n ar k), .int .i64 k]) (fun k => k ≤ ar.length) (fun k => ar.length - k) 0 (by kernel_rfl) (Nat.zero_le _) ?_
    intro k u l' hl' hk
    simp only [patch, List.map_cons, List.map_nil, List.set_cons_zero, List.set_cons_succ] at hl'
    subst hl'
    have hpk := psI_le (n := n) (by omega) hau.1 hk
    by_cases hkl : k < ar.length
    · have har := arN_eq hau.1 hkl
      have hpk1 := psI_le (n := n) (by omega) hau.1 (show k + 1 ≤ ar.length by omega)
      have hps := psI_step n ar k
      repeat' (first | refine red ?_ | refine redf fun hbi => ?_ | refine reds ?_ | (refine redi (fun hc => ?_) (fun hc => ?_) <;> try first | (exfalso; omega) | with_reducible first | exact absurd rfl hc | exact absurd hc Bool.false_ne_true | exact absurd hc Bool.false_ne_true.symm) | fail)
      refine wc_loop_c [8, 23] [24, 25, 26, 27, 28, 29] (ι := Nat) (fun j => [.int .i64 (pw n j), .int .i64 j]) (fun j => j ≤ arN ar k) (fun j => arN ar k - j) 0 (by kernel_rfl) (Nat.zero_le _) ?_
      intro j u l' hl' hj
      simp only [patch, List.map_cons, List.map_nil, List.set_cons_zero, List.set_cons_succ] at hl'
      subst hl'
      have hpj := pw_le (n := n) (j := j) (by omega) (by omega)
      by_cases hjl : j < arN ar k
      · have hpj1 := pw_le (n := n) (j := j + 1) (by omega) (by omega)
        have hst := pw_step n j
        rw [← hn] at hst
        repeat' (first | refine red ?_ | refine reds ?_ | (refine redi (fun hc => ?_) (fun hc => ?_) <;> try first | (exfalso; omega) | with_reducible first | exact absurd rfl hc | exact absurd hc Bool.false_ne_true | exact absurd hc Bool.false_ne_true.symm) | fail)
        all_goals
         rw [hst]
         exact wq_next (j + 1) (by omega) (by omega) (by kernel_rfl) ent_e
      · obtain rfl : j = arN ar k := by omega
        repeat' (first | refine red ?_ | refine reds ?_ | (refine redi (fun hc => ?_) (fun hc => ?_) <;> try first | (exfalso; omega) | with_reducible first | exact absurd rfl hc | exact absurd hc Bool.false_ne_true | exact absurd hc Bool.false_ne_true.symm) | fail)
        all_goals
         rw [hps]
         exact wq_next (k + 1) (by omega) (by omega) (by kernel_rfl) ent_e
    obtain rfl : k = ar.length := by omega
    repeat' (first | refine red ?_ | (refine redi (fun hc => ?_) (fun hc => ?_) <;> try first | (exfalso; omega) | with_reducible first | exact absurd rfl hc | exact absurd hc Bool.false_ne_true | exact absurd hc Bool.false_ne_true.symm) | fail)
    refine wc_loop_c [5, 37] [38, 39, 40, 41, 10, 9, 42, 43, 44, 45, 46, 47, 48, 49, 50, 51] (ι := Nat) (fun k => [.int .i64 (psI n ar ar.length - (frsh x.2.1 k : Nat)), .int .i64 k]) (fun k => k ≤ x.2.1.length) (fun k => x.2.1.length - k) 0 (by kernel_rfl) (Nat.zero_le _) ?_
    intro k u l' hl' hk
    simp only [patch, List.map_cons, List.map_nil, List.set_cons_zero, List.set_cons_succ] at hl'
    subst hl'
    have hfk := frsh_le x.2.1 k
    by_cases hkl : k < x.2.1.length
    · have hfs : frsh x.2.1 (k + 1) = frsh x.2.1 k + (if decC (HasF (x.2.1.getD k default) (x.2.1.take k) (x.2.1.take k).length) = true then 0 else 1) := rfl
      repeat' (first | refine red ?_ | refine reds ?_ | (refine redc fun r => ?_; try have hr := Subtype.property r) | refine redv fun sv => ?_ | refine redn fun b => ?_ | (refine redd fun p cs as_ hcs has hf => ?_; simp only [Un.cells, Un.atoms, Un.fact, List.cons_append, List.nil_append] at hcs has hf; subst hcs has) | (refine redi (fun hc => ?_) (fun hc => ?_) <;> try first | (exfalso; omega) | with_reducible first | exact absurd rfl hc | exact absurd hc Bool.false_ne_true | exact absurd hc Bool.false_ne_true.symm) | fail)
      · have hno : ¬ HasF (x.2.1.getD k default) (x.2.1.take k) (x.2.1.take k).length := hc
        rw [decC_f hno, if_neg (by decide)] at hfs
        rw [show psI n ar ar.length - ((frsh x.2.1 k : Nat) : Int) - 1 = psI n ar ar.length - ((frsh x.2.1 (k + 1) : Nat) : Int) by rw [hfs]; omega]
        exact wq_next (k + 1) (by omega) (by omega) (by kernel_rfl) ent_e
      · have hyes : HasF (x.2.1.getD k default) (x.2.1.take k) (x.2.1.take k).length := hc
        rw [decC_t hyes, if_pos rfl] at hfs
        have hfs2 : frsh x.2.1 (k + 1) = frsh x.2.1 k := by omega
        rw [← hfs2]
        exact wq_next (k + 1) (by omega) (by omega) (by kernel_rfl) ent_e
    obtain rfl : k = x.2.1.length := by omega
    repeat' (first | refine red ?_ | (refine redi (fun hc => ?_) (fun hc => ?_) <;> try first | (exfalso; omega) | with_reducible first | exact absurd rfl hc | exact absurd hc Bool.false_ne_true | exact absurd hc Bool.false_ne_true.symm) | fail)
    refine ⟨(), ret_bool ?_, ent_e⟩
    have hnt : x.1.toNat = n := by omega
    unfold wholeB
    refine (decC_of ?_).symm
    rw [hnt]
    unfold psI
    constructor
    · intro e; exact ⟨hau, by omega⟩
    · intro e; have := e.2; omega
  · refine cj_enter Tryz.func25 Tryz.ntmps25 ?_
    repeat' (first | refine red ?_ | (refine redc fun r => ?_; try have hr := Subtype.property r) | refine redn fun b => ?_ | (refine redi (fun hc => ?_) (fun hc => ?_) <;> try first | (exfalso; omega) | with_reducible first | exact absurd rfl hc | exact absurd hc Bool.false_ne_true | exact absurd hc Bool.false_ne_true.symm) | fail)
    all_goals first
      | exact ⟨(), ret_bool (decC_f fun h => hau h.1), ent_e⟩
      | (exfalso; exact hau ‹_›)
      | fail
instance WholeIn_ctr {Γ : List Atom} {v v0 v1 : Value} {ar : List Int} {x : SAuto} [h : HasRd (List Int) repList Γ [v] ar] [h0 : HasRd (List STrans) repList Γ [v0] x.2.1] [h1 : HasRd (List Int) repList Γ [v1] x.2.2] :
    CtrC Tryz.prog 25 [.agg #[v], .agg #[.int .i64 x.1, v0, v1]] Γ (True) (Unit) (fun _ : Unit => .bool (wholeB ar x)) (fun _ => Γ) := ⟨fun s w0 => WholeIn_spec⟩

end Go.Proofs.YtbbdjjlnachnlaaGreat
