/- Automata that are well formed: the program's side. -/
import Derived.Test.YtbbdjjlnachnlaaGreatDoorAuto
namespace Go.Proofs.YtbbdjjlnachnlaaGreatDoor
open Go Go.Eng
set_option linter.unusedVariables false
set_option linter.unusedSimpArgs false
set_option synthInstance.maxHeartbeats 400000
set_option synthInstance.maxSize 1000

/-! the program's -/
theorem isNaN_spec {w0 : World} {Γ : List Atom} {x : Int} : CJ Tryz.prog 190 [.int .i64 x] w0 Γ (fun _ : Unit => .bool false) (fun _ => Γ) := by
  refine cj_enter Tryz.func190 Tryz.ntmps190 ?_
  repeat' (first | refine red ?_ | fail)
  all_goals exact ⟨(), ret_bool (by simp), ent_e⟩
instance isNaN_ctr {Γ : List Atom} {x : Int} :
    CtrC Tryz.prog 190 [.int .i64 x] Γ (True) (Unit) (fun _ : Unit => .bool false) (fun _ => Γ) := ⟨fun s w0 => isNaN_spec⟩

theorem cmpCompare_spec {w0 : World} {Γ : List Atom} {x y : Int} : CJ Tryz.prog 174 [.int .i64 x, .int .i64 y] w0 Γ (fun q : { c : Int // c = 0 ↔ x = y } => .int .i64 q.1) (fun _ => Γ) := by
  refine cj_enter Tryz.func174 Tryz.ntmps174 ?_
  repeat' (first | refine red ?_ | refine redc fun r => ?_ | (refine redi (fun hc => ?_) (fun hc => ?_) <;> try first | (exfalso; omega) | exact absurd rfl hc) | fail)
  · exact ⟨⟨-1, by omega⟩, rfl, ent_e⟩
  · exact ⟨⟨1, by omega⟩, rfl, ent_e⟩
  · exact ⟨⟨0, by omega⟩, rfl, ent_e⟩
instance cmpCompare_ctr {Γ : List Atom} {x y : Int} :
    CtrC Tryz.prog 174 [.int .i64 x, .int .i64 y] Γ (True) ({ c : Int // c = 0 ↔ x = y }) (fun q : { c : Int // c = 0 ↔ x = y } => .int .i64 q.1) (fun _ => Γ) := ⟨fun s w0 => cmpCompare_spec⟩

theorem compareInts_spec {w0 : World} {Γ : List Atom} {x y : Int} : CJ Tryz.prog 156 [.int .i64 x, .int .i64 y] w0 Γ (fun q : { c : Int // c = 0 ↔ x = y } => .int .i64 q.1) (fun _ => Γ) := by
  refine cj_enter Tryz.func156 Tryz.ntmps156 ?_
  repeat' (first | refine red ?_ | (refine redi (fun hc => ?_) (fun hc => ?_) <;> try first | (exfalso; omega) | exact absurd rfl hc) | fail)
  · exact ⟨⟨-1, by omega⟩, rfl, ent_e⟩
  · exact ⟨⟨1, by omega⟩, rfl, ent_e⟩
  · exact ⟨⟨0, by omega⟩, rfl, ent_e⟩
instance compareInts_ctr {Γ : List Atom} {x y : Int} :
    CtrC Tryz.prog 156 [.int .i64 x, .int .i64 y] Γ (True) ({ c : Int // c = 0 ↔ x = y }) (fun q : { c : Int // c = 0 ↔ x = y } => .int .i64 q.1) (fun _ => Γ) := ⟨fun s w0 => compareInts_spec⟩

theorem slicesCompare_spec {w0 : World} {Γ : List Atom} {v v1 : Value} {xs ys : List Int} [h : HasRd (List Int) repList Γ [v] xs] [h1 : HasRd (List Int) repList Γ [v1] ys] : CJ Tryz.prog 157 [v, v1] w0 Γ (fun q : { c : Int // c = 0 ↔ xs = ys } => .int .i64 q.1) (fun _ => Γ) := by
  refine cj_lift (R := [.rd [v] xs, .rd [v1] ys]) (A := fun _ => []) (fun w1 => ?_) (reads_cons h (reads_cons h1 (inferInstance))) (fun _ => inferInstance)
  simp only [List.cons_append, List.nil_append]
  refine cj_len v fun hlx => ?_
  refine cj_len v1 fun hly => ?_
  refine cj_enter Tryz.func157 Tryz.ntmps157 ?_
  repeat' (first | refine red ?_ | fail)
  refine wc_loop_c [11] [12, 13, 14, 15, 5, 6, 16, 17, 18, 19, 4, 20, 21, 22, 23, 7, 24, 25, 26, 8, 27, 28, 29, 30] (ι := Nat) (fun k => [.int .i64 k]) (fun k => k ≤ xs.length ∧ k ≤ ys.length ∧ xs.take k = ys.take k) (fun k => xs.length - k) 0 (by kernel_rfl) ⟨Nat.zero_le _, Nat.zero_le _, rfl⟩ ?_
  intro k u l' hl' ⟨hk, hk2, hkk⟩
  simp only [patch, List.map_cons, List.map_nil, List.set_cons_zero, List.set_cons_succ] at hl'
  subst hl'
  repeat' (first | refine red ?_ | refine redf fun hbi => ?_ | refine reds ?_ | refine redc fun r => ?_ | (refine redi (fun hc => ?_) (fun hc => ?_) <;> try first | (exfalso; omega) | exact absurd rfl hc) | fail)
  · refine ⟨⟨1, ⟨fun h => by omega, fun h => ?_⟩⟩, rfl, ent_e⟩
    have := congrArg List.length h
    omega
  · refine ⟨⟨r.1, ⟨fun h => absurd h hc, fun h => absurd (r.2.2 (by rw [h])) hc⟩⟩, rfl, ent_e⟩
  · refine wq_next (k + 1) ⟨by omega, by omega, ?_⟩ (by omega) (by kernel_rfl) ent_e
    have h2 := r.2.1 hc
    rw [List.take_succ_eq_append_getElem (by omega), List.take_succ_eq_append_getElem (by omega), hkk]
    rw [List.getD_eq_getElem?_getD, List.getD_eq_getElem?_getD, List.getElem?_eq_getElem (by omega), List.getElem?_eq_getElem (by omega)] at h2
    rw [show xs[k] = ys[k] from h2]
  · refine ⟨⟨-1, ⟨fun h => by omega, fun h => ?_⟩⟩, rfl, ent_e⟩
    have := congrArg List.length h
    omega
  · refine ⟨⟨0, ⟨fun _ => ?_, fun _ => rfl⟩⟩, rfl, ent_e⟩
    rw [List.take_of_length_le (by omega), List.take_of_length_le (by omega)] at hkk
    exact hkk
instance slicesCompare_ctr {Γ : List Atom} {v v1 : Value} {xs ys : List Int} [h : HasRd (List Int) repList Γ [v] xs] [h1 : HasRd (List Int) repList Γ [v1] ys] :
    CtrC Tryz.prog 157 [v, v1] Γ (True) ({ c : Int // c = 0 ↔ xs = ys }) (fun q : { c : Int // c = 0 ↔ xs = ys } => .int .i64 q.1) (fun _ => Γ) := ⟨fun s w0 => slicesCompare_spec⟩

theorem compareTrans_spec {w0 : World} {Γ : List Atom} {v v1 : Value} {ta tb : STrans} [h : HasRd (List Int) repList Γ [v] ta.2.1] [h1 : HasRd (List Int) repList Γ [v1] tb.2.1] : CJ Tryz.prog 110 [.agg #[.int .i64 ta.1, v, .int .i64 ta.2.2], .agg #[.int .i64 tb.1, v1, .int .i64 tb.2.2]] w0 Γ (fun q : { c : Int // c = 0 ↔ ta = tb } => .int .i64 q.1) (fun _ => Γ) := by
  refine cj_lift (R := [.rd [v] ta.2.1, .rd [v1] tb.2.1]) (A := fun _ => []) (fun w1 => ?_) (reads_cons h (reads_cons h1 (inferInstance))) (fun _ => inferInstance)
  simp only [List.cons_append, List.nil_append]
  refine cj_enter Tryz.func110 Tryz.ntmps110 ?_
  repeat' (first | refine red ?_ | refine redc fun r => ?_ | refine redn fun b => ?_ | (refine redi (fun hc => ?_) (fun hc => ?_) <;> try first | (exfalso; omega) | exact absurd rfl hc) | fail)
  · exact ⟨⟨r.1, by rw [r.2, trans_eq]; exact ⟨fun h => absurd h hc, fun h => absurd h.1.1 hc⟩⟩, rfl, ent_e⟩
  · exact ⟨⟨r.1, by rw [r.2, trans_eq]; exact ⟨fun h => absurd (r.2.2 h) hc, fun h => h.1.2⟩⟩, rfl, ent_e⟩
  · rename_i h0' r0
    exact ⟨⟨r.1, by rw [r.2, trans_eq]; exact ⟨fun h => ⟨⟨by assumption, r0.2.1 hc⟩, h⟩, fun h => h.2⟩⟩, rfl, ent_e⟩
instance compareTrans_ctr {Γ : List Atom} {v v1 : Value} {ta tb : STrans} [h : HasRd (List Int) repList Γ [v] ta.2.1] [h1 : HasRd (List Int) repList Γ [v1] tb.2.1] :
    CtrC Tryz.prog 110 [.agg #[.int .i64 ta.1, v, .int .i64 ta.2.2], .agg #[.int .i64 tb.1, v1, .int .i64 tb.2.2]] Γ (True) ({ c : Int // c = 0 ↔ ta = tb }) (fun q : { c : Int // c = 0 ↔ ta = tb } => .int .i64 q.1) (fun _ => Γ) := ⟨fun s w0 => compareTrans_spec⟩

theorem cellsP_lt {w : World} {p : Addr} {c : Value} {cs : List Value} (h : CellsP w p (c :: cs)) : p.block < w.heap.size := by
  have h0 := h 0 (by simp)
  by_cases hp : p.block < w.heap.size
  · exact hp
  · exfalso
    have hb : (p.add 0).block = p.block := add_block p 0
    unfold World.cell? at h0
    rw [hb, Array.getElem?_eq_none (by omega)] at h0
    simp at h0
theorem reads_pt {Γ : List Atom} {p : Addr} {c : Value} {cs : List Value} {R : List Atom} (hr : HasPt Γ p (c :: cs)) (h : Reads Γ R) : Reads Γ (.pt p (c :: cs) :: R) :=
  ⟨fun hs => ⟨[], [], rfl, ⟨rfl, trivial, cellsP_lt (hr.get hs), hr.get hs⟩, h.get hs⟩⟩
instance (priority := 900) HasPt.ofBk {Γ : List Atom} {b : Nat} {cs : List Value} : HasPt (.bk b cs :: Γ) ⟨b, 0, none⟩ cs := ⟨fun ⟨f, g, _, h, _⟩ => by
  obtain ⟨e, he⟩ := h.2
  intro j hj
  by_cases h0 : j = 0
  · subst h0; simp [World.cell?, Addr.add, he]
  · simp [World.cell?, Addr.add, he, h0]⟩
theorem AutoOk1_spec {w0 : World} {Γ : List Atom} {b : Nat} {v v1 : Value} {ta tb : STrans} [hb : HasPt Γ ⟨b, 0, none⟩ [.int .i64 tb.1, v1, .int .i64 tb.2.2]] [h : HasRd (List Int) repList Γ [v] ta.2.1] [h1 : HasRd (List Int) repList Γ [v1] tb.2.1] : CJ Tryz.prog 109 [.agg #[.int .i64 ta.1, v, .int .i64 ta.2.2], .pointer (some ⟨b, 0, none⟩)] w0 Γ (fun _ : Unit => .bool (decide (tb = ta))) (fun _ => Γ) := by
  refine cj_lift (R := [.pt ⟨b, 0, none⟩ [.int .i64 tb.1, v1, .int .i64 tb.2.2], .rd [v] ta.2.1, .rd [v1] tb.2.1]) (A := fun _ => []) (fun w1 => ?_) (reads_pt hb (reads_cons h (reads_cons h1 inferInstance))) (fun _ => inferInstance)
  simp only [List.cons_append, List.nil_append]
  refine cj_enter Tryz.func109 Tryz.ntmps109 ?_
  repeat' (first | refine red ?_ | refine redc fun r => ?_ | refine redn fun b => ?_ | fail)
  all_goals exact ⟨(), ret_bool (decide_eq_decide.2 r.2.symm), ent_e⟩
instance AutoOk1_ctr {Γ : List Atom} {b : Nat} {v v1 : Value} {ta tb : STrans} [hb : HasPt Γ ⟨b, 0, none⟩ [.int .i64 tb.1, v1, .int .i64 tb.2.2]] [h : HasRd (List Int) repList Γ [v] ta.2.1] [h1 : HasRd (List Int) repList Γ [v1] tb.2.1] :
    CtrC Tryz.prog 109 [.agg #[.int .i64 ta.1, v, .int .i64 ta.2.2], .pointer (some ⟨b, 0, none⟩)] Γ (True) (Unit) (fun _ : Unit => .bool (decide (tb = ta))) (fun _ => Γ) := ⟨fun s w0 => AutoOk1_spec⟩

def HasT (t : STrans) (ts : List STrans) (n : Nat) : Prop := ∃ i, i < n ∧ t = ts.getD i default
theorem hasT_next {t : STrans} {ts : List STrans} {n : Nat} (h : ¬ HasT t ts n) (h2 : ¬ t = ts.getD n default) : ¬ HasT t ts (n + 1) := by
  rintro ⟨i, hi, h'⟩
  by_cases he : i = n
  · rw [he] at h'; exact h2 h'
  · exact h ⟨i, by omega, h'⟩
theorem IndexFuncT_spec {w0 : World} {Γ : List Atom} {b : Nat} {v v1 : Value} {tb : STrans} {ts : List STrans} [hb : HasPt Γ ⟨b, 0, none⟩ [.int .i64 tb.1, v1, .int .i64 tb.2.2]] [h : HasRd (List STrans) repList Γ [v] ts] [h1 : HasRd (List Int) repList Γ [v1] tb.2.1] : CJ Tryz.prog 155 [v, .func (.func 109) #[] #[.pointer (some ⟨b, 0, none⟩)]] w0 Γ (fun q : { n : Int // 0 ≤ n ↔ HasT tb ts ts.length } => .int .i64 q.1) (fun _ => Γ) := by
  refine cj_lift (R := [.pt ⟨b, 0, none⟩ [.int .i64 tb.1, v1, .int .i64 tb.2.2], .rd [v] ts, .rd [v1] tb.2.1]) (A := fun _ => []) (fun w1 => ?_) (reads_pt hb (reads_cons h (reads_cons h1 inferInstance))) (fun _ => inferInstance)
  simp only [List.cons_append, List.nil_append]
  refine cj_len v fun hlx => ?_
  refine cj_enter Tryz.func155 Tryz.ntmps155 ?_
  repeat' (first | refine red ?_ | fail)
  refine wc_loop_c [8] [9, 10, 5, 11, 12, 13, 14, 15, 16, 17, 4, 18] (ι := Nat) (fun k => [.int .i64 k]) (fun k => k ≤ ts.length ∧ ¬ HasT tb ts k) (fun k => ts.length - k) 0 (by kernel_rfl) ⟨Nat.zero_le _, fun ⟨i, hi, _⟩ => by omega⟩ ?_
  intro k u l' hl' ⟨hk, hkk⟩
  simp only [patch, List.map_cons, List.map_nil, List.set_cons_zero, List.set_cons_succ] at hl'
  subst hl'
  repeat' (first | refine red ?_ | refine reds ?_ | refine redc fun r => ?_ | (refine redd fun p cs as_ hcs has hf => ?_; simp only [Un.cells, Un.atoms, Un.fact, List.cons_append, List.nil_append] at hcs has hf; subst hcs has) | (refine redi (fun hc => ?_) (fun hc => ?_) <;> try first | (exfalso; omega) | exact absurd rfl hc) | fail)
  · exact ⟨⟨(k : Int), ⟨fun _ => ⟨k, by omega, hc⟩, fun _ => by omega⟩⟩, rfl, ent_e⟩
  · exact wq_next (k + 1) ⟨by omega, hasT_next hkk hc⟩ (by omega) (by kernel_rfl) ent_e
  · exact ⟨⟨-1, ⟨fun h => by omega, fun h => absurd (by rw [show ts.length = k by omega] at h; exact h) hkk⟩⟩, rfl, ent_e⟩
instance IndexFuncT_ctr {Γ : List Atom} {b : Nat} {v v1 : Value} {tb : STrans} {ts : List STrans} [hb : HasPt Γ ⟨b, 0, none⟩ [.int .i64 tb.1, v1, .int .i64 tb.2.2]] [h : HasRd (List STrans) repList Γ [v] ts] [h1 : HasRd (List Int) repList Γ [v1] tb.2.1] :
    CtrC Tryz.prog 155 [v, .func (.func 109) #[] #[.pointer (some ⟨b, 0, none⟩)]] Γ (True) ({ n : Int // 0 ≤ n ↔ HasT tb ts ts.length }) (fun q : { n : Int // 0 ≤ n ↔ HasT tb ts ts.length } => .int .i64 q.1) (fun _ => Γ) := ⟨fun s w0 => IndexFuncT_spec⟩

theorem ContainsFuncT_spec {w0 : World} {Γ : List Atom} {b : Nat} {v v1 : Value} {tb : STrans} {ts : List STrans} [hb : HasPt Γ ⟨b, 0, none⟩ [.int .i64 tb.1, v1, .int .i64 tb.2.2]] [h : HasRd (List STrans) repList Γ [v] ts] [h1 : HasRd (List Int) repList Γ [v1] tb.2.1] : CJ Tryz.prog 108 [v, .func (.func 109) #[] #[.pointer (some ⟨b, 0, none⟩)]] w0 Γ (fun _ : Unit => .bool (decC (HasT tb ts ts.length))) (fun _ => Γ) := by
  refine cj_lift (R := [.pt ⟨b, 0, none⟩ [.int .i64 tb.1, v1, .int .i64 tb.2.2], .rd [v] ts, .rd [v1] tb.2.1]) (A := fun _ => []) (fun w1 => ?_) (reads_pt hb (reads_cons h (reads_cons h1 inferInstance))) (fun _ => inferInstance)
  simp only [List.cons_append, List.nil_append]
  refine cj_enter Tryz.func108 Tryz.ntmps108 ?_
  repeat' (first | refine red ?_ | refine redc fun r => ?_ | fail)
  exact ⟨(), ret_bool (decC_of r.2).symm, ent_e⟩
instance ContainsFuncT_ctr {Γ : List Atom} {b : Nat} {v v1 : Value} {tb : STrans} {ts : List STrans} [hb : HasPt Γ ⟨b, 0, none⟩ [.int .i64 tb.1, v1, .int .i64 tb.2.2]] [h : HasRd (List STrans) repList Γ [v] ts] [h1 : HasRd (List Int) repList Γ [v1] tb.2.1] :
    CtrC Tryz.prog 108 [v, .func (.func 109) #[] #[.pointer (some ⟨b, 0, none⟩)]] Γ (True) (Unit) (fun _ : Unit => .bool (decC (HasT tb ts ts.length))) (fun _ => Γ) := ⟨fun s w0 => ContainsFuncT_spec⟩

def OffS (n : Int) (ks : List Int) (m : Nat) : Prop := ∃ i, i < m ∧ (ks.getD i 0 < 0 ∨ n ≤ ks.getD i 0)
theorem offS_next {m : Int} {ks : List Int} {n : Nat} (h : ¬ OffS m ks n) (h2 : ¬ (ks.getD n 0 < 0 ∨ m ≤ ks.getD n 0)) : ¬ OffS m ks (n + 1) := by
  rintro ⟨i, hi, h'⟩
  by_cases he : i = n
  · rw [he] at h'; exact h2 h'
  · exact h ⟨i, by omega, h'⟩
theorem offS_not {n : Int} {ks : List Int} {m : Nat} : ¬ OffS n ks m ↔ AllS n ks m := by
  constructor
  · intro h i hi
    by_cases h1 : 0 ≤ ks.getD i 0 ∧ ks.getD i 0 < n
    · exact h1
    · exact absurd ⟨i, hi, by omega⟩ h
  · rintro h ⟨i, hi, h1⟩
    have := h i hi
    omega
theorem not_off {n : Int} {ks : List Int} {m : Nat} : (!decC (OffS n ks m)) = decC (AllS n ks m) := by
  by_cases h : OffS n ks m
  · rw [decC_t h, decC_f (fun h' => offS_not.2 h' h)]; rfl
  · rw [decC_f h, decC_t (offS_not.1 h)]; rfl
theorem statesOk1_spec {w0 : World} {Γ Δ : List Atom} {b : Nat} {k n : Int} {v v1 : Value} [hb : PullBk Γ b [.int .i64 n, v, v1] Δ] : CJ Tryz.prog 154 [.int .i64 k, .pointer (some ⟨b, 0, none⟩)] w0 Γ (fun _ : Unit => .bool (decide (k < 0 ∨ n ≤ k))) (fun _ => .bk b [.int .i64 n, v, v1] :: Δ) := by
  refine cj_perm hb.perm ?_
  refine cj_enter Tryz.func154 Tryz.ntmps154 ?_
  repeat' (first | refine red ?_ | (refine redi (fun hc => ?_) (fun hc => ?_) <;> try first | (exfalso; omega) | exact absurd rfl hc) | fail)
  · exact ⟨(), ret_bool (decide_eq_true (.inl hc)), ent_e⟩
  · exact ⟨(), ret_bool (decide_eq_decide.2 ⟨fun h => by omega, fun h => .inr h⟩), ent_e⟩
instance statesOk1_ctr {Γ Δ : List Atom} {b : Nat} {k n : Int} {v v1 : Value} [hb : PullBk Γ b [.int .i64 n, v, v1] Δ] :
    CtrC Tryz.prog 154 [.int .i64 k, .pointer (some ⟨b, 0, none⟩)] Γ (True) (Unit) (fun _ : Unit => .bool (decide (k < 0 ∨ n ≤ k))) (fun _ => .bk b [.int .i64 n, v, v1] :: Δ) := ⟨fun s w0 => statesOk1_spec⟩

theorem IndexFuncS_spec {w0 : World} {Γ Δ : List Atom} {b : Nat} {n : Int} {v v0 v1 : Value} {ks : List Int} [hb : PullBk Γ b [.int .i64 n, v0, v1] Δ] [h : HasRd (List Int) repList Δ [v] ks] : CJ Tryz.prog 173 [v, .func (.func 154) #[] #[.pointer (some ⟨b, 0, none⟩)]] w0 Γ (fun q : { m : Int // 0 ≤ m ↔ OffS n ks ks.length } => .int .i64 q.1) (fun _ => .bk b [.int .i64 n, v0, v1] :: Δ) := by
  refine cj_perm hb.perm ?_
  refine cj_len v fun hlx => ?_
  refine cj_enter Tryz.func173 Tryz.ntmps173 ?_
  repeat' (first | refine red ?_ | fail)
  refine wc_loop_c [8] [9, 10, 5, 11, 12, 13, 14, 15, 16, 17, 4, 18] (ι := Nat) (fun k => [.int .i64 k]) (fun k => k ≤ ks.length ∧ ¬ OffS n ks k) (fun k => ks.length - k) 0 (by kernel_rfl) ⟨Nat.zero_le _, fun ⟨i, hi, _⟩ => by omega⟩ ?_
  intro k u l' hl' ⟨hk, hkk⟩
  simp only [patch, List.map_cons, List.map_nil, List.set_cons_zero, List.set_cons_succ] at hl'
  subst hl'
  repeat' (first | refine red ?_ | refine redf fun hbi => ?_ | refine reds ?_ | refine redc fun r => ?_ | (refine redi (fun hc => ?_) (fun hc => ?_) <;> try first | (exfalso; omega) | exact absurd rfl hc) | fail)
  · exact ⟨⟨(k : Int), ⟨fun _ => ⟨k, by omega, hc⟩, fun _ => by omega⟩⟩, rfl, ent_e⟩
  · exact wq_next (k + 1) ⟨by omega, offS_next hkk hc⟩ (by omega) (by kernel_rfl) ent_e
  · exact ⟨⟨-1, ⟨fun h => by omega, fun h => absurd (by rw [show ks.length = k by omega] at h; exact h) hkk⟩⟩, rfl, ent_e⟩
instance IndexFuncS_ctr {Γ Δ : List Atom} {b : Nat} {n : Int} {v v0 v1 : Value} {ks : List Int} [hb : PullBk Γ b [.int .i64 n, v0, v1] Δ] [h : HasRd (List Int) repList Δ [v] ks] :
    CtrC Tryz.prog 173 [v, .func (.func 154) #[] #[.pointer (some ⟨b, 0, none⟩)]] Γ (True) ({ m : Int // 0 ≤ m ↔ OffS n ks ks.length }) (fun q : { m : Int // 0 ≤ m ↔ OffS n ks ks.length } => .int .i64 q.1) (fun _ => .bk b [.int .i64 n, v0, v1] :: Δ) := ⟨fun s w0 => IndexFuncS_spec⟩

theorem ContainsFuncS_spec {w0 : World} {Γ Δ : List Atom} {b : Nat} {n : Int} {v v0 v1 : Value} {ks : List Int} [hb : PullBk Γ b [.int .i64 n, v0, v1] Δ] [h : HasRd (List Int) repList Δ [v] ks] : CJ Tryz.prog 153 [v, .func (.func 154) #[] #[.pointer (some ⟨b, 0, none⟩)]] w0 Γ (fun _ : Unit => .bool (decC (OffS n ks ks.length))) (fun _ => .bk b [.int .i64 n, v0, v1] :: Δ) := by
  refine cj_perm hb.perm ?_
  refine cj_enter Tryz.func153 Tryz.ntmps153 ?_
  repeat' (first | refine red ?_ | refine redc fun r => ?_ | fail)
  exact ⟨(), ret_bool (decC_of r.2).symm, ent_e⟩
instance ContainsFuncS_ctr {Γ Δ : List Atom} {b : Nat} {n : Int} {v v0 v1 : Value} {ks : List Int} [hb : PullBk Γ b [.int .i64 n, v0, v1] Δ] [h : HasRd (List Int) repList Δ [v] ks] :
    CtrC Tryz.prog 153 [v, .func (.func 154) #[] #[.pointer (some ⟨b, 0, none⟩)]] Γ (True) (Unit) (fun _ : Unit => .bool (decC (OffS n ks ks.length))) (fun _ => .bk b [.int .i64 n, v0, v1] :: Δ) := ⟨fun s w0 => ContainsFuncS_spec⟩

theorem statesOk_spec {w0 : World} {Γ : List Atom} {x : SAuto} {v v0 v1 : Value} {ks : List Int} [h : HasRd (List Int) repList Γ [v] ks] [h0 : HasRd (List STrans) repList Γ [v0] x.2.1] [h1 : HasRd (List Int) repList Γ [v1] x.2.2] : CJ Tryz.prog 107 [.agg #[.int .i64 x.1, v0, v1], v] w0 Γ (fun _ : Unit => .bool (decC (AllS x.1 ks ks.length))) (fun _ => Γ) := by
  refine cj_lift (R := [.rd [v] ks, .rd [v0] x.2.1, .rd [v1] x.2.2]) (A := fun _ => []) (fun w1 => ?_) (reads_cons h (reads_cons h0 (reads_cons h1 (inferInstance)))) (fun _ => inferInstance)
  simp only [List.cons_append, List.nil_append]
  refine cj_enter Tryz.func107 Tryz.ntmps107 ?_
  repeat' (first | refine red ?_ | refine redc fun r => ?_ | refine redn fun b => ?_ | fail)
  exact ⟨(), ret_bool (not_off).symm, ent_e⟩
instance statesOk_ctr {Γ : List Atom} {x : SAuto} {v v0 v1 : Value} {ks : List Int} [h : HasRd (List Int) repList Γ [v] ks] [h0 : HasRd (List STrans) repList Γ [v0] x.2.1] [h1 : HasRd (List Int) repList Γ [v1] x.2.2] :
    CtrC Tryz.prog 107 [.agg #[.int .i64 x.1, v0, v1], v] Γ (True) (Unit) (fun _ : Unit => .bool (decC (AllS x.1 ks ks.length))) (fun _ => Γ) := ⟨fun s w0 => statesOk_spec⟩

theorem allS_one {n q : Int} : AllS n [q] [q].length ↔ 0 ≤ q ∧ q < n := by
  constructor
  · intro h; exact h 0 (by simp)
  · intro h i hi
    obtain rfl : i = 0 := by simp at hi; omega
    exact h
theorem inc_next {xs : List Int} {m : Nat} (h : ∀ i, i < m → 0 < i → xs.getD (i - 1) 0 < xs.getD i 0) (h2 : 0 < m → xs.getD (m - 1) 0 < xs.getD m 0) : ∀ i, i < m + 1 → 0 < i → xs.getD (i - 1) 0 < xs.getD i 0 := by
  intro i hi h0
  by_cases he : i = m
  · rw [he] at h0 ⊢; exact h2 h0
  · exact h i (by omega) h0
theorem decC_iff_eq {p q : Prop} (h : p ↔ q) : decC p = decC q := by
  by_cases hp : p
  · rw [decC_t hp, decC_t (h.1 hp)]
  · rw [decC_f hp, decC_f (fun hq => hp (h.2 hq))]
theorem mem_takeD {rs : List STrans} {k : Nat} {t : STrans} (hk : k ≤ rs.length) : HasT t (rs.take k) (rs.take k).length ↔ ∃ j, j < k ∧ rs.getD j default = t := by
  rw [List.length_take, show min k rs.length = k by omega]
  constructor
  · rintro ⟨i, hi, h⟩
    refine ⟨i, hi, ?_⟩
    rw [h, List.getD_eq_getElem?_getD, List.getD_eq_getElem?_getD, List.getElem?_take, if_pos hi]
  · rintro ⟨i, hi, h⟩
    refine ⟨i, hi, ?_⟩
    rw [← h, List.getD_eq_getElem?_getD, List.getD_eq_getElem?_getD, List.getElem?_take, if_pos hi]
set_option maxHeartbeats 1000000 in
theorem impl_AutoOk_spec {w0 : World} {Γ : List Atom} {v v0 v1 : Value} {ar : List Int} {x : SAuto} [h : HasRd (List Int) repList Γ [v] ar] [h0 : HasRd (List STrans) repList Γ [v0] x.2.1] [h1 : HasRd (List Int) repList Γ [v1] x.2.2] : CJ Tryz.prog 51 [.agg #[v], .agg #[.int .i64 x.1, v0, v1]] w0 Γ (fun _ : Unit => .bool (autoOk ar x)) (fun _ => Γ) := by
  refine cj_lift (R := [.rd [v] ar, .rd [v0] x.2.1, .rd [v1] x.2.2]) (A := fun _ => []) (fun w1 => ?_) (reads_cons h (reads_cons h0 (reads_cons h1 (inferInstance)))) (fun _ => inferInstance)
  simp only [List.cons_append, List.nil_append]
  refine cj_len v fun hlx => ?_
  refine cj_len v0 fun hly => ?_
  refine cj_len v1 fun hlz => ?_
  refine cj_enter Tryz.func51 Tryz.ntmps51 ?_
  repeat' (first | refine red ?_ | refine redc fun r => ?_ | refine redn fun b => ?_ | (refine redi (fun hc => ?_) (fun hc => ?_) <;> try first | (exfalso; omega) | exact absurd rfl hc) | fail)
  · exact ⟨(), ret_bool (decC_f fun h => by rw [h.1] at hc; cases hc), ent_e⟩
  · exact ⟨(), ret_bool (decC_f fun h => by have := h.2.1; omega), ent_e⟩
  · exact ⟨(), ret_bool (decC_f fun h => by have := h.2.1; omega), ent_e⟩
  · exact ⟨(), ret_bool (decC_f fun h => by have := h.2.2.1; omega), ent_e⟩
  refine wc_loop_c [31] [32, 33, 34, 35, 6, 5, 36, 37, 38, 39, 40, 41, 42, 43, 44, 45, 46, 47, 48, 49, 50, 51, 52, 53, 54, 55, 56, 57, 58, 59, 60, 61, 62, 63, 64, 65, 66, 67, 68, 69, 70, 71, 72, 73, 4, 74, 75, 76, 77, 78, 79, 80] (ι := Nat) (fun k => [.int .i64 k]) (fun k => k ≤ x.2.1.length ∧ RulesP ar x.1 x.2.1 k) (fun k => x.2.1.length - k) 0 (by kernel_rfl) ⟨Nat.zero_le _, fun i hi => by omega⟩ ?_
  intro k u l' hl' ⟨hk, hkk⟩
  simp only [patch, List.map_cons, List.map_nil, List.set_cons_zero, List.set_cons_succ] at hl'
  subst hl'
  repeat' (first | refine red ?_ | refine reds ?_ | refine redc fun r => ?_ | refine redv fun sv => ?_ | refine redn fun b => ?_ | (refine redd fun p cs as_ hcs has hf => ?_; simp only [Un.cells, Un.atoms, Un.fact, List.cons_append, List.nil_append] at hcs has hf; subst hcs has) | (refine redi (fun hc => ?_) (fun hc => ?_) <;> try first | (exfalso; omega) | exact absurd rfl hc) | ((refine wa_begin 6 [false, false, false, false, false, false, false, false, false, false, false, false, false, false, false, false, false, false, false, false, false, false, false, false, false, false, false, false, false, false, false, false, false, false, false, false, false, false] [] ?_ <;> (first | refine wa_p 0 ?_ | fail) <;> (first | refine wa_p 1 ?_ | fail) <;> refine wa_p 2 ?_ <;> refine wa_p 3 ?_ <;> (first | (refine wa_if 39 (fun hc => ?_) (fun hc => ?_) <;> (try first | (exfalso; omega) | exact absurd rfl hc) <;> first | refine wa_pg 4 ?_ | refine wa_no 4 ?_) | fail) <;> (first | refine wa_pg 5 ?_ | refine wa_no 5 ?_ | fail) <;> (first | refine wa_pg 6 ?_ | refine wa_no 6 ?_ | fail) <;> (first | refine wa_pg 7 ?_ | refine wa_no 7 ?_ | fail) <;> (first | refine wa_pg 8 ?_ | refine wa_no 8 ?_ | fail) <;> (first | refine wa_pg 9 ?_ | refine wa_no 9 ?_ | fail) <;> (first | refine wa_p 10 ?_ | fail) <;> refine wa_p 11 ?_ <;> (first | refine wa_no 12 ?_ | (refine wa_if 47 (fun hc => ?_) (fun hc => ?_) <;> (try first | (exfalso; omega) | exact absurd rfl hc) <;> first | refine wa_pg 12 ?_ | refine wa_no 12 ?_) | fail) <;> (first | refine wa_pg 13 ?_ | refine wa_no 13 ?_ | fail) <;> (first | refine wa_pg 14 ?_ | refine wa_no 14 ?_ | fail) <;> (first | refine wa_pg 15 ?_ | refine wa_no 15 ?_ | fail) <;> (first | refine wa_pg 16 ?_ | refine wa_no 16 ?_ | fail) <;> (first | refine wa_pg 17 ?_ | refine wa_no 17 ?_ | fail) <;> (first | refine wa_pg 18 ?_ | refine wa_no 18 ?_ | fail) <;> (first | refine wa_pg 19 ?_ | refine wa_no 19 ?_ | fail) <;> (first | refine wa_pg 20 ?_ | refine wa_no 20 ?_ | fail) <;> (first | refine wa_pg 21 ?_ | refine wa_no 21 ?_ | fail) <;> (first | refine wa_p 22 ?_ | fail) <;> refine wa_p 23 ?_ <;> (first | refine wa_no 24 ?_ | (refine wa_if 59 (fun hc => ?_) (fun hc => ?_) <;> (try first | (exfalso; omega) | exact absurd rfl hc) <;> first | refine wa_pg 24 ?_ | refine wa_no 24 ?_) | fail) <;> (first | refine wa_pg 25 ?_ | refine wa_no 25 ?_ | fail) <;> (first | refine wa_pg 26 ?_ | refine wa_no 26 ?_ | fail) <;> (refine wa_do 27 ?_ <;> (repeat' (first | refine red ?_ | refine redc fun r => ?_ | fail))) <;> (first | refine wa_pg 28 ?_ | refine wa_no 28 ?_ | fail) <;> (first | refine wa_p 29 ?_ | fail) <;> refine wa_p 30 ?_ <;> (first | refine wa_no 31 ?_ | (refine wa_if 66 (fun hc => ?_) (fun hc => ?_) <;> (try first | (exfalso; omega) | exact absurd rfl hc) <;> first | refine wa_pg 31 ?_ | refine wa_no 31 ?_) | fail) <;> (first | refine wa_pg 32 ?_ | refine wa_no 32 ?_ | fail) <;> (first | refine wa_pg 33 ?_ | refine wa_no 33 ?_ | fail) <;> (refine wa_do 34 ?_ <;> (repeat' (first | refine red ?_ | refine redv fun sv => ?_ | fail))) <;> (refine wa_do 35 ?_ <;> (repeat' (first | refine red ?_ | refine redc fun r => ?_ | fail))) <;> (first | refine wa_pg 36 ?_ | refine wa_no 36 ?_ | fail) <;> (first | refine wa_p 37 ?_ | fail)) <;> (refine wa_end ?_)) | fail)
  · exact ⟨(), ret_bool (decC_f fun h => by have := (h.2.2.2.2 k (by omega)).1.1; omega), ent_e⟩
  · exact ⟨(), ret_bool (decC_f fun h => by have := (h.2.2.2.2 k (by omega)).1.1; omega), ent_e⟩
  · exact ⟨(), ret_bool (decC_f fun h => hc (by have := (h.2.2.2.2 k (by omega)).1.2.1; omega)), ent_e⟩
  · exact ⟨(), ret_bool (decC_f fun h => hc (h.2.2.2.2 k (by omega)).1.2.2.1), ent_e⟩
  · exact ⟨(), ret_bool (decC_f fun h => hc (allS_one.2 (h.2.2.2.2 k (by omega)).1.2.2.2)), ent_e⟩
  · exact ⟨(), ret_bool (decC_f fun h => by
      obtain ⟨j, hj, he⟩ := (mem_takeD (k := k) (by omega)).1 hc
      exact (h.2.2.2.2 k (by omega)).2 j hj he), ent_e⟩
  · refine wq_next (k + 1) ⟨by omega, rulesP_next hkk ⟨by omega, by omega, by assumption, ?_⟩ (fun j hj he => hc ((mem_takeD (k := k) (by omega)).2 ⟨j, hj, he⟩))⟩ (by omega) (by kernel_rfl) ent_e
    exact allS_one.1 (by assumption)
  refine wc_loop_c [84] [85, 86, 87, 88, 7, 8, 89, 90, 91, 92, 93, 94, 95, 96, 97, 98, 99, 100, 4, 101] (ι := Nat) (fun j => [.int .i64 j]) (fun j => j ≤ x.2.2.length ∧ ∀ i, i < j → 0 < i → x.2.2.getD (i - 1) 0 < x.2.2.getD i 0) (fun j => x.2.2.length - j) 0 (by kernel_rfl) ⟨Nat.zero_le _, fun i hi => by omega⟩ ?_
  intro j u l' hl' ⟨hj, hjj⟩
  simp only [patch, List.map_cons, List.map_nil, List.set_cons_zero, List.set_cons_succ] at hl'
  subst hl'
  have hrules : RulesP ar x.1 x.2.1 x.2.1.length := by rw [show x.2.1.length = k by omega]; exact hkk
  repeat' (first | refine red ?_ | refine redf fun hbi => ?_ | refine reds ?_ | refine redc fun r => ?_ | (refine redi (fun hc => ?_) (fun hc => ?_) <;> try first | (exfalso; omega) | exact absurd rfl hc) | fail)
  · exact ⟨(), ret_bool (decC_f fun h => by have := (h.2.2.2.1 j (by omega)).2 (by omega); omega), ent_e⟩
  · exact wq_next (j + 1) ⟨by omega, inc_next hjj (fun _ => by omega)⟩ (by omega) (by kernel_rfl) ent_e
  · exact wq_next (j + 1) ⟨by omega, inc_next hjj (fun _ => by omega)⟩ (by omega) (by kernel_rfl) ent_e
  · refine ⟨(), ret_bool (decC_iff_eq ?_), ent_e⟩
    rw [show j = x.2.2.length by omega] at hjj
    exact ⟨fun h i hi => (h.2.2.2.1 i hi).1, fun h => ⟨by assumption, by omega, by omega, fun i hi => ⟨h i hi, hjj i hi⟩, hrules⟩⟩
instance impl_AutoOk_ctr {Γ : List Atom} {v v0 v1 : Value} {ar : List Int} {x : SAuto} [h : HasRd (List Int) repList Γ [v] ar] [h0 : HasRd (List STrans) repList Γ [v0] x.2.1] [h1 : HasRd (List Int) repList Γ [v1] x.2.2] :
    CtrC Tryz.prog 51 [.agg #[v], .agg #[.int .i64 x.1, v0, v1]] Γ (True) (Unit) (fun _ : Unit => .bool (autoOk ar x)) (fun _ => Γ) := ⟨fun s w0 => impl_AutoOk_spec⟩

end Go.Proofs.YtbbdjjlnachnlaaGreatDoor
