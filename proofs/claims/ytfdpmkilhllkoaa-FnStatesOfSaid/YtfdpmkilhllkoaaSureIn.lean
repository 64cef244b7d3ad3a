/- Automata that are sure: no two transitions from the same. -/
import Derived.Test.YtfdpmkilhllkoaaStat2
namespace Go.Proofs.Ytfdpmkilhllkoaa
open Go Go.Eng
set_option linter.unusedVariables false
set_option linter.unusedSimpArgs false
set_option synthInstance.maxHeartbeats 400000
set_option synthInstance.maxSize 1000
def FrT (s t : STrans) : Prop := s.1 = t.1 ∧ s.2.1 = t.2.1
instance {s t : STrans} : Decidable (FrT s t) := by unfold FrT; infer_instance
instance {P : Program} {l : List Value} {Γ : List Atom} {ty : TypeId} {v : Value} {T b off : Nat} {x : Operand} {cs : List Value} [h : Ev l x (.pointer (some ⟨b, off, none⟩))] [hT : Sc P T] [hp : HasPt Γ ⟨b, 0, none⟩ cs] [hv : Ge cs off v] : PuC P l Γ (.load T x) ty v := ⟨fun w0 => by
  haveI : Ev l x (.pointer (some ((⟨b, 0, none⟩ : Addr).add off))) := by rw [add_lit, Nat.zero_add]; exact h
  exact pu_load_ptf⟩
theorem sure1_spec {w0 : World} {Γ : List Atom} {b : Nat} {v v1 : Value} {ta tb : STrans} [hb : HasPt Γ ⟨b, 0, none⟩ [.int .i64 tb.1, v1, .int .i64 tb.2.2]] [h : HasRd (List Int) repList Γ [v] ta.2.1] [h1 : HasRd (List Int) repList Γ [v1] tb.2.1] : CJ Try.prog 154 [.agg #[.int .i64 ta.1, v, .int .i64 ta.2.2], .pointer (some ⟨b, 0, none⟩)] w0 Γ (fun _ : Unit => .bool (decide (FrT ta tb))) (fun _ => Γ) := by
  refine cj_lift (R := [.pt ⟨b, 0, none⟩ [.int .i64 tb.1, v1, .int .i64 tb.2.2], .rd [v] ta.2.1, .rd [v1] tb.2.1]) (A := fun _ => []) (fun w1 => ?_) (reads_pt hb (reads_cons h (reads_cons h1 inferInstance))) (fun _ => inferInstance)
  simp only [List.cons_append, List.nil_append]
  refine cj_enter Try.func154 Try.ntmps154 ?_
  repeat' (first | refine red ?_ | refine redf fun hbi => ?_ | refine reds ?_ | refine redc fun r => ?_ | refine redp (fun r => ?_) (fun r => ?_) | refine redv fun sv => ?_ | refine redn fun b => ?_ | refine redz fun zs => ?_ | refine redq (fun hc => ?_) (fun hc => ?_) | with_reducible refine wq_blk_o rfl ?_ | (refine redi (fun hc => ?_) (fun hc => ?_) <;> try first | (exfalso; omega) | exact absurd rfl hc) | fail)
  all_goals refine ⟨(), ret_bool ?_, ent_e⟩
  all_goals unfold FrT
  all_goals simp [*]
instance sure1_ctr {Γ : List Atom} {b : Nat} {v v1 : Value} {ta tb : STrans} [hb : HasPt Γ ⟨b, 0, none⟩ [.int .i64 tb.1, v1, .int .i64 tb.2.2]] [h : HasRd (List Int) repList Γ [v] ta.2.1] [h1 : HasRd (List Int) repList Γ [v1] tb.2.1] :
    CtrC Try.prog 154 [.agg #[.int .i64 ta.1, v, .int .i64 ta.2.2], .pointer (some ⟨b, 0, none⟩)] Γ (True) (Unit) (fun _ : Unit => .bool (decide (FrT ta tb))) (fun _ => Γ) := ⟨fun s w0 => sure1_spec⟩

def HasF (t : STrans) (ts : List STrans) (n : Nat) : Prop := ∃ i, i < n ∧ FrT (ts.getD i default) t
theorem hasF_next {t : STrans} {ts : List STrans} {n : Nat} (h : ¬ HasF t ts n) (h2 : ¬ FrT (ts.getD n default) t) : ¬ HasF t ts (n + 1) := by
  rintro ⟨i, hi, h'⟩
  by_cases he : i = n
  · rw [he] at h'; exact h2 h'
  · exact h ⟨i, by omega, h'⟩
theorem IndexFuncU_spec {w0 : World} {Γ : List Atom} {b : Nat} {v v1 : Value} {tb : STrans} {ts : List STrans} [hb : HasPt Γ ⟨b, 0, none⟩ [.int .i64 tb.1, v1, .int .i64 tb.2.2]] [h : HasRd (List STrans) repList Γ [v] ts] [h1 : HasRd (List Int) repList Γ [v1] tb.2.1] : CJ Try.prog 163 [v, .func (.func 154) #[] #[.pointer (some ⟨b, 0, none⟩)]] w0 Γ (fun q : { n : Int // 0 ≤ n ↔ HasF tb ts ts.length } => .int .i64 q.1) (fun _ => Γ) := by
  refine cj_lift (R := [.pt ⟨b, 0, none⟩ [.int .i64 tb.1, v1, .int .i64 tb.2.2], .rd [v] ts, .rd [v1] tb.2.1]) (A := fun _ => []) (fun w1 => ?_) (reads_pt hb (reads_cons h (reads_cons h1 inferInstance))) (fun _ => inferInstance)
  simp only [List.cons_append, List.nil_append]
  refine cj_len v fun hlx => ?_
  refine cj_enter Try.func163 Try.ntmps163 ?_
  repeat' (first | refine red ?_ | refine redf fun hbi => ?_ | refine reds ?_ | refine redc fun r => ?_ | refine redp (fun r => ?_) (fun r => ?_) | refine redv fun sv => ?_ | refine redn fun b => ?_ | refine redz fun zs => ?_ | refine redq (fun hc => ?_) (fun hc => ?_) | with_reducible refine wq_blk_o rfl ?_ | (refine redd fun p cs as_ hcs has hf => ?_; simp only [Un.cells, Un.atoms, Un.fact, List.cons_append, List.nil_append] at hcs has hf; subst hcs has) | (refine redi (fun hc => ?_) (fun hc => ?_) <;> try first | (exfalso; omega) | exact absurd rfl hc) | fail)
  refine wc_loop_c [8] [9, 10, 5, 11, 12, 13, 14, 15, 16, 17, 4, 18] (ι := Nat) (fun k => [.int .i64 k]) (fun k => k ≤ ts.length ∧ ¬ HasF tb ts k) (fun k => ts.length - k) 0 (by kernel_rfl) ⟨Nat.zero_le _, fun ⟨i, hi, _⟩ => by omega⟩ ?_
  intro k u l' hl' ⟨hk, hkk⟩
  simp only [patch, List.map_cons, List.map_nil, List.set_cons_zero, List.set_cons_succ] at hl'
  subst hl'
  repeat' (first | refine red ?_ | refine redf fun hbi => ?_ | refine reds ?_ | refine redc fun r => ?_ | refine redp (fun r => ?_) (fun r => ?_) | refine redv fun sv => ?_ | refine redn fun b => ?_ | refine redz fun zs => ?_ | refine redq (fun hc => ?_) (fun hc => ?_) | with_reducible refine wq_blk_o rfl ?_ | (refine redd fun p cs as_ hcs has hf => ?_; simp only [Un.cells, Un.atoms, Un.fact, List.cons_append, List.nil_append] at hcs has hf; subst hcs has) | (refine redi (fun hc => ?_) (fun hc => ?_) <;> try first | (exfalso; omega) | exact absurd rfl hc) | fail)
  · exact ⟨⟨(k : Int), ⟨fun _ => ⟨k, by omega, hc⟩, fun _ => by omega⟩⟩, rfl, ent_e⟩
  · exact wq_next (k + 1) ⟨by omega, hasF_next hkk hc⟩ (by omega) (by kernel_rfl) ent_e
  · exact ⟨⟨-1, ⟨fun h => by omega, fun h => absurd (by rw [show ts.length = k by omega] at h; exact h) hkk⟩⟩, rfl, ent_e⟩
instance IndexFuncU_ctr {Γ : List Atom} {b : Nat} {v v1 : Value} {tb : STrans} {ts : List STrans} [hb : HasPt Γ ⟨b, 0, none⟩ [.int .i64 tb.1, v1, .int .i64 tb.2.2]] [h : HasRd (List STrans) repList Γ [v] ts] [h1 : HasRd (List Int) repList Γ [v1] tb.2.1] :
    CtrC Try.prog 163 [v, .func (.func 154) #[] #[.pointer (some ⟨b, 0, none⟩)]] Γ (True) ({ n : Int // 0 ≤ n ↔ HasF tb ts ts.length }) (fun q : { n : Int // 0 ≤ n ↔ HasF tb ts ts.length } => .int .i64 q.1) (fun _ => Γ) := ⟨fun s w0 => IndexFuncU_spec⟩

theorem ContainsFuncU_spec {w0 : World} {Γ : List Atom} {b : Nat} {v v1 : Value} {tb : STrans} {ts : List STrans} [hb : HasPt Γ ⟨b, 0, none⟩ [.int .i64 tb.1, v1, .int .i64 tb.2.2]] [h : HasRd (List STrans) repList Γ [v] ts] [h1 : HasRd (List Int) repList Γ [v1] tb.2.1] : CJ Try.prog 113 [v, .func (.func 154) #[] #[.pointer (some ⟨b, 0, none⟩)]] w0 Γ (fun _ : Unit => .bool (decC (HasF tb ts ts.length))) (fun _ => Γ) := by
  refine cj_lift (R := [.pt ⟨b, 0, none⟩ [.int .i64 tb.1, v1, .int .i64 tb.2.2], .rd [v] ts, .rd [v1] tb.2.1]) (A := fun _ => []) (fun w1 => ?_) (reads_pt hb (reads_cons h (reads_cons h1 inferInstance))) (fun _ => inferInstance)
  simp only [List.cons_append, List.nil_append]
  refine cj_enter Try.func113 Try.ntmps113 ?_
  repeat' (first | refine red ?_ | refine redf fun hbi => ?_ | refine reds ?_ | refine redc fun r => ?_ | refine redp (fun r => ?_) (fun r => ?_) | refine redv fun sv => ?_ | refine redn fun b => ?_ | refine redz fun zs => ?_ | refine redq (fun hc => ?_) (fun hc => ?_) | with_reducible refine wq_blk_o rfl ?_ | (refine redi (fun hc => ?_) (fun hc => ?_) <;> try first | (exfalso; omega) | exact absurd rfl hc) | fail)
  exact ⟨(), ret_bool (decC_of r.2).symm, ent_e⟩
instance ContainsFuncU_ctr {Γ : List Atom} {b : Nat} {v v1 : Value} {tb : STrans} {ts : List STrans} [hb : HasPt Γ ⟨b, 0, none⟩ [.int .i64 tb.1, v1, .int .i64 tb.2.2]] [h : HasRd (List STrans) repList Γ [v] ts] [h1 : HasRd (List Int) repList Γ [v1] tb.2.1] :
    CtrC Try.prog 113 [v, .func (.func 154) #[] #[.pointer (some ⟨b, 0, none⟩)]] Γ (True) (Unit) (fun _ : Unit => .bool (decC (HasF tb ts ts.length))) (fun _ => Γ) := ⟨fun s w0 => ContainsFuncU_spec⟩

theorem mem_takeF {rs : List STrans} {k : Nat} {t : STrans} (hk : k ≤ rs.length) : HasF t (rs.take k) (rs.take k).length ↔ ∃ j, j < k ∧ FrT (rs.getD j default) t := by
  have hl : (rs.take k).length = k := by rw [List.length_take]; omega
  have hg : ∀ j, j < k → (rs.take k).getD j default = rs.getD j default := fun j hj => by
    rw [List.getD_eq_getElem?_getD, List.getElem?_take, if_pos hj, ← List.getD_eq_getElem?_getD]
  unfold HasF
  rw [hl]
  exact ⟨fun ⟨j, hj, h⟩ => ⟨j, hj, by rw [← hg j hj]; exact h⟩, fun ⟨j, hj, h⟩ => ⟨j, hj, by rw [hg j hj]; exact h⟩⟩
def SureTo (rs : List STrans) (m : Nat) : Prop := ∀ i, i < m → ∀ j, j < i → ¬ FrT (rs.getD j default) (rs.getD i default)
theorem sureTo_next {rs : List STrans} {m : Nat} (h : SureTo rs m) (h2 : ∀ j, j < m → ¬ FrT (rs.getD j default) (rs.getD m default)) : SureTo rs (m + 1) := fun i hi j hj => by
  by_cases e : i = m
  · subst e; exact h2 j hj
  · exact h i (by omega) j hj
theorem sure_spec {w0 : World} {Γ : List Atom} {v0 v1 : Value} {x : SAuto} [h0 : HasRd (List STrans) repList Γ [v0] x.2.1] [h1 : HasRd (List Int) repList Γ [v1] x.2.2] : CJ Try.prog 99 [.agg #[.int .i64 x.1, v0, v1]] w0 Γ (fun _ : Unit => .bool (decC (SureTo x.2.1 x.2.1.length))) (fun _ => Γ) := by
  refine cj_lift (R := [.rd [v0] x.2.1, .rd [v1] x.2.2]) (A := fun _ => []) (fun w1 => ?_) (reads_cons h0 (reads_cons h1 (inferInstance))) (fun _ => inferInstance)
  simp only [List.cons_append, List.nil_append]
  refine cj_len v0 fun hly => ?_
  refine cj_enter Try.func99 Try.ntmps99 ?_
  repeat' (first | refine red ?_ | refine redf fun hbi => ?_ | refine reds ?_ | refine redc fun r => ?_ | refine redp (fun r => ?_) (fun r => ?_) | refine redv fun sv => ?_ | refine redn fun b => ?_ | refine redz fun zs => ?_ | refine redq (fun hc => ?_) (fun hc => ?_) | with_reducible refine wq_blk_o rfl ?_ | (refine redd fun p cs as_ hcs has hf => ?_; simp only [Un.cells, Un.atoms, Un.fact, List.cons_append, List.nil_append] at hcs has hf; subst hcs has) | (refine redi (fun hc => ?_) (fun hc => ?_) <;> try first | (exfalso; omega) | exact absurd rfl hc) | fail)
  refine wc_loop_c [8] [9, 10, 11, 12, 4, 3, 13, 14, 15, 16, 17, 18, 2, 19] (ι := Nat) (fun k => [.int .i64 k]) (fun k => k ≤ x.2.1.length ∧ SureTo x.2.1 k) (fun k => x.2.1.length - k) 0 (by kernel_rfl) ⟨Nat.zero_le _, fun i hi => by omega⟩ ?_
  intro k u l' hl' ⟨hk, hkk⟩
  simp only [patch, List.map_cons, List.map_nil, List.set_cons_zero, List.set_cons_succ] at hl'
  subst hl'
  repeat' (first | refine red ?_ | refine redf fun hbi => ?_ | refine reds ?_ | refine redc fun r => ?_ | refine redp (fun r => ?_) (fun r => ?_) | refine redv fun sv => ?_ | refine redn fun b => ?_ | refine redz fun zs => ?_ | refine redq (fun hc => ?_) (fun hc => ?_) | with_reducible refine wq_blk_o rfl ?_ | (refine redd fun p cs as_ hcs has hf => ?_; simp only [Un.cells, Un.atoms, Un.fact, List.cons_append, List.nil_append] at hcs has hf; subst hcs has) | (refine redi (fun hc => ?_) (fun hc => ?_) <;> try first | (exfalso; omega) | exact absurd rfl hc) | fail)
  · exact ⟨(), ret_bool (decC_f fun h => by
      obtain ⟨j, hj, he⟩ := (mem_takeF (k := k) (by omega)).1 hc
      exact h k (by omega) j hj he), ent_e⟩
  · exact wq_next (k + 1) ⟨by omega, sureTo_next hkk (fun j hj he => hc ((mem_takeF (k := k) (by omega)).2 ⟨j, hj, he⟩))⟩ (by omega) (by kernel_rfl) ent_e
  · exact ⟨(), ret_bool (decC_t (by rw [show x.2.1.length = k by omega]; exact hkk)), ent_e⟩
instance sure_ctr {Γ : List Atom} {v0 v1 : Value} {x : SAuto} [h0 : HasRd (List STrans) repList Γ [v0] x.2.1] [h1 : HasRd (List Int) repList Γ [v1] x.2.2] :
    CtrC Try.prog 99 [.agg #[.int .i64 x.1, v0, v1]] Γ (True) (Unit) (fun _ : Unit => .bool (decC (SureTo x.2.1 x.2.1.length))) (fun _ => Γ) := ⟨fun s w0 => sure_spec⟩

theorem impl_SureIn_spec {w0 : World} {Γ : List Atom} {v v0 v1 : Value} {ar : List Int} {x : SAuto} [h : HasRd (List Int) repList Γ [v] ar] [h0 : HasRd (List STrans) repList Γ [v0] x.2.1] [h1 : HasRd (List Int) repList Γ [v1] x.2.2] : CJ Try.prog 48 [.agg #[v], .agg #[.int .i64 x.1, v0, v1]] w0 Γ (fun _ : Unit => .bool (autoOk ar x && decC (SureTo x.2.1 x.2.1.length))) (fun _ => Γ) := by
  refine cj_lift (R := [.rd [v] ar, .rd [v0] x.2.1, .rd [v1] x.2.2]) (A := fun _ => []) (fun w1 => ?_) (reads_cons h (reads_cons h0 (reads_cons h1 (inferInstance)))) (fun _ => inferInstance)
  simp only [List.cons_append, List.nil_append]
  refine cj_enter Try.func48 Try.ntmps48 ?_
  repeat' (first | refine red ?_ | refine redf fun hbi => ?_ | refine reds ?_ | refine redc fun r => ?_ | refine redp (fun r => ?_) (fun r => ?_) | refine redv fun sv => ?_ | refine redn fun b => ?_ | refine redz fun zs => ?_ | refine redq (fun hc => ?_) (fun hc => ?_) | with_reducible refine wq_blk_o rfl ?_ | (refine redi (fun hc => ?_) (fun hc => ?_) <;> try first | (exfalso; omega) | exact absurd rfl hc) | fail)
  · exact ⟨(), ret_bool (by rw [show autoOk ar x = true from decC_t hc]; rfl), ent_e⟩
  · exact ⟨(), ret_bool (by rw [show autoOk ar x = false from decC_f hc]; rfl), ent_e⟩
instance impl_SureIn_ctr {Γ : List Atom} {v v0 v1 : Value} {ar : List Int} {x : SAuto} [h : HasRd (List Int) repList Γ [v] ar] [h0 : HasRd (List STrans) repList Γ [v0] x.2.1] [h1 : HasRd (List Int) repList Γ [v1] x.2.2] :
    CtrC Try.prog 48 [.agg #[v], .agg #[.int .i64 x.1, v0, v1]] Γ (True) (Unit) (fun _ : Unit => .bool (autoOk ar x && decC (SureTo x.2.1 x.2.1.length))) (fun _ => Γ) := ⟨fun s w0 => impl_SureIn_spec⟩

/-! what a sure automaton reaches -/
theorem getD_lt {l : List Int} {i : Nat} (h : i < l.length) : l.getD i 0 = l[i] := by rw [List.getD_eq_getElem?_getD, List.getElem?_eq_getElem h]; rfl
theorem rs_uniq {ar t : List Int} {x : SAuto} (ha : AutoP ar x) (hs : SureTo x.2.1 x.2.1.length) {k : Nat} {q : Int} (h : Rs ar t x.2.1 k q) : ∀ q', Rs ar t x.2.1 k q' → q = q' := by
  induction h with
  | mk k j hj he hi ih =>
    intro q' h'
    cases h' with
    | mk _ j' hj' he' hi' =>
      have t1 := (ha.2.2.2.2 j hj).1
      have t2 := (ha.2.2.2.2 j' hj').1
      have hk0 : 0 ≤ t.getD k 0 := by rw [← he]; exact t1.1.1
      have l1 := auto_args ha hk0 j hj he
      have l2 := auto_args ha hk0 j' hj' he'
      have hargs : (x.2.1.getD j default).2.1 = (x.2.1.getD j' default).2.1 := by
        apply List.ext_getElem (by omega)
        intro i h1 h2
        have := ih i (by omega) _ (hi' i (by omega))
        rw [getD_lt h1, getD_lt h2] at this
        exact this
      by_cases e : j = j'
      · rw [e]
      · exfalso
        by_cases hlt : j < j'
        · exact hs j' hj' j hlt ⟨he.trans he'.symm, hargs⟩
        · exact hs j hj j' (by omega) ⟨he'.trans he.symm, hargs.symm⟩
theorem rs_rch {ar t : List Int} {x : SAuto} (ha : AutoP ar x) {k : Nat} {q : Int} (h : Rs ar t x.2.1 k q) : Rch x.2.1 q := by
  induction h with
  | mk k j hj he hi ih =>
    refine Rch.mk _ (getT hj) fun q hq => ?_
    have t1 := (ha.2.2.2.2 j hj).1
    have hk0 : 0 ≤ t.getD k 0 := by rw [← he]; exact t1.1.1
    have l1 := auto_args ha hk0 j hj he
    obtain ⟨i, h1, rfl⟩ := List.getElem_of_mem hq
    have := ih i (by omega)
    rw [getD_lt h1] at this
    exact this
theorem pL_mem {P : Int → Prop} (hi : ∀ q, P q → 0 ≤ q ∧ q < 16) {q : Int} : q ∈ pL P ↔ P q := by
  unfold pL
  rw [List.mem_map]
  constructor
  · rintro ⟨i, hi, rfl⟩
    rw [List.mem_filter, decC_iff] at hi
    exact hi.2
  · intro hq
    have := hi q hq
    refine ⟨q.toNat, ?_, ?_⟩
    · rw [List.mem_filter, decC_iff, List.mem_range]
      refine ⟨by omega, ?_⟩
      rw [show Int.ofNat q.toNat = q by show ((q.toNat : Nat) : Int) = q; omega]
      exact hq
    · show ((q.toNat : Nat) : Int) = q
      omega
theorem pL_one {P : Int → Prop} (h : ∀ q q', P q → P q' → q = q') : (pL P).length ≤ 1 := by
  unfold pL
  rw [List.length_map]
  have hp : ((List.range 16).filter fun i => decC (P (Int.ofNat i))).Pairwise (· < ·) := List.Pairwise.filter _ List.pairwise_lt_range
  match hm : (List.range 16).filter fun i => decC (P (Int.ofNat i)) with
  | [] => simp
  | [a] => simp
  | a :: b :: l =>
    exfalso
    rw [hm] at hp
    have h1 : a < b := (List.pairwise_cons.1 hp).1 b (by simp)
    have ha : a ∈ (List.range 16).filter fun i => decC (P (Int.ofNat i)) := by rw [hm]; simp
    have hb : b ∈ (List.range 16).filter fun i => decC (P (Int.ofNat i)) := by rw [hm]; simp
    rw [List.mem_filter, decC_iff] at ha hb
    have := h _ _ ha.2 hb.2
    have : (a : Int) = (b : Int) := this
    omega
end Go.Proofs.Ytfdpmkilhllkoaa
