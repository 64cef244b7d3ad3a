/- The state of a term in the automaton of normal forms: the reference. -/
import Derived.Test.YtbbdjjlnachnlaaGreatDoorNrmO
import Derived.Test.YtbbdjjlnachnlaaGreatDoorStat2
namespace Go.Proofs.YtbbdjjlnachnlaaGreatDoor
open Go Go.Eng
set_option linter.unusedVariables false
set_option linter.unusedSimpArgs false
set_option synthInstance.maxHeartbeats 400000
set_option synthInstance.maxSize 1000
set_option maxHeartbeats 0
set_option maxRecDepth 20000


/-- The state, if any. -/
noncomputable def nsO (x : SSystem) (t : List Int) : Int := if (normA x).isSome = true ∧ decC (GrP x.1 t) = true then (if (statesOf x.1 (normD x) t).length = 0 then -1 else (statesOf x.1 (normD x) t).getD 0 0) else -1
theorem spec_NormalStateOf_spec {w0 : World} {Γ : List Atom} {v0 v1 vt : Value} {x : SSystem} {t : List Int} [h0 : HasRd (List Int) repList Γ [v0] x.1] [h1 : HasRd (List SRule) repList Γ [v1] x.2] [h2 : HasRd (List Int) repList Γ [vt] t] :
    CJ Tryz.prog 12 [.agg #[v0, v1], vt] w0 Γ (fun _ : Unit => .int .i64 (nsO x t)) (fun _ => Γ) := by
  refine cj_lift (R := [.rd [v0] x.1, .rd [v1] x.2, .rd [vt] t]) (A := fun _ => []) (fun w1 => ?_) (reads_cons h0 (reads_cons h1 (reads_cons h2 (inferInstance)))) (fun _ => inferInstance)
  simp only [List.cons_append, List.nil_append]
  refine cj_enter Tryz.func12 Tryz.ntmps12 ?_
  repeat' (first | refine red ?_ | refine redf fun hbi => ?_ | refine reds ?_ | (refine redc fun r => ?_; try have hr := Subtype.property r) | refine redn fun b => ?_ | (refine redi (fun hc => ?_) (fun hc => ?_) <;> try first | (exfalso; omega) | with_reducible first | exact absurd rfl hc | exact absurd hc Bool.false_ne_true | exact absurd hc Bool.false_ne_true.symm) | fail)
  · refine ⟨(), ?_, ent_e⟩
    rw [nsO, if_neg (fun h => by rw [hc] at h; cases h.1)]
  · refine ⟨(), ?_, ent_e⟩
    rw [nsO, if_neg (fun h => hc (decC_iff.1 h.2))]
  · refine ⟨(), ?_, ent_e⟩
    have hok : (normA x).isSome = true := by assumption
    have hg : GrP x.1 t := by assumption
    rw [nsO, if_pos ⟨hok, decC_t hg⟩, if_pos (by omega)]
  · refine ⟨(), ?_, ent_e⟩
    have hok : (normA x).isSome = true := by assumption
    have hg : GrP x.1 t := by assumption
    rw [nsO, if_pos ⟨hok, decC_t hg⟩, if_neg (by omega)]
    try rfl
instance spec_NormalStateOf_ctr {Γ : List Atom} {v0 v1 vt : Value} {x : SSystem} {t : List Int} [h0 : HasRd (List Int) repList Γ [v0] x.1] [h1 : HasRd (List SRule) repList Γ [v1] x.2] [h2 : HasRd (List Int) repList Γ [vt] t] :
    CtrC Tryz.prog 12 [.agg #[v0, v1], vt] Γ (True) (Unit) (fun _ : Unit => .int .i64 (nsO x t)) (fun _ => Γ) := ⟨fun s w0 => spec_NormalStateOf_spec⟩

end Go.Proofs.YtbbdjjlnachnlaaGreatDoor
namespace Go.Proofs.YtbbdjjlnachnlaaGreatDoor
open Go Go.Eng
set_option linter.unusedVariables false
set_option linter.unusedSimpArgs false
set_option synthInstance.maxHeartbeats 400000
set_option synthInstance.maxSize 1000
def FrT (s t : STrans) : Prop := s.1 = t.1 ∧ s.2.1 = t.2.1
instance {s t : STrans} : Decidable (FrT s t) := by unfold FrT; infer_instance
instance {P : Program} {l : List Value} {Γ : List Atom} {ty : TypeId} {v : Value} {T b off : Nat} {x : Operand} {cs : List Value} [h : Ev l x (.pointer (some ⟨b, off, none⟩))] [hT : Sc P T] [hp : HasPt Γ ⟨b, 0, none⟩ cs] [hv : Ge cs off v] : PuC P l Γ (.load T x) ty v := ⟨fun w0 => by
  haveI : Ev l x (.pointer (some ((⟨b, 0, none⟩ : Addr).add off))) := by rw [add_lit, Nat.zero_add]; exact h
  exact pu_load_ptf⟩
def HasF (t : STrans) (ts : List STrans) (n : Nat) : Prop := ∃ i, i < n ∧ FrT (ts.getD i default) t
theorem hasF_next {t : STrans} {ts : List STrans} {n : Nat} (h : ¬ HasF t ts n) (h2 : ¬ FrT (ts.getD n default) t) : ¬ HasF t ts (n + 1) := by
  rintro ⟨i, hi, h'⟩
  by_cases he : i = n
  · rw [he] at h'; exact h2 h'
  · exact h ⟨i, by omega, h'⟩
theorem mem_takeF {rs : List STrans} {k : Nat} {t : STrans} (hk : k ≤ rs.length) : HasF t (rs.take k) (rs.take k).length ↔ ∃ j, j < k ∧ FrT (rs.getD j default) t := by
  have hl : (rs.take k).length = k := by rw [List.length_take]; omega
  have hg : ∀ j, j < k → (rs.take k).getD j default = rs.getD j default := fun j hj => by
    rw [List.getD_eq_getElem?_getD, List.getElem?_take, if_pos hj, ← List.getD_eq_getElem?_getD]
  unfold HasF
  rw [hl]
  exact ⟨fun ⟨j, hj, h⟩ => ⟨j, hj, by rw [← hg j hj]; exact h⟩, fun ⟨j, hj, h⟩ => ⟨j, hj, by rw [hg j hj]; exact h⟩⟩
def SureTo (rs : List STrans) (m : Nat) : Prop := ∀ i, i < m → ∀ j, j < i → ¬ FrT (rs.getD j default) (rs.getD i default)
theorem sureTo_next {rs : List STrans} {m : Nat} (h : SureTo rs m) (h2 : ∀ j, j < m → ¬ FrT (rs.getD j default) (rs.getD m default)) : SureTo rs (m + 1) := fun i hi j hj => by
  by_cases e : i = m
  · subst e; exact h2 j hj
  · exact h i (by omega) j hj
/-! what a sure automaton reaches -/
theorem getD_lt {l : List Int} {i : Nat} (h : i < l.length) : l.getD i 0 = l[i] := by rw [List.getD_eq_getElem?_getD, List.getElem?_eq_getElem h]; rfl
theorem rs_uniq {ar t : List Int} {x : SAuto} (ha : AutoP ar x) (hs : SureTo x.2.1 x.2.1.length) {k : Nat} {q : Int} (h : Rs ar t x.2.1 k q) : ∀ q', Rs ar t x.2.1 k q' → q = q' := by
  induction h with
  | mk k j hj he hi ih =>
    intro q' h'
    cases h' with
    | mk _ j' hj' he' hi' =>
      have t1 := (ha.2.2.2.2 j hj).1
      have t2 := (ha.2.2.2.2 j' hj').1
      have hk0 : 0 ≤ t.getD k 0 := by rw [← he]; exact t1.1.1
      have l1 := auto_args ha hk0 j hj he
      have l2 := auto_args ha hk0 j' hj' he'
      have hargs : (x.2.1.getD j default).2.1 = (x.2.1.getD j' default).2.1 := by
        apply List.ext_getElem (by omega)
        intro i h1 h2
        have := ih i (by omega) _ (hi' i (by omega))
        rw [getD_lt h1, getD_lt h2] at this
        exact this
      by_cases e : j = j'
      · rw [e]
      · exfalso
        by_cases hlt : j < j'
        · exact hs j' hj' j hlt ⟨he.trans he'.symm, hargs⟩
        · exact hs j hj j' (by omega) ⟨he'.trans he.symm, hargs.symm⟩
theorem rs_rch {ar t : List Int} {x : SAuto} (ha : AutoP ar x) {k : Nat} {q : Int} (h : Rs ar t x.2.1 k q) : Rch x.2.1 q := by
  induction h with
  | mk k j hj he hi ih =>
    refine Rch.mk _ (getT hj) fun q hq => ?_
    have t1 := (ha.2.2.2.2 j hj).1
    have hk0 : 0 ≤ t.getD k 0 := by rw [← he]; exact t1.1.1
    have l1 := auto_args ha hk0 j hj he
    obtain ⟨i, h1, rfl⟩ := List.getElem_of_mem hq
    have := ih i (by omega)
    rw [getD_lt h1] at this
    exact this
theorem pL_mem {P : Int → Prop} (hi : ∀ q, P q → 0 ≤ q ∧ q < 16) {q : Int} : q ∈ pL P ↔ P q := by
  unfold pL
  rw [List.mem_map]
  constructor
  · rintro ⟨i, hi, rfl⟩
    rw [List.mem_filter, decC_iff] at hi
    exact hi.2
  · intro hq
    have := hi q hq
    refine ⟨q.toNat, ?_, ?_⟩
    · rw [List.mem_filter, decC_iff, List.mem_range]
      refine ⟨by omega, ?_⟩
      rw [show Int.ofNat q.toNat = q by show ((q.toNat : Nat) : Int) = q; omega]
      exact hq
    · show ((q.toNat : Nat) : Int) = q
      omega
theorem pL_one {P : Int → Prop} (h : ∀ q q', P q → P q' → q = q') : (pL P).length ≤ 1 := by
  unfold pL
  rw [List.length_map]
  have hp : ((List.range 16).filter fun i => decC (P (Int.ofNat i))).Pairwise (· < ·) := List.Pairwise.filter _ List.pairwise_lt_range
  match hm : (List.range 16).filter fun i => decC (P (Int.ofNat i)) with
  | [] => simp
  | [a] => simp
  | a :: b :: l =>
    exfalso
    rw [hm] at hp
    have h1 : a < b := (List.pairwise_cons.1 hp).1 b (by simp)
    have ha : a ∈ (List.range 16).filter fun i => decC (P (Int.ofNat i)) := by rw [hm]; simp
    have hb : b ∈ (List.range 16).filter fun i => decC (P (Int.ofNat i)) := by rw [hm]; simp
    rw [List.mem_filter, decC_iff] at ha hb
    have := h _ _ ha.2 hb.2
    have : (a : Int) = (b : Int) := this
    omega
end Go.Proofs.YtbbdjjlnachnlaaGreatDoor
