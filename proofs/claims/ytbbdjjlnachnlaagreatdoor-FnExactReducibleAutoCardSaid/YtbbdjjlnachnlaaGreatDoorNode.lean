/- Walks and what is read off them: the sizes that are asked, the numbers of a walk, copies. -/
import Derived.Test.YtbbdjjlnachnlaaGreatDoorTypes
namespace Go.Proofs.YtbbdjjlnachnlaaGreatDoor
open Go Go.Eng
set_option linter.unusedVariables false
set_option linter.unusedSimpArgs false

theorem l1In_spec {w0 : World} {Γ : List Atom} {x lo hi : Int} : CJ Tryz.prog 43 [.int .i64 x, .int .i64 lo, .int .i64 hi] w0 Γ (fun _ : Unit => .bool (decide (lo ≤ x ∧ x ≤ hi))) (fun _ => Γ) := by
  refine cj_enter Tryz.func43 Tryz.ntmps43 ?_
  repeat' (first | refine red ?_ | (refine redi (fun hc => ?_) (fun hc => ?_) <;> try first | (exfalso; omega) | exact absurd rfl hc) | fail)
  all_goals exact ⟨(), ret_bool (by first | (refine decide_eq_decide.2 ?_; omega) | (refine (decide_eq_false ?_).symm; omega) | (simp; omega)), ent_e⟩

instance l1In_ctr {Γ : List Atom} {x lo hi : Int} :
    CtrC Tryz.prog 43 [.int .i64 x, .int .i64 lo, .int .i64 hi] Γ (True) (Unit) (fun _ : Unit => .bool (decide (lo ≤ x ∧ x ≤ hi))) (fun _ => Γ) := ⟨fun s w0 => l1In_spec⟩

def walkOk (x : SWalk) : Bool := decide (x.2.length ≤ 60 ∧ 1 ≤ x.1.length ∧ x.1.length ≤ 60)
theorem walkOk_iff (x : SWalk) : walkOk x = true ↔ (x.2.length ≤ 60 ∧ 1 ≤ x.1.length ∧ x.1.length ≤ 60) := decide_eq_true_iff
instance {x : SWalk} : BoolP (walkOk x) (x.2.length ≤ 60 ∧ 1 ≤ x.1.length ∧ x.1.length ≤ 60) := ⟨walkOk_iff x⟩
instance {x : SWalk} : BoolN (walkOk x) (¬ (x.2.length ≤ 60 ∧ 1 ≤ x.1.length ∧ x.1.length ≤ 60)) := ⟨decide_eq_false_iff_not⟩

theorem l1Copy_spec {w0 : World} {Γ : List Atom} {av : Value} {xs : List Int} [h : HasRd (List Int) repList Γ [av] xs] (hl : xs.length ≤ 1048576) :
    CJ Tryz.prog 88 [av] w0 Γ (fun p : Value => p) (fun p => .ow [p] xs :: Γ) := by
  refine cj_enter Tryz.func88 Tryz.ntmps88 ?_
  repeat' (first | refine red ?_ | refine redv fun sv => ?_ | fail)
  exact ⟨_, rfl, ent_e⟩

instance l1Copy_ctr {Γ : List Atom} {av : Value} {xs : List Int} [h : HasRd (List Int) repList Γ [av] xs] :
    CtrC Tryz.prog 88 [av] Γ (xs.length ≤ 1048576) (Value) (fun p : Value => p) (fun p => .ow [p] xs :: Γ) := ⟨fun s w0 => l1Copy_spec s⟩

theorem Clone_spec {w0 : World} {Γ : List Atom} {av : Value} {xs : List Int} [h : HasRd (List Int) repList Γ [av] xs] (hl : xs.length ≤ 1048576) :
    CJ Tryz.prog 130 [av] w0 Γ (fun p : Value => p) (fun p => .ow [p] xs :: Γ) := by
  refine cj_enter Tryz.func130 Tryz.ntmps130 ?_
  repeat' (first | refine red ?_ | refine redv fun sv => ?_ | refine redq (fun hc => ?_) (fun hc => ?_) | fail)
  · subst hc
    exact ⟨_, rfl, ent_e⟩
  · exact ⟨_, rfl, ent_e⟩

instance Clone_ctr {Γ : List Atom} {av : Value} {xs : List Int} [h : HasRd (List Int) repList Γ [av] xs] :
    CtrC Tryz.prog 130 [av] Γ (xs.length ≤ 1048576) (Value) (fun p : Value => p) (fun p => .ow [p] xs :: Γ) := ⟨fun s w0 => Clone_spec s⟩

def numsOf : List SStep → List Int
  | [] => []
  | s :: r => s.1 :: s.2.1 :: numsOf r
theorem numsOf_take {xs : List SStep} {k : Nat} {y : SStep} (h : xs[k]? = some y) : numsOf (xs.take (k + 1)) = numsOf (xs.take k) ++ [y.1, y.2.1] := by
  induction xs generalizing k with
  | nil => simp at h
  | cons x xs ih =>
    cases k with
    | zero =>
      simp only [List.getElem?_cons_zero, Option.some.injEq] at h
      subst h
      simp [numsOf]
    | succ k =>
      simp only [List.getElem?_cons_succ] at h
      simp [numsOf, ih h]
theorem numsOf_length (xs : List SStep) : (numsOf xs).length = 2 * xs.length := by
  induction xs with
  | nil => rfl
  | cons x xs ih => simp only [numsOf, List.length_cons, ih]; omega

def normalNodeOf (x : SWalk) : SNode := if x.2.length ≤ 60 ∧ 1 ≤ x.1.length ∧ x.1.length ≤ 60 then (1, numsOf x.2, [x.1], []) else (0, [], [], [])

theorem normal_len (x : SWalk) : (normalNodeOf x).2.1.length ≤ 2 * x.2.length ∧ Siz.size (normalNodeOf x).2.2.1 ≤ 1 + x.1.length ∧ (normalNodeOf x).2.2.2.length = 0 := by
  unfold normalNodeOf
  split
  · refine ⟨by simp only; rw [numsOf_length]; omega, ?_, rfl⟩
    simp only [siz_list, sumL, sumL_int, List.length_cons, List.length_nil]
    omega
  · exact ⟨by simp, by simp [siz_list, sumL], rfl⟩

end Go.Proofs.YtbbdjjlnachnlaaGreatDoor
