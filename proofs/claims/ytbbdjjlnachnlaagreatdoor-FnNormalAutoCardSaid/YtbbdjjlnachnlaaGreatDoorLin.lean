/- The automaton of normal forms, plain: rounds over sets, by an image that may be shut. No program in sight. -/
import Derived.Test.YtbbdjjlnachnlaaGreatDoorDraw6
import Derived.Test.YtbbdjjlnachnlaaGreatDoorL06
import Derived.Test.YtbbdjjlnachnlaaGreatDoorAuto
namespace Go.Proofs.YtbbdjjlnachnlaaGreatDoor
open Go Go.Eng
set_option linter.unusedVariables false
set_option linter.unusedSimpArgs false
/-- What a symbol leads to from a list of sets; nothing where it is shut. -/
abbrev ImO : Type := Nat → List (List Int) → Option (List Int)
def addO (out : List (List Int)) : Option (List Int) → List (List Int)
  | none => out
  | some s => addNew out s
theorem addO_pre (out : List (List Int)) (s : Option (List Int)) : out <+: addO out s := by
  cases s with
  | none => exact List.prefix_rfl
  | some s => exact addNew_pre out s
def rowG (im : ImO) (ar : List Int) (sets : List (List Int)) (f : Nat) (out : List (List Int)) : Nat → List (List Int)
  | 0 => out
  | i + 1 => addO (rowG im ar sets f out i) (im f (listed sets (dig sets.length (arN ar f) i)))
def symG (im : ImO) (ar : List Int) (sets : List (List Int)) : Nat → List (List Int)
  | 0 => sets
  | f + 1 => rowG im ar sets f (symG im ar sets f) (sets.length ^ arN ar f)
def rndG (im : ImO) (ar : List Int) (sets : List (List Int)) : List (List Int) := symG im ar sets ar.length
theorem rowG_pre (im : ImO) (ar : List Int) (sets : List (List Int)) (f : Nat) (out : List (List Int)) (i : Nat) : ∀ j, rowG im ar sets f out i <+: rowG im ar sets f out (i + j)
  | 0 => List.prefix_rfl
  | j + 1 => (rowG_pre im ar sets f out i j).trans (addO_pre _ _)
theorem symG_pre (im : ImO) (ar : List Int) (sets : List (List Int)) (f : Nat) : ∀ j, symG im ar sets f <+: symG im ar sets (f + j)
  | 0 => List.prefix_rfl
  | j + 1 => (symG_pre im ar sets f j).trans (by
    have := rowG_pre im ar sets (f + j) (symG im ar sets (f + j)) 0 (sets.length ^ arN ar (f + j))
    rw [Nat.zero_add] at this
    exact this)
theorem rndG_pre (im : ImO) (ar : List Int) (sets : List (List Int)) : sets <+: rndG im ar sets := by
  have := symG_pre im ar sets 0 ar.length
  rw [Nat.zero_add] at this
  exact this
theorem rowG_rnd {im : ImO} {ar : List Int} {sets : List (List Int)} {f i : Nat} (hf : f < ar.length) (hi : i ≤ sets.length ^ arN ar f) : rowG im ar sets f (symG im ar sets f) i <+: rndG im ar sets := by
  have h1 := rowG_pre im ar sets f (symG im ar sets f) i (sets.length ^ arN ar f - i)
  rw [show i + (sets.length ^ arN ar f - i) = sets.length ^ arN ar f by omega] at h1
  have h2 := symG_pre im ar sets (f + 1) (ar.length - (f + 1))
  rw [show f + 1 + (ar.length - (f + 1)) = ar.length by omega] at h2
  exact h1.trans h2
theorem addO_nodup {out : List (List Int)} (h : out.Nodup) (s : Option (List Int)) : (addO out s).Nodup := by
  cases s with
  | none => exact h
  | some s =>
    show (addNew out s).Nodup
    unfold addNew
    split
    · exact h
    · rename_i hn
      rw [List.nodup_append]
      exact ⟨h, by simp, fun a ha b hb e => by rw [List.mem_singleton] at hb; subst e; subst hb; exact hn ha⟩
theorem rowG_nodup {im : ImO} {ar : List Int} {sets : List (List Int)} {f : Nat} {out : List (List Int)} (h : out.Nodup) : ∀ i, (rowG im ar sets f out i).Nodup
  | 0 => h
  | i + 1 => addO_nodup (rowG_nodup h i) _
theorem symG_nodup {im : ImO} {ar : List Int} {sets : List (List Int)} (h : sets.Nodup) : ∀ f, (symG im ar sets f).Nodup
  | 0 => h
  | f + 1 => rowG_nodup (symG_nodup h f) _
theorem rndG_nodup {im : ImO} {ar : List Int} {sets : List (List Int)} (h : sets.Nodup) : (rndG im ar sets).Nodup := symG_nodup h _
/-- The rounds, as long as something new comes up and it is not too much. -/
def fixG (im : ImO) (ar : List Int) : Nat → List (List Int) → Option (List (List Int))
  | 0, _ => none
  | k + 1, s => if 16 < (rndG im ar s).length then none else if (rndG im ar s).length = s.length then (if s = [] then none else some s) else fixG im ar k (rndG im ar s)
/-- The transitions, by the places of the sets in a list. -/
noncomputable def trO (f : Nat) (l : List Int) (all : List (List Int)) : Option (List Int) → List STrans
  | none => []
  | some s => [((f : Int), l, placeOf all s)]
noncomputable def trRG (im : ImO) (ar : List Int) (sets : List (List Int)) (f : Nat) (out : List STrans) : Nat → List STrans
  | 0 => out
  | i + 1 => trRG im ar sets f out i ++ trO f (dig sets.length (arN ar f) i) sets (im f (listed sets (dig sets.length (arN ar f) i)))
noncomputable def trSG (im : ImO) (ar : List Int) (sets : List (List Int)) : Nat → List STrans
  | 0 => []
  | f + 1 => trRG im ar sets f (trSG im ar sets f) (sets.length ^ arN ar f)
noncomputable def allG (im : ImO) (ar : List Int) (sets : List (List Int)) : List STrans := trSG im ar sets ar.length
theorem trO_len (f : Nat) (l : List Int) (all : List (List Int)) (s : Option (List Int)) : (trO f l all s).length ≤ 1 := by
  cases s <;> simp [trO]
theorem trRG_mono (im : ImO) (ar : List Int) (sets : List (List Int)) (f : Nat) (out : List STrans) (i : Nat) : ∀ j, (trRG im ar sets f out i).length ≤ (trRG im ar sets f out (i + j)).length
  | 0 => Nat.le_refl _
  | j + 1 => Nat.le_trans (trRG_mono im ar sets f out i j) (by
    show _ ≤ (trRG im ar sets f out (i + j) ++ _).length
    rw [List.length_append]; omega)
theorem trSG_mono (im : ImO) (ar : List Int) (sets : List (List Int)) (f : Nat) : ∀ j, (trSG im ar sets f).length ≤ (trSG im ar sets (f + j)).length
  | 0 => Nat.le_refl _
  | j + 1 => Nat.le_trans (trSG_mono im ar sets f j) (by
    have := trRG_mono im ar sets (f + j) (trSG im ar sets (f + j)) 0 (sets.length ^ arN ar (f + j))
    rw [Nat.zero_add] at this
    exact this)
theorem rowG_all {im : ImO} {ar : List Int} {sets : List (List Int)} {f i : Nat} (hf : f < ar.length) (hi : i ≤ sets.length ^ arN ar f) : (trRG im ar sets f (trSG im ar sets f) i).length ≤ (allG im ar sets).length := by
  have h1 := trRG_mono im ar sets f (trSG im ar sets f) i (sets.length ^ arN ar f - i)
  rw [show i + (sets.length ^ arN ar f - i) = sets.length ^ arN ar f by omega] at h1
  have h2 := trSG_mono im ar sets (f + 1) (ar.length - (f + 1))
  rw [show f + 1 + (ar.length - (f + 1)) = ar.length by omega] at h2
  exact Nat.le_trans h1 h2
/-- A round with the transitions that come up in it, by the places in the list so far: the program's. -/
noncomputable def rowUG (im : ImO) (ar : List Int) (sets : List (List Int)) (f : Nat) (out : List (List Int)) (rs : List STrans) : Nat → List STrans
  | 0 => rs
  | i + 1 => rowUG im ar sets f out rs i ++ trO f (dig sets.length (arN ar f) i) (rowG im ar sets f out (i + 1)) (im f (listed sets (dig sets.length (arN ar f) i)))
noncomputable def symUG (im : ImO) (ar : List Int) (sets : List (List Int)) : Nat → List STrans
  | 0 => []
  | f + 1 => rowUG im ar sets f (symG im ar sets f) (symUG im ar sets f) (sets.length ^ arN ar f)
theorem pre_same {xs ys : List (List Int)} (h : xs <+: ys) (hl : ys.length ≤ xs.length) : xs = ys := by
  obtain ⟨t, rfl⟩ := h
  rw [List.length_append] at hl
  rw [List.length_eq_zero_iff.1 (show t.length = 0 by omega), List.append_nil]
/-- Where nothing new came up, the places are those in the list. -/
theorem rowUG_same {im : ImO} {ar : List Int} {sets : List (List Int)} {f : Nat} {out : List (List Int)} {rs : List STrans} : ∀ i, rowG im ar sets f out i = sets → (∀ j, j ≤ i → rowG im ar sets f out j = sets) → rowUG im ar sets f out rs i = trRG im ar sets f rs i
  | 0, _, _ => rfl
  | i + 1, h, ha => by
    show rowUG im ar sets f out rs i ++ trO f _ (rowG im ar sets f out (i + 1)) _ = trRG im ar sets f rs i ++ trO f _ sets _
    rw [rowUG_same i (ha i (by omega)) (fun j hj => ha j (by omega)), h]
theorem symUG_same {im : ImO} {ar : List Int} {sets : List (List Int)} (h : (rndG im ar sets).length = sets.length) : ∀ f, f ≤ ar.length → symUG im ar sets f = trSG im ar sets f
  | 0, _ => rfl
  | f + 1, hf => by
    have hall : ∀ j, j ≤ sets.length ^ arN ar f → rowG im ar sets f (symG im ar sets f) j = sets := fun j hj => by
      have h1 := rowG_rnd (im := im) (sets := sets) (show f < ar.length by omega) hj
      have h2 : sets <+: rowG im ar sets f (symG im ar sets f) j := by
        have := symG_pre im ar sets 0 f
        rw [Nat.zero_add] at this
        have h3 := rowG_pre im ar sets f (symG im ar sets f) 0 j
        rw [Nat.zero_add] at h3
        exact this.trans h3
      exact (pre_same h2 (by have := h1.length_le; omega)).symm
    show rowUG im ar sets f (symG im ar sets f) (symUG im ar sets f) _ = trRG im ar sets f (trSG im ar sets f) _
    rw [symUG_same h f (by omega), rowUG_same _ (hall _ (Nat.le_refl _)) (fun j hj => hall j hj)]
/-- Numbers below n. -/
def upTo (n : Nat) : List Int := (List.range n).map Int.ofNat
theorem upTo_succ (n : Nat) : upTo (n + 1) = upTo n ++ [(n : Int)] := by unfold upTo; rw [List.range_succ, List.map_append]; rfl
theorem upTo_len (n : Nat) : (upTo n).length = n := by unfold upTo; simp
theorem upTo_get {n k : Nat} (h : k < n) : (upTo n).getD k 0 = (k : Int) := by
  unfold upTo
  rw [List.getD_eq_getElem?_getD, List.getElem?_map, List.getElem?_range h]
  rfl
/-- The automaton, by an image. -/
noncomputable def autG (im : ImO) (ar : List Int) : Option SAuto :=
  match fixG im ar 17 [] with
  | none => none
  | some sets => if (allG im ar sets).length ≤ 300 then some ((sets.length : Int), allG im ar sets, upTo sets.length) else none
theorem autG_none {im : ImO} {ar : List Int} (h : fixG im ar 17 [] = none) : autG im ar = none := by unfold autG; rw [h]
theorem autG_many {im : ImO} {ar : List Int} {sets : List (List Int)} (h : fixG im ar 17 [] = some sets) (hm : 300 < (allG im ar sets).length) : autG im ar = none := by
  unfold autG; rw [h]; simp only; rw [if_neg (Nat.not_le.2 hm)]
theorem autG_some {im : ImO} {ar : List Int} {sets : List (List Int)} (h : fixG im ar 17 [] = some sets) (hm : (allG im ar sets).length ≤ 300) : autG im ar = some ((sets.length : Int), allG im ar sets, upTo sets.length) := by
  unfold autG; rw [h]; simp only; rw [if_pos hm]
theorem fixG_some {im : ImO} {ar : List Int} : ∀ (k : Nat) (s : List (List Int)), s.length ≤ 16 → s.Nodup → ∀ t, fixG im ar k s = some t → (1 ≤ t.length ∧ t.length ≤ 16) ∧ t.Nodup ∧ (rndG im ar t).length = t.length
  | 0, s, hs, hn, t, h => by cases h
  | k + 1, s, hs, hn, t, h => by
    unfold fixG at h
    split at h
    · cases h
    · split at h
      · split at h
        · cases h
        · injection h with h
          subst h
          exact ⟨⟨List.length_pos_iff.2 ‹_›, hs⟩, hn, ‹_›⟩
      · exact fixG_some k _ (by omega) (rndG_nodup hn) t h
end Go.Proofs.YtbbdjjlnachnlaaGreatDoor
namespace Go.Proofs.YtbbdjjlnachnlaaGreatDoor
open Go Go.Eng
set_option linter.unusedVariables false
set_option linter.unusedSimpArgs false
set_option synthInstance.maxHeartbeats 400000
set_option synthInstance.maxSize 1000
def LinP (t : List Int) (k : Nat) : Prop := ∀ i, i < k → t.getD i 0 < 0 → t.getD i 0 ∉ t.take i
theorem lin_next {t : List Int} {k : Nat} (h : LinP t k) (h1 : t.getD k 0 < 0 → t.getD k 0 ∉ t.take k) : LinP t (k + 1) := fun i hi => by
  by_cases e : i = k
  · rw [e]; exact h1
  · exact h i (by omega)
/-! the number of times that a number stands in a list -/
def cntT (t : List Int) (n : Int) : Nat → Nat
  | 0 => 0
  | k + 1 => cntT t n k + if t.getD k 0 = n then 1 else 0
theorem cntT_le (t : List Int) (n : Int) : ∀ k, cntT t n k ≤ k
  | 0 => Nat.le_refl _
  | k + 1 => by
    have := cntT_le t n k
    unfold cntT
    split <;> omega
theorem cntT_pos {t : List Int} {n : Int} : ∀ {k : Nat}, k ≤ t.length → (1 ≤ cntT t n k ↔ n ∈ t.take k)
  | 0, _ => by simp [cntT]
  | k + 1, h => by
    rw [mem_take_succ (by omega), ← cntT_pos (by omega)]
    show 1 ≤ cntT t n k + (if t.getD k 0 = n then 1 else 0) ↔ _
    split
    · rename_i e; exact ⟨fun _ => .inr e.symm, fun _ => by omega⟩
    · rename_i e; exact ⟨fun h => .inl (by omega), fun h => h.elim (fun h => by omega) (fun h => absurd h.symm e)⟩
theorem lin_cnt {t : List Int} : LinP t t.length ↔ ∀ i, i < t.length → t.getD i 0 < 0 → cntT t (t.getD i 0) t.length ≤ 1 := by
  constructor
  · intro h i hi h0
    have key : ∀ k, k ≤ t.length → cntT t (t.getD i 0) k ≤ 1 := fun k => by
      induction k with
      | zero => intro _; exact Nat.zero_le _
      | succ k ih =>
        intro hk
        have h1 := ih (by omega)
        show cntT t (t.getD i 0) k + (if t.getD k 0 = t.getD i 0 then 1 else 0) ≤ 1
        split
        · rename_i e
          have h2 := h k (by omega) (by rw [e]; exact h0)
          rw [e] at h2
          have h3 : ¬ 1 ≤ cntT t (t.getD i 0) k := fun h4 => h2 ((cntT_pos (t := t) (n := t.getD i 0) (k := k) (by omega)).1 h4)
          omega
        · omega
    exact key _ (Nat.le_refl _)
  · intro h i hi h0 hm
    have h1 := h i hi h0
    have h2 := (cntT_pos (t := t) (n := t.getD i 0) (k := i) (by omega)).2 hm
    have key : ∀ j, i + 1 + j ≤ t.length → 2 ≤ cntT t (t.getD i 0) (i + 1 + j) := fun j => by
      induction j with
      | zero =>
        intro _
        show 2 ≤ cntT t (t.getD i 0) i + _
        rw [if_pos rfl]; omega
      | succ j ih =>
        intro hj
        have := ih (by omega)
        show 2 ≤ cntT t (t.getD i 0) (i + 1 + j) + _
        split <;> omega
    have := key (t.length - (i + 1)) (by omega)
    rw [show i + 1 + (t.length - (i + 1)) = t.length by omega] at this
    omega
theorem l1Count_spec {w0 : World} {Γ : List Atom} {v : Value} {t : List Int} {n : Int} [h : HasRd (List Int) repList Γ [v] t] (hl : t.length ≤ 1048576) : CJ Tryz.prog 160 [v, .int .i64 n] w0 Γ (fun _ : Unit => .int .i64 (cntT t n t.length : Nat)) (fun _ => Γ) := by
  refine cj_lift (R := [.rd [v] t]) (A := fun _ => []) (fun w1 => ?_) (reads_cons h (inferInstance)) (fun _ => inferInstance)
  simp only [List.cons_append, List.nil_append]
  refine cj_enter Tryz.func160 Tryz.ntmps160 ?_
  repeat' (first | refine red ?_ | fail)
  refine wc_loop_c [5, 6] [7, 8, 9, 10, 13, 14, 15, 16, 17, 18, 19, 20, 11, 12] (ι := Nat) (fun k => [.int .i64 (cntT t n k : Nat), .int .i64 k]) (fun k => k ≤ t.length) (fun k => t.length - k) 0 (by kernel_rfl) (Nat.zero_le _) ?_
  intro k u l' hl' hk
  simp only [patch, List.map_cons, List.map_nil, List.set_cons_zero, List.set_cons_succ] at hl'
  subst hl'
  have hle := cntT_le t n k
  repeat' (first | refine red ?_ | refine redf fun hbi => ?_ | refine reds ?_ | (refine redi (fun hc => ?_) (fun hc => ?_) <;> try first | (exfalso; omega) | exact absurd rfl hc) | fail)
  · have e : cntT t n (k + 1) = cntT t n k + 1 := by show _ + _ = _; rw [if_pos hc]
    refine wq_next (k + 1) (by omega) (by omega) ?_ ent_e
    rw [e]
    kernel_rfl
  · have e : cntT t n (k + 1) = cntT t n k := by show _ + _ = _; rw [if_neg hc]; rfl
    refine wq_next (k + 1) (by omega) (by omega) ?_ ent_e
    rw [e]
    kernel_rfl
  · exact ⟨(), ret_int (by rw [show k = t.length by omega]), ent_e⟩
instance l1Count_ctr {Γ : List Atom} {v : Value} {t : List Int} {n : Int} [h : HasRd (List Int) repList Γ [v] t] :
    CtrC Tryz.prog 160 [v, .int .i64 n] Γ (t.length ≤ 1048576) (Unit) (fun _ : Unit => .int .i64 (cntT t n t.length : Nat)) (fun _ => Γ) := ⟨fun s w0 => l1Count_spec s⟩

theorem l2Linear_spec {w0 : World} {Γ : List Atom} {v : Value} {t : List Int} [h : HasRd (List Int) repList Γ [v] t] (hl : t.length ≤ 1048576) : CJ Tryz.prog 121 [v] w0 Γ (fun _ : Unit => .bool (decC (LinP t t.length))) (fun _ => Γ) := by
  refine cj_lift (R := [.rd [v] t]) (A := fun _ => []) (fun w1 => ?_) (reads_cons h (inferInstance)) (fun _ => inferInstance)
  simp only [List.cons_append, List.nil_append]
  refine cj_enter Tryz.func121 Tryz.ntmps121 ?_
  repeat' (first | refine red ?_ | fail)
  refine wc_loop_c [3] [4, 5, 6, 7, 10, 11, 12, 13, 14, 15, 16, 17, 18, 19, 20, 21, 22, 23, 2, 8, 9] (ι := Nat) (fun k => [.int .i64 k]) (fun k => k ≤ t.length ∧ ∀ i, i < k → t.getD i 0 < 0 → cntT t (t.getD i 0) t.length ≤ 1) (fun k => t.length - k) 0 (by kernel_rfl) ⟨Nat.zero_le _, fun i hi => by omega⟩ ?_
  intro k u l' hl' ⟨hk, hkk⟩
  simp only [patch, List.map_cons, List.map_nil, List.set_cons_zero, List.set_cons_succ] at hl'
  subst hl'
  repeat' (first | refine red ?_ | refine redf fun hbi => ?_ | refine reds ?_ | refine redc fun r => ?_ | (refine redi (fun hc => ?_) (fun hc => ?_) <;> try first | (exfalso; omega) | exact absurd rfl hc) | fail)
  · exact ⟨(), ret_bool (decC_f fun h => by have := lin_cnt.1 h k (by omega) (by omega); omega), ent_e⟩
  · refine wq_next (k + 1) ⟨by omega, fun i hi h0 => ?_⟩ (by omega) (by kernel_rfl) ent_e
    by_cases e : i = k
    · rw [e]; omega
    · exact hkk i (by omega) h0
  · refine wq_next (k + 1) ⟨by omega, fun i hi h0 => ?_⟩ (by omega) (by kernel_rfl) ent_e
    by_cases e : i = k
    · rw [e] at h0; omega
    · exact hkk i (by omega) h0
  · exact ⟨(), ret_bool (decC_t (lin_cnt.2 (by rw [show t.length = k by omega] at hkk ⊢; exact hkk))), ent_e⟩
instance l2Linear_ctr {Γ : List Atom} {v : Value} {t : List Int} [h : HasRd (List Int) repList Γ [v] t] :
    CtrC Tryz.prog 121 [v] Γ (t.length ≤ 1048576) (Unit) (fun _ : Unit => .bool (decC (LinP t t.length))) (fun _ => Γ) := ⟨fun s w0 => l2Linear_spec s⟩

theorem impl_linear_spec {w0 : World} {Γ : List Atom} {v : Value} {t : List Int} [h : HasRd (List Int) repList Γ [v] t] : CJ Tryz.prog 129 [v] w0 Γ (fun _ : Unit => .bool (decC (LinP t t.length))) (fun _ => Γ) := by
  refine cj_lift (R := [.rd [v] t]) (A := fun _ => []) (fun w1 => ?_) (reads_cons h inferInstance) (fun _ => inferInstance)
  simp only [List.cons_append, List.nil_append]
  refine cj_len v fun hlx => ?_
  refine cj_enter Tryz.func129 Tryz.ntmps129 ?_
  repeat' (first | refine red ?_ | fail)
  refine wc_loop_c [7] [8, 9, 10, 11, 3, 4, 12, 13, 14, 15, 16, 17, 18, 19, 20, 2, 21] (ι := Nat) (fun k => [.int .i64 k]) (fun k => k ≤ t.length ∧ LinP t k) (fun k => t.length - k) 0 (by kernel_rfl) ⟨Nat.zero_le _, fun i hi => by omega⟩ ?_
  intro k u l' hl' ⟨hk, hkk⟩
  simp only [patch, List.map_cons, List.map_nil, List.set_cons_zero, List.set_cons_succ] at hl'
  subst hl'
  repeat' (first | refine red ?_ | refine redf fun hbi => ?_ | refine reds ?_ | refine redc fun r => ?_ | refine redv fun sv => ?_ | (refine redi (fun hc => ?_) (fun hc => ?_) <;> try first | (exfalso; omega) | exact absurd rfl hc) | fail)
  · exact ⟨(), ret_bool (decC_f fun h => h k (by omega) (by assumption) hc), ent_e⟩
  · exact wq_next (k + 1) ⟨by omega, lin_next hkk (fun _ => hc)⟩ (by omega) (by kernel_rfl) ent_e
  · exact wq_next (k + 1) ⟨by omega, lin_next hkk (fun h => by omega)⟩ (by omega) (by kernel_rfl) ent_e
  · exact ⟨(), ret_bool (decC_t (by rw [show t.length = k by omega]; exact hkk)), ent_e⟩

instance impl_linear_ctr {Γ : List Atom} {v : Value} {t : List Int} [h : HasRd (List Int) repList Γ [v] t] :
    CtrC Tryz.prog 129 [v] Γ (True) (Unit) (fun _ : Unit => .bool (decC (LinP t t.length))) (fun _ => Γ) := ⟨fun s w0 => impl_linear_spec⟩

def LinS (rs : List SRule) (k : Nat) : Prop := ∀ i, i < k → LinP (rs.getD i default).1 (rs.getD i default).1.length
theorem linS_next {rs : List SRule} {k : Nat} (h : LinS rs k) (h1 : LinP (rs.getD k default).1 (rs.getD k default).1.length) : LinS rs (k + 1) := fun i hi => by
  by_cases e : i = k
  · rw [e]; exact h1
  · exact h i (by omega)
/-- A right system whose left sides are linear. -/
def LlP (x : SSystem) : Prop := sysOk x = true ∧ LinS x.2 x.2.length
end Go.Proofs.YtbbdjjlnachnlaaGreatDoor
