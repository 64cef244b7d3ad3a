/- Triangular substitutions and what they stand for: no program in sight. -/
import Derived.Test.YtbbdjjlnachnlaaGreatDoorMat
import Derived.Test.YtbbdjjlnachnlaaGreatDoorL02m
import Derived.Test.YtbbdjjlnachnlaaGreatDoorL06
import Derived.Test.YtbbdjjlnachnlaaGreatDoorL04
namespace Go.Proofs.YtbbdjjlnachnlaaGreatDoor
open Go Go.Eng
set_option linter.unusedVariables false
set_option linter.unusedSimpArgs false

def bdF (bs : List (List Int)) (n : Int) : List Int := bs.getD (-1 - n).toNat []
def Resp (bs : List (List Int)) (τ : Int → List Int) : Prop := ∀ n, -24 ≤ n → n < 0 → bdF bs n ≠ [] → τ n = fm τ (bdF bs n)
structure Tri (a : List Int) (bs : List (List Int)) (σ : Int → List Int) : Prop where
  len : bs.length = 48
  io : IO a σ
  un : ∀ n, -24 ≤ n → n < 0 → bdF bs n = [] → σ n = [n]
  bo : ∀ n, -24 ≤ n → n < 0 → bdF bs n ≠ [] → termOk a (bdF bs n) = true ∧ σ n = fm σ (bdF bs n) ∧ ∀ m, bdF bs n = [m] → m < 0 → n < m
  gen : Gen a (Resp bs) σ
/-- What the bindings stand for. -/
def TriE (a : List Int) (bs : List (List Int)) : Prop := ∃ σ, Tri a bs σ
open Classical in
noncomputable def sg (a : List Int) (bs : List (List Int)) : Int → List Int := if h : TriE a bs then Classical.choose h else fun n => [n]
end Go.Proofs.YtbbdjjlnachnlaaGreatDoor
namespace Go.Proofs.YtbbdjjlnachnlaaGreatDoor
open Go Go.Eng
set_option linter.unusedVariables false
set_option linter.unusedSimpArgs false

theorem fm_map (g : Int → Int) : ∀ t : List Int, fm (fun n => [g n]) t = t.map g
  | [] => rfl
  | x :: t => by rw [fm_cons, fm_map g t]; rfl
theorem ordTo_has {t : List Int} {k : Nat} (hk : k < t.length) (h : t.getD k 0 < 0) : t.getD k 0 ∈ ordTo t t.length := by
  obtain ⟨s, hs⟩ := ordTo_pre t (k + 1) (t.length - (k + 1))
  rw [show k + 1 + (t.length - (k + 1)) = t.length by omega] at hs
  rw [hs]
  exact List.mem_append_left _ (ordTo_mem h)
theorem ordTo_is {t : List Int} {n : Int} : ∀ m, n ∈ ordTo t m → n < 0 ∧ ∃ k, k < m ∧ t.getD k 0 = n
  | 0, h => by cases h
  | m + 1, h => by
    unfold ordTo at h
    split at h
    · rename_i hc
      rcases List.mem_append.1 h with h1 | h1
      · obtain ⟨a1, k, a2, a3⟩ := ordTo_is m h1
        exact ⟨a1, k, by omega, a3⟩
      · rw [List.mem_singleton] at h1
        exact ⟨h1 ▸ hc.1, m, by omega, h1.symm⟩
    · obtain ⟨a1, k, a2, a3⟩ := ordTo_is m h
      exact ⟨a1, k, by omega, a3⟩
theorem gd_idx {o : List Int} {n : Int} (h : n ∈ o) : o.getD (o.idxOf n) 0 = n := by
  rw [List.getD_eq_getElem?_getD, List.getElem?_eq_getElem (List.idxOf_lt_length_of_mem h), Option.getD_some, List.getElem_idxOf]
theorem rn_at {x y : List Int} (h : renOf x = renOf y) {k : Nat} (hk : k < x.length) : rn (ordTo x x.length) (x.getD k 0) = rn (ordTo y y.length) (y.getD k 0) := by
  have hl : x.length = y.length := by
    have := congrArg List.length h
    simpa [renOf] using this
  have h2 : (renOf x)[k]? = (renOf y)[k]? := by rw [h]
  unfold renOf at h2
  rw [List.getElem?_map, List.getElem?_map, List.getElem?_eq_getElem hk, List.getElem?_eq_getElem (by omega)] at h2
  rw [List.getD_eq_getElem?_getD, List.getElem?_eq_getElem hk, List.getD_eq_getElem?_getD, List.getElem?_eq_getElem (by omega)]
  simpa using h2
/-- A variable of the one term to the variable at its place in the other. -/
def toV (x y : List Int) (n : Int) : Int := if n < 0 ∧ n ∈ ordTo x x.length then (ordTo y y.length).getD ((ordTo x x.length).idxOf n) 0 else n
theorem toV_at {x y : List Int} (h : renOf x = renOf y) {k : Nat} (hk : k < x.length) : toV x y (x.getD k 0) = y.getD k 0 := by
  have hl : x.length = y.length := by
    have := congrArg List.length h
    simpa [renOf] using this
  have hr := rn_at h hk
  unfold toV
  by_cases h0 : x.getD k 0 < 0
  · have hm := ordTo_has hk h0
    rw [if_pos ⟨h0, hm⟩]
    unfold rn at hr
    rw [if_pos ⟨h0, hm⟩] at hr
    by_cases h1 : y.getD k 0 < 0
    · have hm1 := ordTo_has (t := y) (k := k) (by omega) h1
      rw [if_pos ⟨h1, hm1⟩] at hr
      have : (ordTo x x.length).idxOf (x.getD k 0) = (ordTo y y.length).idxOf (y.getD k 0) := by omega
      rw [this, gd_idx hm1]
    · rw [if_neg (fun hh => h1 hh.1)] at hr
      omega
  · rw [if_neg (fun hh => h0 hh.1)]
    unfold rn at hr
    rw [if_neg (fun hh => h0 hh.1)] at hr
    by_cases h1 : y.getD k 0 < 0
    · have hm1 := ordTo_has (t := y) (k := k) (by omega) h1
      rw [if_pos ⟨h1, hm1⟩] at hr
      omega
    · rw [if_neg (fun hh => h1 hh.1)] at hr
      exact hr
theorem ren_inst {a x y : List Int} (hx : termOk a x = true) (hy : termOk a y = true) (h : renOf x = renOf y) : instanceIn a x y = true := by
  have hl : x.length = y.length := by
    have := congrArg List.length h
    simpa [renOf] using this
  refine instanceIn_iff.2 ⟨hx, hy, fun n => [toV x y n], ⟨fun n hn => ?_, fun n h1 h2 => ?_⟩, ?_⟩
  · unfold toV
    rw [if_neg (fun hh => by omega)]
  · by_cases hm : n < 0 ∧ n ∈ ordTo x x.length
    · obtain ⟨_, k, hk, e⟩ := ordTo_is _ hm.2
      have h3 := toV_at h hk
      rw [e] at h3
      simp only [h3]
      have hyk := termOk_get hy (k := k) (by omega)
      have hr := rn_at h hk
      refine tm_var ⟨hyk.1, ?_⟩
      rw [e] at hr
      unfold rn at hr
      rw [if_pos hm] at hr
      by_cases h4 : y.getD k 0 < 0
      · exact h4
      · rw [if_neg (fun hh => h4 hh.1)] at hr
        omega
    · unfold toV
      simp only [if_neg hm]
      exact tm_var ⟨h1, h2⟩
  · rw [fm_map]
    refine List.ext_getElem (by rw [List.length_map, hl]) fun k h1 h2 => ?_
    rw [List.length_map] at h1
    have := toV_at h h1
    rw [List.getD_eq_getElem?_getD, List.getElem?_eq_getElem h1, List.getD_eq_getElem?_getD, List.getElem?_eq_getElem h2] at this
    simpa using this
end Go.Proofs.YtbbdjjlnachnlaaGreatDoor
namespace Go.Proofs.YtbbdjjlnachnlaaGreatDoor
open Go Go.Eng
set_option linter.unusedVariables false
set_option linter.unusedSimpArgs false

theorem l7Right_spec {w0 : World} {Γ : List Atom} {v0 v1 v : Value} {x : SSystem} {t : List Int} [h0 : HasRd (List Int) repList Γ [v0] x.1] [h1 : HasRd (List SRule) repList Γ [v1] x.2] [h2 : HasRd (List Int) repList Γ [v] t] : CJ Tryz.prog 49 [.agg #[v0, v1], v] w0 Γ (fun _ : Unit => .bool (sysOk x && termOk x.1 t)) (fun _ => Γ) := by
  refine cj_enter Tryz.func49 Tryz.ntmps49 ?_
  repeat' (first | refine red ?_ | refine redc fun r => ?_ | refine redn fun b => ?_ | (refine redi (fun hc => ?_) (fun hc => ?_) <;> try first | (exfalso; omega) | exact absurd rfl hc) | fail)
  all_goals exact ⟨(), ret_bool (by simp only [*, Bool.true_and, Bool.false_and, Bool.and_true, Bool.and_false]), ent_e⟩
instance l7Right_ctr {Γ : List Atom} {v0 v1 v : Value} {x : SSystem} {t : List Int} [h0 : HasRd (List Int) repList Γ [v0] x.1] [h1 : HasRd (List SRule) repList Γ [v1] x.2] [h2 : HasRd (List Int) repList Γ [v] t] :
    CtrC Tryz.prog 49 [.agg #[v0, v1], v] Γ (True) (Unit) (fun _ : Unit => .bool (sysOk x && termOk x.1 t)) (fun _ => Γ) := ⟨fun s w0 => l7Right_spec⟩

theorem sys_left {x : SSystem} {k : Nat} (h : sysOk x = true) (hk : k < x.2.length) : termOk x.1 (x.2.getD k default).1 = true :=
  (of_decide_eq_true ((sysOk_iff.1 h).2 _ (getD_memD hk)) : RuleP _ _).1.1

def redN (x : SSystem) (t : List Int) (k r : Nat) : Bool := (matchOf x.1 (x.2.getD r default).1 (subt x.1 t k)).isSome
def NoRed (x : SSystem) (t : List Int) (k : Nat) : Prop := ∀ i, i < k → ∀ r, r < x.2.length → redN x t i r = false
instance {x : SSystem} {t : List Int} {k : Nat} : Decidable (NoRed x t k) := by unfold NoRed; infer_instance
theorem NoRed.step {x : SSystem} {t : List Int} {k : Nat} : NoRed x t (k + 1) ↔ NoRed x t k ∧ ∀ r, r < x.2.length → redN x t k r = false := by
  constructor
  · intro h
    exact ⟨fun i hi => h i (by omega), h k (by omega)⟩
  · rintro ⟨h1, h2⟩ i hi
    by_cases he : i = k
    · subst he; exact h2
    · exact h1 i (by omega)
theorem l7Redexes_spec {w0 : World} {Γ : List Atom} {v0 v1 v : Value} {x : SSystem} {t : List Int} [h0 : HasRd (List Int) repList Γ [v0] x.1] [h1 : HasRd (List SRule) repList Γ [v1] x.2] [h2 : HasRd (List Int) repList Γ [v] t] (hs : sysOk x = true ∧ termOk x.1 t = true) : CJ Tryz.prog 50 [.agg #[v0, v1], v] w0 Γ (fun q : { n : Nat // n = 0 ↔ NoRed x t t.length } => .int .i64 q.1) (fun _ => Γ) := by
  refine cj_lift (R := [.rd [v0] x.1, .rd [v1] x.2, .rd [v] t]) (A := fun _ => []) (fun w1 => ?_) (reads_cons h0 (reads_cons h1 (reads_cons h2 (inferInstance)))) (fun _ => inferInstance)
  simp only [List.cons_append, List.nil_append]
  obtain ⟨hs1, hs2⟩ := hs
  have hl1 := (sysOk_iff.1 hs1).1.2
  have hl2 := termOk_len hs2
  refine cj_enter Tryz.func50 Tryz.ntmps50 ?_
  repeat' (first | refine red ?_ | refine redn fun b => ?_ | fail)
  refine wc_loop_c [5, 6] [10, 11, 12, 13, 7, 16, 17, 18, 19, 20, 24, 25, 26, 27, 28, 29, 30, 31, 32, 33, 34, 35, 36, 37, 23, 38, 39, 8, 9, 40, 41, 42, 21, 22, 14, 15] (ι := Nat × Nat) (fun k => [.int .i64 k.2, .int .i64 k.1]) (fun k => k.1 ≤ t.length ∧ k.2 ≤ 12 * k.1 ∧ (k.2 = 0 ↔ NoRed x t k.1)) (fun k => t.length - k.1) (0, 0) (by kernel_rfl) ⟨Nat.zero_le _, by simp, ⟨fun _ i hi => by omega, fun _ => rfl⟩⟩ ?_
  intro ⟨k, c⟩ u l' hl' ⟨hk, hkc, hkk⟩
  simp only [patch, List.map_cons, List.map_nil, List.set_cons_zero, List.set_cons_succ] at hl'
  subst hl'
  simp only at hk hkc hkk ⊢
  repeat' (first | refine red ?_ | (refine redi (fun hc => ?_) (fun hc => ?_) <;> try first | (exfalso; omega) | exact absurd rfl hc) | fail)
  · refine wc_loop_c [5, 7] [16, 17, 18, 19, 20, 24, 25, 26, 27, 28, 29, 30, 31, 32, 33, 34, 35, 36, 37, 23, 38, 39, 8, 9, 40, 41, 42, 21, 22] (ι := Nat × Nat) (fun j => [.int .i64 j.2, .int .i64 j.1]) (fun j => j.1 ≤ x.2.length ∧ j.2 ≤ 12 * k + j.1 ∧ (j.2 = 0 ↔ NoRed x t k ∧ ∀ r, r < j.1 → redN x t k r = false)) (fun j => x.2.length - j.1) (0, c) (by kernel_rfl) ⟨Nat.zero_le _, by simpa using hkc, ⟨fun h => ⟨hkk.1 h, fun r hr => by omega⟩, fun h => hkk.2 h.1⟩⟩ ?_
    intro ⟨j, c'⟩ u l' hl' ⟨hj, hjc, hjj⟩
    simp only [patch, List.map_cons, List.map_nil, List.set_cons_zero, List.set_cons_succ] at hl'
    subst hl'
    simp only at hj hjc hjj ⊢
    by_cases hlt : j < x.2.length
    · have hL := sys_left hs1 hlt
      have hT := subt_ok hs2 (k := k) (by omega)
      repeat' (first | refine red ?_ | refine reds ?_ | (refine redi (fun hc => ?_) (fun hc => ?_) <;> try first | (exfalso; omega) | exact absurd rfl hc) | ((refine wa_begin 8 [false, false, false, false, false, false, false, false, false, false, false, false, false, false, false, false, false, false, false, false] [] ?_ <;> (first | refine wa_p 0 ?_ | fail) <;> refine wa_p 1 ?_ <;> (first | refine wa_p 2 ?_ | fail) <;> (first | refine wa_p 3 ?_ | fail) <;> refine wa_p 4 ?_ <;> (first | (refine wa_deep 5 fun p cs as_ asb_ hcs has hasb hf => ?_; simp only [Un.cells, Un.atoms, Un.fact, List.cons_append, List.nil_append] at hcs has hasb hf; subst hcs has hasb) | fail) <;> (first | refine wa_p 6 ?_ | fail) <;> (first | refine wa_p 7 ?_ | fail) <;> (first | refine wa_p 8 ?_ | fail) <;> refine wa_p 9 ?_ <;> refine wa_p 10 ?_ <;> refine wa_p 11 ?_ <;> (refine wa_two 12 17 ?_ ?_; rotate_right; (focus ((repeat' (first | refine red ?_ | refine redn fun b => ?_ | fail)) <;> (refine wa_do 12 ?_ <;> (repeat' (first | refine red ?_ | refine redc fun r => ?_ | fail))) <;> (refine wa_do 13 ?_ <;> (repeat' (first | refine red ?_ | refine redc fun r => ?_ | fail))) <;> refine wa_p 14 ?_ <;> refine wa_p 15 ?_ <;> refine wa_p 16 ?_ <;> (refine wa_do 18 ?_ <;> (repeat' (first | refine red ?_ | fail))) <;> refine wa_p 19 ?_)); rotate_right; (focus ((repeat' (first | refine red ?_ | refine redc fun r => ?_ | fail)) <;> (refine wa_two 13 17 ?_ ?_; rotate_right; (focus ((repeat' (first | refine red ?_ | refine redn fun b => ?_ | fail)) <;> (refine wa_do 13 ?_ <;> (repeat' (first | refine red ?_ | refine redc fun r => ?_ | fail))) <;> refine wa_p 14 ?_ <;> refine wa_p 15 ?_ <;> refine wa_p 16 ?_ <;> (refine wa_do 18 ?_ <;> (repeat' (first | refine red ?_ | fail))) <;> refine wa_p 19 ?_)); rotate_right; (focus ((repeat' (first | refine red ?_ | refine redc fun r => ?_ | fail)) <;> refine wa_p 14 ?_ <;> refine wa_p 15 ?_ <;> refine wa_p 16 ?_ <;> (refine wa_do 17 ?_ <;> (repeat' (first | refine red ?_ | refine redn fun b => ?_ | fail))) <;> (refine wa_do 18 ?_ <;> (repeat' (first | refine red ?_ | fail))) <;> refine wa_p 19 ?_))))))) <;> (refine wa_end ?_)) | fail)
      all_goals first
        | (have hh : redN x t k j = true := hc
           exact wq_next (j + 1, c' + 1) ⟨by simp only; omega, by simp only; omega, ⟨fun h => absurd h (by simp only; omega), fun h => absurd (h.2 j (by simp only; omega)) (by rw [hh]; simp)⟩⟩ (by simp only; omega) (by kernel_rfl) ent_e)
        | (have hh : redN x t k j = false := hc
           exact wq_next (j + 1, c') ⟨by simp only; omega, by simp only; omega, ⟨fun h => ⟨(hjj.1 h).1, fun r hr => by
             by_cases he : r = j
             · rw [he]; exact hh
             · exact (hjj.1 h).2 r (by simp only at hr; omega)⟩, fun h => hjj.2 ⟨h.1, fun r hr => h.2 r (by simp only; omega)⟩⟩⟩ (by simp only; omega) (by kernel_rfl) ent_e)
    · repeat' (first | refine red ?_ | refine reds ?_ | (refine redi (fun hc => ?_) (fun hc => ?_) <;> try first | (exfalso; omega) | exact absurd rfl hc) | fail)
      rw [show j = x.2.length by omega] at hjj
      exact wq_next (k + 1, c') ⟨by simp only; omega, by simp only; omega, hjj.trans NoRed.step.symm⟩ (by simp only; omega) (by kernel_rfl) ent_e
  · exact ⟨⟨c, by rw [hkk, show k = t.length by omega]⟩, rfl, ent_e⟩

instance l7Redexes_ctr {Γ : List Atom} {v0 v1 v : Value} {x : SSystem} {t : List Int} [h0 : HasRd (List Int) repList Γ [v0] x.1] [h1 : HasRd (List SRule) repList Γ [v1] x.2] [h2 : HasRd (List Int) repList Γ [v] t] :
    CtrC Tryz.prog 50 [.agg #[v0, v1], v] Γ (sysOk x = true ∧ termOk x.1 t = true) ({ n : Nat // n = 0 ↔ NoRed x t t.length }) (fun q : { n : Nat // n = 0 ↔ NoRed x t t.length } => .int .i64 q.1) (fun _ => Γ) := ⟨fun s w0 => l7Redexes_spec s⟩

def normalIn (x : SSystem) (t : List Int) : Bool := sysOk x && (termOk x.1 t && decide (NoRed x t t.length))
theorem spec_NormalIn_spec {w0 : World} {Γ : List Atom} {v0 v1 v : Value} {x : SSystem} {t : List Int} [h0 : HasRd (List Int) repList Γ [v0] x.1] [h1 : HasRd (List SRule) repList Γ [v1] x.2] [h2 : HasRd (List Int) repList Γ [v] t] : CJ Tryz.prog 15 [.agg #[v0, v1], v] w0 Γ (fun _ : Unit => .bool (normalIn x t)) (fun _ => Γ) := by
  refine cj_enter Tryz.func15 Tryz.ntmps15 ?_
  repeat' (first | refine red ?_ | refine redc fun r => ?_ | refine redn fun b => ?_ | (refine redi (fun hc => ?_) (fun hc => ?_) <;> try first | (exfalso; omega) | exact absurd rfl hc) | fail)
  · refine ⟨(), ret_bool ?_, ent_e⟩
    unfold normalIn
    rw [hc.1, hc.2, Bool.true_and, Bool.true_and]
    refine decide_eq_decide.2 (r.2.symm.trans ⟨fun h => by omega, fun h => by omega⟩)
  · refine ⟨(), ret_bool ?_, ent_e⟩
    unfold normalIn
    cases h3 : sysOk x with
    | false => rfl
    | true =>
      cases h4 : termOk x.1 t with
      | false => rfl
      | true => exact absurd ⟨h3, h4⟩ hc
instance spec_NormalIn_ctr {Γ : List Atom} {v0 v1 v : Value} {x : SSystem} {t : List Int} [h0 : HasRd (List Int) repList Γ [v0] x.1] [h1 : HasRd (List SRule) repList Γ [v1] x.2] [h2 : HasRd (List Int) repList Γ [v] t] :
    CtrC Tryz.prog 15 [.agg #[v0, v1], v] Γ (True) (Unit) (fun _ : Unit => .bool (normalIn x t)) (fun _ => Γ) := ⟨fun s w0 => spec_NormalIn_spec⟩

end Go.Proofs.YtbbdjjlnachnlaaGreatDoor
