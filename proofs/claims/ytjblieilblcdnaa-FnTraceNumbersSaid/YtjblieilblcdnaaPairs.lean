/- slices.Grow of nil, slices.Concat, and the node of two walks. -/
import Derived.Test.YtjblieilblcdnaaEngQ
import Derived.Test.YtjblieilblcdnaaNode2
namespace Go.Proofs.Ytjblieilblcdnaa
open Go Go.Eng
set_option linter.unusedVariables false
set_option linter.unusedSimpArgs false

theorem Grow_spec {w0 : World} {Γ : List Atom} {n : Int} (hn : 0 ≤ n ∧ n ≤ 1099511627776) : CJ Try.prog 22 [.slice none 0 0, .int .i64 n] w0 Γ (fun sv : Value => sv) (fun sv => .ow [sv] ([] : List Int) :: Γ) := by
  refine cj_enter Try.func22 Try.ntmps22 ?_
  repeat' (first | refine red ?_ | refine reds ?_ | refine redv fun sv => ?_ | (refine redi (fun hc => ?_) (fun hc => ?_) <;> try first | (exfalso; omega) | exact absurd rfl hc) | fail)
  · rw [List.take_zero]
    exact ⟨_, rfl, ent_e⟩
  · exact ⟨_, rfl, ent_e⟩
instance Grow_ctr {Γ : List Atom} {n : Int} :
    CtrC Try.prog 22 [.slice none 0 0, .int .i64 n] Γ (0 ≤ n ∧ n ≤ 1099511627776) (Value) (fun sv : Value => sv) (fun sv => .ow [sv] ([] : List Int) :: Γ) := ⟨fun s w0 => Grow_spec s⟩

theorem flat_take {xs : List (List Int)} {k : Nat} (h : k < xs.length) : (xs.take (k + 1)).flatten = (xs.take k).flatten ++ xs.getD k [] := by
  rw [List.take_succ_eq_append_getElem h, List.flatten_append, List.getD_eq_getElem?_getD, List.getElem?_eq_getElem h]
  simp
theorem flat_take_le (xs : List (List Int)) (k : Nat) : (xs.take k).flatten.length ≤ xs.flatten.length := by
  conv => rhs; rw [← List.take_append_drop k xs, List.flatten_append, List.length_append]
  omega
theorem Concat_spec {w0 : World} {Γ : List Atom} {v : Value} {xs : List (List Int)} [h : HasRd (List (List Int)) repList Γ [v] xs] (hl : xs.flatten.length ≤ 1099511627776) : CJ Try.prog 12 [v] w0 Γ (fun sv : Value => sv) (fun sv => .ow [sv] xs.flatten :: Γ) := by
  refine cj_lift (R := [.rd [v] xs]) (A := fun sv : Value => [.ow [sv] xs.flatten]) (fun w1 => ?_) (reads_cons h (inferInstance)) (fun _ => inferInstance)
  simp only [List.cons_append, List.nil_append]
  refine cj_len v fun hlx => ?_
  refine cj_enter Try.func12 Try.ntmps12 ?_
  repeat' (first | refine red ?_ | fail)
  refine wc_loop_p [3, 11] [12, 13, 14, 5, 15, 16, 17, 18, 19, 20, 21, 22] (ι := Nat) (fun k => [.int .i64 (xs.take k).flatten.length, .int .i64 k]) (fun k => []) (fun k => k ≤ xs.length) (fun k => xs.length - k) 0 [] (by kernel_rfl) (Nat.zero_le _) rfl ?_
  · intro k u l' hl' hk
    simp only [patch, List.map_cons, List.map_nil, List.set_cons_zero, List.set_cons_succ] at hl'
    subst hl'
    simp only [List.cons_append, List.nil_append] at hk ⊢
    have h1 := flat_take_le xs k
    have h2 : k < xs.length → (xs.take k).flatten.length + (xs.getD k default).length ≤ xs.flatten.length := fun hh => by
      have e := congrArg List.length (flat_take hh)
      rw [List.length_append] at e
      have := flat_take_le xs (k + 1)
      show _ + (xs.getD k []).length ≤ _
      omega
    have h3 : k < xs.length → ((xs.take (k + 1)).flatten.length : Int) = (xs.take k).flatten.length + (xs.getD k default).length := fun hh => by
      rw [flat_take hh, List.length_append, Int.natCast_add]; rfl
    repeat' (first | refine red ?_ | refine reds ?_ | refine redc fun r => ?_ | (refine redd fun p cs as_ hcs has hf => ?_; simp only [Un.cells, Un.atoms, Un.fact, List.cons_append, List.nil_append] at hcs has hf; subst hcs has) | (refine redi (fun hc => ?_) (fun hc => ?_) <;> try first | (exfalso; omega) | exact absurd rfl hc) | fail)
    · rw [← h3 (by omega)]
      exact wq_next (k + 1) (by omega) (by omega) (by kernel_rfl) ent_e
    · refine wc_loop_p [6, 27] [28, 29, 30, 8, 31, 32, 33, 34] (ι := Nat × Value) (fun k => [k.2, .int .i64 k.1]) (fun k => [.ow [k.2] (xs.take k.1).flatten]) (fun k => k.1 ≤ xs.length) (fun k => xs.length - k.1) (0, r) [.ow [r] ([] : List Int)] (by kernel_rfl) (Nat.zero_le _) rfl ?_
      clear h1 h2 h3 hk
      intro ⟨k, s⟩ u l' hl' hk
      simp only [patch, List.map_cons, List.map_nil, List.set_cons_zero, List.set_cons_succ] at hl'
      subst hl'
      simp only [List.cons_append, List.nil_append] at hk ⊢
      have h1 := flat_take_le xs k
      have h2 : k < xs.length → (xs.take k).flatten.length + (xs.getD k default).length ≤ xs.flatten.length := fun hh => by
        have e := congrArg List.length (flat_take hh)
        rw [List.length_append] at e
        have := flat_take_le xs (k + 1)
        show _ + (xs.getD k []).length ≤ _
        omega
      repeat' (first | refine red ?_ | refine reds ?_ | refine redv fun sv => ?_ | (refine redd fun p cs as_ hcs has hf => ?_; simp only [Un.cells, Un.atoms, Un.fact, List.cons_append, List.nil_append] at hcs has hf; subst hcs has) | (refine redi (fun hc => ?_) (fun hc => ?_) <;> try first | (exfalso; omega) | exact absurd rfl hc) | fail)
      · rw [show (xs.take k).flatten ++ xs.getD k default = (xs.take (k + 1)).flatten from (flat_take (by omega)).symm]
        exact wq_next (k + 1, sv) (by simp only; omega) (by simp only; omega) (by kernel_rfl) ent_e
      · rw [List.take_of_length_le (by omega)]
        exact ⟨_, rfl, ent_e⟩

instance Concat_ctr {Γ : List Atom} {v : Value} {xs : List (List Int)} [h : HasRd (List (List Int)) repList Γ [v] xs] :
    CtrC Try.prog 12 [v] Γ (xs.flatten.length ≤ 1099511627776) (Value) (fun sv : Value => sv) (fun sv => .ow [sv] xs.flatten :: Γ) := ⟨fun s w0 => Concat_spec s⟩

end Go.Proofs.Ytjblieilblcdnaa
namespace Go.Proofs.Ytjblieilblcdnaa
open Go Go.Eng
set_option linter.unusedVariables false
set_option linter.unusedSimpArgs false

def cnted (l : List Int) : List Int := [(l.length : Int)] ++ l
theorem cnted_len (l : List Int) : (cnted l).length = 1 + l.length := by simp [cnted]; omega
theorem counted_spec {w0 : World} {Γ : List Atom} {v : Value} {xs : List Int} [h : HasRd (List Int) repList Γ [v] xs] (hl : xs.length ≤ 4194304) : CJ Try.prog 13 [v] w0 Γ (fun sv : Value => sv) (fun sv => .ow [sv] (cnted xs) :: Γ) := by
  refine cj_lift (R := [.rd [v] xs]) (A := fun sv : Value => [.ow [sv] (cnted xs)]) (fun w1 => ?_) (reads_cons h (inferInstance)) (fun _ => inferInstance)
  simp only [List.cons_append, List.nil_append]
  refine cj_enter Try.func13 Try.ntmps13 ?_
  have hcc : [[(xs.length : Int)], xs].flatten.length = 1 + xs.length := by simp; omega
  have hce : [[(xs.length : Int)], xs].flatten = cnted xs := by simp [cnted]
  repeat' (first | refine red ?_ | refine redc fun r => ?_ | refine redv fun sv => ?_ | fail)
  rw [← hce]
  exact ⟨_, rfl, ent_e⟩
instance counted_ctr {Γ : List Atom} {v : Value} {xs : List Int} [h : HasRd (List Int) repList Γ [v] xs] :
    CtrC Try.prog 13 [v] Γ (xs.length ≤ 4194304) (Value) (fun sv : Value => sv) (fun sv => .ow [sv] (cnted xs) :: Γ) := ⟨fun s w0 => counted_spec s⟩

theorem l29List_spec {w0 : World} {Γ Δ : List Atom} {o v : Value} {out xs : List Int} [ho : PullOw (List Int) repList Γ [o] out Δ] [h : HasRd (List Int) repList Δ [v] xs] (hl : out.length ≤ 4194304 ∧ xs.length ≤ 4194304) : CJ Try.prog 14 [o, v] w0 Γ (fun sv : Value => sv) (fun sv => .ow [sv] (out ++ cnted xs) :: Δ) := by
  refine cj_perm ho.perm ?_
  refine cj_enter Try.func14 Try.ntmps14 ?_
  repeat' (first | refine red ?_ | refine redv fun sv => ?_ | fail)
  rw [List.append_assoc, show [(xs.length : Int)] ++ xs = cnted xs from rfl]
  exact ⟨_, rfl, ent_e⟩

instance l29List_ctr {Γ Δ : List Atom} {o v : Value} {out xs : List Int} [ho : PullOw (List Int) repList Γ [o] out Δ] [h : HasRd (List Int) repList Δ [v] xs] :
    CtrC Try.prog 14 [o, v] Γ (out.length ≤ 4194304 ∧ xs.length ≤ 4194304) (Value) (fun sv : Value => sv) (fun sv => .ow [sv] (out ++ cnted xs) :: Δ) := ⟨fun s w0 => l29List_spec s⟩

theorem mflat_take {α : Type} (f : α → List Int) [Inhabited α] {xs : List α} {k : Nat} (h : k < xs.length) : ((xs.take (k + 1)).map f).flatten = ((xs.take k).map f).flatten ++ f (xs.getD k default) := by
  rw [List.take_succ_eq_append_getElem h, List.map_append, List.flatten_append, List.getD_eq_getElem?_getD, List.getElem?_eq_getElem h]
  simp
theorem mflat_le {α : Type} (f : α → List Int) (xs : List α) (k : Nat) : ((xs.take k).map f).flatten.length ≤ (xs.map f).flatten.length := by
  conv => rhs; rw [← List.take_append_drop k xs, List.map_append, List.flatten_append, List.length_append]
  omega
theorem mflat_ge {α : Type} (f : α → List Int) (c : Nat) (hf : ∀ x, c ≤ (f x).length) (xs : List α) : c * xs.length ≤ (xs.map f).flatten.length := by
  induction xs with
  | nil => simp
  | cons x xs ih =>
    have := hf x
    simp only [List.map_cons, List.flatten_cons, List.length_append, List.length_cons, Nat.mul_add]
    omega
def encPoly (p : SPoly) : List Int := [p.1] ++ cnted p.2
def encPolys (xs : List SPoly) : List Int := (xs.map encPoly).flatten
def encStep (s : SPairStep) : List Int := cnted s.1 ++ (cnted s.2.1 ++ ([(s.2.2.1.length : Int)] ++ (encPolys s.2.2.1 ++ cnted s.2.2.2)))
def encAll (xs : List SPairStep) : List Int := (xs.map encStep).flatten
theorem encPoly_len (p : SPoly) : (encPoly p).length = 2 + p.2.length := by simp [encPoly, cnted_len]; omega
theorem encPolys_ge (xs : List SPoly) : 2 * xs.length ≤ (encPolys xs).length := mflat_ge encPoly 2 (fun x => by rw [encPoly_len]; omega) xs
theorem encStep_len (s : SPairStep) : (encStep s).length = 4 + s.1.length + s.2.1.length + (encPolys s.2.2.1).length + s.2.2.2.length := by
  simp only [encStep, List.length_append, cnted_len, List.length_cons, List.length_nil]; omega
theorem encStep_ge (s : SPairStep) : 4 + s.1.length + s.2.1.length + 2 * s.2.2.1.length + s.2.2.2.length ≤ (encStep s).length := by
  have := encPolys_ge s.2.2.1
  rw [encStep_len]; omega
theorem encAll_ge (xs : List SPairStep) : 4 * xs.length ≤ (encAll xs).length := mflat_ge encStep 4 (fun x => by have := encStep_ge x; omega) xs
theorem mflat_siz {α : Type} [Siz α] (f : α → List Int) (c : Nat) (hf : ∀ x, (f x).length ≤ c * (1 + Siz.size x)) (xs : List α) : (xs.map f).flatten.length ≤ c * Siz.size xs := by
  rw [siz_list]
  induction xs with
  | nil => simp
  | cons x xs ih =>
    have := hf x
    simp only [List.map_cons, List.flatten_cons, List.length_append, List.length_cons, sumL, Nat.mul_add, Nat.mul_one] at this ih ⊢
    omega
theorem encPolys_le (xs : List SPoly) : (encPolys xs).length ≤ 2 * Siz.size xs := mflat_siz encPoly 2 (fun x => by rw [encPoly_len, siz_pair, siz_int, siz_ints]; omega) xs
theorem step_le {xs : List SPairStep} {k : Nat} (h : k < xs.length) : (xs.getD k default).1.length + (xs.getD k default).2.1.length + (xs.getD k default).2.2.1.length + (xs.getD k default).2.2.2.length ≤ Siz.size xs ∧ Siz.size (xs.getD k default).2.2.1 ≤ Siz.size xs := by
  have h1 := siz_get (get_lt h)
  rw [siz_pair, siz_pair, siz_pair, siz_ints, siz_ints, siz_ints] at h1
  have h2 := siz_list (xs.getD k default).2.2.1
  rw [siz_list xs]
  omega
theorem poly_le {xs : List SPoly} {k : Nat} (h : k < xs.length) : (xs.getD k default).2.length ≤ Siz.size xs := by
  have h1 := siz_get (get_lt h)
  rw [siz_pair, siz_int, siz_ints] at h1
  rw [siz_list xs]
  omega
theorem encPolys_next {A : List Int} {xs : List SPoly} {j : Nat} (h : j < xs.length) : A ++ encPolys (xs.take j) ++ [(xs.getD j default).1] ++ cnted (xs.getD j default).2 = A ++ encPolys (xs.take (j + 1)) := by
  unfold encPolys
  rw [mflat_take encPoly h]
  simp [encPoly]
def pairsOf (xs : List SPairStep) : SNode := if (encAll xs).length ≤ 200 then (12, encAll xs, [], []) else (0, [], [], [])
theorem pairs_no {xs : List SPairStep} (h : 200 < (encAll xs).length) : pairsOf xs = (0, [], [], []) := if_neg (by omega)
theorem pairs_yes {xs : List SPairStep} (h : (encAll xs).length ≤ 200) : pairsOf xs = (12, encAll xs, [], []) := if_pos h
theorem spec_PairsNode_spec {w0 : World} {Γ : List Atom} {xs : List SPairStep} {v : Value} [h : HasRd (List SPairStep) repList Γ [v] xs] (hsz : Siz.size xs ≤ 1048576) :
    CJ Try.prog 7 [v] w0 Γ (fun p : Value × Value × Value => .agg #[.int .i64 (pairsOf xs).1, p.1, p.2.1, p.2.2]) (fun p => .ow [p.1] (pairsOf xs).2.1 :: .ow [p.2.1] (pairsOf xs).2.2.1 :: .ow [p.2.2] (pairsOf xs).2.2.2 :: Γ) := by
  refine cj_lift (R := [.rd [v] xs]) (A := fun p : Value × Value × Value => [.ow [p.1] (pairsOf xs).2.1, .ow [p.2.1] (pairsOf xs).2.2.1, .ow [p.2.2] (pairsOf xs).2.2.2]) (fun w1 => ?_) (reads_cons h (inferInstance)) (fun _ => inferInstance)
  simp only [List.cons_append, List.nil_append]
  refine cj_len v fun hlx => ?_
  have hge := encAll_ge xs
  refine cj_enter Try.func7 Try.ntmps7 ?_
  repeat' (first | refine red ?_ | refine redv fun sv => ?_ | refine redn fun b => ?_ | (refine redi (fun hc => ?_) (fun hc => ?_) <;> try first | (exfalso; omega) | exact absurd rfl hc) | fail)
  · rw [pairs_no (by omega)]
    exact ⟨(_, _, _), rfl, ent_e⟩
  rename Value => tv
  refine wc_loop_p [3, 4] [12, 13, 14, 15, 18, 19, 20, 21, 5, 22, 23, 24, 25, 26, 27, 28, 29, 30, 31, 32, 33, 34, 35, 36, 37, 38, 39, 40, 41, 42, 43, 44, 45, 46, 47, 48, 49, 50, 51, 52, 53, 54, 55, 56, 6, 57, 58, 59, 60, 61, 62, 63, 64, 65, 66, 69, 70, 71, 72, 73, 74, 75, 76, 77, 78, 79, 80, 81, 82, 83, 84, 85, 67, 68, 86, 87, 88, 89, 16, 17] (ι := Nat × Value × List Int) (fun k => [k.2.1, .int .i64 k.1]) (fun k => [.ow [k.2.1] k.2.2]) (fun k => k.1 ≤ xs.length ∧ k.2.2.length ≤ 2097152 ∧ (k.2.2 = encAll (xs.take k.1) ∨ (200 < k.2.2.length ∧ 200 < (encAll xs).length))) (fun k => xs.length - k.1) (0, tv, []) [.ow [tv] ([] : List Int)] (by kernel_rfl) ⟨Nat.zero_le _, by simp, .inl rfl⟩ rfl ?_
  intro ⟨k, s, n⟩ u l' hl' ⟨hk, hkn, hkk⟩
  simp only [patch, List.map_cons, List.map_nil, List.set_cons_zero, List.set_cons_succ] at hl'
  subst hl'
  simp only [List.cons_append, List.nil_append] at hk hkk hkn ⊢
  have hE := fun hh : k < xs.length => step_le hh
  have hc1 := cnted_len (xs.getD k default).1
  have hc2 := cnted_len (xs.getD k default).2.1
  repeat' (first | refine red ?_ | refine reds ?_ | refine redc fun r => ?_ | refine redv fun sv => ?_ | refine redn fun b => ?_ | (refine redd fun p cs as_ hcs has hf => ?_; simp only [Un.cells, Un.atoms, Un.fact, List.cons_append, List.nil_append] at hcs has hf; subst hcs has) | (refine redi (fun hc => ?_) (fun hc => ?_) <;> try first | (exfalso; omega) | exact absurd rfl hc) | fail)
  · rcases hkk with e | e
    · have e1 := congrArg List.length (mflat_take encStep (xs := xs) (k := k) (by omega))
      have e2 := mflat_le encStep xs (k + 1)
      have e3 := encStep_ge (xs.getD k default)
      rw [List.length_append] at e1
      have e4 : n.length = (((xs.take k).map encStep).flatten).length := by rw [e]; rfl
      rw [pairs_no (by show 200 < ((xs.map encStep).flatten).length; omega)]
      exact ⟨(_, _, _), rfl, ent_e⟩
    · rw [pairs_no e.2]
      exact ⟨(_, _, _), rfl, ent_e⟩
  · have e : n = encAll (xs.take k) := by
      rcases hkk with e | e
      · exact e
      · omega
    generalize hA : n ++ cnted (xs.getD k default).1 ++ cnted (xs.getD k default).2.1 ++ [((xs.getD k default).2.2.1.length : Int)] = A
    have hAl : A.length ≤ 300 := by
      rw [← hA]
      simp only [List.length_append, List.length_cons, List.length_nil]
      omega
    refine wc_loop_p [3, 6] [57, 58, 59, 60, 61, 62, 63, 64, 65, 66, 69, 70, 71, 72, 73, 74, 75, 76, 77, 78, 79, 80, 81, 82, 83, 84, 85, 67, 68] (ι := Nat × Value) (fun j => [j.2, .int .i64 j.1]) (fun j => [.ow [j.2] (A ++ encPolys ((xs.getD k default).2.2.1.take j.1))]) (fun j => j.1 ≤ (xs.getD k default).2.2.1.length ∧ (A ++ encPolys ((xs.getD k default).2.2.1.take j.1)).length ≤ 1049000) (fun j => (xs.getD k default).2.2.1.length - j.1) (0, sv) [.ow [sv] A] (by kernel_rfl) ⟨Nat.zero_le _, by simp [encPolys]; omega⟩ (by simp [encPolys]) ?_
    intro ⟨j, t⟩ u l' hl' ⟨hj, hjn⟩
    simp only [patch, List.map_cons, List.map_nil, List.set_cons_zero, List.set_cons_succ] at hl'
    subst hl'
    simp only [List.cons_append, List.nil_append] at hj hjn ⊢
    have hP := fun hh : j < (xs.getD k default).2.2.1.length => poly_le hh
    have hjl : (A ++ encPolys ((xs.getD k default).2.2.1.take j)).length = A.length + (encPolys ((xs.getD k default).2.2.1.take j)).length := List.length_append
    repeat' (first | refine red ?_ | refine reds ?_ | refine redc fun r => ?_ | refine redv fun sv => ?_ | (refine redd fun p cs as_ hcs has hf => ?_; simp only [Un.cells, Un.atoms, Un.fact, List.cons_append, List.nil_append] at hcs has hf; subst hcs has) | (refine redi (fun hc => ?_) (fun hc => ?_) <;> try first | (exfalso; omega) | exact absurd rfl hc) | fail)
    · rw [encPolys_next (by omega)]
      have e5 := congrArg List.length (encPolys_next (A := A) (xs := (xs.getD k default).2.2.1) (j := j) (by omega))
      have e6 := cnted_len ((xs.getD k default).2.2.1.getD j default).2
      rw [List.length_append, List.length_append, hjl, e6] at e5
      simp only [List.length_cons, List.length_nil] at e5
      exact wq_next (j + 1, r) ⟨by simp only; omega, by simp only; omega⟩ (by simp only; omega) (by kernel_rfl) ent_e
    · refine wq_next (k + 1, r, A ++ encPolys ((xs.getD k default).2.2.1.take j) ++ cnted (xs.getD k default).2.2.2) ⟨by simp only; omega, ?_, .inr ⟨?_, ?_⟩⟩ (by simp only; omega) (by kernel_rfl) ent_e
      · simp only
        rw [List.length_append, cnted_len]
        omega
      · simp only
        rw [List.length_append]
        omega
      · have e1 := congrArg List.length (mflat_take encStep (xs := xs) (k := k) (by omega))
        have e2 := mflat_le encStep xs (k + 1)
        have e3 := encStep_len (xs.getD k default)
        have e7 : (encPolys ((xs.getD k default).2.2.1.take j)).length ≤ (encPolys (xs.getD k default).2.2.1).length := mflat_le encPoly (xs.getD k default).2.2.1 j
        rw [List.length_append] at e1
        have e4 : n.length = (((xs.take k).map encStep).flatten).length := by rw [e]; rfl
        have e8 : A.length = n.length + (1 + (xs.getD k default).1.length) + (1 + (xs.getD k default).2.1.length) + 1 := by
          rw [← hA]; simp only [List.length_append, hc1, hc2, List.length_cons, List.length_nil]
        show 200 < ((xs.map encStep).flatten).length
        omega
    · rw [List.take_of_length_le (l := (xs.getD k default).2.2.1) (by omega)] at hjn hjl ⊢
      have hx : A ++ encPolys (xs.getD k default).2.2.1 ++ cnted (xs.getD k default).2.2.2 = encAll (xs.take (k + 1)) := by
        rw [← hA, e]
        unfold encAll
        rw [mflat_take encStep (by omega)]
        simp [encStep]
      rw [hx]
      have e6 := congrArg List.length hx
      rw [List.length_append, cnted_len] at e6
      exact wq_next (k + 1, r, encAll (xs.take (k + 1))) ⟨by simp only; omega, by simp only; omega, .inl rfl⟩ (by simp only; omega) (by kernel_rfl) ent_e
  · rcases hkk with e | e
    · rw [List.take_of_length_le (by omega)] at e
      rw [pairs_no (by rw [← e]; omega)]
      exact ⟨(_, _, _), rfl, ent_e⟩
    · rw [pairs_no e.2]
      exact ⟨(_, _, _), rfl, ent_e⟩
  · rcases hkk with e | e
    · rw [List.take_of_length_le (by omega)] at e
      subst e
      rw [pairs_yes (by omega)]
      exact ⟨(_, _, _), rfl, ent_e⟩
    · omega

theorem flat4 (a b c d : List Int) : [a, b, c, d].flatten.length = a.length + b.length + c.length + d.length := by simp; omega
theorem flat3 (a b c : List Int) : [a, b, c].flatten.length = a.length + b.length + c.length := by simp; omega
theorem flat2 (a b : List Int) : [a, b].flatten.length = a.length + b.length := by simp
theorem impl_PairsNode_spec {w0 : World} {Γ : List Atom} {xs : List SPairStep} {v : Value} [h : HasRd (List SPairStep) repList Γ [v] xs] (hsz : Siz.size xs ≤ 1048576) :
    CJ Try.prog 6 [v] w0 Γ (fun p : Value × Value × Value => .agg #[.int .i64 (pairsOf xs).1, p.1, p.2.1, p.2.2]) (fun p => .ow [p.1] (pairsOf xs).2.1 :: .ow [p.2.1] (pairsOf xs).2.2.1 :: .ow [p.2.2] (pairsOf xs).2.2.2 :: Γ) := by
  refine cj_lift (R := [.rd [v] xs]) (A := fun p : Value × Value × Value => [.ow [p.1] (pairsOf xs).2.1, .ow [p.2.1] (pairsOf xs).2.2.1, .ow [p.2.2] (pairsOf xs).2.2.2]) (fun w1 => ?_) (reads_cons h (inferInstance)) (fun _ => inferInstance)
  simp only [List.cons_append, List.nil_append]
  refine cj_len v fun hlx => ?_
  have hge := encAll_ge xs
  refine cj_enter Try.func6 Try.ntmps6 ?_
  repeat' (first | refine red ?_ | refine redn fun b => ?_ | (refine redi (fun hc => ?_) (fun hc => ?_) <;> try first | (exfalso; omega) | exact absurd rfl hc) | fail)
  · rw [pairs_no (by omega)]
    exact ⟨(_, _, _), rfl, ent_e⟩
  refine wc_loop_p [3, 14] [15, 16, 17, 5, 18, 19, 20, 21, 22, 23, 24, 25, 26, 27, 28, 29, 30, 31, 32, 33, 34, 35, 36, 37, 7, 38, 39, 40, 41, 42, 43, 44, 45, 46, 47, 48, 49, 50, 51, 52, 53, 54, 55, 56, 57, 58] (ι := Nat × Value) (fun k => [k.2, .int .i64 k.1]) (fun k => [.ow [k.2] (encAll (xs.take k.1))]) (fun k => k.1 ≤ xs.length ∧ (encAll (xs.take k.1)).length ≤ 200) (fun k => xs.length - k.1) (0, .slice none 0 0) [.ow [.slice none 0 0] ([] : List Int)] (by kernel_rfl) ⟨Nat.zero_le _, by simp [encAll]⟩ rfl ?_
  intro ⟨k, s⟩ u l' hl' ⟨hk, hkn⟩
  simp only [patch, List.map_cons, List.map_nil, List.set_cons_zero, List.set_cons_succ] at hl'
  subst hl'
  simp only [List.cons_append, List.nil_append] at hk hkn ⊢
  have hE := fun hh : k < xs.length => step_le hh
  have hc1 := cnted_len (xs.getD k default).1
  have hc2 := cnted_len (xs.getD k default).2.1
  have hf4 := flat4 (encAll (xs.take k)) (cnted (xs.getD k default).1) (cnted (xs.getD k default).2.1) [((xs.getD k default).2.2.1.length : Int)]
  simp only [List.length_cons, List.length_nil] at hf4
  repeat' (first | refine red ?_ | refine redn fun b => ?_ | (refine redd fun p cs as_ hcs has hf => ?_; simp only [Un.cells, Un.atoms, Un.fact, List.cons_append, List.nil_append] at hcs has hf; subst hcs has) | (refine redi (fun hc => ?_) (fun hc => ?_) <;> try first | (exfalso; omega) | exact absurd rfl hc) | ((refine wa_begin1 7 [false, false, false, false, false, false, false, false, false, false, false, false, false, false] [] ?_ <;> refine wa_p 0 ?_ <;> (first | refine wa_p 1 ?_ | fail) <;> (first | refine wa_p 2 ?_ | fail) <;> (first | refine wa_p 4 ?_ | fail) <;> (first | refine wa_p 5 ?_ | fail) <;> (first | refine wa_p 7 ?_ | fail) <;> (first | refine wa_p 8 ?_ | fail) <;> (first | refine wa_p 9 ?_ | fail) <;> (refine wa_two 3 10 ?_ ?_; rotate_right; (focus ((repeat' (first | refine red ?_ | refine redv fun sv => ?_ | fail)) <;> (refine wa_do 3 ?_ <;> (repeat' (first | refine red ?_ | refine redc fun r => ?_ | fail))) <;> (refine wa_do 6 ?_ <;> (repeat' (first | refine red ?_ | refine redc fun r => ?_ | fail))) <;> (refine wa_do 11 ?_ <;> (repeat' (first | refine red ?_ | refine redv fun sv => ?_ | fail))) <;> (refine wa_do 12 ?_ <;> (repeat' (first | refine red ?_ | refine redc fun r => ?_ | fail))) <;> refine wa_p 13 ?_)); rotate_right; (focus ((repeat' (first | refine red ?_ | refine redc fun r => ?_ | fail)) <;> (refine wa_two 6 10 ?_ ?_; rotate_right; (focus ((repeat' (first | refine red ?_ | refine redv fun sv => ?_ | fail)) <;> (refine wa_do 6 ?_ <;> (repeat' (first | refine red ?_ | refine redc fun r => ?_ | fail))) <;> (refine wa_do 11 ?_ <;> (repeat' (first | refine red ?_ | refine redv fun sv => ?_ | fail))) <;> (refine wa_do 12 ?_ <;> (repeat' (first | refine red ?_ | refine redc fun r => ?_ | fail))) <;> refine wa_p 13 ?_)); rotate_right; (focus ((repeat' (first | refine red ?_ | refine redc fun r => ?_ | fail)) <;> (refine wa_do 10 ?_ <;> (repeat' (first | refine red ?_ | refine redv fun sv => ?_ | fail))) <;> (refine wa_do 11 ?_ <;> (repeat' (first | refine red ?_ | refine redv fun sv => ?_ | fail))) <;> (refine wa_do 12 ?_ <;> (repeat' (first | refine red ?_ | refine redc fun r => ?_ | fail))) <;> refine wa_p 13 ?_))))))) <;> (refine wa_end ?_)) | fail)
  rotate_left 3
  · rw [List.take_of_length_le (by omega)] at hkn ⊢
    rw [pairs_yes hkn]
    exact ⟨(_, _, _), rfl, ent_e⟩
  all_goals
    generalize hA : [encAll (xs.take k), cnted (xs.getD k default).1, cnted (xs.getD k default).2.1, [((xs.getD k default).2.2.1.length : Int)]].flatten = A at hf4 ⊢
    have hA2 : A = encAll (xs.take k) ++ (cnted (xs.getD k default).1 ++ (cnted (xs.getD k default).2.1 ++ [((xs.getD k default).2.2.1.length : Int)])) := by rw [← hA]; simp
    refine wc_loop_p [3, 34] [35, 36, 37, 7, 38, 39, 40, 41, 42, 43, 44, 45, 46, 47] (ι := Nat × Value) (fun j => [j.2, .int .i64 j.1]) (fun j => [.ow [j.2] (A ++ encPolys ((xs.getD k default).2.2.1.take j.1))]) (fun j => j.1 ≤ (xs.getD k default).2.2.1.length) (fun j => (xs.getD k default).2.2.1.length - j.1) (0, r) [.ow [r] A] (by kernel_rfl) (Nat.zero_le _) (by simp [encPolys]) ?_
    intro ⟨j, t⟩ u l' hl' hj
    simp only [patch, List.map_cons, List.map_nil, List.set_cons_zero, List.set_cons_succ] at hl'
    subst hl'
    simp only [List.cons_append, List.nil_append] at hj ⊢
    have hP := fun hh : j < (xs.getD k default).2.2.1.length => poly_le hh
    have hjl : (A ++ encPolys ((xs.getD k default).2.2.1.take j)).length = A.length + (encPolys ((xs.getD k default).2.2.1.take j)).length := List.length_append
    have e1 : (encPolys ((xs.getD k default).2.2.1.take j)).length ≤ (encPolys (xs.getD k default).2.2.1).length := mflat_le encPoly (xs.getD k default).2.2.1 j
    have e2 := encPolys_le (xs.getD k default).2.2.1
    have hf3 := flat3 (A ++ encPolys ((xs.getD k default).2.2.1.take j)) [((xs.getD k default).2.2.1.getD j default).1] (cnted ((xs.getD k default).2.2.1.getD j default).2)
    have hf2 := flat2 (A ++ encPolys ((xs.getD k default).2.2.1.take j)) (cnted (xs.getD k default).2.2.2)
    have hc3 := cnted_len ((xs.getD k default).2.2.1.getD j default).2
    have hc4 := cnted_len (xs.getD k default).2.2.2
    simp only [List.length_cons, List.length_nil] at hf3
    repeat' (first | refine red ?_ | refine reds ?_ | refine redc fun r => ?_ | refine redv fun sv => ?_ | refine redn fun b => ?_ | (refine redd fun p cs as_ hcs has hf => ?_; simp only [Un.cells, Un.atoms, Un.fact, List.cons_append, List.nil_append] at hcs has hf; subst hcs has) | (refine redi (fun hc => ?_) (fun hc => ?_) <;> try first | (exfalso; omega) | exact absurd rfl hc) | ((refine wa_begin1 11 [false, false, false, false, false, false, false, false, false, false] [] ?_ <;> refine wa_p 0 ?_ <;> (first | refine wa_p 1 ?_ | fail) <;> (first | refine wa_p 2 ?_ | fail) <;> (first | refine wa_p 4 ?_ | fail) <;> (first | refine wa_p 5 ?_ | fail) <;> (refine wa_two 3 6 ?_ ?_; rotate_right; (focus ((repeat' (first | refine red ?_ | refine redc fun r => ?_ | fail)) <;> (refine wa_do 3 ?_ <;> (repeat' (first | refine red ?_ | refine redv fun sv => ?_ | fail))) <;> (refine wa_do 7 ?_ <;> (repeat' (first | refine red ?_ | refine redv fun sv => ?_ | fail))) <;> (refine wa_do 8 ?_ <;> (repeat' (first | refine red ?_ | refine redc fun r => ?_ | fail))) <;> refine wa_p 9 ?_)); rotate_right; (focus ((repeat' (first | refine red ?_ | refine redv fun sv => ?_ | fail)) <;> (refine wa_do 6 ?_ <;> (repeat' (first | refine red ?_ | refine redc fun r => ?_ | fail))) <;> (refine wa_do 7 ?_ <;> (repeat' (first | refine red ?_ | refine redv fun sv => ?_ | fail))) <;> (refine wa_do 8 ?_ <;> (repeat' (first | refine red ?_ | refine redc fun r => ?_ | fail))) <;> refine wa_p 9 ?_)))) <;> (refine wa_end ?_)) | fail)
    · rw [show [A ++ encPolys ((xs.getD k default).2.2.1.take j), [((xs.getD k default).2.2.1.getD j default).1], cnted ((xs.getD k default).2.2.1.getD j default).2].flatten = A ++ encPolys ((xs.getD k default).2.2.1.take (j + 1)) from by rw [← encPolys_next (by omega)]; simp]
      exact wq_next (j + 1, r) (by simp only; omega) (by simp only; omega) (by kernel_rfl) ent_e
    · rw [show [A ++ encPolys ((xs.getD k default).2.2.1.take j), [((xs.getD k default).2.2.1.getD j default).1], cnted ((xs.getD k default).2.2.1.getD j default).2].flatten = A ++ encPolys ((xs.getD k default).2.2.1.take (j + 1)) from by rw [← encPolys_next (by omega)]; simp]
      exact wq_next (j + 1, r) (by simp only; omega) (by simp only; omega) (by kernel_rfl) ent_e
    · skip
      have hx : [A ++ encPolys ((xs.getD k default).2.2.1.take j), cnted (xs.getD k default).2.2.2].flatten = encAll (xs.take (k + 1)) := by
        rw [List.take_of_length_le (l := (xs.getD k default).2.2.1) (i := j) (by omega), hA2]
        unfold encAll
        rw [mflat_take encStep (by omega)]
        simp [encStep]
      have e3 := congrArg List.length hx
      have e4 := mflat_le encStep xs (k + 1)
      unfold encAll at e3
      rw [pairs_no (by show 200 < ((xs.map encStep).flatten).length; omega)]
      exact ⟨(_, _, _), rfl, ent_e⟩
    · skip
      have hx : [A ++ encPolys ((xs.getD k default).2.2.1.take j), cnted (xs.getD k default).2.2.2].flatten = encAll (xs.take (k + 1)) := by
        rw [List.take_of_length_le (l := (xs.getD k default).2.2.1) (i := j) (by omega), hA2]
        unfold encAll
        rw [mflat_take encStep (by omega)]
        simp [encStep]
      have e3 := congrArg List.length hx
      rw [hx]
      exact wq_next (k + 1, r) ⟨by simp only; omega, by simp only; omega⟩ (by simp only; omega) (by kernel_rfl) ent_e
end Go.Proofs.Ytjblieilblcdnaa
