/- The laws' own helpers for the types: size, copy, comparison, marks. Printed by a program. -/
import Derived.Test.YtbbdjjlnachnlaaGreatDoorBase
namespace Go.Proofs.YtbbdjjlnachnlaaGreatDoor
open Go Go.Eng
set_option linter.unusedVariables false
set_option linter.unusedSimpArgs false

abbrev SSig := List Int
abbrev SSubst := List (List Int)
abbrev SRule := List Int × List Int
abbrev SSystem := SSig × List SRule
abbrev SStep := Int × Int × List Int
abbrev SWalk := List Int × List SStep
abbrev SPeak := List Int × List Int × List Int × Int × Int × Int
abbrev SWeights := Int × List Int × List Int
abbrev SPoly := Int × List Int
abbrev SDepPair := List Int × List Int × Int × Int
abbrev SPairStep := List Int × List Int × List SPoly × List Int
abbrev SLoop := SWalk × Int × SSubst
abbrev SEq := List Int × List Int
abbrev SMove := Int × Int × Bool × List Int
abbrev SChain := List Int × List SMove
abbrev SWork := SSig × List Int × List SEq × List SRule
abbrev STrans := Int × List Int × Int
abbrev SAuto := Int × List STrans × List Int
abbrev SLine := Int × List (List Int) × List Int
abbrev SFront := SSig × List Int × List SLine
abbrev SCRule := List Int × List Int × List SEq
abbrev SCSystem := SSig × List SCRule
abbrev SNode := Int × List Int × List (List Int) × List Int
abbrev SProof := List SNode
abbrev SClaim := Int × List Int × List Int
theorem szSig_spec {w0 : World} {Γ : List Atom} {x : SSig} {v0 : Value} [h0 : HasRd (List Int) repList Γ [v0] x] {left : Int} (hl : 0 ≤ left ∧ left ≤ 1048576) :
    CJ Tryz.prog 53 [.agg #[v0], .int .i64 left] w0 Γ (fun _ : Unit => .int .i64 (lft left (Siz.size x))) (fun _ => Γ) := by
  have e : Siz.size x = Siz.size x := by rfl
  have hh := lft_spec left (Siz.size x)
  have hs0 := lft_spec left (Siz.size x)
  refine cj_enter Tryz.func53 Tryz.ntmps53 ?_
  repeat' (first | refine red ?_ | refine redc fun r => ?_ | refine redn fun b => ?_ | (refine redi (fun hc => ?_) (fun hc => ?_) <;> try first | (exfalso; omega) | exact absurd rfl hc) | fail)
  all_goals exact ⟨(), ret_int (by omega), ent_e⟩
instance szSig_ctr {Γ : List Atom} {x : SSig} {v0 : Value} [h0 : HasRd (List Int) repList Γ [v0] x] {left : Int} :
    CtrC Tryz.prog 53 [.agg #[v0], .int .i64 left] Γ (0 ≤ left ∧ left ≤ 1048576) (Unit) (fun _ : Unit => .int .i64 (lft left (Siz.size x))) (fun _ => Γ) := ⟨fun s w0 => szSig_spec s⟩

theorem toSig_spec {w0 : World} {Γ : List Atom} {x : SSig} {v0 : Value} [h0 : HasRd (List Int) repList Γ [v0] x] (hl : Siz.size x ≤ 1048576) :
    CJ Tryz.prog 55 [.agg #[v0]] w0 Γ (fun p : Value => .agg #[p]) (fun p => .ow [p] x :: Γ) := by
  have e : Siz.size x = Siz.size x := by rfl
  refine cj_enter Tryz.func55 Tryz.ntmps55 ?_
  repeat' (first | refine red ?_ | refine redc fun r => ?_ | refine redn fun b => ?_ | fail)
  exact ⟨_, rfl, ent_e⟩
instance toSig_ctr {Γ : List Atom} {x : SSig} {v0 : Value} [h0 : HasRd (List Int) repList Γ [v0] x] :
    CtrC Tryz.prog 55 [.agg #[v0]] Γ (Siz.size x ≤ 1048576) (Value) (fun p : Value => .agg #[p]) (fun p => .ow [p] x :: Γ) := ⟨fun s w0 => toSig_spec s⟩

theorem eqSig_spec {w0 : World} {Γ : List Atom} {x y : SSig} {v0 : Value} {u0 : Value} [h0 : HasRd (List Int) repList Γ [v0] x] [g0 : HasRd (List Int) repList Γ [u0] y] :
    CJ Tryz.prog 57 [.agg #[v0], .agg #[u0]] w0 Γ (fun _ : Unit => .bool (decide (x = y))) (fun _ => Γ) := by
  refine cj_enter Tryz.func57 Tryz.ntmps57 ?_
  repeat' (first | refine red ?_ | refine redc fun r => ?_ | refine redn fun b => ?_ | (refine redi (fun hc => ?_) (fun hc => ?_) <;> try first | (exfalso; omega) | exact absurd rfl hc) | fail)
  all_goals exact ⟨(), ret_bool (by simp_all), ent_e⟩
instance eqSig_ctr {Γ : List Atom} {x y : SSig} {v0 : Value} {u0 : Value} [h0 : HasRd (List Int) repList Γ [v0] x] [g0 : HasRd (List Int) repList Γ [u0] y] :
    CtrC Tryz.prog 57 [.agg #[v0], .agg #[u0]] Γ (True) (Unit) (fun _ : Unit => .bool (decide (x = y))) (fun _ => Γ) := ⟨fun s w0 => eqSig_spec⟩

theorem markSig_spec {w0 : World} {Γ Δ0 : List Atom} {x : SSig} {v0 : Value} {m : Int} [h0 : PullOw (List Int) repList Γ [v0] x Δ0] (hm : 0 ≤ m ∧ m + cntL x ≤ 4611686018427387904) :
    CJ Tryz.prog 61 [.agg #[v0], .int .i64 m] w0 Γ (fun _ : Unit => .int .i64 (m + cntL x)) (fun _ => .ow [v0] (mkL x (m)) :: Δ0) := by
  refine cj_perm (Γ' := .ow [v0] x :: Δ0) (h0.perm) ?_
  refine cj_enter Tryz.func61 Tryz.ntmps61 ?_
  repeat' (first | refine red ?_ | refine redc fun r => ?_ | refine redn fun b => ?_ | fail)
  all_goals exact ⟨(), rfl, ent_e⟩
instance markSig_ctr {Γ Δ0 : List Atom} {x : SSig} {v0 : Value} {m : Int} [h0 : PullOw (List Int) repList Γ [v0] x Δ0] :
    CtrC Tryz.prog 61 [.agg #[v0], .int .i64 m] Γ (0 ≤ m ∧ m + cntL x ≤ 4611686018427387904) (Unit) (fun _ : Unit => .int .i64 (m + cntL x)) (fun _ => .ow [v0] (mkL x (m)) :: Δ0) := ⟨fun s w0 => markSig_spec s⟩

theorem szRule_spec {w0 : World} {Γ : List Atom} {x : SRule} {v0 v1 : Value} [h0 : HasRd (List Int) repList Γ [v0] x.1] [h1 : HasRd (List Int) repList Γ [v1] x.2] {left : Int} (hl : 0 ≤ left ∧ left ≤ 1048576) :
    CJ Tryz.prog 112 [.agg #[v0, v1], .int .i64 left] w0 Γ (fun _ : Unit => .int .i64 (lft left (Siz.size x))) (fun _ => Γ) := by
  have e : Siz.size x = Siz.size x.1 + Siz.size x.2 := by simp only [siz_pair, siz_int, siz_bool, siz_str] <;> omega
  have hh := lft_spec left (Siz.size x)
  have hs0 := lft_spec left (Siz.size x.1)
  have hs1 := lft_spec (lft left (Siz.size x.1)) (Siz.size x.2)
  refine cj_enter Tryz.func112 Tryz.ntmps112 ?_
  repeat' (first | refine red ?_ | refine redc fun r => ?_ | refine redn fun b => ?_ | (refine redi (fun hc => ?_) (fun hc => ?_) <;> try first | (exfalso; omega) | exact absurd rfl hc) | fail)
  all_goals exact ⟨(), ret_int (by omega), ent_e⟩
instance szRule_ctr {Γ : List Atom} {x : SRule} {v0 v1 : Value} [h0 : HasRd (List Int) repList Γ [v0] x.1] [h1 : HasRd (List Int) repList Γ [v1] x.2] {left : Int} :
    CtrC Tryz.prog 112 [.agg #[v0, v1], .int .i64 left] Γ (0 ≤ left ∧ left ≤ 1048576) (Unit) (fun _ : Unit => .int .i64 (lft left (Siz.size x))) (fun _ => Γ) := ⟨fun s w0 => szRule_spec s⟩

theorem toRule_spec {w0 : World} {Γ : List Atom} {x : SRule} {v0 v1 : Value} [h0 : HasRd (List Int) repList Γ [v0] x.1] [h1 : HasRd (List Int) repList Γ [v1] x.2] (hl : Siz.size x ≤ 1048576) :
    CJ Tryz.prog 113 [.agg #[v0, v1]] w0 Γ (fun p : Value × Value => .agg #[p.1, p.2]) (fun p => .ow [p.1] x.1 :: .ow [p.2] x.2 :: Γ) := by
  have e : Siz.size x = Siz.size x.1 + Siz.size x.2 := by simp only [siz_pair, siz_int, siz_bool, siz_str] <;> omega
  refine cj_enter Tryz.func113 Tryz.ntmps113 ?_
  repeat' (first | refine red ?_ | refine redc fun r => ?_ | refine redn fun b => ?_ | fail)
  exact ⟨(_, _), rfl, ent_e⟩
instance toRule_ctr {Γ : List Atom} {x : SRule} {v0 v1 : Value} [h0 : HasRd (List Int) repList Γ [v0] x.1] [h1 : HasRd (List Int) repList Γ [v1] x.2] :
    CtrC Tryz.prog 113 [.agg #[v0, v1]] Γ (Siz.size x ≤ 1048576) (Value × Value) (fun p : Value × Value => .agg #[p.1, p.2]) (fun p => .ow [p.1] x.1 :: .ow [p.2] x.2 :: Γ) := ⟨fun s w0 => toRule_spec s⟩

theorem eqRule_spec {w0 : World} {Γ : List Atom} {x y : SRule} {v0 v1 : Value} {u0 u1 : Value} [h0 : HasRd (List Int) repList Γ [v0] x.1] [h1 : HasRd (List Int) repList Γ [v1] x.2] [g0 : HasRd (List Int) repList Γ [u0] y.1] [g1 : HasRd (List Int) repList Γ [u1] y.2] :
    CJ Tryz.prog 114 [.agg #[v0, v1], .agg #[u0, u1]] w0 Γ (fun _ : Unit => .bool (decide (x = y))) (fun _ => Γ) := by
  obtain ⟨x0, x1⟩ := x
  obtain ⟨y0, y1⟩ := y
  simp only at h0 h1 g0 g1
  refine cj_enter Tryz.func114 Tryz.ntmps114 ?_
  repeat' (first | refine red ?_ | refine redc fun r => ?_ | refine redn fun b => ?_ | (refine redi (fun hc => ?_) (fun hc => ?_) <;> try first | (exfalso; omega) | exact absurd rfl hc) | fail)
  all_goals exact ⟨(), ret_bool (by simp_all), ent_e⟩
instance eqRule_ctr {Γ : List Atom} {x y : SRule} {v0 v1 : Value} {u0 u1 : Value} [h0 : HasRd (List Int) repList Γ [v0] x.1] [h1 : HasRd (List Int) repList Γ [v1] x.2] [g0 : HasRd (List Int) repList Γ [u0] y.1] [g1 : HasRd (List Int) repList Γ [u1] y.2] :
    CtrC Tryz.prog 114 [.agg #[v0, v1], .agg #[u0, u1]] Γ (True) (Unit) (fun _ : Unit => .bool (decide (x = y))) (fun _ => Γ) := ⟨fun s w0 => eqRule_spec⟩

theorem szRuleS_spec {w0 : World} {Γ : List Atom} {av : Value} {xs : List SRule} [h : HasRd (List SRule) repList Γ [av] xs] {left : Int} (hl : 0 ≤ left ∧ left ≤ 1048576) :
    CJ Tryz.prog 54 [av, .int .i64 left] w0 Γ (fun _ : Unit => .int .i64 (lft left (Siz.size xs))) (fun _ => Γ) := by
  refine cj_lift (R := [.rd [av] xs]) (A := fun _ => []) (fun w1 => ?_) (reads_cons h inferInstance) (fun _ => inferInstance)
  simp only [List.nil_append]
  refine cj_len av fun hlx => ?_
  have e := siz_list xs
  have h2 := lft_spec left (Siz.size xs)
  refine cj_enter Tryz.func54 Tryz.ntmps54 ?_
  repeat' (first | refine red ?_ | refine reds ?_ | (refine redi (fun hc => ?_) (fun hc => ?_) <;> try first | (exfalso; omega) | exact absurd rfl hc) | fail)
  · exact ⟨(), ret_int (by omega), ent_e⟩
  refine wc_loop [1, 5] [12, 13, 14, 15, 18, 19, 20, 21, 22, 23, 24, 25, 4, 16, 17] (ι := Nat × Int) (fun k => [.int .i64 k.2, .int .i64 k.1]) (fun _ => [.rd [av] xs]) (fun k => k.1 ≤ xs.length ∧ k.2 = left - xs.length - sumL (xs.take k.1) ∧ 0 ≤ k.2) (fun k => xs.length - k.1) (0, left - xs.length) (by kernel_rfl) ⟨Nat.zero_le _, by simp [sumL], by omega⟩ ent_e ?_
  intro ⟨k, r0⟩ u l' hl' ⟨hk, hkk, hr0⟩
  simp only [patch, List.map_cons, List.map_nil, List.set_cons_zero, List.set_cons_succ] at hl'
  subst hl'
  simp only at hk hkk hr0
  have h3 := lft_spec r0 (Siz.size (xs.getD k default))
  have h4 : k < xs.length → sumL (xs.take (k + 1)) = sumL (xs.take k) + Siz.size (xs.getD k default) := fun h => sumL_take_succ (get_lt h)
  have h5 := sumL_take_le xs (k + 1)
  have h6 : xs.length ≤ k → xs.take k = xs := List.take_of_length_le
  repeat' (first | refine red ?_ | refine reds ?_ | refine redc fun r => ?_ | (refine redd fun p cs as_ hcs has hf => ?_; simp only [Un.cells, Un.atoms, Un.fact, List.cons_append, List.nil_append] at hcs has hf; subst hcs has) | (refine redi (fun hc => ?_) (fun hc => ?_) <;> try first | (exfalso; omega) | exact absurd rfl hc) | fail)
  · exact ⟨(), ret_int (by omega), ent_e⟩
  · exact wq_next (k + 1, lft r0 (Siz.size (xs.getD k default))) ⟨by simp only; omega, by simp only; omega, by simp only; omega⟩ (by simp only; omega) (by kernel_rfl) ent_e
  · exact ⟨(), ret_int (by rw [h6 (by omega)] at hkk; omega), ent_e⟩
instance szRuleS_ctr {Γ : List Atom} {av : Value} {xs : List SRule} [h : HasRd (List SRule) repList Γ [av] xs] {left : Int} :
    CtrC Tryz.prog 54 [av, .int .i64 left] Γ (0 ≤ left ∧ left ≤ 1048576) (Unit) (fun _ : Unit => .int .i64 (lft left (Siz.size xs))) (fun _ => Γ) := ⟨fun s w0 => szRuleS_spec s⟩

theorem toRuleS_spec {w0 : World} {Γ : List Atom} {av : Value} {xs : List SRule} [h : HasRd (List SRule) repList Γ [av] xs] (hl : Siz.size xs ≤ 1048576) :
    CJ Tryz.prog 56 [av] w0 Γ (fun p : Value => p) (fun p => .ow [p] xs :: Γ) := by
  refine cj_lift (R := [.rd [av] xs]) (A := fun p => [.ow [p] xs]) (fun w1 => ?_) (reads_cons h inferInstance) (fun _ => inferInstance)
  simp only [List.cons_append, List.nil_append]
  have e := siz_list xs
  refine cj_enter Tryz.func56 Tryz.ntmps56 ?_
  repeat' (first | refine red ?_ | refine redv fun sv => ?_ | fail)
  refine wc_loop [4] [8, 9, 10, 11, 14, 15, 16, 17, 18, 19, 20, 21, 12, 13] (ι := Nat) (fun k => [.int .i64 k]) (fun k => [.ow [sv] (xs.take k ++ List.replicate (xs.length - k) ([], [])), .rd [av] xs]) (fun k => k ≤ xs.length) (fun k => xs.length - k) 0 (by kernel_rfl) (Nat.zero_le _) ?_ ?_
  · simp only [List.take_zero, List.nil_append, Nat.sub_zero]
    exact ent_e
  intro k u l' hl' hk
  simp only [patch, List.map_cons, List.map_nil, List.set_cons_zero, List.set_cons_succ] at hl'
  subst hl'
  have h4 : k < xs.length → Siz.size (xs.getD k default) ≤ sumL xs := fun h => siz_get (get_lt h)
  repeat' (first | refine red ?_ | refine reds ?_ | refine redc fun r => ?_ | (refine redd fun p cs as_ hcs has hf => ?_; simp only [Un.cells, Un.atoms, Un.fact, List.cons_append, List.nil_append] at hcs has hf; subst hcs has) | (refine redi (fun hc => ?_) (fun hc => ?_) <;> try first | (exfalso; omega) | exact absurd rfl hc) | fail)
  · simp only [mk_eta]
    rw [rep_set (get_lt (by omega))]
    exact wq_next (k + 1) (by omega) (by omega) (by kernel_rfl) ent_e
  · rw [rep_end (by omega)]
    exact ⟨_, rfl, ent_e⟩
instance toRuleS_ctr {Γ : List Atom} {av : Value} {xs : List SRule} [h : HasRd (List SRule) repList Γ [av] xs] :
    CtrC Tryz.prog 56 [av] Γ (Siz.size xs ≤ 1048576) (Value) (fun p : Value => p) (fun p => .ow [p] xs :: Γ) := ⟨fun s w0 => toRuleS_spec s⟩

theorem eqRuleS_spec {w0 : World} {Γ : List Atom} {av bv : Value} {xs ys : List SRule} [h : HasRd (List SRule) repList Γ [av] xs] [h' : HasRd (List SRule) repList Γ [bv] ys] :
    CJ Tryz.prog 58 [av, bv] w0 Γ (fun _ : Unit => .bool (decide (xs = ys))) (fun _ => Γ) := by
  refine cj_lift (R := [.rd [av] xs, .rd [bv] ys]) (A := fun _ => []) (fun w1 => ?_) (reads_cons h (reads_cons h' inferInstance)) (fun _ => inferInstance)
  simp only [List.nil_append]
  refine cj_len av fun hlx => ?_
  refine cj_enter Tryz.func58 Tryz.ntmps58 ?_
  repeat' (first | refine red ?_ | (refine redi (fun hc => ?_) (fun hc => ?_) <;> try first | (exfalso; omega) | exact absurd rfl hc) | fail)
  · exact ⟨(), ret_bool (by exact decide_eq_false (fun h : xs = ys => hc (by rw [h]))), ent_e⟩
  refine wc_loop [5] [11, 12, 13, 14, 17, 18, 19, 20, 21, 22, 23, 24, 25, 26, 4, 15, 16] (ι := Nat) (fun k => [.int .i64 k]) (fun _ => [.rd [av] xs, .rd [bv] ys]) (fun k => k ≤ xs.length ∧ xs.take k = ys.take k) (fun k => xs.length - k) 0 (by kernel_rfl) ⟨Nat.zero_le _, rfl⟩ ent_e ?_
  intro k u l' hl' ⟨hk, hkk⟩
  simp only [patch, List.map_cons, List.map_nil, List.set_cons_zero, List.set_cons_succ] at hl'
  subst hl'
  repeat' (first | refine red ?_ | refine reds ?_ | (refine redi (fun hc => ?_) (fun hc => ?_) <;> try first | (exfalso; omega) | exact absurd rfl hc) | ((refine wa_begin 6 [false, false, false, false, false, false, false, false, false, false] [] ?_ <;> refine wa_p 0 ?_ <;> refine wa_p 1 ?_ <;> (first | (refine wa_deep 2 fun p cs as_ asb_ hcs has hasb hf => ?_; simp only [Un.cells, Un.atoms, Un.fact, List.cons_append, List.nil_append] at hcs has hasb hf; subst hcs has hasb) | fail) <;> (first | refine wa_p 3 ?_ | fail) <;> refine wa_p 4 ?_ <;> refine wa_p 5 ?_ <;> (first | (refine wa_deep 6 fun p cs as_ asb_ hcs has hasb hf => ?_; simp only [Un.cells, Un.atoms, Un.fact, List.cons_append, List.nil_append] at hcs has hasb hf; subst hcs has hasb) | fail) <;> (first | refine wa_p 7 ?_ | fail) <;> (refine wa_do 8 ?_ <;> (repeat' (first | refine red ?_ | refine redc fun r => ?_ | fail))) <;> (first | refine wa_p 9 ?_ | fail)) <;> (refine wa_end ?_)) | fail)
  · exact ⟨(), ret_bool (by exact decide_eq_false (ne_getD hc)), ent_e⟩
  · exact wq_next (k + 1) ⟨by omega, take_next hkk (by omega) (by omega) hc⟩ (by omega) (by kernel_rfl) ent_e
  · exact ⟨(), ret_bool (by exact decide_eq_true (take_end hkk (by omega) (by omega))), ent_e⟩
instance eqRuleS_ctr {Γ : List Atom} {av bv : Value} {xs ys : List SRule} [h : HasRd (List SRule) repList Γ [av] xs] [h' : HasRd (List SRule) repList Γ [bv] ys] :
    CtrC Tryz.prog 58 [av, bv] Γ (True) (Unit) (fun _ : Unit => .bool (decide (xs = ys))) (fun _ => Γ) := ⟨fun s w0 => eqRuleS_spec⟩

theorem markRuleS_spec {w0 : World} {Γ Δ : List Atom} {av : Value} {xs : List SRule} {m : Int} [h : PullOw (List SRule) repList Γ [av] xs Δ] (hm : 0 ≤ m ∧ m + cntL xs ≤ 4611686018427387904) :
    CJ Tryz.prog 62 [av, .int .i64 m] w0 Γ (fun _ : Unit => .int .i64 (m + cntL xs)) (fun _ => .ow [av] (mkL xs m) :: Δ) := by
  refine cj_perm h.perm ?_
  refine cj_len av fun hlx => ?_
  refine cj_enter Tryz.func62 Tryz.ntmps62 ?_
  repeat' (first | refine red ?_ | fail)
  refine wc_loop [1, 5] [6, 7, 8, 9, 12, 13, 14, 15, 16, 17, 18, 19, 20, 21, 22, 23, 24, 25, 10, 11] (ι := Nat × Int) (fun k => [.int .i64 k.2, .int .i64 k.1]) (fun k => .ow [av] (mkTo xs m k.1) :: Δ) (fun k => k.1 ≤ xs.length ∧ k.2 = m + cntL (xs.take k.1)) (fun k => xs.length - k.1) (0, m) (by kernel_rfl) ⟨Nat.zero_le _, by simp [cntL]⟩ ?_ ?_
  · rw [mkTo_zero]
    exact ent_e
  intro ⟨k, r0⟩ u l' hl' ⟨hk, hkk⟩
  simp only [patch, List.map_cons, List.map_nil, List.set_cons_zero, List.set_cons_succ] at hl'
  subst hl'
  simp only at hk hkk ⊢
  have hlen := mkTo_length xs m k
  have h5 := cntL_take_le xs (k + 1)
  have hg : k < xs.length → xs[k]? = some (xs.getD k default) := get_lt
  have h4 : k < xs.length → cntL (xs.take (k + 1)) = cntL (xs.take k) + Mk.cnt (xs.getD k default) := fun h => cntL_take_succ (get_lt h)
  have h7 : Mk.cnt (xs.getD k default) = cntL ((xs.getD k default).1) + (cntL ((xs.getD k default).2)) := rfl
  repeat' (first | refine red ?_ | refine reds ?_ | (refine redi (fun hc => ?_) (fun hc => ?_) <;> try first | (exfalso; omega) | exact absurd rfl hc) | fail)
  · refine wl_focus av k (mkTo_get (hg (by omega))) fun p hf => ?_
    simp only [UnO.cells, UnO.atoms, UnO.fact, List.cons_append, List.nil_append] at hf ⊢
    repeat' (first | refine red ?_ | refine reds ?_ | refine redc fun r => ?_ | fail)
    refine wq_unfocus (Ε := ?Ee) av ((mkL ((xs.getD k default).1) (r0), mkL ((xs.getD k default).2) (r0 + cntL ((xs.getD k default).1)))) ?ho ?_
    case ho => exact own_cons own_pull (own_pull)
    rw [show (mkL ((xs.getD k default).1) (r0), mkL ((xs.getD k default).2) (r0 + cntL ((xs.getD k default).1))) = Mk.by_ (xs.getD k default) (m + cntL (xs.take k)) by rw [hkk]; rfl, mkTo_set (hg (by omega))]
    exact wq_next (k + 1, r0 + cntL ((xs.getD k default).1) + cntL ((xs.getD k default).2)) ⟨by simp only; omega, by simp only; omega⟩ (by simp only; omega) (by kernel_rfl) ent_e
  · rw [mkTo_end (by omega)]
    exact ⟨(), ret_int (by rw [hkk, List.take_of_length_le (by omega)]), ent_e⟩
instance markRuleS_ctr {Γ Δ : List Atom} {av : Value} {xs : List SRule} {m : Int} [h : PullOw (List SRule) repList Γ [av] xs Δ] :
    CtrC Tryz.prog 62 [av, .int .i64 m] Γ (0 ≤ m ∧ m + cntL xs ≤ 4611686018427387904) (Unit) (fun _ : Unit => .int .i64 (m + cntL xs)) (fun _ => .ow [av] (mkL xs m) :: Δ) := ⟨fun s w0 => markRuleS_spec s⟩

theorem szSystem_spec {w0 : World} {Γ : List Atom} {x : SSystem} {v0 v1 : Value} [h0 : HasRd (List Int) repList Γ [v0] x.1] [h1 : HasRd (List SRule) repList Γ [v1] x.2] {left : Int} (hl : 0 ≤ left ∧ left ≤ 1048576) :
    CJ Tryz.prog 17 [.agg #[v0, v1], .int .i64 left] w0 Γ (fun _ : Unit => .int .i64 (lft left (Siz.size x))) (fun _ => Γ) := by
  have e : Siz.size x = Siz.size x.1 + Siz.size x.2 := by simp only [siz_pair, siz_int, siz_bool, siz_str] <;> omega
  have hh := lft_spec left (Siz.size x)
  have hs0 := lft_spec left (Siz.size x.1)
  have hs1 := lft_spec (lft left (Siz.size x.1)) (Siz.size x.2)
  refine cj_enter Tryz.func17 Tryz.ntmps17 ?_
  repeat' (first | refine red ?_ | refine redc fun r => ?_ | refine redn fun b => ?_ | (refine redi (fun hc => ?_) (fun hc => ?_) <;> try first | (exfalso; omega) | exact absurd rfl hc) | fail)
  all_goals exact ⟨(), ret_int (by omega), ent_e⟩
instance szSystem_ctr {Γ : List Atom} {x : SSystem} {v0 v1 : Value} [h0 : HasRd (List Int) repList Γ [v0] x.1] [h1 : HasRd (List SRule) repList Γ [v1] x.2] {left : Int} :
    CtrC Tryz.prog 17 [.agg #[v0, v1], .int .i64 left] Γ (0 ≤ left ∧ left ≤ 1048576) (Unit) (fun _ : Unit => .int .i64 (lft left (Siz.size x))) (fun _ => Γ) := ⟨fun s w0 => szSystem_spec s⟩

theorem toSystem_spec {w0 : World} {Γ : List Atom} {x : SSystem} {v0 v1 : Value} [h0 : HasRd (List Int) repList Γ [v0] x.1] [h1 : HasRd (List SRule) repList Γ [v1] x.2] (hl : Siz.size x ≤ 1048576) :
    CJ Tryz.prog 18 [.agg #[v0, v1]] w0 Γ (fun p : Value × Value => .agg #[p.1, p.2]) (fun p => .ow [p.1] x.1 :: .ow [p.2] x.2 :: Γ) := by
  have e : Siz.size x = Siz.size x.1 + Siz.size x.2 := by simp only [siz_pair, siz_int, siz_bool, siz_str] <;> omega
  refine cj_enter Tryz.func18 Tryz.ntmps18 ?_
  repeat' (first | refine red ?_ | refine redc fun r => ?_ | refine redn fun b => ?_ | fail)
  exact ⟨(_, _), rfl, ent_e⟩
instance toSystem_ctr {Γ : List Atom} {x : SSystem} {v0 v1 : Value} [h0 : HasRd (List Int) repList Γ [v0] x.1] [h1 : HasRd (List SRule) repList Γ [v1] x.2] :
    CtrC Tryz.prog 18 [.agg #[v0, v1]] Γ (Siz.size x ≤ 1048576) (Value × Value) (fun p : Value × Value => .agg #[p.1, p.2]) (fun p => .ow [p.1] x.1 :: .ow [p.2] x.2 :: Γ) := ⟨fun s w0 => toSystem_spec s⟩

theorem eqSystem_spec {w0 : World} {Γ : List Atom} {x y : SSystem} {v0 v1 : Value} {u0 u1 : Value} [h0 : HasRd (List Int) repList Γ [v0] x.1] [h1 : HasRd (List SRule) repList Γ [v1] x.2] [g0 : HasRd (List Int) repList Γ [u0] y.1] [g1 : HasRd (List SRule) repList Γ [u1] y.2] :
    CJ Tryz.prog 20 [.agg #[v0, v1], .agg #[u0, u1]] w0 Γ (fun _ : Unit => .bool (decide (x = y))) (fun _ => Γ) := by
  obtain ⟨x0, x1⟩ := x
  obtain ⟨y0, y1⟩ := y
  simp only at h0 h1 g0 g1
  refine cj_enter Tryz.func20 Tryz.ntmps20 ?_
  repeat' (first | refine red ?_ | refine redc fun r => ?_ | refine redn fun b => ?_ | (refine redi (fun hc => ?_) (fun hc => ?_) <;> try first | (exfalso; omega) | exact absurd rfl hc) | fail)
  all_goals exact ⟨(), ret_bool (by simp_all), ent_e⟩
instance eqSystem_ctr {Γ : List Atom} {x y : SSystem} {v0 v1 : Value} {u0 u1 : Value} [h0 : HasRd (List Int) repList Γ [v0] x.1] [h1 : HasRd (List SRule) repList Γ [v1] x.2] [g0 : HasRd (List Int) repList Γ [u0] y.1] [g1 : HasRd (List SRule) repList Γ [u1] y.2] :
    CtrC Tryz.prog 20 [.agg #[v0, v1], .agg #[u0, u1]] Γ (True) (Unit) (fun _ : Unit => .bool (decide (x = y))) (fun _ => Γ) := ⟨fun s w0 => eqSystem_spec⟩

theorem markSystem_spec {w0 : World} {Γ Δ0 Δ1 : List Atom} {x : SSystem} {v0 v1 : Value} {m : Int} [h0 : PullOw (List Int) repList Γ [v0] x.1 Δ0] [h1 : PullOw (List SRule) repList Δ0 [v1] x.2 Δ1] (hm : 0 ≤ m ∧ m + cntL x.1 + cntL x.2 ≤ 4611686018427387904) :
    CJ Tryz.prog 24 [.agg #[v0, v1], .int .i64 m] w0 Γ (fun _ : Unit => .int .i64 (m + cntL x.1 + cntL x.2)) (fun _ => .ow [v0] (mkL x.1 (m)) :: .ow [v1] (mkL x.2 (m + cntL x.1)) :: Δ1) := by
  refine cj_perm (Γ' := .ow [v0] x.1 :: .ow [v1] x.2 :: Δ1) (h0.perm.trans ((h1.perm).cons _)) ?_
  refine cj_enter Tryz.func24 Tryz.ntmps24 ?_
  repeat' (first | refine red ?_ | refine redc fun r => ?_ | refine redn fun b => ?_ | fail)
  all_goals exact ⟨(), rfl, ent_e⟩
instance markSystem_ctr {Γ Δ0 Δ1 : List Atom} {x : SSystem} {v0 v1 : Value} {m : Int} [h0 : PullOw (List Int) repList Γ [v0] x.1 Δ0] [h1 : PullOw (List SRule) repList Δ0 [v1] x.2 Δ1] :
    CtrC Tryz.prog 24 [.agg #[v0, v1], .int .i64 m] Γ (0 ≤ m ∧ m + cntL x.1 + cntL x.2 ≤ 4611686018427387904) (Unit) (fun _ : Unit => .int .i64 (m + cntL x.1 + cntL x.2)) (fun _ => .ow [v0] (mkL x.1 (m)) :: .ow [v1] (mkL x.2 (m + cntL x.1)) :: Δ1) := ⟨fun s w0 => markSystem_spec s⟩

theorem eqTrans_spec {w0 : World} {Γ : List Atom} {x y : STrans} {v0 : Value} {u0 : Value} [h0 : HasRd (List Int) repList Γ [v0] x.2.1] [g0 : HasRd (List Int) repList Γ [u0] y.2.1] :
    CJ Tryz.prog 117 [.agg #[.int .i64 x.1, v0, .int .i64 x.2.2], .agg #[.int .i64 y.1, u0, .int .i64 y.2.2]] w0 Γ (fun _ : Unit => .bool (decide (x = y))) (fun _ => Γ) := by
  obtain ⟨x0, x1, x2⟩ := x
  obtain ⟨y0, y1, y2⟩ := y
  simp only at h0 g0
  refine cj_enter Tryz.func117 Tryz.ntmps117 ?_
  repeat' (first | refine red ?_ | refine redc fun r => ?_ | refine redn fun b => ?_ | (refine redi (fun hc => ?_) (fun hc => ?_) <;> try first | (exfalso; omega) | exact absurd rfl hc) | fail)
  all_goals exact ⟨(), ret_bool (by simp_all), ent_e⟩
instance eqTrans_ctr {Γ : List Atom} {x y : STrans} {v0 : Value} {u0 : Value} [h0 : HasRd (List Int) repList Γ [v0] x.2.1] [g0 : HasRd (List Int) repList Γ [u0] y.2.1] :
    CtrC Tryz.prog 117 [.agg #[.int .i64 x.1, v0, .int .i64 x.2.2], .agg #[.int .i64 y.1, u0, .int .i64 y.2.2]] Γ (True) (Unit) (fun _ : Unit => .bool (decide (x = y))) (fun _ => Γ) := ⟨fun s w0 => eqTrans_spec⟩

theorem eqTransS_spec {w0 : World} {Γ : List Atom} {av bv : Value} {xs ys : List STrans} [h : HasRd (List STrans) repList Γ [av] xs] [h' : HasRd (List STrans) repList Γ [bv] ys] :
    CJ Tryz.prog 60 [av, bv] w0 Γ (fun _ : Unit => .bool (decide (xs = ys))) (fun _ => Γ) := by
  refine cj_lift (R := [.rd [av] xs, .rd [bv] ys]) (A := fun _ => []) (fun w1 => ?_) (reads_cons h (reads_cons h' inferInstance)) (fun _ => inferInstance)
  simp only [List.nil_append]
  refine cj_len av fun hlx => ?_
  refine cj_enter Tryz.func60 Tryz.ntmps60 ?_
  repeat' (first | refine red ?_ | (refine redi (fun hc => ?_) (fun hc => ?_) <;> try first | (exfalso; omega) | exact absurd rfl hc) | fail)
  · exact ⟨(), ret_bool (by exact decide_eq_false (fun h : xs = ys => hc (by rw [h]))), ent_e⟩
  refine wc_loop [5] [11, 12, 13, 14, 17, 18, 19, 20, 21, 22, 23, 24, 25, 26, 4, 15, 16] (ι := Nat) (fun k => [.int .i64 k]) (fun _ => [.rd [av] xs, .rd [bv] ys]) (fun k => k ≤ xs.length ∧ xs.take k = ys.take k) (fun k => xs.length - k) 0 (by kernel_rfl) ⟨Nat.zero_le _, rfl⟩ ent_e ?_
  intro k u l' hl' ⟨hk, hkk⟩
  simp only [patch, List.map_cons, List.map_nil, List.set_cons_zero, List.set_cons_succ] at hl'
  subst hl'
  repeat' (first | refine red ?_ | refine reds ?_ | (refine redi (fun hc => ?_) (fun hc => ?_) <;> try first | (exfalso; omega) | exact absurd rfl hc) | ((refine wa_begin 6 [false, false, false, false, false, false, false, false, false, false] [] ?_ <;> refine wa_p 0 ?_ <;> refine wa_p 1 ?_ <;> (first | (refine wa_deep 2 fun p cs as_ asb_ hcs has hasb hf => ?_; simp only [Un.cells, Un.atoms, Un.fact, List.cons_append, List.nil_append] at hcs has hasb hf; subst hcs has hasb) | fail) <;> (first | refine wa_p 3 ?_ | fail) <;> refine wa_p 4 ?_ <;> refine wa_p 5 ?_ <;> (first | (refine wa_deep 6 fun p cs as_ asb_ hcs has hasb hf => ?_; simp only [Un.cells, Un.atoms, Un.fact, List.cons_append, List.nil_append] at hcs has hasb hf; subst hcs has hasb) | fail) <;> (first | refine wa_p 7 ?_ | fail) <;> (refine wa_do 8 ?_ <;> (repeat' (first | refine red ?_ | refine redc fun r => ?_ | fail))) <;> (first | refine wa_p 9 ?_ | fail)) <;> (refine wa_end ?_)) | fail)
  · exact ⟨(), ret_bool (by exact decide_eq_false (ne_getD hc)), ent_e⟩
  · exact wq_next (k + 1) ⟨by omega, take_next hkk (by omega) (by omega) hc⟩ (by omega) (by kernel_rfl) ent_e
  · exact ⟨(), ret_bool (by exact decide_eq_true (take_end hkk (by omega) (by omega))), ent_e⟩
instance eqTransS_ctr {Γ : List Atom} {av bv : Value} {xs ys : List STrans} [h : HasRd (List STrans) repList Γ [av] xs] [h' : HasRd (List STrans) repList Γ [bv] ys] :
    CtrC Tryz.prog 60 [av, bv] Γ (True) (Unit) (fun _ : Unit => .bool (decide (xs = ys))) (fun _ => Γ) := ⟨fun s w0 => eqTransS_spec⟩

theorem markTransS_spec {w0 : World} {Γ Δ : List Atom} {av : Value} {xs : List STrans} {m : Int} [h : PullOw (List STrans) repList Γ [av] xs Δ] (hm : 0 ≤ m ∧ m + cntL xs ≤ 4611686018427387904) :
    CJ Tryz.prog 63 [av, .int .i64 m] w0 Γ (fun _ : Unit => .int .i64 (m + cntL xs)) (fun _ => .ow [av] (mkL xs m) :: Δ) := by
  refine cj_perm h.perm ?_
  refine cj_len av fun hlx => ?_
  refine cj_enter Tryz.func63 Tryz.ntmps63 ?_
  repeat' (first | refine red ?_ | fail)
  refine wc_loop [1, 5] [6, 7, 8, 9, 12, 13, 14, 15, 16, 17, 18, 19, 20, 21, 22, 23, 24, 25, 26, 27, 28, 29, 30, 31, 32, 10, 11] (ι := Nat × Int) (fun k => [.int .i64 k.2, .int .i64 k.1]) (fun k => .ow [av] (mkTo xs m k.1) :: Δ) (fun k => k.1 ≤ xs.length ∧ k.2 = m + cntL (xs.take k.1)) (fun k => xs.length - k.1) (0, m) (by kernel_rfl) ⟨Nat.zero_le _, by simp [cntL]⟩ ?_ ?_
  · rw [mkTo_zero]
    exact ent_e
  intro ⟨k, r0⟩ u l' hl' ⟨hk, hkk⟩
  simp only [patch, List.map_cons, List.map_nil, List.set_cons_zero, List.set_cons_succ] at hl'
  subst hl'
  simp only at hk hkk ⊢
  have hlen := mkTo_length xs m k
  have h5 := cntL_take_le xs (k + 1)
  have hg : k < xs.length → xs[k]? = some (xs.getD k default) := get_lt
  have h4 : k < xs.length → cntL (xs.take (k + 1)) = cntL (xs.take k) + Mk.cnt (xs.getD k default) := fun h => cntL_take_succ (get_lt h)
  have h7 : Mk.cnt (xs.getD k default) = 1 + (cntL ((xs.getD k default).2.1) + (1)) := rfl
  repeat' (first | refine red ?_ | refine reds ?_ | (refine redi (fun hc => ?_) (fun hc => ?_) <;> try first | (exfalso; omega) | exact absurd rfl hc) | fail)
  · refine wl_focus av k (mkTo_get (hg (by omega))) fun p hf => ?_
    simp only [UnO.cells, UnO.atoms, UnO.fact, List.cons_append, List.nil_append] at hf ⊢
    repeat' (first | refine red ?_ | refine reds ?_ | refine redc fun r => ?_ | fail)
    refine wq_unfocus (Ε := ?Ee) av ((r0, mkL ((xs.getD k default).2.1) (r0 + 1), r0 + 1 + cntL ((xs.getD k default).2.1))) ?ho ?_
    case ho => exact own_cons (own_int ⟨by omega, by omega⟩) (own_cons own_pull ((own_int ⟨by omega, by omega⟩)))
    rw [show (r0, mkL ((xs.getD k default).2.1) (r0 + 1), r0 + 1 + cntL ((xs.getD k default).2.1)) = Mk.by_ (xs.getD k default) (m + cntL (xs.take k)) by rw [hkk]; rfl, mkTo_set (hg (by omega))]
    exact wq_next (k + 1, r0 + 1 + cntL ((xs.getD k default).2.1) + 1) ⟨by simp only; omega, by simp only; omega⟩ (by simp only; omega) (by kernel_rfl) ent_e
  · rw [mkTo_end (by omega)]
    exact ⟨(), ret_int (by rw [hkk, List.take_of_length_le (by omega)]), ent_e⟩
instance markTransS_ctr {Γ Δ : List Atom} {av : Value} {xs : List STrans} {m : Int} [h : PullOw (List STrans) repList Γ [av] xs Δ] :
    CtrC Tryz.prog 63 [av, .int .i64 m] Γ (0 ≤ m ∧ m + cntL xs ≤ 4611686018427387904) (Unit) (fun _ : Unit => .int .i64 (m + cntL xs)) (fun _ => .ow [av] (mkL xs m) :: Δ) := ⟨fun s w0 => markTransS_spec s⟩

theorem heldTransS_spec {w0 : World} {Γ : List Atom} {av : Value} {xs : List STrans} {m : Int} [h : HasRd (List STrans) repList Γ [av] (mkL xs m)] (hm : 0 ≤ m ∧ m + cntL xs ≤ 4611686018427387904) :
    CJ Tryz.prog 65 [av, .int .i64 m] w0 Γ (fun _ : Unit => .int .i64 (m + cntL xs)) (fun _ => Γ) := by
  refine cj_lift (R := [.rd [av] (mkL xs m)]) (A := fun _ => []) (fun w1 => ?_) (reads_cons h inferInstance) (fun _ => inferInstance)
  simp only [List.nil_append]
  refine cj_len av fun hlx => ?_
  have hlen := mkL_length xs m
  refine cj_enter Tryz.func65 Tryz.ntmps65 ?_
  repeat' (first | refine red ?_ | fail)
  refine wc_loop [1, 5] [6, 7, 8, 9, 12, 13, 14, 15, 16, 17, 18, 4, 19, 20, 21, 22, 23, 24, 25, 26, 27, 28, 29, 30, 31, 32, 33, 34, 35, 36, 37, 38, 10, 11] (ι := Nat × Int) (fun k => [.int .i64 k.2, .int .i64 k.1]) (fun k => [.rd [av] (mkL xs m)]) (fun k => k.1 ≤ xs.length ∧ k.2 = m + cntL (xs.take k.1)) (fun k => xs.length - k.1) (0, m) (by kernel_rfl) ⟨Nat.zero_le _, by simp [cntL]⟩ ent_e ?_
  intro ⟨k, r0⟩ u l' hl' ⟨hk, hkk⟩
  simp only [patch, List.map_cons, List.map_nil, List.set_cons_zero, List.set_cons_succ] at hl'
  subst hl'
  simp only at hk hkk ⊢
  have h5 := cntL_take_le xs (k + 1)
  have hg : k < xs.length → (mkL xs m).getD k default = (r0, mkL ((xs.getD k default).2.1) (r0 + 1), r0 + 1 + cntL ((xs.getD k default).2.1)) := fun h => by rw [mkL_get h, hkk]; rfl
  have h4 : k < xs.length → cntL (xs.take (k + 1)) = cntL (xs.take k) + Mk.cnt (xs.getD k default) := fun h => cntL_take_succ (get_lt h)
  have h7 : Mk.cnt (xs.getD k default) = 1 + (cntL ((xs.getD k default).2.1) + (1)) := rfl
  by_cases hlt : k < xs.length
  · refine wc_look av k (by omega) fun p hf => ?_
    rw [hg hlt] at hf ⊢
    simp only [Un.cells, Un.atoms, Un.fact, List.cons_append, List.nil_append] at hf ⊢
    repeat' (first | refine red ?_ | refine reds ?_ | refine redc fun r => ?_ | (refine redi (fun hc => ?_) (fun hc => ?_) <;> try first | (exfalso; omega) | exact absurd rfl hc) | fail)
    all_goals try (exfalso; omega)
    exact wq_next (k + 1, r0 + 1 + cntL ((xs.getD k default).2.1) + 1) ⟨by simp only; omega, by simp only; omega⟩ (by simp only; omega) (by kernel_rfl) ent_e
  · repeat' (first | refine red ?_ | (refine redi (fun hc => ?_) (fun hc => ?_) <;> try first | (exfalso; omega) | exact absurd rfl hc) | fail)
    exact ⟨(), ret_int (by rw [hkk, List.take_of_length_le (by omega)]), ent_e⟩
instance heldTransS_ctr {Γ : List Atom} {av : Value} {xs : List STrans} {m : Int} [h : HasRd (List STrans) repList Γ [av] (mkL xs m)] :
    CtrC Tryz.prog 65 [av, .int .i64 m] Γ (0 ≤ m ∧ m + cntL xs ≤ 4611686018427387904) (Unit) (fun _ : Unit => .int .i64 (m + cntL xs)) (fun _ => Γ) := ⟨fun s w0 => heldTransS_spec s⟩

theorem eqAuto_spec {w0 : World} {Γ : List Atom} {x y : SAuto} {v0 v1 : Value} {u0 u1 : Value} [h0 : HasRd (List STrans) repList Γ [v0] x.2.1] [h1 : HasRd (List Int) repList Γ [v1] x.2.2] [g0 : HasRd (List STrans) repList Γ [u0] y.2.1] [g1 : HasRd (List Int) repList Γ [u1] y.2.2] :
    CJ Tryz.prog 23 [.agg #[.int .i64 x.1, v0, v1], .agg #[.int .i64 y.1, u0, u1]] w0 Γ (fun _ : Unit => .bool (decide (x = y))) (fun _ => Γ) := by
  obtain ⟨x0, x1, x2⟩ := x
  obtain ⟨y0, y1, y2⟩ := y
  simp only at h0 h1 g0 g1
  refine cj_enter Tryz.func23 Tryz.ntmps23 ?_
  repeat' (first | refine red ?_ | refine redc fun r => ?_ | refine redn fun b => ?_ | (refine redi (fun hc => ?_) (fun hc => ?_) <;> try first | (exfalso; omega) | exact absurd rfl hc) | fail)
  all_goals exact ⟨(), ret_bool (by simp_all), ent_e⟩
instance eqAuto_ctr {Γ : List Atom} {x y : SAuto} {v0 v1 : Value} {u0 u1 : Value} [h0 : HasRd (List STrans) repList Γ [v0] x.2.1] [h1 : HasRd (List Int) repList Γ [v1] x.2.2] [g0 : HasRd (List STrans) repList Γ [u0] y.2.1] [g1 : HasRd (List Int) repList Γ [u1] y.2.2] :
    CtrC Tryz.prog 23 [.agg #[.int .i64 x.1, v0, v1], .agg #[.int .i64 y.1, u0, u1]] Γ (True) (Unit) (fun _ : Unit => .bool (decide (x = y))) (fun _ => Γ) := ⟨fun s w0 => eqAuto_spec⟩

theorem markAuto_spec {w0 : World} {Γ Δ0 Δ1 : List Atom} {x : SAuto} {v0 v1 : Value} {m : Int} [h0 : PullOw (List STrans) repList Γ [v0] x.2.1 Δ0] [h1 : PullOw (List Int) repList Δ0 [v1] x.2.2 Δ1] (hm : 0 ≤ m ∧ m + cntL x.2.1 + cntL x.2.2 ≤ 4611686018427387904) :
    CJ Tryz.prog 25 [.agg #[.int .i64 x.1, v0, v1], .int .i64 m] w0 Γ (fun _ : Unit => .int .i64 (m + cntL x.2.1 + cntL x.2.2)) (fun _ => .ow [v0] (mkL x.2.1 (m)) :: .ow [v1] (mkL x.2.2 (m + cntL x.2.1)) :: Δ1) := by
  refine cj_perm (Γ' := .ow [v0] x.2.1 :: .ow [v1] x.2.2 :: Δ1) (h0.perm.trans ((h1.perm).cons _)) ?_
  refine cj_enter Tryz.func25 Tryz.ntmps25 ?_
  repeat' (first | refine red ?_ | refine redc fun r => ?_ | refine redn fun b => ?_ | fail)
  all_goals exact ⟨(), rfl, ent_e⟩
instance markAuto_ctr {Γ Δ0 Δ1 : List Atom} {x : SAuto} {v0 v1 : Value} {m : Int} [h0 : PullOw (List STrans) repList Γ [v0] x.2.1 Δ0] [h1 : PullOw (List Int) repList Δ0 [v1] x.2.2 Δ1] :
    CtrC Tryz.prog 25 [.agg #[.int .i64 x.1, v0, v1], .int .i64 m] Γ (0 ≤ m ∧ m + cntL x.2.1 + cntL x.2.2 ≤ 4611686018427387904) (Unit) (fun _ : Unit => .int .i64 (m + cntL x.2.1 + cntL x.2.2)) (fun _ => .ow [v0] (mkL x.2.1 (m)) :: .ow [v1] (mkL x.2.2 (m + cntL x.2.1)) :: Δ1) := ⟨fun s w0 => markAuto_spec s⟩

theorem heldAuto_spec {w0 : World} {Γ : List Atom} {x : SAuto} {v0 v1 : Value} {m : Int} [h0 : HasRd (List STrans) repList Γ [v0] (mkL x.2.1 (m))] [h1 : HasRd (List Int) repList Γ [v1] (mkL x.2.2 (m + cntL x.2.1))] (hm : 0 ≤ m ∧ m + cntL x.2.1 + cntL x.2.2 ≤ 4611686018427387904) :
    CJ Tryz.prog 26 [.agg #[.int .i64 x.1, v0, v1], .int .i64 m] w0 Γ (fun _ : Unit => .int .i64 (m + cntL x.2.1 + cntL x.2.2)) (fun _ => Γ) := by
  refine cj_enter Tryz.func26 Tryz.ntmps26 ?_
  repeat' (first | refine red ?_ | refine redc fun r => ?_ | refine redn fun b => ?_ | (refine redi (fun hc => ?_) (fun hc => ?_) <;> try first | (exfalso; omega) | exact absurd rfl hc) | fail)
  all_goals exact ⟨(), rfl, ent_e⟩
instance heldAuto_ctr {Γ : List Atom} {x : SAuto} {v0 v1 : Value} {m : Int} [h0 : HasRd (List STrans) repList Γ [v0] (mkL x.2.1 (m))] [h1 : HasRd (List Int) repList Γ [v1] (mkL x.2.2 (m + cntL x.2.1))] :
    CtrC Tryz.prog 26 [.agg #[.int .i64 x.1, v0, v1], .int .i64 m] Γ (0 ≤ m ∧ m + cntL x.2.1 + cntL x.2.2 ≤ 4611686018427387904) (Unit) (fun _ : Unit => .int .i64 (m + cntL x.2.1 + cntL x.2.2)) (fun _ => Γ) := ⟨fun s w0 => heldAuto_spec s⟩

end Go.Proofs.YtbbdjjlnachnlaaGreatDoor
