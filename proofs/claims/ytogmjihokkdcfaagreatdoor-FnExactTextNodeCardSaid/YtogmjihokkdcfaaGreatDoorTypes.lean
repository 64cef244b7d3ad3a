/- The laws' own helpers for the types: size, copy, comparison, marks. Printed by a program. -/
import Derived.Test.YtogmjihokkdcfaaGreatDoorBase
namespace Go.Proofs.YtogmjihokkdcfaaGreatDoor
open Go Go.Eng
set_option linter.unusedVariables false
set_option linter.unusedSimpArgs false

abbrev SSig := List Int
abbrev SSubst := List (List Int)
abbrev SRule := List Int × List Int
abbrev SSystem := SSig × List SRule
abbrev SStep := Int × Int × List Int
abbrev SWalk := List Int × List SStep
abbrev SPeak := List Int × List Int × List Int × Int × Int × Int
abbrev SWeights := Int × List Int × List Int
abbrev SPoly := Int × List Int
abbrev SDepPair := List Int × List Int × Int × Int
abbrev SPairStep := List Int × List Int × List SPoly × List Int
abbrev SLoop := SWalk × Int × SSubst
abbrev SEq := List Int × List Int
abbrev SMove := Int × Int × Bool × List Int
abbrev SChain := List Int × List SMove
abbrev SWork := SSig × List Int × List SEq × List SRule
abbrev STrans := Int × List Int × Int
abbrev SAuto := Int × List STrans × List Int
abbrev SLine := Int × List (List Int) × List Int
abbrev SFront := SSig × List Int × List SLine
abbrev SCRule := List Int × List Int × List SEq
abbrev SCSystem := SSig × List SCRule
abbrev SNode := Int × List Int × List (List Int) × List Int
abbrev SProof := List SNode
abbrev SClaim := Int × List Int × List Int
theorem szSig_spec {w0 : World} {Γ : List Atom} {x : SSig} {v0 : Value} [h0 : HasRd (List Int) repList Γ [v0] x] {left : Int} (hl : 0 ≤ left ∧ left ≤ 1048576) :
    CJ Tryz.prog 4 [.agg #[v0], .int .i64 left] w0 Γ (fun _ : Unit => .int .i64 (lft left (Siz.size x))) (fun _ => Γ) := by
  have e : Siz.size x = Siz.size x := by rfl
  have hh := lft_spec left (Siz.size x)
  have hs0 := lft_spec left (Siz.size x)
  refine cj_enter Tryz.func4 Tryz.ntmps4 ?_
  repeat' (first | refine red ?_ | refine redf fun hbi => ?_ | refine reds ?_ | refine redc fun r => ?_ | refine redp (fun r => ?_) (fun r => ?_) | refine redv fun sv => ?_ | refine redn fun b => ?_ | refine redz fun zs => ?_ | refine redq (fun hc => ?_) (fun hc => ?_) | with_reducible refine wq_blk_o rfl ?_ | (refine redi (fun hc => ?_) (fun hc => ?_) <;> try first | (exfalso; omega) | exact absurd rfl hc) | fail)
  all_goals exact ⟨(), ret_int (by omega), ent_e⟩
instance szSig_ctr {Γ : List Atom} {x : SSig} {v0 : Value} [h0 : HasRd (List Int) repList Γ [v0] x] {left : Int} :
    CtrC Tryz.prog 4 [.agg #[v0], .int .i64 left] Γ (0 ≤ left ∧ left ≤ 1048576) (Unit) (fun _ : Unit => .int .i64 (lft left (Siz.size x))) (fun _ => Γ) := ⟨fun s w0 => szSig_spec s⟩

theorem toSig_spec {w0 : World} {Γ : List Atom} {x : SSig} {v0 : Value} [h0 : HasRd (List Int) repList Γ [v0] x] (hl : Siz.size x ≤ 1048576) :
    CJ Tryz.prog 6 [.agg #[v0]] w0 Γ (fun p : Value => .agg #[p]) (fun p => .ow [p] x :: Γ) := by
  have e : Siz.size x = Siz.size x := by rfl
  refine cj_enter Tryz.func6 Tryz.ntmps6 ?_
  repeat' (first | refine red ?_ | refine redf fun hbi => ?_ | refine reds ?_ | refine redc fun r => ?_ | refine redp (fun r => ?_) (fun r => ?_) | refine redv fun sv => ?_ | refine redn fun b => ?_ | refine redz fun zs => ?_ | refine redq (fun hc => ?_) (fun hc => ?_) | with_reducible refine wq_blk_o rfl ?_ | (refine redi (fun hc => ?_) (fun hc => ?_) <;> try first | (exfalso; omega) | exact absurd rfl hc) | fail)
  exact ⟨_, rfl, ent_e⟩
instance toSig_ctr {Γ : List Atom} {x : SSig} {v0 : Value} [h0 : HasRd (List Int) repList Γ [v0] x] :
    CtrC Tryz.prog 6 [.agg #[v0]] Γ (Siz.size x ≤ 1048576) (Value) (fun p : Value => .agg #[p]) (fun p => .ow [p] x :: Γ) := ⟨fun s w0 => toSig_spec s⟩

theorem eqSig_spec {w0 : World} {Γ : List Atom} {x y : SSig} {v0 : Value} {u0 : Value} [h0 : HasRd (List Int) repList Γ [v0] x] [g0 : HasRd (List Int) repList Γ [u0] y] :
    CJ Tryz.prog 9 [.agg #[v0], .agg #[u0]] w0 Γ (fun _ : Unit => .bool (decide (x = y))) (fun _ => Γ) := by
  refine cj_enter Tryz.func9 Tryz.ntmps9 ?_
  repeat' (first | refine red ?_ | refine redf fun hbi => ?_ | refine reds ?_ | refine redc fun r => ?_ | refine redp (fun r => ?_) (fun r => ?_) | refine redv fun sv => ?_ | refine redn fun b => ?_ | refine redz fun zs => ?_ | refine redq (fun hc => ?_) (fun hc => ?_) | with_reducible refine wq_blk_o rfl ?_ | (refine redi (fun hc => ?_) (fun hc => ?_) <;> try first | (exfalso; omega) | exact absurd rfl hc) | fail)
  all_goals exact ⟨(), ret_bool (by simp_all), ent_e⟩
instance eqSig_ctr {Γ : List Atom} {x y : SSig} {v0 : Value} {u0 : Value} [h0 : HasRd (List Int) repList Γ [v0] x] [g0 : HasRd (List Int) repList Γ [u0] y] :
    CtrC Tryz.prog 9 [.agg #[v0], .agg #[u0]] Γ (True) (Unit) (fun _ : Unit => .bool (decide (x = y))) (fun _ => Γ) := ⟨fun s w0 => eqSig_spec⟩

theorem markSig_spec {w0 : World} {Γ Δ0 : List Atom} {x : SSig} {v0 : Value} {m : Int} [h0 : PullOw (List Int) repList Γ [v0] x Δ0] (hm : 0 ≤ m ∧ m + cntL x ≤ 4611686018427387904) :
    CJ Tryz.prog 10 [.agg #[v0], .int .i64 m] w0 Γ (fun _ : Unit => .int .i64 (m + cntL x)) (fun _ => .ow [v0] (mkL x (m)) :: Δ0) := by
  refine cj_perm (Γ' := .ow [v0] x :: Δ0) (h0.perm) ?_
  refine cj_enter Tryz.func10 Tryz.ntmps10 ?_
  repeat' (first | refine red ?_ | refine redf fun hbi => ?_ | refine reds ?_ | refine redc fun r => ?_ | refine redp (fun r => ?_) (fun r => ?_) | refine redv fun sv => ?_ | refine redn fun b => ?_ | refine redz fun zs => ?_ | refine redq (fun hc => ?_) (fun hc => ?_) | with_reducible refine wq_blk_o rfl ?_ | (refine redi (fun hc => ?_) (fun hc => ?_) <;> try first | (exfalso; omega) | exact absurd rfl hc) | fail)
  all_goals exact ⟨(), rfl, ent_e⟩
instance markSig_ctr {Γ Δ0 : List Atom} {x : SSig} {v0 : Value} {m : Int} [h0 : PullOw (List Int) repList Γ [v0] x Δ0] :
    CtrC Tryz.prog 10 [.agg #[v0], .int .i64 m] Γ (0 ≤ m ∧ m + cntL x ≤ 4611686018427387904) (Unit) (fun _ : Unit => .int .i64 (m + cntL x)) (fun _ => .ow [v0] (mkL x (m)) :: Δ0) := ⟨fun s w0 => markSig_spec s⟩

theorem eqInt64SS_spec {w0 : World} {Γ : List Atom} {av bv : Value} {xs ys : List (List Int)} [h : HasRd (List (List Int)) repList Γ [av] xs] [h' : HasRd (List (List Int)) repList Γ [bv] ys] :
    CJ Tryz.prog 27 [av, bv] w0 Γ (fun _ : Unit => .bool (decide (xs = ys))) (fun _ => Γ) := by
  refine cj_lift (R := [.rd [av] xs, .rd [bv] ys]) (A := fun _ => []) (fun w1 => ?_) (reads_cons h (reads_cons h' inferInstance)) (fun _ => inferInstance)
  simp only [List.nil_append]
  refine cj_len av fun hlx => ?_
  refine cj_enter Tryz.func27 Tryz.ntmps27 ?_
  repeat' (first | refine red ?_ | refine redf fun hbi => ?_ | refine reds ?_ | refine redc fun r => ?_ | refine redp (fun r => ?_) (fun r => ?_) | refine redv fun sv => ?_ | refine redn fun b => ?_ | refine redz fun zs => ?_ | refine redq (fun hc => ?_) (fun hc => ?_) | with_reducible refine wq_blk_o rfl ?_ | (refine redd fun p cs as_ hcs has hf => ?_; simp only [Un.cells, Un.atoms, Un.fact, List.cons_append, List.nil_append] at hcs has hf; subst hcs has) | (refine redi (fun hc => ?_) (fun hc => ?_) <;> try first | (exfalso; omega) | exact absurd rfl hc) | ((refine wa_begin 6 [false, false, false, false, false, false, false, false, false, false] [] ?_ <;> (first | refine wa_p 0 ?_ | refine wa_p0 0 ?_) <;> (first | refine wa_p 1 ?_ | refine wa_p0 1 ?_) <;> (first | refine wa_p 2 ?_ | (refine wa_deep 2 fun p cs as_ asb_ hcs has hasb hf => ?_; simp only [Un.cells, Un.atoms, Un.fact, List.cons_append, List.nil_append] at hcs has hasb hf; subst hcs has hasb) | fail) <;> (first | refine wa_f 3 fun hbi => ?_ | refine wa_p 3 ?_ | fail) <;> (first | refine wa_p 4 ?_ | refine wa_p0 4 ?_) <;> (first | refine wa_p 5 ?_ | refine wa_p0 5 ?_) <;> (first | refine wa_p 6 ?_ | (refine wa_deep 6 fun p cs as_ asb_ hcs has hasb hf => ?_; simp only [Un.cells, Un.atoms, Un.fact, List.cons_append, List.nil_append] at hcs has hasb hf; subst hcs has hasb) | fail) <;> (first | refine wa_f 7 fun hbi => ?_ | refine wa_p 7 ?_ | (refine wa_do 7 ?_ <;> (repeat' (first | refine red ?_ | refine redc fun r => ?_ | refine redv fun sv => ?_ | refine redf fun hbi => ?_ | refine redn fun b => ?_ | refine reds ?_ | refine redi (fun hc => ?_) (fun hc => ?_) | refine redq (fun hc => ?_) (fun hc => ?_) | refine redp (fun r => ?_) (fun r => ?_) | fail))) | fail) <;> (refine wa_do 8 ?_ <;> (repeat' (first | refine red ?_ | refine redc fun r => ?_ | refine redv fun sv => ?_ | refine redf fun hbi => ?_ | refine redn fun b => ?_ | refine reds ?_ | refine redi (fun hc => ?_) (fun hc => ?_) | refine redq (fun hc => ?_) (fun hc => ?_) | refine redp (fun r => ?_) (fun r => ?_) | fail))) <;> (first | refine wa_p 9 ?_ | refine wa_p0 9 ?_ | (refine wa_do 9 ?_ <;> (repeat' (first | refine red ?_ | refine redc fun r => ?_ | refine redv fun sv => ?_ | refine redf fun hbi => ?_ | refine redn fun b => ?_ | refine reds ?_ | refine redi (fun hc => ?_) (fun hc => ?_) | refine redq (fun hc => ?_) (fun hc => ?_) | refine redp (fun r => ?_) (fun r => ?_) | fail))) | fail)) <;> (first | refine wa_end ?_ | with_reducible refine wq_keep ?_)) | fail)
  · exact ⟨(), ret_bool (by exact decide_eq_false (fun h : xs = ys => hc (by rw [h]))), ent_e⟩
  refine wc_loop [5] [11, 12, 13, 14, 17, 18, 19, 20, 21, 22, 23, 24, 25, 26, 4, 15, 16] (ι := Nat) (fun k => [.int .i64 k]) (fun _ => [.rd [av] xs, .rd [bv] ys]) (fun k => k ≤ xs.length ∧ xs.take k = ys.take k) (fun k => xs.length - k) 0 (by kernel_rfl) ⟨Nat.zero_le _, rfl⟩ ent_e ?_
  intro k u l' hl' ⟨hk, hkk⟩
  simp only [patch, List.map_cons, List.map_nil, List.set_cons_zero, List.set_cons_succ] at hl'
  subst hl'
  repeat' (first | refine red ?_ | refine redf fun hbi => ?_ | refine reds ?_ | refine redc fun r => ?_ | refine redp (fun r => ?_) (fun r => ?_) | refine redv fun sv => ?_ | refine redn fun b => ?_ | refine redz fun zs => ?_ | refine redq (fun hc => ?_) (fun hc => ?_) | with_reducible refine wq_blk_o rfl ?_ | (refine redd fun p cs as_ hcs has hf => ?_; simp only [Un.cells, Un.atoms, Un.fact, List.cons_append, List.nil_append] at hcs has hf; subst hcs has) | (refine redi (fun hc => ?_) (fun hc => ?_) <;> try first | (exfalso; omega) | exact absurd rfl hc) | ((refine wa_begin 6 [false, false, false, false, false, false, false, false, false, false] [] ?_ <;> (first | refine wa_p 0 ?_ | refine wa_p0 0 ?_) <;> (first | refine wa_p 1 ?_ | refine wa_p0 1 ?_) <;> (first | refine wa_p 2 ?_ | (refine wa_deep 2 fun p cs as_ asb_ hcs has hasb hf => ?_; simp only [Un.cells, Un.atoms, Un.fact, List.cons_append, List.nil_append] at hcs has hasb hf; subst hcs has hasb) | fail) <;> (first | refine wa_f 3 fun hbi => ?_ | refine wa_p 3 ?_ | fail) <;> (first | refine wa_p 4 ?_ | refine wa_p0 4 ?_) <;> (first | refine wa_p 5 ?_ | refine wa_p0 5 ?_) <;> (first | refine wa_p 6 ?_ | (refine wa_deep 6 fun p cs as_ asb_ hcs has hasb hf => ?_; simp only [Un.cells, Un.atoms, Un.fact, List.cons_append, List.nil_append] at hcs has hasb hf; subst hcs has hasb) | fail) <;> (first | refine wa_f 7 fun hbi => ?_ | refine wa_p 7 ?_ | (refine wa_do 7 ?_ <;> (repeat' (first | refine red ?_ | refine redc fun r => ?_ | refine redv fun sv => ?_ | refine redf fun hbi => ?_ | refine redn fun b => ?_ | refine reds ?_ | refine redi (fun hc => ?_) (fun hc => ?_) | refine redq (fun hc => ?_) (fun hc => ?_) | refine redp (fun r => ?_) (fun r => ?_) | fail))) | fail) <;> (refine wa_do 8 ?_ <;> (repeat' (first | refine red ?_ | refine redc fun r => ?_ | refine redv fun sv => ?_ | refine redf fun hbi => ?_ | refine redn fun b => ?_ | refine reds ?_ | refine redi (fun hc => ?_) (fun hc => ?_) | refine redq (fun hc => ?_) (fun hc => ?_) | refine redp (fun r => ?_) (fun r => ?_) | fail))) <;> (first | refine wa_p 9 ?_ | refine wa_p0 9 ?_ | (refine wa_do 9 ?_ <;> (repeat' (first | refine red ?_ | refine redc fun r => ?_ | refine redv fun sv => ?_ | refine redf fun hbi => ?_ | refine redn fun b => ?_ | refine reds ?_ | refine redi (fun hc => ?_) (fun hc => ?_) | refine redq (fun hc => ?_) (fun hc => ?_) | refine redp (fun r => ?_) (fun r => ?_) | fail))) | fail)) <;> (first | refine wa_end ?_ | with_reducible refine wq_keep ?_)) | fail)
  · exact ⟨(), ret_bool (by exact decide_eq_false (ne_getD hc)), ent_e⟩
  · exact wq_next (k + 1) ⟨by omega, take_next hkk (by omega) (by omega) hc⟩ (by omega) (by kernel_rfl) ent_e
  · exact ⟨(), ret_bool (by exact decide_eq_true (take_end hkk (by omega) (by omega))), ent_e⟩
instance eqInt64SS_ctr {Γ : List Atom} {av bv : Value} {xs ys : List (List Int)} [h : HasRd (List (List Int)) repList Γ [av] xs] [h' : HasRd (List (List Int)) repList Γ [bv] ys] :
    CtrC Tryz.prog 27 [av, bv] Γ (True) (Unit) (fun _ : Unit => .bool (decide (xs = ys))) (fun _ => Γ) := ⟨fun s w0 => eqInt64SS_spec⟩

theorem markInt64SS_spec {w0 : World} {Γ Δ : List Atom} {av : Value} {xs : List (List Int)} {m : Int} [h : PullOw (List (List Int)) repList Γ [av] xs Δ] (hm : 0 ≤ m ∧ m + cntL xs ≤ 4611686018427387904) :
    CJ Tryz.prog 29 [av, .int .i64 m] w0 Γ (fun _ : Unit => .int .i64 (m + cntL xs)) (fun _ => .ow [av] (mkL xs m) :: Δ) := by
  refine cj_perm h.perm ?_
  refine cj_len av fun hlx => ?_
  refine cj_enter Tryz.func29 Tryz.ntmps29 ?_
  repeat' (first | refine red ?_ | refine redf fun hbi => ?_ | refine reds ?_ | refine redc fun r => ?_ | refine redp (fun r => ?_) (fun r => ?_) | refine redv fun sv => ?_ | refine redn fun b => ?_ | refine redz fun zs => ?_ | refine redq (fun hc => ?_) (fun hc => ?_) | with_reducible refine wq_blk_o rfl ?_ | (refine redd fun p cs as_ hcs has hf => ?_; simp only [Un.cells, Un.atoms, Un.fact, List.cons_append, List.nil_append] at hcs has hf; subst hcs has) | (refine redi (fun hc => ?_) (fun hc => ?_) <;> try first | (exfalso; omega) | exact absurd rfl hc) | fail)
  refine wc_loop [1, 5] [6, 7, 8, 9, 12, 13, 14, 15, 16, 17, 10, 11] (ι := Nat × Int) (fun k => [.int .i64 k.2, .int .i64 k.1]) (fun k => .ow [av] (mkTo xs m k.1) :: Δ) (fun k => k.1 ≤ xs.length ∧ k.2 = m + cntL (xs.take k.1)) (fun k => xs.length - k.1) (0, m) (by kernel_rfl) ⟨Nat.zero_le _, by simp [cntL]⟩ ?_ ?_
  · rw [mkTo_zero]
    exact ent_e
  intro ⟨k, r0⟩ u l' hl' ⟨hk, hkk⟩
  simp only [patch, List.map_cons, List.map_nil, List.set_cons_zero, List.set_cons_succ] at hl'
  subst hl'
  simp only at hk hkk ⊢
  have hlen := mkTo_length xs m k
  have h5 := cntL_take_le xs (k + 1)
  have hg : k < xs.length → xs[k]? = some (xs.getD k default) := get_lt
  have h4 : k < xs.length → cntL (xs.take (k + 1)) = cntL (xs.take k) + Mk.cnt (xs.getD k default) := fun h => cntL_take_succ (get_lt h)
  have h7 : Mk.cnt (xs.getD k default) = cntL ((xs.getD k default)) := rfl
  repeat' (first | refine red ?_ | refine redf fun hbi => ?_ | refine reds ?_ | refine redc fun r => ?_ | refine redp (fun r => ?_) (fun r => ?_) | refine redv fun sv => ?_ | refine redn fun b => ?_ | refine redz fun zs => ?_ | refine redq (fun hc => ?_) (fun hc => ?_) | with_reducible refine wq_blk_o rfl ?_ | (refine redd fun p cs as_ hcs has hf => ?_; simp only [Un.cells, Un.atoms, Un.fact, List.cons_append, List.nil_append] at hcs has hf; subst hcs has) | (refine redi (fun hc => ?_) (fun hc => ?_) <;> try first | (exfalso; omega) | exact absurd rfl hc) | fail)
  · refine wl_focus av k (mkTo_get (hg (by omega))) fun p hf => ?_
    simp only [UnO.cells, UnO.atoms, UnO.fact, List.cons_append, List.nil_append] at hf ⊢
    repeat' (first | refine red ?_ | refine redf fun hbi => ?_ | refine reds ?_ | refine redc fun r => ?_ | refine redp (fun r => ?_) (fun r => ?_) | refine redv fun sv => ?_ | refine redn fun b => ?_ | refine redz fun zs => ?_ | refine redq (fun hc => ?_) (fun hc => ?_) | with_reducible refine wq_blk_o rfl ?_ | (refine redd fun p cs as_ hcs has hf => ?_; simp only [Un.cells, Un.atoms, Un.fact, List.cons_append, List.nil_append] at hcs has hf; subst hcs has) | (refine redi (fun hc => ?_) (fun hc => ?_) <;> try first | (exfalso; omega) | exact absurd rfl hc) | fail)
    refine wq_unfocus (Ε := ?Ee) av (mkL ((xs.getD k default)) (r0)) ?ho ?_
    case ho => exact own_pull
    rw [show (mkL ((xs.getD k default)) (r0)) = Mk.by_ (xs.getD k default) (m + cntL (xs.take k)) by rw [hkk]; rfl, mkTo_set (hg (by omega))]
    exact wq_next (k + 1, r0 + cntL ((xs.getD k default))) ⟨by simp only; omega, by simp only; omega⟩ (by simp only; omega) (by kernel_rfl) ent_e
  · rw [mkTo_end (by omega)]
    exact ⟨(), ret_int (by rw [hkk, List.take_of_length_le (by omega)]), ent_e⟩
instance markInt64SS_ctr {Γ Δ : List Atom} {av : Value} {xs : List (List Int)} {m : Int} [h : PullOw (List (List Int)) repList Γ [av] xs Δ] :
    CtrC Tryz.prog 29 [av, .int .i64 m] Γ (0 ≤ m ∧ m + cntL xs ≤ 4611686018427387904) (Unit) (fun _ : Unit => .int .i64 (m + cntL xs)) (fun _ => .ow [av] (mkL xs m) :: Δ) := ⟨fun s w0 => markInt64SS_spec s⟩

theorem heldInt64SS_spec {w0 : World} {Γ : List Atom} {av : Value} {xs : List (List Int)} {m : Int} [h : HasRd (List (List Int)) repList Γ [av] (mkL xs m)] (hm : 0 ≤ m ∧ m + cntL xs ≤ 4611686018427387904) :
    CJ Tryz.prog 31 [av, .int .i64 m] w0 Γ (fun _ : Unit => .int .i64 (m + cntL xs)) (fun _ => Γ) := by
  refine cj_lift (R := [.rd [av] (mkL xs m)]) (A := fun _ => []) (fun w1 => ?_) (reads_cons h inferInstance) (fun _ => inferInstance)
  simp only [List.nil_append]
  refine cj_len av fun hlx => ?_
  have hlen := mkL_length xs m
  refine cj_enter Tryz.func31 Tryz.ntmps31 ?_
  repeat' (first | refine red ?_ | refine redf fun hbi => ?_ | refine reds ?_ | refine redc fun r => ?_ | refine redp (fun r => ?_) (fun r => ?_) | refine redv fun sv => ?_ | refine redn fun b => ?_ | refine redz fun zs => ?_ | refine redq (fun hc => ?_) (fun hc => ?_) | with_reducible refine wq_blk_o rfl ?_ | (refine redd fun p cs as_ hcs has hf => ?_; simp only [Un.cells, Un.atoms, Un.fact, List.cons_append, List.nil_append] at hcs has hf; subst hcs has) | (refine redi (fun hc => ?_) (fun hc => ?_) <;> try first | (exfalso; omega) | exact absurd rfl hc) | fail)
  refine wc_loop [1, 5] [6, 7, 8, 9, 12, 13, 14, 15, 16, 17, 18, 19, 4, 10, 11] (ι := Nat × Int) (fun k => [.int .i64 k.2, .int .i64 k.1]) (fun k => [.rd [av] (mkL xs m)]) (fun k => k.1 ≤ xs.length ∧ k.2 = m + cntL (xs.take k.1)) (fun k => xs.length - k.1) (0, m) (by kernel_rfl) ⟨Nat.zero_le _, by simp [cntL]⟩ ent_e ?_
  intro ⟨k, r0⟩ u l' hl' ⟨hk, hkk⟩
  simp only [patch, List.map_cons, List.map_nil, List.set_cons_zero, List.set_cons_succ] at hl'
  subst hl'
  simp only at hk hkk ⊢
  have h5 := cntL_take_le xs (k + 1)
  have hg : k < xs.length → (mkL xs m).getD k default = mkL ((xs.getD k default)) (r0) := fun h => by rw [mkL_get h, hkk]; rfl
  have h4 : k < xs.length → cntL (xs.take (k + 1)) = cntL (xs.take k) + Mk.cnt (xs.getD k default) := fun h => cntL_take_succ (get_lt h)
  have h7 : Mk.cnt (xs.getD k default) = cntL ((xs.getD k default)) := rfl
  by_cases hlt : k < xs.length
  · refine wc_look av k (by omega) fun p hf => ?_
    rw [hg hlt] at hf ⊢
    simp only [Un.cells, Un.atoms, Un.fact, List.cons_append, List.nil_append] at hf ⊢
    repeat' (first | refine red ?_ | refine redf fun hbi => ?_ | refine reds ?_ | refine redc fun r => ?_ | refine redp (fun r => ?_) (fun r => ?_) | refine redv fun sv => ?_ | refine redn fun b => ?_ | refine redz fun zs => ?_ | refine redq (fun hc => ?_) (fun hc => ?_) | with_reducible refine wq_blk_o rfl ?_ | (refine redd fun p cs as_ hcs has hf => ?_; simp only [Un.cells, Un.atoms, Un.fact, List.cons_append, List.nil_append] at hcs has hf; subst hcs has) | (refine redi (fun hc => ?_) (fun hc => ?_) <;> try first | (exfalso; omega) | exact absurd rfl hc) | fail)
    all_goals try (exfalso; omega)
    exact wq_next (k + 1, r0 + cntL ((xs.getD k default))) ⟨by simp only; omega, by simp only; omega⟩ (by simp only; omega) (by kernel_rfl) ent_e
  · repeat' (first | refine red ?_ | refine redf fun hbi => ?_ | refine reds ?_ | refine redc fun r => ?_ | refine redp (fun r => ?_) (fun r => ?_) | refine redv fun sv => ?_ | refine redn fun b => ?_ | refine redz fun zs => ?_ | refine redq (fun hc => ?_) (fun hc => ?_) | with_reducible refine wq_blk_o rfl ?_ | (refine redd fun p cs as_ hcs has hf => ?_; simp only [Un.cells, Un.atoms, Un.fact, List.cons_append, List.nil_append] at hcs has hf; subst hcs has) | (refine redi (fun hc => ?_) (fun hc => ?_) <;> try first | (exfalso; omega) | exact absurd rfl hc) | fail)
    exact ⟨(), ret_int (by rw [hkk, List.take_of_length_le (by omega)]), ent_e⟩
instance heldInt64SS_ctr {Γ : List Atom} {av : Value} {xs : List (List Int)} {m : Int} [h : HasRd (List (List Int)) repList Γ [av] (mkL xs m)] :
    CtrC Tryz.prog 31 [av, .int .i64 m] Γ (0 ≤ m ∧ m + cntL xs ≤ 4611686018427387904) (Unit) (fun _ : Unit => .int .i64 (m + cntL xs)) (fun _ => Γ) := ⟨fun s w0 => heldInt64SS_spec s⟩

theorem eqNode_spec {w0 : World} {Γ : List Atom} {x y : SNode} {v0 v1 v2 : Value} {u0 u1 u2 : Value} [h0 : HasRd (List Int) repList Γ [v0] x.2.1] [h1 : HasRd (List (List Int)) repList Γ [v1] x.2.2.1] [h2 : HasRd (List Int) repList Γ [v2] x.2.2.2] [g0 : HasRd (List Int) repList Γ [u0] y.2.1] [g1 : HasRd (List (List Int)) repList Γ [u1] y.2.2.1] [g2 : HasRd (List Int) repList Γ [u2] y.2.2.2] :
    CJ Tryz.prog 8 [.agg #[.int .i64 x.1, v0, v1, v2], .agg #[.int .i64 y.1, u0, u1, u2]] w0 Γ (fun _ : Unit => .bool (decide (x = y))) (fun _ => Γ) := by
  obtain ⟨x0, x1, x2, x3⟩ := x
  obtain ⟨y0, y1, y2, y3⟩ := y
  simp only at h0 h1 h2 g0 g1 g2
  refine cj_enter Tryz.func8 Tryz.ntmps8 ?_
  repeat' (first | refine red ?_ | refine redf fun hbi => ?_ | refine reds ?_ | refine redc fun r => ?_ | refine redp (fun r => ?_) (fun r => ?_) | refine redv fun sv => ?_ | refine redn fun b => ?_ | refine redz fun zs => ?_ | refine redq (fun hc => ?_) (fun hc => ?_) | with_reducible refine wq_blk_o rfl ?_ | (refine redi (fun hc => ?_) (fun hc => ?_) <;> try first | (exfalso; omega) | exact absurd rfl hc) | fail)
  all_goals exact ⟨(), ret_bool (by simp_all), ent_e⟩
instance eqNode_ctr {Γ : List Atom} {x y : SNode} {v0 v1 v2 : Value} {u0 u1 u2 : Value} [h0 : HasRd (List Int) repList Γ [v0] x.2.1] [h1 : HasRd (List (List Int)) repList Γ [v1] x.2.2.1] [h2 : HasRd (List Int) repList Γ [v2] x.2.2.2] [g0 : HasRd (List Int) repList Γ [u0] y.2.1] [g1 : HasRd (List (List Int)) repList Γ [u1] y.2.2.1] [g2 : HasRd (List Int) repList Γ [u2] y.2.2.2] :
    CtrC Tryz.prog 8 [.agg #[.int .i64 x.1, v0, v1, v2], .agg #[.int .i64 y.1, u0, u1, u2]] Γ (True) (Unit) (fun _ : Unit => .bool (decide (x = y))) (fun _ => Γ) := ⟨fun s w0 => eqNode_spec⟩

theorem markNode_spec {w0 : World} {Γ Δ0 Δ1 Δ2 : List Atom} {x : SNode} {v0 v1 v2 : Value} {m : Int} [h0 : PullOw (List Int) repList Γ [v0] x.2.1 Δ0] [h1 : PullOw (List (List Int)) repList Δ0 [v1] x.2.2.1 Δ1] [h2 : PullOw (List Int) repList Δ1 [v2] x.2.2.2 Δ2] (hm : 0 ≤ m ∧ m + cntL x.2.1 + cntL x.2.2.1 + cntL x.2.2.2 ≤ 4611686018427387904) :
    CJ Tryz.prog 11 [.agg #[.int .i64 x.1, v0, v1, v2], .int .i64 m] w0 Γ (fun _ : Unit => .int .i64 (m + cntL x.2.1 + cntL x.2.2.1 + cntL x.2.2.2)) (fun _ => .ow [v0] (mkL x.2.1 (m)) :: .ow [v1] (mkL x.2.2.1 (m + cntL x.2.1)) :: .ow [v2] (mkL x.2.2.2 (m + cntL x.2.1 + cntL x.2.2.1)) :: Δ2) := by
  refine cj_perm (Γ' := .ow [v0] x.2.1 :: .ow [v1] x.2.2.1 :: .ow [v2] x.2.2.2 :: Δ2) (h0.perm.trans ((h1.perm.trans ((h2.perm).cons _)).cons _)) ?_
  refine cj_enter Tryz.func11 Tryz.ntmps11 ?_
  repeat' (first | refine red ?_ | refine redf fun hbi => ?_ | refine reds ?_ | refine redc fun r => ?_ | refine redp (fun r => ?_) (fun r => ?_) | refine redv fun sv => ?_ | refine redn fun b => ?_ | refine redz fun zs => ?_ | refine redq (fun hc => ?_) (fun hc => ?_) | with_reducible refine wq_blk_o rfl ?_ | (refine redi (fun hc => ?_) (fun hc => ?_) <;> try first | (exfalso; omega) | exact absurd rfl hc) | fail)
  all_goals exact ⟨(), rfl, ent_e⟩
instance markNode_ctr {Γ Δ0 Δ1 Δ2 : List Atom} {x : SNode} {v0 v1 v2 : Value} {m : Int} [h0 : PullOw (List Int) repList Γ [v0] x.2.1 Δ0] [h1 : PullOw (List (List Int)) repList Δ0 [v1] x.2.2.1 Δ1] [h2 : PullOw (List Int) repList Δ1 [v2] x.2.2.2 Δ2] :
    CtrC Tryz.prog 11 [.agg #[.int .i64 x.1, v0, v1, v2], .int .i64 m] Γ (0 ≤ m ∧ m + cntL x.2.1 + cntL x.2.2.1 + cntL x.2.2.2 ≤ 4611686018427387904) (Unit) (fun _ : Unit => .int .i64 (m + cntL x.2.1 + cntL x.2.2.1 + cntL x.2.2.2)) (fun _ => .ow [v0] (mkL x.2.1 (m)) :: .ow [v1] (mkL x.2.2.1 (m + cntL x.2.1)) :: .ow [v2] (mkL x.2.2.2 (m + cntL x.2.1 + cntL x.2.2.1)) :: Δ2) := ⟨fun s w0 => markNode_spec s⟩

theorem heldNode_spec {w0 : World} {Γ : List Atom} {x : SNode} {v0 v1 v2 : Value} {m : Int} [h0 : HasRd (List Int) repList Γ [v0] (mkL x.2.1 (m))] [h1 : HasRd (List (List Int)) repList Γ [v1] (mkL x.2.2.1 (m + cntL x.2.1))] [h2 : HasRd (List Int) repList Γ [v2] (mkL x.2.2.2 (m + cntL x.2.1 + cntL x.2.2.1))] (hm : 0 ≤ m ∧ m + cntL x.2.1 + cntL x.2.2.1 + cntL x.2.2.2 ≤ 4611686018427387904) :
    CJ Tryz.prog 12 [.agg #[.int .i64 x.1, v0, v1, v2], .int .i64 m] w0 Γ (fun _ : Unit => .int .i64 (m + cntL x.2.1 + cntL x.2.2.1 + cntL x.2.2.2)) (fun _ => Γ) := by
  refine cj_enter Tryz.func12 Tryz.ntmps12 ?_
  repeat' (first | refine red ?_ | refine redf fun hbi => ?_ | refine reds ?_ | refine redc fun r => ?_ | refine redp (fun r => ?_) (fun r => ?_) | refine redv fun sv => ?_ | refine redn fun b => ?_ | refine redz fun zs => ?_ | refine redq (fun hc => ?_) (fun hc => ?_) | with_reducible refine wq_blk_o rfl ?_ | (refine redi (fun hc => ?_) (fun hc => ?_) <;> try first | (exfalso; omega) | exact absurd rfl hc) | fail)
  all_goals exact ⟨(), rfl, ent_e⟩
instance heldNode_ctr {Γ : List Atom} {x : SNode} {v0 v1 v2 : Value} {m : Int} [h0 : HasRd (List Int) repList Γ [v0] (mkL x.2.1 (m))] [h1 : HasRd (List (List Int)) repList Γ [v1] (mkL x.2.2.1 (m + cntL x.2.1))] [h2 : HasRd (List Int) repList Γ [v2] (mkL x.2.2.2 (m + cntL x.2.1 + cntL x.2.2.1))] :
    CtrC Tryz.prog 12 [.agg #[.int .i64 x.1, v0, v1, v2], .int .i64 m] Γ (0 ≤ m ∧ m + cntL x.2.1 + cntL x.2.2.1 + cntL x.2.2.2 ≤ 4611686018427387904) (Unit) (fun _ : Unit => .int .i64 (m + cntL x.2.1 + cntL x.2.2.1 + cntL x.2.2.2)) (fun _ => Γ) := ⟨fun s w0 => heldNode_spec s⟩

end Go.Proofs.YtogmjihokkdcfaaGreatDoor
