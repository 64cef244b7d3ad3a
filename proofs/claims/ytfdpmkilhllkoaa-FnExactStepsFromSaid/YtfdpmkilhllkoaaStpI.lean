/- All steps from a term: the program. -/
import Derived.Test.YtfdpmkilhllkoaaRfun
import Derived.Test.YtfdpmkilhllkoaaStpS
namespace Go.Proofs.Ytfdpmkilhllkoaa
open Go Go.Eng
set_option linter.unusedVariables false
set_option linter.unusedSimpArgs false
set_option synthInstance.maxHeartbeats 400000
set_option synthInstance.maxSize 1000
set_option maxHeartbeats 2000000
set_option maxRecDepth 20000
/-- What is yielded: place, rule, what comes of it. -/
abbrev SD : Type := Int × Int × Option (List Int)
def encD (d : SD) (v : Value) : List Value := [.agg #[.int .i64 d.1, .int .i64 d.2.1, v], .bool d.2.2.isSome]
def ownD (d : SD) : List Int := d.2.2.getD []
def okD (ys : List SD) (d : SD) : Prop := ys.length < 1000 ∧ 0 ≤ d.1 ∧ d.1 < 1000 ∧ 0 ≤ d.2.1 ∧ d.2.1 < 1000
def redB (x : SSystem) (t : List Int) (k r : Nat) : Bool := decide (0 ≤ t.getD k 0) && redOf x t k r
def dR (x : SSystem) (t : List Int) (k : Nat) : Nat → List SD
  | 0 => []
  | r + 1 => dR x t k r ++ (if redB x t k r = true then [((k : Int), (r : Int), stepOf x t k r)] else [])
def dK (x : SSystem) (t : List Int) : Nat → List SD
  | 0 => []
  | k + 1 => dK x t k ++ dR x t k x.2.length
theorem dR_len (x : SSystem) (t : List Int) (k : Nat) : ∀ r, (dR x t k r).length ≤ r
  | 0 => Nat.le_refl _
  | r + 1 => by
    have := dR_len x t k r
    rw [dR, List.length_append]
    split <;> simp <;> omega
theorem dK_len (x : SSystem) (t : List Int) (n : Nat) (hn : x.2.length ≤ n) : ∀ k, (dK x t k).length ≤ k * n
  | 0 => by simp [dK]
  | k + 1 => by
    have h1 := dK_len x t n hn k
    have h2 := dR_len x t k x.2.length
    rw [dK, List.length_append, Nat.add_mul, Nat.one_mul]
    omega
theorem redexSteps_spec {w0 : World} {Γ : List Atom} {v0 v1 v : Value} {x : SSystem} {t : List Int} [h0 : HasRd (List Int) repList Γ [v0] x.1] [h1 : HasRd (List SRule) repList Γ [v1] x.2] [h2 : HasRd (List Int) repList Γ [v] t] :
    CJ Try.prog 133 [.agg #[v0, v1], v] w0 Γ (fun b : Nat × Nat => .func (.func 177) #[] #[.pointer (some ⟨b.1, 0, none⟩), .pointer (some ⟨b.2, 0, none⟩)]) (fun b => .bk b.1 [v] :: .bk b.2 [v0, v1] :: Γ) := by
  refine cj_enter Try.func133 Try.ntmps133 ?_
  repeat' (first | refine red ?_ | refine redf fun hbi => ?_ | refine reds ?_ | refine redc fun r => ?_ | refine redp (fun r => ?_) (fun r => ?_) | refine redv fun sv => ?_ | refine redn fun b => ?_ | refine redz fun zs => ?_ | refine redq (fun hc => ?_) (fun hc => ?_) | with_reducible refine wq_blk_o rfl ?_ | (refine redi (fun hc => ?_) (fun hc => ?_) <;> try first | (exfalso; omega) | exact absurd rfl hc) | fail)
  rename_i b2
  exact ⟨(b, b2), rfl, ent_e⟩
instance redexSteps_ctr {Γ : List Atom} {v0 v1 v : Value} {x : SSystem} {t : List Int} [h0 : HasRd (List Int) repList Γ [v0] x.1] [h1 : HasRd (List SRule) repList Γ [v1] x.2] [h2 : HasRd (List Int) repList Γ [v] t] :
    CtrC Try.prog 133 [.agg #[v0, v1], v] Γ (True) (Nat × Nat) (fun b : Nat × Nat => .func (.func 177) #[] #[.pointer (some ⟨b.1, 0, none⟩), .pointer (some ⟨b.2, 0, none⟩)]) (fun b => .bk b.1 [v] :: .bk b.2 [v0, v1] :: Γ) := ⟨fun s w0 => redexSteps_spec⟩

theorem redexSteps1_it {w0 : World} {ι : Type} {L b1 b2 : Nat} {v0 v1 v : Value} {x : SSystem} {t : List Int} {Gt : ι → List Atom} {Inv : List SD → ι → Prop} {i0 : ι} (hY : YieldC Try.prog L w0 encD ownD okD [.bk b1 [v], .bk b2 [v0, v1], .rd [v0] x.1, .rd [v1] x.2, .rd [v] t] Gt Inv)
    (hs1 : sysOk x = true) (hs2 : termOk x.1 t = true) (hi0 : Inv [] i0) :
    CJ Try.prog 177 [.func (.yield L) #[] #[], .pointer (some ⟨b1, 0, none⟩), .pointer (some ⟨b2, 0, none⟩)] w0 ([.bk b1 [v], .bk b2 [v0, v1], .rd [v0] x.1, .rd [v1] x.2, .rd [v] t] ++ Gt i0) (fun _ : { i : ι // Inv (dK x t t.length) i } => .tuple #[]) (fun q => [.bk b1 [v], .bk b2 [v0, v1], .rd [v0] x.1, .rd [v1] x.2, .rd [v] t] ++ Gt q.1) := by
  have hl1 := (sysOk_iff.1 hs1).1.2
  have hl := termOk_len hs2
  simp only [List.cons_append, List.nil_append] at hY ⊢
  refine cj_enter Try.func177 Try.ntmps177 ?_
  repeat' (first | refine red ?_ | refine redf fun hbi => ?_ | refine reds ?_ | refine redc fun r => ?_ | refine redp (fun r => ?_) (fun r => ?_) | refine redv fun sv => ?_ | refine redn fun b => ?_ | refine redz fun zs => ?_ | refine redq (fun hc => ?_) (fun hc => ?_) | with_reducible refine wq_blk_o rfl ?_ | (refine redi (fun hc => ?_) (fun hc => ?_) <;> try first | (exfalso; omega) | exact absurd rfl hc) | fail)
  refine wc_loop [11] [12, 13, 14, 15, 4, 5, 16, 17, 18, 19, 20, 21, 6, 22, 23, 24, 25, 26, 27, 28, 29, 30, 31, 33, 34, 35, 36, 37, 32, 38, 39, 7, 8, 40, 41, 42, 43, 44, 45, 46, 47, 48, 49] (ι := Nat × ι) (fun s => [.int .i64 s.1]) (fun s => .bk b1 [v] :: .bk b2 [v0, v1] :: .rd [v0] x.1 :: .rd [v1] x.2 :: .rd [v] t :: Gt s.2) (fun s => s.1 ≤ t.length ∧ Inv (dK x t s.1) s.2) (fun s => t.length - s.1) (0, i0) (by kernel_rfl) ⟨Nat.zero_le _, hi0⟩ (fun _ h => h) ?_
  intro ⟨k, i⟩ u l' hl' ⟨hk, hik⟩
  simp only [patch, List.map_cons, List.map_nil, List.set_cons_zero, List.set_cons_succ] at hl'
  subst hl'
  simp only at hk hik ⊢
  have hkl := dK_len x t 12 hl1 k
  by_cases hkt : k < t.length
  · repeat' (first | refine red ?_ | refine redf fun hbi => ?_ | refine reds ?_ | refine redc fun r => ?_ | refine redp (fun r => ?_) (fun r => ?_) | refine redv fun sv => ?_ | refine redn fun b => ?_ | refine redz fun zs => ?_ | refine redq (fun hc => ?_) (fun hc => ?_) | with_reducible refine wq_blk_o rfl ?_ | (refine redi (fun hc => ?_) (fun hc => ?_) <;> try first | (exfalso; omega) | exact absurd rfl hc) | fail)
    refine wc_loop [19] [20, 21, 6, 22, 23, 24, 25, 26, 27, 28, 29, 30, 31, 33, 34, 35, 36, 37, 32, 38, 39, 7, 8, 40, 41, 42, 43, 44, 45, 46, 47, 48] (ι := Nat × ι) (fun s => [.int .i64 s.1]) (fun s => .bk b1 [v] :: .bk b2 [v0, v1] :: .rd [v0] x.1 :: .rd [v1] x.2 :: .rd [v] t :: Gt s.2) (fun s => s.1 ≤ x.2.length ∧ Inv (dK x t k ++ dR x t k s.1) s.2) (fun s => x.2.length - s.1) (0, i) (by kernel_rfl) ⟨Nat.zero_le _, by simpa [dR] using hik⟩ (fun _ h => h) ?_
    intro ⟨j, i⟩ u2 l2 hl2 ⟨hj, hij⟩
    simp only [patch, List.map_cons, List.map_nil, List.set_cons_zero, List.set_cons_succ] at hl2
    subst hl2
    simp only at hj hij ⊢
    have hjl := dR_len x t k j
    by_cases hjt : j < x.2.length
    · have hP : RedP x t k j := ⟨hs1, ⟨hs2, by omega, by omega⟩, by omega, by omega⟩
      have hno : redB x t k j = false → dK x t k ++ dR x t k j = dK x t k ++ dR x t k (j + 1) := fun h => by
        have e : dR x t k (j + 1) = dR x t k j ++ (if redB x t k j = true then [((k : Int), (j : Int), stepOf x t k j)] else []) := rfl
        rw [e, h]; simp
      have hye : redB x t k j = true → dK x t k ++ dR x t k j ++ [((k : Int), (j : Int), stepOf x t k j)] = dK x t k ++ dR x t k (j + 1) := fun h => by
        have e : dR x t k (j + 1) = dR x t k j ++ (if redB x t k j = true then [((k : Int), (j : Int), stepOf x t k j)] else []) := rfl
        rw [e, h, if_pos rfl, List.append_assoc]
      haveI hy8 : ∀ (Q : Exit → Act → World → Prop) (l : List Value) (Γ : List Atom) (ol : List Oper), Red (WC Try.prog Q w0 (.region 8 ol.toArray false) l Γ) (WL Try.prog ol.toArray (YQ Try.prog ol.toArray Q (ol.drop 6)) w0 (ol.take 6) l Γ) := fun _ _ _ _ => ⟨fun h => wc_yield 6 h⟩
      repeat' (first | refine red ?_ | refine redf fun hbi => ?_ | refine reds ?_ | refine redc fun r => ?_ | refine redp (fun r => ?_) (fun r => ?_) | refine redv fun sv => ?_ | refine redn fun b => ?_ | refine redz fun zs => ?_ | refine redq (fun hc => ?_) (fun hc => ?_) | with_reducible refine wq_blk_o rfl ?_ | (refine redi (fun hc => ?_) (fun hc => ?_) <;> try first | (exfalso; omega) | exact absurd rfl hc) | fail)
      · rw [hno (by unfold redB; rw [decide_eq_false (by omega)]; rfl)] at hij
        exact wq_next (j + 1, i) ⟨by simp only; omega, hij⟩ (by simp only; omega) (by kernel_rfl) (fun _ h => h)
      · rw [hno (by unfold redB; rw [hc, Bool.and_false])] at hij
        exact wq_next (j + 1, i) ⟨by simp only; omega, hij⟩ (by simp only; omega) (by kernel_rfl) (fun _ h => h)
      · simp only [Int.toNat_natCast] at *
        have hred : redB x t k j = true := by unfold redB; rw [hc, decide_eq_true (by omega)]; rfl
        refine wq_yield hY (ys := dK x t k ++ dR x t k j) (dd := ((k : Int), (j : Int), stepOf x t k j)) (v := r) (i := i) ⟨by rw [List.length_append]; omega, by simp only; omega, by simp only; omega, by simp only; omega, by simp only; omega⟩ hij rfl (fun _ h => h) fun i' hi' => ?_
        rw [hye hred] at hi'
        repeat' (first | refine red ?_ | refine redf fun hbi => ?_ | refine reds ?_ | refine redc fun r => ?_ | refine redp (fun r => ?_) (fun r => ?_) | refine redv fun sv => ?_ | refine redn fun b => ?_ | refine redz fun zs => ?_ | refine redq (fun hc => ?_) (fun hc => ?_) | with_reducible refine wq_blk_o rfl ?_ | (refine redi (fun hc => ?_) (fun hc => ?_) <;> try first | (exfalso; omega) | exact absurd rfl hc) | fail)
        · cases hc
        · exact wq_next (j + 1, i') ⟨by simp only; omega, hi'⟩ (by simp only; omega) (by kernel_rfl) (fun _ h => h)
    · obtain rfl : j = x.2.length := by omega
      repeat' (first | refine red ?_ | refine redf fun hbi => ?_ | refine reds ?_ | refine redc fun r => ?_ | refine redp (fun r => ?_) (fun r => ?_) | refine redv fun sv => ?_ | refine redn fun b => ?_ | refine redz fun zs => ?_ | refine redq (fun hc => ?_) (fun hc => ?_) | with_reducible refine wq_blk_o rfl ?_ | (refine redi (fun hc => ?_) (fun hc => ?_) <;> try first | (exfalso; omega) | exact absurd rfl hc) | fail)
      exact wq_next (k + 1, i) ⟨by simp only; omega, hij⟩ (by simp only; omega) (by kernel_rfl) (fun _ h => h)
  · obtain rfl : k = t.length := by omega
    repeat' (first | refine red ?_ | refine redf fun hbi => ?_ | refine reds ?_ | refine redc fun r => ?_ | refine redp (fun r => ?_) (fun r => ?_) | refine redv fun sv => ?_ | refine redn fun b => ?_ | refine redz fun zs => ?_ | refine redq (fun hc => ?_) (fun hc => ?_) | with_reducible refine wq_blk_o rfl ?_ | (refine redi (fun hc => ?_) (fun hc => ?_) <;> try first | (exfalso; omega) | exact absurd rfl hc) | fail)
    exact ⟨⟨i, hik⟩, rfl, fun _ h => h⟩
/-- The steps among what was yielded. -/
def stD (d : SD) : Option SStep := d.2.2.map fun b => (d.1, d.2.1, b)
theorem red_no {x : SSystem} {t : List Int} {k r : Nat} (hs : sysOk x = true) (ht : termOk x.1 t = true) (hk : k < t.length) (hr : r < x.2.length) (h : redB x t k r = false) : stepOf x t k r = none := by
  unfold redB at h
  rw [Bool.and_eq_false_iff] at h
  rcases h with h | h
  · exact step_no (var_no hs ht hk hr (by have := of_decide_eq_false h; omega))
  · exact step_no h
theorem dR_steps {x : SSystem} {t : List Int} {k : Nat} (hs : sysOk x = true) (ht : termOk x.1 t = true) (hk : k < t.length) : ∀ r, r ≤ x.2.length → (dR x t k r).filterMap stD = stepsR x t k r
  | 0, _ => rfl
  | r + 1, hr => by
    rw [dR, stepsR, List.filterMap_append, dR_steps hs ht hk r (by omega)]
    congr 1
    cases h : redB x t k r with
    | false => rw [red_no hs ht hk (by omega) h]; rfl
    | true =>
      rw [if_pos rfl]
      cases stepOf x t k r with
      | none => rfl
      | some b => rfl
theorem dK_steps {x : SSystem} {t : List Int} (hs : sysOk x = true) (ht : termOk x.1 t = true) : ∀ k, k ≤ t.length → (dK x t k).filterMap stD = stepsK x t k
  | 0, _ => rfl
  | k + 1, hk => by
    rw [dK, stepsK, List.filterMap_append, dK_steps hs ht k (by omega), dR_steps hs ht (by omega) _ (Nat.le_refl _)]
theorem stepsFrom_spec {w0 : World} {Γ : List Atom} {v0 v1 v : Value} {x : SSystem} {t : List Int} [h0 : HasRd (List Int) repList Γ [v0] x.1] [h1 : HasRd (List SRule) repList Γ [v1] x.2] [h2 : HasRd (List Int) repList Γ [v] t] (hs : sysOk x = true ∧ termOk x.1 t = true) :
    CJ Try.prog 82 [.agg #[v0, v1], v] w0 Γ (fun q : Value × Bool => .tuple #[q.1, .bool q.2]) (fun q => .ow [q.1] (stepsK x t t.length) :: Γ) := by
  refine cj_lift (R := [.rd [v0] x.1, .rd [v1] x.2, .rd [v] t]) (A := fun q : Value × Bool => [.ow [q.1] (stepsK x t t.length)]) (fun w1 => ?_) (reads_cons h0 (reads_cons h1 (reads_cons h2 (inferInstance)))) (fun _ => inferInstance)
  simp only [List.cons_append, List.nil_append]
  refine cj_enter_m Try.func82 Try.ntmps82 ?_
  obtain ⟨hs1, hs2⟩ := hs
  have hall := dK_steps hs1 hs2 t.length (Nat.le_refl _)
  repeat' (first | refine red ?_ | refine redf fun hbi => ?_ | refine reds ?_ | refine redc fun r => ?_ | refine redp (fun r => ?_) (fun r => ?_) | refine redv fun sv => ?_ | refine redn fun b => ?_ | refine redz fun zs => ?_ | refine redq (fun hc => ?_) (fun hc => ?_) | with_reducible refine wq_blk_o rfl ?_ | (refine redi (fun hc => ?_) (fun hc => ?_) <;> try first | (exfalso; omega) | exact absurd rfl hc) | fail)
  rename_i bs bo
  refine wc_rangeFunc encD ownD okD (fun ys (i : Value × List SStep × Bool) => i.2.1 = ys.filterMap stD) (dK x t t.length) [.bk r.1 [v], .bk r.2 [v0, v1], .rd [v0] x.1, .rd [v1] x.2, .rd [v] t] (fun i => [.bk bo [i.1], .ow [i.1] i.2.1, .bk b [.bool i.2.2], .bk bs [v0, v1]]) (.slice none 0 0, [], false) (.tuple #[]) (fun _ _ => rfl) rfl ?_ ?_ ?_ ?_
  · simp only [List.cons_append, List.nil_append]
    exact ent_e
  · intro L rr hY
    exact redexSteps1_it hY hs1 hs2 rfl
  · intro L rr R ys ⟨da, dr, dd⟩ dv ⟨sv, acc, lg⟩ hst hok hinv hR
    simp only [encD, ownD, lrOf, GtR, List.zip_cons_cons, List.zip_nil_right, List.foldl_cons, List.foldl_nil, List.set_cons_succ, List.set_cons_zero, List.cons_append, List.nil_append] at hR ⊢
    obtain ⟨hk1, hk2, hk3, hk4, hk5⟩ := hok
    simp only at hk1 hk2 hk3 hk4 hk5 hinv
    have hacc : acc.length ≤ 1000 := by
      rw [hinv]; exact Nat.le_trans (List.length_filterMap_le _ _) (by omega)
    repeat' (first | refine red ?_ | refine redf fun hbi => ?_ | refine reds ?_ | refine redc fun r => ?_ | refine redp (fun r => ?_) (fun r => ?_) | refine redv fun sv => ?_ | refine redn fun b => ?_ | refine redz fun zs => ?_ | refine redq (fun hc => ?_) (fun hc => ?_) | with_reducible refine wq_blk_o rfl ?_ | (refine redi (fun hc => ?_) (fun hc => ?_) <;> try first | (exfalso; omega) | exact absurd rfl hc) | fail)
    refine wq_begin hst ?_
    rw [hst] at hR
    repeat' (first | refine red ?_ | refine redf fun hbi => ?_ | refine reds ?_ | refine redc fun r => ?_ | refine redp (fun r => ?_) (fun r => ?_) | refine redv fun sv => ?_ | refine redn fun b => ?_ | refine redz fun zs => ?_ | refine redq (fun hc => ?_) (fun hc => ?_) | with_reducible refine wq_blk_o rfl ?_ | (refine redi (fun hc => ?_) (fun hc => ?_) <;> try first | (exfalso; omega) | exact absurd rfl hc) | fail)
    · refine wq_round fun w hw => hR (sv, acc ++ [(da, dr, dd.getD [])], lg) ?_ w ((ent_e : Ent w1 _ _) w hw)
      cases dd with
      | none => cases hc
      | some u => simp only [List.filterMap_append, ← hinv]; rfl
    · refine wq_round fun w hw => hR (sv, acc, true) ?_ w ((ent_e : Ent w1 _ _) w hw)
      cases dd with
      | none => simp only [List.filterMap_append, ← hinv]; exact (List.append_nil _).symm
      | some u => cases hc
  · intro db ⟨sv, acc, lg⟩ hinv
    simp only [List.cons_append, List.nil_append] at hinv ⊢
    rw [hall] at hinv
    subst hinv
    refine wq_behind ?_
    refine red ?_
    refine red ?_
    refine red ?_
    refine wd_still (by decide +kernel) ?_
    repeat' (first | refine red ?_ | refine redf fun hbi => ?_ | refine reds ?_ | refine redc fun r => ?_ | refine redp (fun r => ?_) (fun r => ?_) | refine redv fun sv => ?_ | refine redn fun b => ?_ | refine redz fun zs => ?_ | refine redq (fun hc => ?_) (fun hc => ?_) | with_reducible refine wq_blk_o rfl ?_ | (refine redi (fun hc => ?_) (fun hc => ?_) <;> try first | (exfalso; omega) | exact absurd rfl hc) | fail)
    exact ⟨(sv, lg), rfl, ent_e⟩
instance stepsFrom_ctr {Γ : List Atom} {v0 v1 v : Value} {x : SSystem} {t : List Int} [h0 : HasRd (List Int) repList Γ [v0] x.1] [h1 : HasRd (List SRule) repList Γ [v1] x.2] [h2 : HasRd (List Int) repList Γ [v] t] :
    CtrC Try.prog 82 [.agg #[v0, v1], v] Γ (sysOk x = true ∧ termOk x.1 t = true) (Value × Bool) (fun q : Value × Bool => .tuple #[q.1, .bool q.2]) (fun q => .ow [q.1] (stepsK x t t.length) :: Γ) := ⟨fun s w0 => stepsFrom_spec s⟩

theorem impl_StepsFrom_spec {w0 : World} {Γ : List Atom} {v0 v1 v : Value} {x : SSystem} {t : List Int} [h0 : HasRd (List Int) repList Γ [v0] x.1] [h1 : HasRd (List SRule) repList Γ [v1] x.2] [h2 : HasRd (List Int) repList Γ [v] t] : CJ Try.prog 33 [.agg #[v0, v1], v] w0 Γ (fun q : Value => q) (fun q => .ow [q] (stepsOf x t) :: Γ) := by
  refine cj_enter Try.func33 Try.ntmps33 ?_
  repeat' (first | refine red ?_ | refine redf fun hbi => ?_ | refine reds ?_ | refine redc fun r => ?_ | refine redp (fun r => ?_) (fun r => ?_) | refine redv fun sv => ?_ | refine redn fun b => ?_ | refine redz fun zs => ?_ | refine redq (fun hc => ?_) (fun hc => ?_) | with_reducible refine wq_blk_o rfl ?_ | (refine redi (fun hc => ?_) (fun hc => ?_) <;> try first | (exfalso; omega) | exact absurd rfl hc) | fail)
  · rw [show stepsOf x t = [] from if_neg (fun h => by rw [h.1] at hc; cases hc)]
    exact ⟨_, rfl, ent_e⟩
  · rw [show stepsOf x t = [] from if_neg (fun h => by rw [h.2] at hc; cases hc)]
    exact ⟨_, rfl, ent_e⟩
  · rw [show stepsOf x t = stepsK x t t.length from if_pos ⟨by assumption, hc⟩]
    exact ⟨_, rfl, ent_e⟩
instance impl_StepsFrom_ctr {Γ : List Atom} {v0 v1 v : Value} {x : SSystem} {t : List Int} [h0 : HasRd (List Int) repList Γ [v0] x.1] [h1 : HasRd (List SRule) repList Γ [v1] x.2] [h2 : HasRd (List Int) repList Γ [v] t] :
    CtrC Try.prog 33 [.agg #[v0, v1], v] Γ (True) (Value) (fun q : Value => q) (fun q => .ow [q] (stepsOf x t) :: Γ) := ⟨fun s w0 => impl_StepsFrom_spec⟩

theorem sumL_steps {m : Nat} : ∀ (xs : List SStep), (∀ s ∈ xs, s.2.2.length ≤ m) → sumL xs ≤ m * xs.length
  | [], _ => Nat.zero_le _
  | x :: xs, h => by
    have h1 := h x List.mem_cons_self
    have h2 := sumL_steps xs fun t ht => h t (List.mem_cons_of_mem _ ht)
    have h3 : Siz.size x = x.2.2.length := by
      rw [siz_pair, siz_pair, siz_ints]
      show 0 + (0 + x.2.2.length) = _
      omega
    simp only [sumL, List.length_cons, Nat.mul_add, Nat.mul_one]
    omega
theorem stepsOf_cnt (x : SSystem) (t : List Int) : cntL (stepsOf x t) ≤ 200000 := by
  have h0 := cntL_le (stepsOf x t)
  rw [siz_list] at h0
  have h1 : (stepsOf x t).length ≤ 720 ∧ ∀ s ∈ stepsOf x t, s.2.2.length ≤ 60 := by
    unfold stepsOf
    split
    · rename_i h
      have h1 := stepsK_len x t 12 (sysOk_iff.1 h.1).1.2 t.length
      have h2 := (termOk_len h.2).2
      refine ⟨by omega, fun s hs => ?_⟩
      obtain ⟨i, j, _, _, h3⟩ := stepsK_mem hs
      have := stepOf_le x t i j
      rw [h3] at this
      exact this
    · exact ⟨Nat.zero_le _, fun s hs => by cases hs⟩
  have h2 := sumL_steps _ h1.2
  omega
set_option maxHeartbeats 0 in
set_option synthInstance.maxHeartbeats 400000 in
set_option synthInstance.maxSize 1000 in
theorem FnExactStepsFrom_law {w0 : World} {Γ : List Atom} {x0 : SSystem} {x1 : List Int} {v0_0 v0_1 v1_0 : Value} [h0_0 : HasRd (List Int) repList Γ [v0_0] x0.1] [h0_1 : HasRd (List SRule) repList Γ [v0_1] x0.2] [h1_0 : HasRd (List Int) repList Γ [v1_0] x1] (hf0 : (x0.1.length ≤ 9223372036854775807) ∧ x0.2.length ≤ 9223372036854775807) (hf1 : x1.length ≤ 9223372036854775807) :
    CJ Try.prog 5 [.agg #[v0_0, v0_1], v1_0] w0 Γ (fun _ : Unit => .bool true) (fun _ => Γ) := by
  have hz0 := lft_spec 1048576 (Siz.size x0)
  have hs0 : Siz.size x0 = Siz.size x0.1 + Siz.size x0.2 := by simp only [siz_pair, siz_int, siz_bool, siz_str] <;> omega
  have hb0_0 := cntL_le x0.1
  have hl0_0 := siz_ints x0.1
  have hb0_1 := cntL_le x0.2
  have hb1_0 := cntL_le x1
  have hl1_0 := siz_ints x1
  have hn := stepsOf_cnt x0 x1
  refine cj_enter Try.func5 Try.ntmps5 ?_
  repeat' (first | refine red ?_ | refine redf fun hbi => ?_ | refine reds ?_ | refine redc fun r => ?_ | refine redp (fun r => ?_) (fun r => ?_) | refine redv fun sv => ?_ | refine redn fun b => ?_ | refine redz fun zs => ?_ | refine redq (fun hc => ?_) (fun hc => ?_) | with_reducible refine wq_blk_o rfl ?_ | (refine redi (fun hc => ?_) (fun hc => ?_) <;> try first | (exfalso; omega) | exact absurd rfl hc) | ((refine wa_begin 13 [false, false, false, false, false] [] ?_ <;> (first | refine wa_f 0 fun hbi => ?_ | refine wa_p 0 ?_ | fail) <;> (first | refine wa_f 1 fun hbi => ?_ | refine wa_p 1 ?_ | (refine wa_do 1 ?_ <;> (repeat' (first | refine red ?_ | refine redc fun r => ?_ | refine redv fun sv => ?_ | refine redf fun hbi => ?_ | refine redn fun b => ?_ | refine reds ?_ | refine redi (fun hc => ?_) (fun hc => ?_) | refine redq (fun hc => ?_) (fun hc => ?_) | refine redp (fun r => ?_) (fun r => ?_) | fail))) | fail) <;> (refine wa_do 2 ?_ <;> (repeat' (first | refine red ?_ | refine redc fun r => ?_ | refine redv fun sv => ?_ | refine redf fun hbi => ?_ | refine redn fun b => ?_ | refine reds ?_ | refine redi (fun hc => ?_) (fun hc => ?_) | refine redq (fun hc => ?_) (fun hc => ?_) | refine redp (fun r => ?_) (fun r => ?_) | fail))) <;> (refine wa_do 3 ?_ <;> (repeat' (first | refine red ?_ | refine redc fun r => ?_ | refine redv fun sv => ?_ | refine redf fun hbi => ?_ | refine redn fun b => ?_ | refine reds ?_ | refine redi (fun hc => ?_) (fun hc => ?_) | refine redq (fun hc => ?_) (fun hc => ?_) | refine redp (fun r => ?_) (fun r => ?_) | fail))) <;> (first | refine wa_p 4 ?_ | refine wa_p0 4 ?_ | (refine wa_do 4 ?_ <;> (repeat' (first | refine red ?_ | refine redc fun r => ?_ | refine redv fun sv => ?_ | refine redf fun hbi => ?_ | refine redn fun b => ?_ | refine reds ?_ | refine redi (fun hc => ?_) (fun hc => ?_) | refine redq (fun hc => ?_) (fun hc => ?_) | refine redp (fun r => ?_) (fun r => ?_) | fail))) | fail)) <;> (first | refine wa_end ?_ | with_reducible refine wq_keep ?_)) | fail)
  all_goals exact ⟨(), rfl, ent_e⟩

end Go.Proofs.Ytfdpmkilhllkoaa