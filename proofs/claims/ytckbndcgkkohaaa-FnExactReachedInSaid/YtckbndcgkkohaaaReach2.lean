/- The states that are reached: the reference's side, and the law. -/
import Derived.Test.YtckbndcgkkohaaaReach
namespace Go.Proofs.Ytckbndcgkkohaaa
open Go Go.Eng
set_option linter.unusedVariables false
set_option linter.unusedSimpArgs false
set_option synthInstance.maxHeartbeats 400000
set_option synthInstance.maxSize 1000

theorem sorted_ext : ∀ {xs ys : List Int}, xs.Pairwise (· < ·) → ys.Pairwise (· < ·) → (∀ q, q ∈ xs ↔ q ∈ ys) → xs = ys
  | [], [], _, _, _ => rfl
  | [], y :: ys, _, _, h => absurd ((h y).2 (by simp)) (by simp)
  | x :: xs, [], _, _, h => absurd ((h x).1 (by simp)) (by simp)
  | x :: xs, y :: ys, hx, hy, h => by
    have hx' := List.pairwise_cons.1 hx
    have hy' := List.pairwise_cons.1 hy
    have hxy : x = y := by
      rcases List.mem_cons.1 ((h x).1 (by simp)) with e | e
      · exact e
      rcases List.mem_cons.1 ((h y).2 (by simp)) with e2 | e2
      · exact e2.symm
      have h1 := hy'.1 x e
      have h2 := hx'.1 y e2
      omega
    subst hxy
    congr 1
    refine sorted_ext hx'.2 hy'.2 (fun q => ⟨fun hq => ?_, fun hq => ?_⟩)
    · rcases List.mem_cons.1 ((h q).1 (List.mem_cons_of_mem _ hq)) with e | e
      · have := hx'.1 q hq; omega
      · exact e
    · rcases List.mem_cons.1 ((h q).2 (List.mem_cons_of_mem _ hq)) with e | e
      · have := hy'.1 q hq; omega
      · exact e
theorem sorted_len {xs : List Int} (h : xs.Pairwise (· < ·)) (hr : ∀ q ∈ xs, 0 ≤ q ∧ q < 16) : xs.length ≤ 16 := by
  have hp := List.pairwise_iff_getElem.1 h
  have : SetP 16 xs xs.length := fun i hi => ⟨hr _ (getK hi), fun h0 => by
    rw [List.getD_eq_getElem?_getD, List.getD_eq_getElem?_getD, List.getElem?_eq_getElem hi, List.getElem?_eq_getElem (by omega)]
    exact hp (i - 1) i (by omega) hi (by omega)⟩
  have := setP_len this (by omega)
  omega
theorem rch_in {rs : List STrans} (h : InS rs) : ∀ q, Rch rs q → 0 ≤ q ∧ q < 16 := by
  intro q hq
  cases hq with
  | mk t ht _ => exact (h t ht).2
theorem reachL_of {rs : List STrans} {xs : List Int} (hi : InS rs) (h : xs.Pairwise (· < ·)) (hm : ∀ q, q ∈ xs ↔ Rch rs q) : xs = reachL rs := by
  refine sorted_ext h ?_ (fun q => ?_)
  · unfold reachL
    refine List.Pairwise.map _ (fun a b (hab : a < b) => ?_) (List.Pairwise.filter _ List.pairwise_lt_range)
    show (a : Int) < (b : Int)
    omega
  · rw [hm]
    unfold reachL
    rw [List.mem_map]
    constructor
    · intro hq
      have := rch_in hi q hq
      refine ⟨q.toNat, ?_, ?_⟩
      · rw [List.mem_filter, decC_iff, List.mem_range]
        refine ⟨by omega, ?_⟩
        rw [show Int.ofNat q.toNat = q by show ((q.toNat : Nat) : Int) = q; omega]
        exact hq
      · show ((q.toNat : Nat) : Int) = q
        omega
    · rintro ⟨i, hi, rfl⟩
      rw [List.mem_filter, decC_iff] at hi
      exact hi.2
theorem into_props {xs : List Int} {n : Int} {k : Nat} (hn : n ∉ xs) (hk : k ≤ xs.length) (h1 : ∀ i, i < k → xs.getD i 0 < n) (h2 : k < xs.length → n ≤ xs.getD k 0) :
    ((xs.take k ++ [n]) ++ xs.drop k).length = xs.length + 1 ∧ (∀ q, q ∈ (xs.take k ++ [n]) ++ xs.drop k ↔ q = n ∨ q ∈ xs) ∧ (xs.Pairwise (· < ·) → ((xs.take k ++ [n]) ++ xs.drop k).Pairwise (· < ·)) := by
  refine ⟨?_, fun q => ?_, fun hp => ?_⟩
  · simp only [List.length_append, List.length_take, List.length_drop, List.length_singleton]; omega
  · rw [List.mem_append, List.mem_append, List.mem_singleton]
    have e : q ∈ xs ↔ q ∈ xs.take k ∨ q ∈ xs.drop k := by rw [← List.mem_append, List.take_append_drop]
    rw [e]
    constructor
    · rintro ((h | h) | h)
      · exact .inr (.inl h)
      · exact .inl h
      · exact .inr (.inr h)
    · rintro (h | h | h)
      · exact .inl (.inr h)
      · exact .inl (.inl h)
      · exact .inr h
  · have hp' := hp
    rw [← List.take_append_drop k xs, List.pairwise_append] at hp'
    obtain ⟨hp1, hp2, hp3⟩ := hp'
    have hlt : ∀ a ∈ xs.take k, a < n := by
      intro a ha
      obtain ⟨i, hi, rfl⟩ := List.getElem_of_mem ha
      rw [List.length_take] at hi
      have := h1 i (by omega)
      rw [List.getD_eq_getElem?_getD, List.getElem?_eq_getElem (by omega)] at this
      rw [List.getElem_take]
      exact this
    have hgt : ∀ b ∈ xs.drop k, n < b := by
      intro b hb
      obtain ⟨i, hi, rfl⟩ := List.getElem_of_mem hb
      rw [List.length_drop] at hi
      have h3 := h2 (by omega)
      rw [List.getD_eq_getElem?_getD, List.getElem?_eq_getElem (by omega)] at h3
      rw [List.getElem_drop]
      have hpw := List.pairwise_iff_getElem.1 hp
      have hne : n ≠ xs[k]'(by omega) := fun e => hn (by rw [e]; exact List.getElem_mem _)
      have h4 : n < xs[k]'(by omega) := by
        have : n ≤ xs[k]'(by omega) := h3
        omega
      by_cases hi0 : i = 0
      · subst hi0; exact h4
      · have := hpw k (k + i) (by omega) (by omega) (by omega)
        omega
    rw [List.pairwise_append, List.pairwise_append]
    refine ⟨⟨hp1, by simp, fun a ha b hb => ?_⟩, hp2, fun a ha b hb => ?_⟩
    · simp only [List.mem_singleton] at hb; subst hb; exact hlt a ha
    · rcases List.mem_append.1 ha with h | h
      · exact hp3 a h b hb
      · simp only [List.mem_singleton] at h; subst h; exact hgt b hb
abbrev IntoT (xs : List Int) (n : Int) : Type := { ys : List Int // ys.length = xs.length + 1 ∧ (∀ q, q ∈ ys ↔ q = n ∨ q ∈ xs) ∧ (xs.Pairwise (· < ·) → ys.Pairwise (· < ·)) }
theorem l1Into_spec {w0 : World} {Γ : List Atom} {v : Value} {xs : List Int} {n : Int} [h : HasRd (List Int) repList Γ [v] xs] (hn : n ∉ xs) (hl : xs.length ≤ 1000) (hi : 0 ≤ n ∧ n < 16) : CJ Try.prog 129 [v, .int .i64 n] w0 Γ (fun p : Value × IntoT xs n => p.1) (fun p => .ow [p.1] p.2.1 :: Γ) := by
  refine cj_lift (R := [.rd [v] xs]) (A := fun p : Value × IntoT xs n => [.ow [p.1] p.2.1]) (fun w1 => ?_) (reads_cons h inferInstance) (fun _ => inferInstance)
  simp only [List.cons_append, List.nil_append]
  refine cj_enter Try.func129 Try.ntmps129 ?_
  repeat' (first
    | refine red ?_
    | refine redf fun hbi => ?_
    | refine reds ?_
    | refine redc fun r => ?_
    | refine redv fun sv => ?_
    | refine redn fun b => ?_
    | refine redz fun zs => ?_
    | refine redq (fun hc => ?_) (fun hc => ?_)
    | with_reducible refine wq_blk_o rfl ?_
    | (refine redd fun p cs as_ hcs has hf => ?_; simp only [Un.cells, Un.atoms, Un.fact, List.cons_append, List.nil_append] at hcs has hf; subst hcs has)
    | (refine redi (fun hc => ?_) (fun hc => ?_) <;> try first | (exfalso; omega) | exact absurd rfl hc)
    | fail)
  refine wc_loop_c [5] [7, 8, 9, 10, 11, 12, 13, 14, 15, 16, 17, 18, 19, 20] (ι := Nat) (fun k => [.int .i64 k]) (fun k => k ≤ xs.length ∧ ∀ i, i < k → xs.getD i 0 < n) (fun k => xs.length - k) 0 (by kernel_rfl) ⟨Nat.zero_le _, fun i hi => by omega⟩ ?_
  intro k u l' hl' ⟨hk, hkk⟩
  simp only [patch, List.map_cons, List.map_nil, List.set_cons_zero, List.set_cons_succ] at hl'
  subst hl'
  have hnk : k < xs.length → xs.getD k 0 ≠ n := fun h e => hn (by rw [← e]; exact getK h)
  have htk := List.length_take (i := (k : Int).toNat) (l := xs)
  have hdk := List.length_drop (i := (k : Int).toNat) (l := xs)
  repeat' (first
    | refine red ?_
    | refine redf fun hbi => ?_
    | refine reds ?_
    | refine redc fun r => ?_
    | refine redv fun sv => ?_
    | refine redn fun b => ?_
    | refine redz fun zs => ?_
    | refine redq (fun hc => ?_) (fun hc => ?_)
    | with_reducible refine wq_blk_o rfl ?_
    | (refine redd fun p cs as_ hcs has hf => ?_; simp only [Un.cells, Un.atoms, Un.fact, List.cons_append, List.nil_append] at hcs has hf; subst hcs has)
    | (refine redi (fun hc => ?_) (fun hc => ?_) <;> try first | (exfalso; omega) | exact absurd rfl hc)
    | fail)
  · refine wq_next (k + 1) ⟨by omega, fun i hi => ?_⟩ (by omega) (by kernel_rfl) ent_e
    by_cases he : i = k
    · rw [he]; exact hc
    · exact hkk i (by omega)
  all_goals
    rw [show ((k : Int)).toNat = k from rfl]
    refine ⟨(sv, ⟨(xs.take k ++ [n]) ++ xs.drop k, into_props hn hk hkk (fun h => by omega)⟩), rfl, ?_⟩
    show Ent _ _ [.ow [sv] ((xs.take k ++ [n]) ++ xs.drop k), .rd [v] xs]
    exact ent_e
instance l1Into_ctr {Γ : List Atom} {v : Value} {xs : List Int} {n : Int} [h : HasRd (List Int) repList Γ [v] xs] :
    CtrC Try.prog 129 [v, .int .i64 n] Γ ((n ∉ xs) ∧ (xs.length ≤ 1000) ∧ (0 ≤ n ∧ n < 16)) (Value × IntoT xs n) (fun p : Value × IntoT xs n => p.1) (fun p => .ow [p.1] p.2.1 :: Γ) := ⟨fun s w0 => l1Into_spec s.1 s.2.1 s.2.2⟩

noncomputable def reachedIn (ar : List Int) (x : SAuto) : List Int := if autoOk ar x = true then reachL x.2.1 else []
theorem impl_ReachedIn_spec {w0 : World} {Γ : List Atom} {v v0 v1 : Value} {ar : List Int} {x : SAuto} [h : HasRd (List Int) repList Γ [v] ar] [h0 : HasRd (List STrans) repList Γ [v0] x.2.1] [h1 : HasRd (List Int) repList Γ [v1] x.2.2] : CJ Try.prog 63 [.agg #[v], .agg #[.int .i64 x.1, v0, v1]] w0 Γ (fun q : Value => q) (fun q => .ow [q] (reachedIn ar x) :: Γ) := by
  refine cj_lift (R := [.rd [v] ar, .rd [v0] x.2.1, .rd [v1] x.2.2]) (A := fun q => [.ow [q] (reachedIn ar x)]) (fun w1 => ?_) (reads_cons h (reads_cons h0 (reads_cons h1 inferInstance))) (fun _ => inferInstance)
  simp only [List.cons_append, List.nil_append]
  have hin : AutoP ar x → InS x.2.1 := inS_of
  have hrn : ¬ AutoP ar x → reachedIn ar x = [] := fun h => by unfold reachedIn; rw [if_neg (show ¬ autoOk ar x = true from fun h' => h (decC_iff.1 h'))]
  have hrt : AutoP ar x → reachedIn ar x = reachL x.2.1 := fun h => by unfold reachedIn; rw [if_pos (show autoOk ar x = true from decC_t h)]
  by_cases hok : AutoP ar x
  · have hin' := hin hok
    rw [hrt hok]
    refine cj_enter Try.func63 Try.ntmps63 ?_
    repeat' (first
      | refine red ?_
      | refine redf fun hbi => ?_
      | refine reds ?_
      | refine redc fun r => ?_
      | refine redv fun sv => ?_
      | refine redn fun b => ?_
      | refine redz fun zs => ?_
      | refine redq (fun hc => ?_) (fun hc => ?_)
      | with_reducible refine wq_blk_o rfl ?_
      | (refine redd fun p cs as_ hcs has hf => ?_; simp only [Un.cells, Un.atoms, Un.fact, List.cons_append, List.nil_append] at hcs has hf; subst hcs has)
      | (refine redi (fun hc => ?_) (fun hc => ?_) <;> try first | (exfalso; omega) | exact absurd rfl hc)
      | fail)
    · exact absurd hok hc
    · rename_i q
      rw [listN_reach q.2.2]
      exact ⟨_, rfl, ent_e⟩
  · rw [hrn hok]
    refine cj_enter Try.func63 Try.ntmps63 ?_
    repeat' (first
      | refine red ?_
      | refine redf fun hbi => ?_
      | refine reds ?_
      | refine redc fun r => ?_
      | refine redv fun sv => ?_
      | refine redn fun b => ?_
      | refine redz fun zs => ?_
      | refine redq (fun hc => ?_) (fun hc => ?_)
      | with_reducible refine wq_blk_o rfl ?_
      | (refine redd fun p cs as_ hcs has hf => ?_; simp only [Un.cells, Un.atoms, Un.fact, List.cons_append, List.nil_append] at hcs has hf; subst hcs has)
      | (refine redi (fun hc => ?_) (fun hc => ?_) <;> try first | (exfalso; omega) | exact absurd rfl hc)
      | fail)
    · exact ⟨_, rfl, ent_e⟩
    all_goals
      exfalso
      first
        | exact hok ‹AutoP ar x›
instance impl_ReachedIn_ctr {Γ : List Atom} {v v0 v1 : Value} {ar : List Int} {x : SAuto} [h : HasRd (List Int) repList Γ [v] ar] [h0 : HasRd (List STrans) repList Γ [v0] x.2.1] [h1 : HasRd (List Int) repList Γ [v1] x.2.2] :
    CtrC Try.prog 63 [.agg #[v], .agg #[.int .i64 x.1, v0, v1]] Γ (True) (Value) (fun q : Value => q) (fun q => .ow [q] (reachedIn ar x) :: Γ) := ⟨fun s w0 => impl_ReachedIn_spec⟩

theorem spec_ReachedIn_spec {w0 : World} {Γ : List Atom} {v v0 v1 : Value} {ar : List Int} {x : SAuto} [h : HasRd (List Int) repList Γ [v] ar] [h0 : HasRd (List STrans) repList Γ [v0] x.2.1] [h1 : HasRd (List Int) repList Γ [v1] x.2.2] : CJ Try.prog 61 [.agg #[v], .agg #[.int .i64 x.1, v0, v1]] w0 Γ (fun q : Value => q) (fun q => .ow [q] (reachedIn ar x) :: Γ) := by
  refine cj_lift (R := [.rd [v] ar, .rd [v0] x.2.1, .rd [v1] x.2.2]) (A := fun q => [.ow [q] (reachedIn ar x)]) (fun w1 => ?_) (reads_cons h (reads_cons h0 (reads_cons h1 inferInstance))) (fun _ => inferInstance)
  simp only [List.cons_append, List.nil_append]
  refine cj_len v0 fun hly => ?_
  have hrn : ¬ AutoP ar x → reachedIn ar x = [] := fun h => by unfold reachedIn; rw [if_neg (show ¬ autoOk ar x = true from fun h' => h (decC_iff.1 h'))]
  have hrt : AutoP ar x → reachedIn ar x = reachL x.2.1 := fun h => by unfold reachedIn; rw [if_pos (show autoOk ar x = true from decC_t h)]
  refine cj_enter Try.func61 Try.ntmps61 ?_
  repeat' (first
    | refine red ?_
    | refine redf fun hbi => ?_
    | refine reds ?_
    | refine redc fun r => ?_
    | refine redv fun sv => ?_
    | refine redn fun b => ?_
    | refine redz fun zs => ?_
    | refine redq (fun hc => ?_) (fun hc => ?_)
    | with_reducible refine wq_blk_o rfl ?_
    | (refine redd fun p cs as_ hcs has hf => ?_; simp only [Un.cells, Un.atoms, Un.fact, List.cons_append, List.nil_append] at hcs has hf; subst hcs has)
    | (refine redi (fun hc => ?_) (fun hc => ?_) <;> try first | (exfalso; omega) | exact absurd rfl hc)
    | fail)
  · rw [hrn hc]
    exact ⟨_, rfl, ent_e⟩
  rw [hrt hc]
  have hin := inS_of hc
  have hok := hc
  clear hc hrn hrt
  refine wc_loop_p [5, 6] [17, 7, 18, 19, 20, 21, 22, 25, 26, 27, 28, 29, 8, 30, 31, 32, 33, 34, 9, 10, 35, 36, 37, 38, 39, 40, 41, 42, 45, 46, 47, 48, 49, 50, 51, 43, 44, 52, 53, 54, 55, 56, 23, 24] (ι := List Int × Value × Bool) (fun k => [k.2.1, .bool k.2.2]) (fun k => [.ow [k.2.1] k.1]) (fun k => k.1.Pairwise (· < ·) ∧ (∀ q ∈ k.1, Rch x.2.1 q) ∧ (k.2.2 = false → ∀ t ∈ x.2.1, Shut (· ∈ k.1) t)) (fun k => 2 * (17 - k.1.length) + (if k.2.2 then 1 else 0)) ([], sv, true) [.ow [sv] ([] : List Int)] (by kernel_rfl) ⟨List.Pairwise.nil, by simp, fun h => by cases h⟩ rfl ?_
  intro ⟨ys, sy, ag⟩ u l' hl' ⟨hp, hr, hsc⟩
  simp only [patch, List.map_cons, List.map_nil, List.set_cons_zero, List.set_cons_succ] at hl'
  subst hl'
  simp only [List.cons_append, List.nil_append] at hp hr hsc ⊢
  have hlen := sorted_len hp (fun q hq => rch_in hin q (hr q hq))
  repeat' (first
    | refine red ?_
    | refine redf fun hbi => ?_
    | refine reds ?_
    | refine redc fun r => ?_
    | refine redv fun sv => ?_
    | refine redn fun b => ?_
    | refine redz fun zs => ?_
    | refine redq (fun hc => ?_) (fun hc => ?_)
    | with_reducible refine wq_blk_o rfl ?_
    | (refine redd fun p cs as_ hcs has hf => ?_; simp only [Un.cells, Un.atoms, Un.fact, List.cons_append, List.nil_append] at hcs has hf; subst hcs has)
    | (refine redi (fun hc => ?_) (fun hc => ?_) <;> try first | (exfalso; omega) | exact absurd rfl hc)
    | fail)
  · subst hc
    refine wc_loop_p [5, 6, 7] [18, 19, 20, 21, 22, 25, 26, 27, 28, 29, 8, 30, 31, 32, 33, 34, 9, 10, 35, 36, 37, 38, 39, 40, 41, 42, 45, 46, 47, 48, 49, 50, 51, 43, 44, 52, 53, 54, 55, 56, 23, 24] (ι := (List Int × Value × Bool) × Nat) (fun k => [k.1.2.1, .bool k.1.2.2, .int .i64 k.2]) (fun k => [.ow [k.1.2.1] k.1.1]) (fun k => k.2 ≤ x.2.1.length ∧ k.1.1.Pairwise (· < ·) ∧ (∀ q ∈ k.1.1, Rch x.2.1 q) ∧ (k.1.2.2 = true → ys.length < k.1.1.length) ∧ (k.1.2.2 = false → k.1.1 = ys ∧ ∀ j, j < k.2 → Shut (· ∈ ys) (x.2.1.getD j default))) (fun k => x.2.1.length - k.2) ((ys, sy, false), 0) [.ow [sy] ys] (by kernel_rfl) ⟨Nat.zero_le _, hp, hr, fun h => (by cases h), fun _ => ⟨rfl, fun j hj => absurd hj (Nat.not_lt_zero _)⟩⟩ rfl ?_
    intro ⟨⟨zs, sz, ag⟩, k⟩ u l' hl' ⟨hk, hzp, hzr, hag, hnag⟩
    simp only [patch, List.map_cons, List.map_nil, List.set_cons_zero, List.set_cons_succ] at hl'
    subst hl'
    simp only [List.cons_append, List.nil_append] at hk hzp hzr hag hnag ⊢
    have hzl := sorted_len hzp (fun q hq => rch_in hin q (hzr q hq))
    by_cases hkl : k < x.2.1.length
    · obtain ⟨hx1, hx2, hx3⟩ := hin _ (getT hkl)
      repeat' (first
        | refine red ?_
        | refine redf fun hbi => ?_
        | refine reds ?_
        | refine redc fun r => ?_
        | refine redv fun sv => ?_
        | refine redn fun b => ?_
        | refine redz fun zs => ?_
        | refine redq (fun hc => ?_) (fun hc => ?_)
        | with_reducible refine wq_blk_o rfl ?_
        | (refine redd fun p cs as_ hcs has hf => ?_; simp only [Un.cells, Un.atoms, Un.fact, List.cons_append, List.nil_append] at hcs has hf; subst hcs has)
        | (refine redi (fun hc => ?_) (fun hc => ?_) <;> try first | (exfalso; omega) | exact absurd rfl hc)
        | fail)
      refine wc_loop_c [9, 10] [35, 36, 37, 38, 39, 40, 41, 42, 45, 46, 47, 48, 49, 50, 51, 43, 44] (ι := Bool × Nat) (fun j => [.bool j.1, .int .i64 j.2]) (fun j => j.2 ≤ (x.2.1.getD k default).2.1.length ∧ (j.1 = true ↔ (x.2.1.getD k default).2.2 ∉ zs ∧ ∀ q ∈ (x.2.1.getD k default).2.1.take j.2, q ∈ zs)) (fun j => (x.2.1.getD k default).2.1.length - j.2) (!decide ((x.2.1.getD k default).2.2 ∈ zs), 0) (by kernel_rfl) ⟨Nat.zero_le _, by simp⟩ ?_
      intro ⟨is, j⟩ u l' hl' ⟨hj, hjs⟩
      simp only [patch, List.map_cons, List.map_nil, List.set_cons_zero, List.set_cons_succ] at hl'
      subst hl'
      simp only at hj hjs
      have hshut : is = false → ag = false → ∀ i, i < k + 1 → Shut (· ∈ ys) (x.2.1.getD i default) := fun his h i hi => by
        by_cases he : i = k
        · subst he
          intro hall
          obtain ⟨rfl, _⟩ := hnag h
          by_cases hto : (x.2.1.getD i default).2.2 ∈ zs
          · exact hto
          · have := hjs.2 ⟨hto, fun q hq => hall q (List.mem_of_mem_take hq)⟩
            rw [his] at this; cases this
        · exact (hnag h).2 i (by omega)
      cases is
      · repeat' (first
          | refine red ?_
          | refine redf fun hbi => ?_
          | refine reds ?_
          | refine redc fun r => ?_
          | refine redv fun sv => ?_
          | refine redn fun b => ?_
          | refine redz fun zs => ?_
          | refine redq (fun hc => ?_) (fun hc => ?_)
          | with_reducible refine wq_blk_o rfl ?_
          | (refine redd fun p cs as_ hcs has hf => ?_; simp only [Un.cells, Un.atoms, Un.fact, List.cons_append, List.nil_append] at hcs has hf; subst hcs has)
          | (refine redi (fun hc => ?_) (fun hc => ?_) <;> try first | (exfalso; omega) | exact absurd rfl hc)
          | fail)
        all_goals exact wq_next ((zs, sz, ag), k + 1) ⟨by simp only; omega, hzp, hzr, hag, fun h => ⟨(hnag h).1, hshut rfl h⟩⟩ (by simp only; omega) (by kernel_rfl) ent_e
      · obtain ⟨hts, hta⟩ := hjs.1 rfl
        repeat' (first
          | refine red ?_
          | refine redf fun hbi => ?_
          | refine reds ?_
          | refine redc fun r => ?_
          | refine redv fun sv => ?_
          | refine redn fun b => ?_
          | refine redz fun zs => ?_
          | refine redq (fun hc => ?_) (fun hc => ?_)
          | with_reducible refine wq_blk_o rfl ?_
          | (refine redd fun p cs as_ hcs has hf => ?_; simp only [Un.cells, Un.atoms, Un.fact, List.cons_append, List.nil_append] at hcs has hf; subst hcs has)
          | (refine redi (fun hc => ?_) (fun hc => ?_) <;> try first | (exfalso; omega) | exact absurd rfl hc)
          | fail)
        · refine wq_next (decide ((x.2.1.getD k default).2.1.getD j 0 ∈ zs), j + 1) ⟨by simp only; omega, ?_⟩ (by simp only; omega) (by kernel_rfl) ent_e
          simp only
          rw [decide_eq_true_iff]
          constructor
          · refine fun h => ⟨hts, fun q hq => ?_⟩
            rcases (mem_take_succ (by omega)).1 hq with h2 | h2
            · exact hta q h2
            · rw [h2]; exact h
          · exact fun h => h.2 _ ((mem_take_succ (by omega)).2 (.inr rfl))
        · have hri := r.2.2
          rw [List.take_of_length_le (by omega)] at hta
          refine wq_next ((r.2.1, r.1, true), k + 1) ⟨by simp only; omega, hri.2.2 hzp, fun q hq => ?_, fun _ => ?_, fun h => by cases h⟩ (by simp only; omega) (by kernel_rfl) ent_e
          · rcases (hri.2.1 q).1 hq with h | h
            · rw [h]; exact Rch.mk _ (getT hkl) (fun q hq => hzr q (hta q hq))
            · exact hzr q h
          · simp only
            rw [hri.1]
            cases ag
            · rw [(hnag rfl).1]; omega
            · have := hag rfl; omega
    · repeat' (first
        | refine red ?_
        | refine redf fun hbi => ?_
        | refine reds ?_
        | refine redc fun r => ?_
        | refine redv fun sv => ?_
        | refine redn fun b => ?_
        | refine redz fun zs => ?_
        | refine redq (fun hc => ?_) (fun hc => ?_)
        | with_reducible refine wq_blk_o rfl ?_
        | (refine redd fun p cs as_ hcs has hf => ?_; simp only [Un.cells, Un.atoms, Un.fact, List.cons_append, List.nil_append] at hcs has hf; subst hcs has)
        | (refine redi (fun hc => ?_) (fun hc => ?_) <;> try first | (exfalso; omega) | exact absurd rfl hc)
        | fail)
      refine wq_next (zs, sz, ag) ⟨hzp, hzr, fun h => ?_⟩ ?_ (by kernel_rfl) ent_e
      · obtain ⟨rfl, h2⟩ := hnag h
        intro t ht
        obtain ⟨i, hi, rfl⟩ := List.getElem_of_mem ht
        have := h2 i (by omega)
        rw [List.getD_eq_getElem?_getD, List.getElem?_eq_getElem hi] at this
        exact this
      · simp only
        cases ag
        · rw [(hnag rfl).1]
          simp
        · have := hag rfl
          simp
          omega
  · rw [← reachL_of hin hp (fun q => ⟨hr q, fun hq => rch_of_shut (hsc hc) q hq⟩)]
    exact ⟨_, rfl, ent_e⟩
instance spec_ReachedIn_ctr {Γ : List Atom} {v v0 v1 : Value} {ar : List Int} {x : SAuto} [h : HasRd (List Int) repList Γ [v] ar] [h0 : HasRd (List STrans) repList Γ [v0] x.2.1] [h1 : HasRd (List Int) repList Γ [v1] x.2.2] :
    CtrC Try.prog 61 [.agg #[v], .agg #[.int .i64 x.1, v0, v1]] Γ (True) (Value) (fun q : Value => q) (fun q => .ow [q] (reachedIn ar x) :: Γ) := ⟨fun s w0 => spec_ReachedIn_spec⟩

end Go.Proofs.Ytckbndcgkkohaaa
