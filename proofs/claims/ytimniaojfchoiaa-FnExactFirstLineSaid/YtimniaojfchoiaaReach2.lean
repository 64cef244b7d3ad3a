/- The states that are reached: the reference's side, and the law. -/
import Derived.Test.YtimniaojfchoiaaReach
namespace Go.Proofs.Ytimniaojfchoiaa
open Go Go.Eng
set_option linter.unusedVariables false
set_option linter.unusedSimpArgs false
set_option synthInstance.maxHeartbeats 400000
set_option synthInstance.maxSize 1000

theorem sorted_ext : ∀ {xs ys : List Int}, xs.Pairwise (· < ·) → ys.Pairwise (· < ·) → (∀ q, q ∈ xs ↔ q ∈ ys) → xs = ys
  | [], [], _, _, _ => rfl
  | [], y :: ys, _, _, h => absurd ((h y).2 (by simp)) (by simp)
  | x :: xs, [], _, _, h => absurd ((h x).1 (by simp)) (by simp)
  | x :: xs, y :: ys, hx, hy, h => by
    have hx' := List.pairwise_cons.1 hx
    have hy' := List.pairwise_cons.1 hy
    have hxy : x = y := by
      rcases List.mem_cons.1 ((h x).1 (by simp)) with e | e
      · exact e
      rcases List.mem_cons.1 ((h y).2 (by simp)) with e2 | e2
      · exact e2.symm
      have h1 := hy'.1 x e
      have h2 := hx'.1 y e2
      omega
    subst hxy
    congr 1
    refine sorted_ext hx'.2 hy'.2 (fun q => ⟨fun hq => ?_, fun hq => ?_⟩)
    · rcases List.mem_cons.1 ((h q).1 (List.mem_cons_of_mem _ hq)) with e | e
      · have := hx'.1 q hq; omega
      · exact e
    · rcases List.mem_cons.1 ((h q).2 (List.mem_cons_of_mem _ hq)) with e | e
      · have := hy'.1 q hq; omega
      · exact e
theorem sorted_len {xs : List Int} (h : xs.Pairwise (· < ·)) (hr : ∀ q ∈ xs, 0 ≤ q ∧ q < 16) : xs.length ≤ 16 := by
  have hp := List.pairwise_iff_getElem.1 h
  have : SetP 16 xs xs.length := fun i hi => ⟨hr _ (getK hi), fun h0 => by
    rw [List.getD_eq_getElem?_getD, List.getD_eq_getElem?_getD, List.getElem?_eq_getElem hi, List.getElem?_eq_getElem (by omega)]
    exact hp (i - 1) i (by omega) hi (by omega)⟩
  have := setP_len this (by omega)
  omega
theorem rch_in {rs : List STrans} (h : InS rs) : ∀ q, Rch rs q → 0 ≤ q ∧ q < 16 := by
  intro q hq
  cases hq with
  | mk t ht _ => exact (h t ht).2
theorem reachL_of {rs : List STrans} {xs : List Int} (hi : InS rs) (h : xs.Pairwise (· < ·)) (hm : ∀ q, q ∈ xs ↔ Rch rs q) : xs = reachL rs := by
  refine sorted_ext h ?_ (fun q => ?_)
  · unfold reachL
    refine List.Pairwise.map _ (fun a b (hab : a < b) => ?_) (List.Pairwise.filter _ List.pairwise_lt_range)
    show (a : Int) < (b : Int)
    omega
  · rw [hm]
    unfold reachL
    rw [List.mem_map]
    constructor
    · intro hq
      have := rch_in hi q hq
      refine ⟨q.toNat, ?_, ?_⟩
      · rw [List.mem_filter, decC_iff, List.mem_range]
        refine ⟨by omega, ?_⟩
        rw [show Int.ofNat q.toNat = q by show ((q.toNat : Nat) : Int) = q; omega]
        exact hq
      · show ((q.toNat : Nat) : Int) = q
        omega
    · rintro ⟨i, hi, rfl⟩
      rw [List.mem_filter, decC_iff] at hi
      exact hi.2
theorem into_props {xs : List Int} {n : Int} {k : Nat} (hn : n ∉ xs) (hk : k ≤ xs.length) (h1 : ∀ i, i < k → xs.getD i 0 < n) (h2 : k < xs.length → n ≤ xs.getD k 0) :
    ((xs.take k ++ [n]) ++ xs.drop k).length = xs.length + 1 ∧ (∀ q, q ∈ (xs.take k ++ [n]) ++ xs.drop k ↔ q = n ∨ q ∈ xs) ∧ (xs.Pairwise (· < ·) → ((xs.take k ++ [n]) ++ xs.drop k).Pairwise (· < ·)) := by
  refine ⟨?_, fun q => ?_, fun hp => ?_⟩
  · simp only [List.length_append, List.length_take, List.length_drop, List.length_singleton]; omega
  · rw [List.mem_append, List.mem_append, List.mem_singleton]
    have e : q ∈ xs ↔ q ∈ xs.take k ∨ q ∈ xs.drop k := by rw [← List.mem_append, List.take_append_drop]
    rw [e]
    constructor
    · rintro ((h | h) | h)
      · exact .inr (.inl h)
      · exact .inl h
      · exact .inr (.inr h)
    · rintro (h | h | h)
      · exact .inl (.inr h)
      · exact .inl (.inl h)
      · exact .inr h
  · have hp' := hp
    rw [← List.take_append_drop k xs, List.pairwise_append] at hp'
    obtain ⟨hp1, hp2, hp3⟩ := hp'
    have hlt : ∀ a ∈ xs.take k, a < n := by
      intro a ha
      obtain ⟨i, hi, rfl⟩ := List.getElem_of_mem ha
      rw [List.length_take] at hi
      have := h1 i (by omega)
      rw [List.getD_eq_getElem?_getD, List.getElem?_eq_getElem (by omega)] at this
      rw [List.getElem_take]
      exact this
    have hgt : ∀ b ∈ xs.drop k, n < b := by
      intro b hb
      obtain ⟨i, hi, rfl⟩ := List.getElem_of_mem hb
      rw [List.length_drop] at hi
      have h3 := h2 (by omega)
      rw [List.getD_eq_getElem?_getD, List.getElem?_eq_getElem (by omega)] at h3
      rw [List.getElem_drop]
      have hpw := List.pairwise_iff_getElem.1 hp
      have hne : n ≠ xs[k]'(by omega) := fun e => hn (by rw [e]; exact List.getElem_mem _)
      have h4 : n < xs[k]'(by omega) := by
        have : n ≤ xs[k]'(by omega) := h3
        omega
      by_cases hi0 : i = 0
      · subst hi0; exact h4
      · have := hpw k (k + i) (by omega) (by omega) (by omega)
        omega
    rw [List.pairwise_append, List.pairwise_append]
    refine ⟨⟨hp1, by simp, fun a ha b hb => ?_⟩, hp2, fun a ha b hb => ?_⟩
    · simp only [List.mem_singleton] at hb; subst hb; exact hlt a ha
    · rcases List.mem_append.1 ha with h | h
      · exact hp3 a h b hb
      · simp only [List.mem_singleton] at h; subst h; exact hgt b hb
abbrev IntoT (xs : List Int) (n : Int) : Type := { ys : List Int // ys.length = xs.length + 1 ∧ (∀ q, q ∈ ys ↔ q = n ∨ q ∈ xs) ∧ (xs.Pairwise (· < ·) → ys.Pairwise (· < ·)) }
theorem l1Into_spec {w0 : World} {Γ : List Atom} {v : Value} {xs : List Int} {n : Int} [h : HasRd (List Int) repList Γ [v] xs] (hn : n ∉ xs) (hl : xs.length ≤ 1000) (hi : -9223372036854775808 ≤ n ∧ n ≤ 9223372036854775807) : CJ Try.prog 144 [v, .int .i64 n] w0 Γ (fun p : Value × IntoT xs n => p.1) (fun p => .ow [p.1] p.2.1 :: Γ) := by
  refine cj_lift (R := [.rd [v] xs]) (A := fun p : Value × IntoT xs n => [.ow [p.1] p.2.1]) (fun w1 => ?_) (reads_cons h inferInstance) (fun _ => inferInstance)
  simp only [List.cons_append, List.nil_append]
  refine cj_enter Try.func144 Try.ntmps144 ?_
  repeat' (first
    | refine red ?_
    | refine redf fun hbi => ?_
    | refine reds ?_
    | refine redc fun r => ?_
    | refine redp (fun r => ?_) (fun r => ?_)
    | refine redv fun sv => ?_
    | refine redn fun b => ?_
    | refine redz fun zs => ?_
    | refine redq (fun hc => ?_) (fun hc => ?_)
    | with_reducible refine wq_blk_o rfl ?_
    | (refine redd fun p cs as_ hcs has hf => ?_; simp only [Un.cells, Un.atoms, Un.fact, List.cons_append, List.nil_append] at hcs has hf; subst hcs has)
    | (refine redi (fun hc => ?_) (fun hc => ?_) <;> try first | (exfalso; omega) | exact absurd rfl hc)
    | fail)
  refine wc_loop_c [5] [7, 8, 9, 10, 11, 12, 13, 14, 15, 16, 17, 18, 19, 20] (ι := Nat) (fun k => [.int .i64 k]) (fun k => k ≤ xs.length ∧ ∀ i, i < k → xs.getD i 0 < n) (fun k => xs.length - k) 0 (by kernel_rfl) ⟨Nat.zero_le _, fun i hi => by omega⟩ ?_
  intro k u l' hl' ⟨hk, hkk⟩
  simp only [patch, List.map_cons, List.map_nil, List.set_cons_zero, List.set_cons_succ] at hl'
  subst hl'
  have hnk : k < xs.length → xs.getD k 0 ≠ n := fun h e => hn (by rw [← e]; exact getK h)
  have htk := List.length_take (i := (k : Int).toNat) (l := xs)
  have hdk := List.length_drop (i := (k : Int).toNat) (l := xs)
  repeat' (first
    | refine red ?_
    | refine redf fun hbi => ?_
    | refine reds ?_
    | refine redc fun r => ?_
    | refine redp (fun r => ?_) (fun r => ?_)
    | refine redv fun sv => ?_
    | refine redn fun b => ?_
    | refine redz fun zs => ?_
    | refine redq (fun hc => ?_) (fun hc => ?_)
    | with_reducible refine wq_blk_o rfl ?_
    | (refine redd fun p cs as_ hcs has hf => ?_; simp only [Un.cells, Un.atoms, Un.fact, List.cons_append, List.nil_append] at hcs has hf; subst hcs has)
    | (refine redi (fun hc => ?_) (fun hc => ?_) <;> try first | (exfalso; omega) | exact absurd rfl hc)
    | fail)
  · refine wq_next (k + 1) ⟨by omega, fun i hi => ?_⟩ (by omega) (by kernel_rfl) ent_e
    by_cases he : i = k
    · rw [he]; exact hc
    · exact hkk i (by omega)
  all_goals
    rw [show ((k : Int)).toNat = k from rfl]
    refine ⟨(sv, ⟨(xs.take k ++ [n]) ++ xs.drop k, into_props hn hk hkk (fun h => by omega)⟩), rfl, ?_⟩
    show Ent _ _ [.ow [sv] ((xs.take k ++ [n]) ++ xs.drop k), .rd [v] xs]
    exact ent_e
instance l1Into_ctr {Γ : List Atom} {v : Value} {xs : List Int} {n : Int} [h : HasRd (List Int) repList Γ [v] xs] :
    CtrC Try.prog 144 [v, .int .i64 n] Γ ((n ∉ xs) ∧ (xs.length ≤ 1000) ∧ (-9223372036854775808 ≤ n ∧ n ≤ 9223372036854775807)) (Value × IntoT xs n) (fun p : Value × IntoT xs n => p.1) (fun p => .ow [p.1] p.2.1 :: Γ) := ⟨fun s w0 => l1Into_spec s.1 s.2.1 s.2.2⟩

noncomputable def reachedIn (ar : List Int) (x : SAuto) : List Int := if autoOk ar x = true then reachL x.2.1 else []
end Go.Proofs.Ytimniaojfchoiaa
