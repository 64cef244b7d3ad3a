/- A number is put into a rising list: the reference. -/
import Derived.Test.YtjblieilblcdnaaEngT
import Derived.Test.YtjblieilblcdnaaL06
namespace Go.Proofs.Ytjblieilblcdnaa
open Go Go.Eng
set_option linter.unusedVariables false
set_option linter.unusedSimpArgs false
set_option synthInstance.maxHeartbeats 400000
set_option synthInstance.maxSize 1000

theorem into_props {xs : List Int} {n : Int} {k : Nat} (hn : n ∉ xs) (hk : k ≤ xs.length) (h1 : ∀ i, i < k → xs.getD i 0 < n) (h2 : k < xs.length → n ≤ xs.getD k 0) :
    ((xs.take k ++ [n]) ++ xs.drop k).length = xs.length + 1 ∧ (∀ q, q ∈ (xs.take k ++ [n]) ++ xs.drop k ↔ q = n ∨ q ∈ xs) ∧ (xs.Pairwise (· < ·) → ((xs.take k ++ [n]) ++ xs.drop k).Pairwise (· < ·)) := by
  refine ⟨?_, fun q => ?_, fun hp => ?_⟩
  · simp only [List.length_append, List.length_take, List.length_drop, List.length_singleton]; omega
  · rw [List.mem_append, List.mem_append, List.mem_singleton]
    have e : q ∈ xs ↔ q ∈ xs.take k ∨ q ∈ xs.drop k := by rw [← List.mem_append, List.take_append_drop]
    rw [e]
    constructor
    · rintro ((h | h) | h)
      · exact .inr (.inl h)
      · exact .inl h
      · exact .inr (.inr h)
    · rintro (h | h | h)
      · exact .inl (.inr h)
      · exact .inl (.inl h)
      · exact .inr h
  · have hp' := hp
    rw [← List.take_append_drop k xs, List.pairwise_append] at hp'
    obtain ⟨hp1, hp2, hp3⟩ := hp'
    have hlt : ∀ a ∈ xs.take k, a < n := by
      intro a ha
      obtain ⟨i, hi, rfl⟩ := List.getElem_of_mem ha
      rw [List.length_take] at hi
      have := h1 i (by omega)
      rw [List.getD_eq_getElem?_getD, List.getElem?_eq_getElem (by omega)] at this
      rw [List.getElem_take]
      exact this
    have hgt : ∀ b ∈ xs.drop k, n < b := by
      intro b hb
      obtain ⟨i, hi, rfl⟩ := List.getElem_of_mem hb
      rw [List.length_drop] at hi
      have h3 := h2 (by omega)
      rw [List.getD_eq_getElem?_getD, List.getElem?_eq_getElem (by omega)] at h3
      rw [List.getElem_drop]
      have hpw := List.pairwise_iff_getElem.1 hp
      have hne : n ≠ xs[k]'(by omega) := fun e => hn (by rw [e]; exact List.getElem_mem _)
      have h4 : n < xs[k]'(by omega) := by
        have : n ≤ xs[k]'(by omega) := h3
        omega
      by_cases hi0 : i = 0
      · subst hi0; exact h4
      · have := hpw k (k + i) (by omega) (by omega) (by omega)
        omega
    rw [List.pairwise_append, List.pairwise_append]
    refine ⟨⟨hp1, by simp, fun a ha b hb => ?_⟩, hp2, fun a ha b hb => ?_⟩
    · simp only [List.mem_singleton] at hb; subst hb; exact hlt a ha
    · rcases List.mem_append.1 ha with h | h
      · exact hp3 a h b hb
      · simp only [List.mem_singleton] at h; subst h; exact hgt b hb
abbrev IntoT (xs : List Int) (n : Int) : Type := { ys : List Int // ys.length = xs.length + 1 ∧ (∀ q, q ∈ ys ↔ q = n ∨ q ∈ xs) ∧ (xs.Pairwise (· < ·) → ys.Pairwise (· < ·)) }
theorem l1Into_spec {w0 : World} {Γ : List Atom} {v : Value} {xs : List Int} {n : Int} [h : HasRd (List Int) repList Γ [v] xs] (hn : n ∉ xs) (hl : xs.length ≤ 1000) (hi : -9223372036854775808 ≤ n ∧ n ≤ 9223372036854775807) : CJ Try.prog 59 [v, .int .i64 n] w0 Γ (fun p : Value × IntoT xs n => p.1) (fun p => .ow [p.1] p.2.1 :: Γ) := by
  refine cj_lift (R := [.rd [v] xs]) (A := fun p : Value × IntoT xs n => [.ow [p.1] p.2.1]) (fun w1 => ?_) (reads_cons h inferInstance) (fun _ => inferInstance)
  simp only [List.cons_append, List.nil_append]
  refine cj_enter Try.func59 Try.ntmps59 ?_
  repeat' (first | refine red ?_ | fail)
  refine wc_loop_c [5] [7, 8, 9, 10, 11, 12, 13, 14, 15, 16, 17, 18, 19, 20] (ι := Nat) (fun k => [.int .i64 k]) (fun k => k ≤ xs.length ∧ ∀ i, i < k → xs.getD i 0 < n) (fun k => xs.length - k) 0 (by kernel_rfl) ⟨Nat.zero_le _, fun i hi => by omega⟩ ?_
  intro k u l' hl' ⟨hk, hkk⟩
  simp only [patch, List.map_cons, List.map_nil, List.set_cons_zero, List.set_cons_succ] at hl'
  subst hl'
  have hnk : k < xs.length → xs.getD k 0 ≠ n := fun h e => hn (by rw [← e]; exact getD_mem h)
  have htk := List.length_take (i := (k : Int).toNat) (l := xs)
  have hdk := List.length_drop (i := (k : Int).toNat) (l := xs)
  repeat' (first | refine red ?_ | refine redf fun hbi => ?_ | refine reds ?_ | refine redc fun r => ?_ | refine redv fun sv => ?_ | (refine redi (fun hc => ?_) (fun hc => ?_) <;> try first | (exfalso; omega) | exact absurd rfl hc) | fail)
  · refine wq_next (k + 1) ⟨by omega, fun i hi => ?_⟩ (by omega) (by kernel_rfl) ent_e
    by_cases he : i = k
    · rw [he]; exact hc
    · exact hkk i (by omega)
  all_goals
    rw [show ((k : Int)).toNat = k from rfl]
    refine ⟨(sv, ⟨(xs.take k ++ [n]) ++ xs.drop k, into_props hn hk hkk (fun h => by omega)⟩), rfl, ?_⟩
    show Ent _ _ [.ow [sv] ((xs.take k ++ [n]) ++ xs.drop k), .rd [v] xs]
    exact ent_e
set_option linter.unusedVariables false
set_option linter.unusedSimpArgs false
set_option synthInstance.maxHeartbeats 400000
set_option synthInstance.maxSize 1000

theorem l1Into_old {w0 : World} {Γ : List Atom} {v : Value} {xs : List Int} {n : Int} [h : HasRd (List Int) repList Γ [v] xs] (hn : n ∈ xs) (hs : xs.Pairwise (· < ·)) : CJ Try.prog 59 [v, .int .i64 n] w0 Γ (fun _ : Unit => v) (fun _ => Γ) := by
  refine cj_lift (R := [.rd [v] xs]) (A := fun _ => []) (fun w1 => ?_) (reads_cons h inferInstance) (fun _ => inferInstance)
  simp only [List.cons_append, List.nil_append]
  refine cj_len v fun hlx => ?_
  have hpw := List.pairwise_iff_getElem.1 hs
  refine cj_enter Try.func59 Try.ntmps59 ?_
  repeat' (first | refine red ?_ | fail)
  refine wc_loop_c [5] [7, 8, 9, 10, 11, 12, 13, 14, 15, 16, 17, 18, 19, 20] (ι := Nat) (fun k => [.int .i64 k]) (fun k => k ≤ xs.length ∧ ∀ i, i < k → xs.getD i 0 < n) (fun k => xs.length - k) 0 (by kernel_rfl) ⟨Nat.zero_le _, fun i hi => by omega⟩ ?_
  intro k u l' hl' ⟨hk, hkk⟩
  simp only [patch, List.map_cons, List.map_nil, List.set_cons_zero, List.set_cons_succ] at hl'
  subst hl'
  have hin : k < xs.length ∧ (¬ xs.getD k 0 < n → xs.getD k 0 = n) := by
    obtain ⟨j, hj, hjn⟩ := List.getElem_of_mem hn
    have hjd : xs.getD j 0 = n := by rw [List.getD_eq_getElem?_getD, List.getElem?_eq_getElem hj]; exact hjn
    have hkj : k ≤ j := by
      by_cases h : j < k
      · have := hkk j h; omega
      · omega
    refine ⟨by omega, fun hge => ?_⟩
    by_cases he : k = j
    · rw [he]; exact hjd
    · have := hpw k j (by omega) hj (by omega)
      rw [List.getD_eq_getElem?_getD, List.getElem?_eq_getElem (by omega)] at hge ⊢
      simp only [Option.getD_some] at hge ⊢
      omega
  obtain ⟨hin1, hin2⟩ := hin
  repeat' (first | refine red ?_ | refine redf fun hbi => ?_ | refine reds ?_ | (refine redi (fun hc => ?_) (fun hc => ?_) <;> try first | (exfalso; omega) | exact absurd rfl hc) | fail)
  · refine wq_next (k + 1) ⟨by omega, fun i hi => ?_⟩ (by omega) (by kernel_rfl) ent_e
    by_cases he : i = k
    · rw [he]; exact hc
    · exact hkk i (by omega)
  · exact ⟨(), rfl, ent_e⟩
abbrev IntoU (xs : List Int) (n : Int) : Type := { ys : List Int // ys.Pairwise (· < ·) ∧ (∀ q, q ∈ ys ↔ q = n ∨ q ∈ xs) ∧ ys.length ≤ xs.length + 1 }
theorem l1IntoOw_spec {w0 : World} {Γ Δ : List Atom} {v : Value} {xs : List Int} {n : Int} [hp : PullOw (List Int) repList Γ [v] xs Δ] (hs : xs.Pairwise (· < ·)) (hl : xs.length ≤ 1000) (hi : -9223372036854775808 ≤ n ∧ n ≤ 9223372036854775807) : CJ Try.prog 59 [v, .int .i64 n] w0 Γ (fun p : Value × IntoU xs n => p.1) (fun p => .ow [p.1] p.2.1 :: Δ) := by
  refine cj_perm hp.perm ?_
  intro w hw
  by_cases hn : n ∈ xs
  · refine (l1Into_old (xs := xs) hn hs w hw).mono fun e w' ⟨p, he, hs'⟩ => ⟨(v, ⟨xs, hs, fun q => ⟨fun h => .inr h, fun h => ?_⟩, by omega⟩), he, hs'⟩
    rcases h with h | h
    · rw [h]; exact hn
    · exact h
  · refine (l1Into_spec (xs := xs) hn hl hi w hw).mono fun e w' ⟨p, he, hs'⟩ => ⟨(p.1, ⟨p.2.1, p.2.2.2.2 hs, p.2.2.2.1, by have := p.2.2.1; omega⟩), he, ?_⟩
    have h2 : Ent w0 (.ow [p.1] p.2.1 :: .ow [v] xs :: Δ) (.ow [p.1] p.2.1 :: Δ) := ent_e
    exact h2 _ hs'
instance l1IntoOw_ctr {Γ Δ : List Atom} {v : Value} {xs : List Int} {n : Int} [hp : PullOw (List Int) repList Γ [v] xs Δ] :
    CtrC Try.prog 59 [v, .int .i64 n] Γ ((xs.Pairwise (· < ·)) ∧ (xs.length ≤ 1000) ∧ (-9223372036854775808 ≤ n ∧ n ≤ 9223372036854775807)) (Value × IntoU xs n) (fun p : Value × IntoU xs n => p.1) (fun p => .ow [p.1] p.2.1 :: Δ) := ⟨fun s w0 => l1IntoOw_spec s.1 s.2.1 s.2.2⟩

attribute [instance 2000] l1IntoOw_ctr
end Go.Proofs.Ytjblieilblcdnaa
