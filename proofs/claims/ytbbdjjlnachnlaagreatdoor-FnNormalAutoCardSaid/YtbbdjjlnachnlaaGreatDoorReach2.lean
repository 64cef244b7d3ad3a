/- The states that are reached. -/
import Derived.Test.YtbbdjjlnachnlaaGreatDoorAuto2
namespace Go.Proofs.YtbbdjjlnachnlaaGreatDoor
open Go Go.Eng
set_option linter.unusedVariables false
set_option linter.unusedSimpArgs false
set_option synthInstance.maxHeartbeats 400000
set_option synthInstance.maxSize 1000

theorem has_spec {w0 : World} {Γ : List Atom} {s m : Nat} {q : Int} [hm : ToN q m] (hs : s < 4294967296 ∧ 0 ≤ q ∧ q ≤ 31) : CJ Tryz.prog 100 [.int .u32 (s : Int), .int .i64 q] w0 Γ (fun _ : Unit => .bool (s.testBit m)) (fun _ => Γ) := by
  have hle := shrN_le (a := s) (m := m)
  refine cj_enter Tryz.func100 Tryz.ntmps100 ?_
  repeat' (first | refine red ?_ | refine reds ?_ | fail)
  refine ⟨(), ret_bool ?_, ent_e⟩
  rw [Bool.eq_iff_iff, decide_eq_true_iff]
  exact shr_one.symm
instance has_ctr {Γ : List Atom} {s m : Nat} {q : Int} [hm : ToN q m] :
    CtrC Tryz.prog 100 [.int .u32 (s : Int), .int .i64 q] Γ (s < 4294967296 ∧ 0 ≤ q ∧ q ≤ 31) (Unit) (fun _ : Unit => .bool (s.testBit m)) (fun _ => Γ) := ⟨fun s w0 => has_spec s⟩

theorem mem_take_succK {xs : List Int} {k : Nat} {v : Int} (h : k < xs.length) : v ∈ xs.take (k + 1) ↔ v = xs.getD k 0 ∨ v ∈ xs.take k := by
  rw [mem_take_succ h]; exact ⟨fun h => h.symm, fun h => h.symm⟩
theorem setOf_spec {w0 : World} {Γ : List Atom} {v : Value} {xs : List Int} [h : HasRd (List Int) repList Γ [v] xs] (hx : ∀ q ∈ xs, 0 ≤ q ∧ q < 16) : CJ Tryz.prog 95 [v] w0 Γ (fun q : { s : Nat // s < 65536 ∧ ∀ i : Nat, s.testBit i = true ↔ (i : Int) ∈ xs } => .int .u32 (q.1 : Int)) (fun _ => Γ) := by
  refine cj_lift (R := [.rd [v] xs]) (A := fun _ => []) (fun w1 => ?_) (reads_cons h (inferInstance)) (fun _ => inferInstance)
  simp only [List.cons_append, List.nil_append]
  refine cj_len v fun hlx => ?_
  refine cj_enter Tryz.func95 Tryz.ntmps95 ?_
  repeat' (first | refine red ?_ | fail)
  refine wc_loop_c [3, 8] [9, 10, 11, 5, 12, 13, 14, 15, 16, 17] (ι := Nat × Nat) (fun k => [.int .u32 (k.2 : Int), .int .i64 k.1]) (fun k => k.1 ≤ xs.length ∧ k.2 < 65536 ∧ ∀ i : Nat, k.2.testBit i = true ↔ (i : Int) ∈ xs.take k.1) (fun k => xs.length - k.1) (0, 0) (by kernel_rfl) ⟨Nat.zero_le _, by decide, by simp⟩ ?_
  intro ⟨k, s⟩ u l' hl' ⟨hk, hs, hkk⟩
  simp only [patch, List.map_cons, List.map_nil, List.set_cons_zero, List.set_cons_succ] at hl'
  subst hl'
  have hr : k < xs.length → 0 ≤ xs.getD k 0 ∧ xs.getD k 0 < 16 := fun h => hx _ (getK h)
  simp only at hk hs hkk
  repeat' (first | refine red ?_ | refine redf fun hbi => ?_ | refine reds ?_ | (refine redi (fun hc => ?_) (fun hc => ?_) <;> try first | (exfalso; omega) | exact absurd rfl hc) | fail)
  · refine wq_next (k + 1, setB s (xs.getD k 0).toNat) ⟨by simp only; omega, setB_lt hs (by omega), fun i => ?_⟩ (by simp only; omega) (by kernel_rfl) ent_e
    simp only
    rw [setB_bit, hkk, mem_take_succK (by omega)]
    have : i = (xs.getD k 0).toNat ↔ (i : Int) = xs.getD k 0 := by omega
    rw [this]
  · exact ⟨⟨s, hs, by rw [List.take_of_length_le (by omega)] at hkk; exact hkk⟩, rfl, ent_e⟩
instance setOf_ctr {Γ : List Atom} {v : Value} {xs : List Int} [h : HasRd (List Int) repList Γ [v] xs] :
    CtrC Tryz.prog 95 [v] Γ (∀ q ∈ xs, 0 ≤ q ∧ q < 16) ({ s : Nat // s < 65536 ∧ ∀ i : Nat, s.testBit i = true ↔ (i : Int) ∈ xs }) (fun q : { s : Nat // s < 65536 ∧ ∀ i : Nat, s.testBit i = true ↔ (i : Int) ∈ xs } => .int .u32 (q.1 : Int)) (fun _ => Γ) := ⟨fun s w0 => setOf_spec s⟩

/-- The states of a set, in order. -/
def listN (s n : Nat) : List Int := ((List.range n).filter (fun i => s.testBit i)).map Int.ofNat
theorem listN_succ {s n : Nat} : listN s (n + 1) = listN s n ++ (if s.testBit n = true then [(n : Int)] else []) := by
  unfold listN
  rw [List.range_succ, List.filter_append, List.map_append]
  congr 1
  by_cases h : s.testBit n = true
  · rw [if_pos h, List.filter_cons_of_pos h]; rfl
  · rw [if_neg h, List.filter_cons_of_neg h]; rfl
theorem listN_len {s n : Nat} : (listN s n).length ≤ n := by
  unfold listN
  rw [List.length_map]
  exact Nat.le_trans (List.length_filter_le _ _) (by simp)
theorem list_spec {w0 : World} {Γ : List Atom} {s : Nat} (hs : s < 4294967296) : CJ Tryz.prog 40 [.int .u32 (s : Int)] w0 Γ (fun q : Value => q) (fun q => .ow [q] (listN s 16) :: Γ) := by
  refine cj_lift (R := []) (A := fun q => [.ow [q] (listN s 16)]) (fun w1 => ?_) inferInstance (fun _ => inferInstance)
  simp only [List.cons_append, List.nil_append]
  refine cj_enter Tryz.func40 Tryz.ntmps40 ?_
  repeat' (first | refine red ?_ | fail)
  refine wc_loop_p [3, 5] [6, 7, 4, 8, 9, 10, 11, 12, 13, 14, 15] (ι := Nat × Value) (fun k => [k.2, .int .i64 k.1]) (fun k => [.ow [k.2] (listN s k.1)]) (fun k => k.1 ≤ 16) (fun k => 16 - k.1) (0, .slice none 0 0) [.ow [.slice none 0 0] ([] : List Int)] (by kernel_rfl) (by decide) rfl ?_
  intro ⟨k, sw⟩ u l' hl' hk
  simp only [patch, List.map_cons, List.map_nil, List.set_cons_zero, List.set_cons_succ] at hl'
  subst hl'
  simp only [List.cons_append, List.nil_append] at hk ⊢
  have hn := listN_len (s := s) (n := k)
  have hsc := listN_succ (s := s) (n := k)
  repeat' (first | refine red ?_ | refine reds ?_ | refine redc fun r => ?_ | refine redv fun sv => ?_ | (refine redi (fun hc => ?_) (fun hc => ?_) <;> try first | (exfalso; omega) | exact absurd rfl hc) | fail)
  · rw [if_pos hc] at hsc
    rw [← hsc]
    exact wq_next (k + 1, sv) (by simp only; omega) (by simp only; omega) (by kernel_rfl) ent_e
  · rw [if_neg (by rw [hc]; decide), List.append_nil] at hsc
    rw [← hsc]
    exact wq_next (k + 1, sw) (by simp only; omega) (by simp only; omega) (by kernel_rfl) ent_e
  · obtain rfl : k = 16 := by omega
    exact ⟨_, rfl, ent_e⟩
instance list_ctr {Γ : List Atom} {s : Nat} :
    CtrC Tryz.prog 40 [.int .u32 (s : Int)] Γ (s < 4294967296) (Value) (fun q : Value => q) (fun q => .ow [q] (listN s 16) :: Γ) := ⟨fun s w0 => list_spec s⟩

def InS (rs : List STrans) : Prop := ∀ t ∈ rs, (∀ q ∈ t.2.1, 0 ≤ q ∧ q < 16) ∧ 0 ≤ t.2.2 ∧ t.2.2 < 16
theorem inS_of {ar : List Int} {x : SAuto} (h : AutoP ar x) : InS x.2.1 := by
  intro t ht
  obtain ⟨i, hi, rfl⟩ := List.getElem_of_mem ht
  have h1 := (h.2.2.2.2 i hi).1
  rw [List.getD_eq_getElem?_getD, List.getElem?_eq_getElem hi] at h1
  have h2 := h.2.1
  refine ⟨fun q hq => ?_, ?_, ?_⟩
  · have := allS_mem h1.2.2.1 q hq
    omega
  · exact h1.2.2.2.1
  · have := h1.2.2.2.2
    simp only [Option.getD_some] at this
    omega
theorem getT {ts : List STrans} {k : Nat} (h : k < ts.length) : ts.getD k default ∈ ts := by
  rw [List.getD_eq_getElem?_getD, List.getElem?_eq_getElem h]; exact List.getElem_mem h
end Go.Proofs.YtbbdjjlnachnlaaGreatDoor
namespace Go.Proofs.YtbbdjjlnachnlaaGreatDoor
open Go Go.Eng
set_option linter.unusedVariables false
set_option linter.unusedSimpArgs false
set_option synthInstance.maxHeartbeats 400000
set_option synthInstance.maxSize 1000

theorem sorted_ext : ∀ {xs ys : List Int}, xs.Pairwise (· < ·) → ys.Pairwise (· < ·) → (∀ q, q ∈ xs ↔ q ∈ ys) → xs = ys
  | [], [], _, _, _ => rfl
  | [], y :: ys, _, _, h => absurd ((h y).2 (by simp)) (by simp)
  | x :: xs, [], _, _, h => absurd ((h x).1 (by simp)) (by simp)
  | x :: xs, y :: ys, hx, hy, h => by
    have hx' := List.pairwise_cons.1 hx
    have hy' := List.pairwise_cons.1 hy
    have hxy : x = y := by
      rcases List.mem_cons.1 ((h x).1 (by simp)) with e | e
      · exact e
      rcases List.mem_cons.1 ((h y).2 (by simp)) with e2 | e2
      · exact e2.symm
      have h1 := hy'.1 x e
      have h2 := hx'.1 y e2
      omega
    subst hxy
    congr 1
    refine sorted_ext hx'.2 hy'.2 (fun q => ⟨fun hq => ?_, fun hq => ?_⟩)
    · rcases List.mem_cons.1 ((h q).1 (List.mem_cons_of_mem _ hq)) with e | e
      · have := hx'.1 q hq; omega
      · exact e
    · rcases List.mem_cons.1 ((h q).2 (List.mem_cons_of_mem _ hq)) with e | e
      · have := hy'.1 q hq; omega
      · exact e
theorem sorted_len {xs : List Int} (h : xs.Pairwise (· < ·)) (hr : ∀ q ∈ xs, 0 ≤ q ∧ q < 16) : xs.length ≤ 16 := by
  have hp := List.pairwise_iff_getElem.1 h
  have : SetP 16 xs xs.length := fun i hi => ⟨hr _ (getK hi), fun h0 => by
    rw [List.getD_eq_getElem?_getD, List.getD_eq_getElem?_getD, List.getElem?_eq_getElem hi, List.getElem?_eq_getElem (by omega)]
    exact hp (i - 1) i (by omega) hi (by omega)⟩
  have := setP_len this (by omega)
  omega
theorem into_props {xs : List Int} {n : Int} {k : Nat} (hn : n ∉ xs) (hk : k ≤ xs.length) (h1 : ∀ i, i < k → xs.getD i 0 < n) (h2 : k < xs.length → n ≤ xs.getD k 0) :
    ((xs.take k ++ [n]) ++ xs.drop k).length = xs.length + 1 ∧ (∀ q, q ∈ (xs.take k ++ [n]) ++ xs.drop k ↔ q = n ∨ q ∈ xs) ∧ (xs.Pairwise (· < ·) → ((xs.take k ++ [n]) ++ xs.drop k).Pairwise (· < ·)) := by
  refine ⟨?_, fun q => ?_, fun hp => ?_⟩
  · simp only [List.length_append, List.length_take, List.length_drop, List.length_singleton]; omega
  · rw [List.mem_append, List.mem_append, List.mem_singleton]
    have e : q ∈ xs ↔ q ∈ xs.take k ∨ q ∈ xs.drop k := by rw [← List.mem_append, List.take_append_drop]
    rw [e]
    constructor
    · rintro ((h | h) | h)
      · exact .inr (.inl h)
      · exact .inl h
      · exact .inr (.inr h)
    · rintro (h | h | h)
      · exact .inl (.inr h)
      · exact .inl (.inl h)
      · exact .inr h
  · have hp' := hp
    rw [← List.take_append_drop k xs, List.pairwise_append] at hp'
    obtain ⟨hp1, hp2, hp3⟩ := hp'
    have hlt : ∀ a ∈ xs.take k, a < n := by
      intro a ha
      obtain ⟨i, hi, rfl⟩ := List.getElem_of_mem ha
      rw [List.length_take] at hi
      have := h1 i (by omega)
      rw [List.getD_eq_getElem?_getD, List.getElem?_eq_getElem (by omega)] at this
      rw [List.getElem_take]
      exact this
    have hgt : ∀ b ∈ xs.drop k, n < b := by
      intro b hb
      obtain ⟨i, hi, rfl⟩ := List.getElem_of_mem hb
      rw [List.length_drop] at hi
      have h3 := h2 (by omega)
      rw [List.getD_eq_getElem?_getD, List.getElem?_eq_getElem (by omega)] at h3
      rw [List.getElem_drop]
      have hpw := List.pairwise_iff_getElem.1 hp
      have hne : n ≠ xs[k]'(by omega) := fun e => hn (by rw [e]; exact List.getElem_mem _)
      have h4 : n < xs[k]'(by omega) := by
        have : n ≤ xs[k]'(by omega) := h3
        omega
      by_cases hi0 : i = 0
      · subst hi0; exact h4
      · have := hpw k (k + i) (by omega) (by omega) (by omega)
        omega
    rw [List.pairwise_append, List.pairwise_append]
    refine ⟨⟨hp1, by simp, fun a ha b hb => ?_⟩, hp2, fun a ha b hb => ?_⟩
    · simp only [List.mem_singleton] at hb; subst hb; exact hlt a ha
    · rcases List.mem_append.1 ha with h | h
      · exact hp3 a h b hb
      · simp only [List.mem_singleton] at h; subst h; exact hgt b hb
abbrev IntoT (xs : List Int) (n : Int) : Type := { ys : List Int // ys.length = xs.length + 1 ∧ (∀ q, q ∈ ys ↔ q = n ∨ q ∈ xs) ∧ (xs.Pairwise (· < ·) → ys.Pairwise (· < ·)) }
theorem l1Into_spec {w0 : World} {Γ : List Atom} {v : Value} {xs : List Int} {n : Int} [h : HasRd (List Int) repList Γ [v] xs] (hn : n ∉ xs) (hl : xs.length ≤ 1000) (hi : -9223372036854775808 ≤ n ∧ n ≤ 9223372036854775807) : CJ Tryz.prog 104 [v, .int .i64 n] w0 Γ (fun p : Value × IntoT xs n => p.1) (fun p => .ow [p.1] p.2.1 :: Γ) := by
  refine cj_lift (R := [.rd [v] xs]) (A := fun p : Value × IntoT xs n => [.ow [p.1] p.2.1]) (fun w1 => ?_) (reads_cons h inferInstance) (fun _ => inferInstance)
  simp only [List.cons_append, List.nil_append]
  refine cj_enter Tryz.func104 Tryz.ntmps104 ?_
  repeat' (first | refine red ?_ | fail)
  refine wc_loop_c [5] [7, 8, 9, 10, 11, 12, 13, 14, 15, 16, 17, 18, 19, 20] (ι := Nat) (fun k => [.int .i64 k]) (fun k => k ≤ xs.length ∧ ∀ i, i < k → xs.getD i 0 < n) (fun k => xs.length - k) 0 (by kernel_rfl) ⟨Nat.zero_le _, fun i hi => by omega⟩ ?_
  intro k u l' hl' ⟨hk, hkk⟩
  simp only [patch, List.map_cons, List.map_nil, List.set_cons_zero, List.set_cons_succ] at hl'
  subst hl'
  have hnk : k < xs.length → xs.getD k 0 ≠ n := fun h e => hn (by rw [← e]; exact getK h)
  have htk := List.length_take (i := (k : Int).toNat) (l := xs)
  have hdk := List.length_drop (i := (k : Int).toNat) (l := xs)
  repeat' (first | refine red ?_ | refine redf fun hbi => ?_ | refine reds ?_ | refine redc fun r => ?_ | refine redv fun sv => ?_ | (refine redi (fun hc => ?_) (fun hc => ?_) <;> try first | (exfalso; omega) | exact absurd rfl hc) | fail)
  · refine wq_next (k + 1) ⟨by omega, fun i hi => ?_⟩ (by omega) (by kernel_rfl) ent_e
    by_cases he : i = k
    · rw [he]; exact hc
    · exact hkk i (by omega)
  all_goals
    rw [show ((k : Int)).toNat = k from rfl]
    refine ⟨(sv, ⟨(xs.take k ++ [n]) ++ xs.drop k, into_props hn hk hkk (fun h => by omega)⟩), rfl, ?_⟩
    show Ent _ _ [.ow [sv] ((xs.take k ++ [n]) ++ xs.drop k), .rd [v] xs]
    exact ent_e
end Go.Proofs.YtbbdjjlnachnlaaGreatDoor
