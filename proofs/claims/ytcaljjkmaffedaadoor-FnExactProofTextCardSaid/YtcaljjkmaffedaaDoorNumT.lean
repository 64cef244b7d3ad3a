/- Numbers and lists of numbers as texts: the reference and the program. -/
import Derived.Test.YtcaljjkmaffedaaDoorNumG
namespace Go.Proofs.YtcaljjkmaffedaaDoor
open Go Go.Eng
set_option linter.unusedVariables false
set_option linter.unusedSimpArgs false
set_option synthInstance.maxHeartbeats 400000
set_option synthInstance.maxSize 1000
set_option maxRecDepth 20000

/-- What stands after some digits: m is left, s is written. -/
def DgI (D : List UInt8) (m : Nat) (s : List UInt8) : Prop := (0 < m ∧ Lib.decDigits m ++ s = D) ∨ (m = 0 ∧ s = D)
theorem DgI.next {D : List UInt8} {m : Nat} {s : List UInt8} (h : DgI D m s) (hm : 0 < m) : DgI D (m / 10) (UInt8.ofNat (48 + m % 10) :: s) := by
  rcases h with ⟨_, h⟩ | ⟨h, _⟩
  · by_cases h10 : m < 10
    · refine .inr ⟨by omega, ?_⟩
      rw [← h, dd_one m h10]; rfl
    · refine .inl ⟨by omega, ?_⟩
      rw [← h, dd_ten m (by omega), List.append_assoc]; rfl
  · omega
theorem DgI.len {D : List UInt8} {m : Nat} {s : List UInt8} (h : DgI D m s) : s.length ≤ D.length := by
  rcases h with ⟨_, h⟩ | ⟨_, h⟩
  · rw [← h, List.length_append]; omega
  · rw [h]; exact Nat.le_refl _
theorem dd_len {n : Nat} (h : n ≤ 9223372036854775808) : (Lib.decDigits n).length ≤ 20 := by
  have h1 := Lib.itoa_length_le (-(n : Int)) (by omega) (by omega)
  by_cases hn : n = 0
  · subst hn; decide +kernel
  · rw [Lib.itoa_neg n (by omega)] at h1
    simp only [List.length_cons] at h1
    omega
theorem l32Digits_spec {w0 : World} {Γ : List Atom} {i : Int} (hi : -9223372036854775808 ≤ i ∧ i < 0) :
    CJ Tryd.prog 106 [.int .i64 i] w0 Γ (fun _ : Unit => .string (S (Lib.decDigits i.natAbs))) (fun _ => Γ) := by
  obtain ⟨n, rfl⟩ : ∃ n : Nat, i = -(n : Int) := ⟨i.natAbs, by omega⟩
  rw [show (-(n : Int)).natAbs = n by omega]
  have hD : (Lib.decDigits n).length ≤ 20 := dd_len (by omega)
  refine cj_enter Tryd.func106 Tryd.ntmps106 ?_
  repeat' (first | refine red ?_ | refine redf fun hbi => ?_ | refine reds ?_ | refine redc fun r => ?_ | refine redp (fun r => ?_) (fun r => ?_) | refine redv fun sv => ?_ | refine redn fun b => ?_ | refine redz fun zs => ?_ | refine redq (fun hc => ?_) (fun hc => ?_) | with_reducible refine wq_blk_o rfl ?_ | (refine redi (fun hc => ?_) (fun hc => ?_) <;> try first | (exfalso; omega) | with_reducible first | exact absurd rfl hc | exact absurd hc Bool.false_ne_true | exact absurd hc Bool.false_ne_true.symm) | fail)
  refine wc_loop_c [0, 3] [4, 5, 6, 7, 8, 9, 10, 11, 12, 13, 14, 15] (ι := Nat × List UInt8) (fun k => [.int .i64 (-(k.1 : Int)), .string (S k.2)]) (fun k => k.1 ≤ 9223372036854775808 ∧ DgI (Lib.decDigits n) k.1 k.2) (fun k => k.1) (n, []) (by kernel_rfl) ⟨by simp only; omega, .inl ⟨by simp only; omega, List.append_nil _⟩⟩ ?_
  intro ⟨m, s⟩ u l' hl' ⟨hm, hd⟩
  simp only [patch, List.map_cons, List.map_nil, List.set_cons_zero, List.set_cons_succ] at hl'
  subst hl'
  simp only at hm hd ⊢
  have hln := hd.len
  have hmod : (-(m : Int)).tmod 10 = -((m % 10 : Nat) : Int) := by rw [Int.neg_tmod, Int.tmod_eq_emod_of_nonneg (by omega)]; rfl
  have hdiv : (-(m : Int)).tdiv 10 = -((m / 10 : Nat) : Int) := by rw [Int.neg_tdiv, Int.tdiv_eq_ediv_of_nonneg (by omega)]; rfl
  have hSs := S_size s
  have hs1 : ({ data := #[UInt8.ofNat (48 - (-(m : Int)).tmod 10).toNat] } : ByteArray).size = 1 := rfl
  repeat' (first | refine red ?_ | refine redf fun hbi => ?_ | refine reds ?_ | refine redc fun r => ?_ | refine redp (fun r => ?_) (fun r => ?_) | refine redv fun sv => ?_ | refine redn fun b => ?_ | refine redz fun zs => ?_ | refine redq (fun hc => ?_) (fun hc => ?_) | with_reducible refine wq_blk_o rfl ?_ | (refine redi (fun hc => ?_) (fun hc => ?_) <;> try first | (exfalso; omega) | with_reducible first | exact absurd rfl hc | exact absurd hc Bool.false_ne_true | exact absurd hc Bool.false_ne_true.symm) | fail)
  · rw [hmod, hdiv, show (48 - -((m % 10 : Nat) : Int)).toNat = 48 + m % 10 by omega, S_dig]
    exact wq_next (m / 10, UInt8.ofNat (48 + m % 10) :: s) ⟨by simp only; omega, hd.next (by omega)⟩ (by simp only; omega) (by kernel_rfl) ent_e
  · rcases hd with ⟨h, _⟩ | ⟨_, h⟩
    · omega
    · exact ⟨(), by rw [h], ent_e⟩
instance l32Digits_ctr {Γ : List Atom} {i : Int} :
    CtrC Tryd.prog 106 [.int .i64 i] Γ (-9223372036854775808 ≤ i ∧ i < 0) (Unit) (fun _ : Unit => .string (S (Lib.decDigits i.natAbs))) (fun _ => Γ) := ⟨fun s w0 => l32Digits_spec s⟩

theorem l1IntG_spec {w0 : World} {Γ : List Atom} {i : Int} (hi : 0 ≤ i ∧ i ≤ 9223372036854775807) :
    CJ Tryd.prog 104 [.int .i64 i] w0 Γ (fun _ : Unit => .string (S (Lib.decDigits i.natAbs))) (fun _ => Γ) := by
  obtain ⟨n, rfl⟩ : ∃ n : Nat, i = (n : Int) := ⟨i.natAbs, by omega⟩
  rw [show (n : Int).natAbs = n by omega]
  have hD : (Lib.decDigits n).length ≤ 20 := dd_len (by omega)
  have hn0 := dd_pos n
  refine cj_enter Tryd.func104 Tryd.ntmps104 ?_
  repeat' (first | refine red ?_ | refine redf fun hbi => ?_ | refine reds ?_ | refine redc fun r => ?_ | refine redp (fun r => ?_) (fun r => ?_) | refine redv fun sv => ?_ | refine redn fun b => ?_ | refine redz fun zs => ?_ | refine redq (fun hc => ?_) (fun hc => ?_) | with_reducible refine wq_blk_o rfl ?_ | (refine redi (fun hc => ?_) (fun hc => ?_) <;> try first | (exfalso; omega) | with_reducible first | exact absurd rfl hc | exact absurd hc Bool.false_ne_true | exact absurd hc Bool.false_ne_true.symm) | fail)
  refine wc_loop_c [0, 3] [8, 9, 10, 11, 12, 13, 14, 15, 5, 16, 17, 18, 19, 20, 21, 22, 23, 24, 25, 26, 27, 28] (ι := Nat × List UInt8) (fun k => [.int .i64 (k.1 : Int), .string (S k.2)]) (fun k => k.1 ≤ 9223372036854775807 ∧ ((k.2 = [] ∧ k.1 = n) ∨ (0 < k.2.length ∧ DgI (Lib.decDigits n) k.1 k.2))) (fun k => if k.2.length = 0 then k.1 + 1 else k.1) (n, []) (by kernel_rfl) ⟨by simp only; omega, .inl ⟨rfl, rfl⟩⟩ ?_
  intro ⟨m, s⟩ u l' hl' ⟨hm, hd⟩
  simp only [patch, List.map_cons, List.map_nil, List.set_cons_zero, List.set_cons_succ] at hl'
  subst hl'
  simp only at hm hd ⊢
  have hln : s.length ≤ (Lib.decDigits n).length := by
    rcases hd with ⟨h, _⟩ | ⟨_, h⟩
    · rw [h]; exact Nat.zero_le _
    · exact h.len
  have hmod : (m : Int).tmod 10 = ((m % 10 : Nat) : Int) := by rw [Int.tmod_eq_emod_of_nonneg (by omega)]; rfl
  have hdiv : (m : Int).tdiv 10 = ((m / 10 : Nat) : Int) := by rw [Int.tdiv_eq_ediv_of_nonneg (by omega)]; rfl
  have hSs := S_size s
  have hs1 : ({ data := #[UInt8.ofNat (48 + (m : Int).tmod 10).toNat] } : ByteArray).size = 1 := rfl
  have hnx : (s = [] ∧ m = n) ∨ (0 < s.length ∧ 0 < m) → DgI (Lib.decDigits n) (m / 10) (UInt8.ofNat (48 + m % 10) :: s) := fun h => by
    rcases hd with ⟨h1, rfl⟩ | ⟨h1, h2⟩
    · rw [h1]
      by_cases h10 : m < 10
      · exact .inr ⟨by omega, by rw [dd_one m h10]⟩
      · exact .inl ⟨by omega, by rw [dd_ten m (by omega)]⟩
    · refine h2.next ?_
      rcases h with ⟨h, _⟩ | ⟨_, h⟩
      · rw [h] at h1; simp at h1
      · exact h
  have hsn : ¬ S s = { data := #[] } → 0 < s.length := fun h => by
    rcases hd with ⟨h1, _⟩ | ⟨h1, _⟩
    · rw [h1] at h; exact absurd S_nil h
    · exact h1
  have hst : (s = [] ∧ m = n) ∨ (0 < s.length ∧ 0 < m) → ((if s.length = 0 then m + 1 else m) > m / 10) := fun h => by
    rcases h with ⟨h, _⟩ | ⟨h, h2⟩
    · rw [h, List.length_nil, if_pos rfl]; omega
    · rw [if_neg (by omega)]; omega
  repeat' (first | refine red ?_ | refine redf fun hbi => ?_ | refine reds ?_ | refine redc fun r => ?_ | refine redp (fun r => ?_) (fun r => ?_) | refine redv fun sv => ?_ | refine redn fun b => ?_ | refine redz fun zs => ?_ | refine redq (fun hc => ?_) (fun hc => ?_) | with_reducible refine wq_blk_o rfl ?_ | (refine redi (fun hc => ?_) (fun hc => ?_) <;> try first | (exfalso; omega) | with_reducible first | exact absurd rfl hc | exact absurd hc Bool.false_ne_true | exact absurd hc Bool.false_ne_true.symm) | fail)
  · have hq : (s = [] ∧ m = n) ∨ (0 < s.length ∧ 0 < m) := by
      rcases hd with h | h
      · exact .inl h
      · exact absurd ‹S s = { data := #[] }› (S_ne h.1)
    have hst1 := hst hq
    rw [hmod, hdiv, show (48 + ((m % 10 : Nat) : Int)).toNat = 48 + m % 10 by omega, S_dig]
    exact wq_next (m / 10, UInt8.ofNat (48 + m % 10) :: s) ⟨by simp only; omega, .inr ⟨Nat.succ_pos _, hnx hq⟩⟩ (by simp only [List.length_cons, Nat.succ_ne_zero, if_false, Nat.add_eq_zero_iff, and_false]; exact hst1) (by kernel_rfl) ent_e
  · have hq : (s = [] ∧ m = n) ∨ (0 < s.length ∧ 0 < m) := .inr ⟨hsn ‹_›, by omega⟩
    have hst1 := hst hq
    rw [hmod, hdiv, show (48 + ((m % 10 : Nat) : Int)).toNat = 48 + m % 10 by omega, S_dig]
    exact wq_next (m / 10, UInt8.ofNat (48 + m % 10) :: s) ⟨by simp only; omega, .inr ⟨Nat.succ_pos _, hnx hq⟩⟩ (by simp only [List.length_cons, Nat.succ_ne_zero, if_false, Nat.add_eq_zero_iff, and_false]; exact hst1) (by kernel_rfl) ent_e
  · have h0 := hsn ‹_›
    refine ⟨(), ?_, ent_e⟩
    rcases hd with ⟨h, _⟩ | ⟨_, ⟨h, _⟩ | ⟨_, h⟩⟩
    · rw [h] at h0; simp at h0
    · omega
    · rw [h]
instance l1IntG_ctr {Γ : List Atom} {i : Int} :
    CtrC Tryd.prog 104 [.int .i64 i] Γ (0 ≤ i ∧ i ≤ 9223372036854775807) (Unit) (fun _ : Unit => .string (S (Lib.decDigits i.natAbs))) (fun _ => Γ) := ⟨fun s w0 => l1IntG_spec s⟩

attribute [local instance 2000] l1IntG_ctr
theorem l32Number_spec {w0 : World} {Γ : List Atom} {i : Int} (hi : -9223372036854775808 ≤ i ∧ i ≤ 9223372036854775807) :
    CJ Tryd.prog 81 [.int .i64 i] w0 Γ (fun _ : Unit => .string (S (Lib.itoa i))) (fun _ => Γ) := by
  have hs1 : ({ data := #[45] } : ByteArray).size = 1 := rfl
  have hl : (Lib.decDigits i.natAbs).length ≤ 20 := dd_len (by omega)
  have hSs := S_size (Lib.decDigits i.natAbs)
  refine cj_enter Tryd.func81 Tryd.ntmps81 ?_
  repeat' (first | refine red ?_ | refine redf fun hbi => ?_ | refine reds ?_ | refine redc fun r => ?_ | refine redp (fun r => ?_) (fun r => ?_) | refine redv fun sv => ?_ | refine redn fun b => ?_ | refine redz fun zs => ?_ | refine redq (fun hc => ?_) (fun hc => ?_) | with_reducible refine wq_blk_o rfl ?_ | (refine redi (fun hc => ?_) (fun hc => ?_) <;> try first | (exfalso; omega) | with_reducible first | exact absurd rfl hc | exact absurd hc Bool.false_ne_true | exact absurd hc Bool.false_ne_true.symm) | fail)
  · refine ⟨(), congrArg Value.string ?_, ent_e⟩
    rw [show ({ data := #[45] } : ByteArray) = S [45] from rfl, S_app, Lib.itoa, if_pos (by omega)]; rfl
  · refine ⟨(), congrArg Value.string ?_, ent_e⟩
    rw [Lib.itoa, if_neg (by omega), show i.natAbs = i.toNat by omega]
instance l32Number_ctr {Γ : List Atom} {i : Int} :
    CtrC Tryd.prog 81 [.int .i64 i] Γ (-9223372036854775808 ≤ i ∧ i ≤ 9223372036854775807) (Unit) (fun _ : Unit => .string (S (Lib.itoa i))) (fun _ => Γ) := ⟨fun s w0 => l32Number_spec s⟩

/-- A list of numbers, each as a text. -/
def nT (xs : List Int) : List ByteArray := xs.map fun n => S (Lib.itoa n)
theorem nT_len (xs : List Int) : (nT xs).length = xs.length := List.length_map _
theorem nT_take (xs : List Int) {k : Nat} (h : k < xs.length) : nT (xs.take k) ++ [S (Lib.itoa (xs.getD k 0))] = nT (xs.take (k + 1)) := by
  unfold nT
  rw [List.take_succ_eq_append_getElem h, List.map_append, List.getD_eq_getElem?_getD, List.getElem?_eq_getElem h]; rfl
theorem szT_le (ss : List ByteArray) (b : Nat) (h : ∀ s ∈ ss, s.size ≤ b) : ∀ k, szT ss k ≤ k * b
  | 0 => Nat.zero_le _
  | k + 1 => by
    have h1 := szT_le ss b h k
    have h2 : (ss.getD k ByteArray.empty).size ≤ b := by
      by_cases hk : k < ss.length
      · rw [List.getD_eq_getElem?_getD, List.getElem?_eq_getElem hk]; exact h _ (List.getElem_mem hk)
      · rw [List.getD_eq_getElem?_getD, List.getElem?_eq_none (by omega)]; exact Nat.zero_le _
    unfold szT
    rw [Nat.succ_mul]; omega
/-- A list of numbers as a text. -/
def lsT (xs : List Int) : ByteArray := if xs.length = 0 then S [45] else S (jnT 44 (nT xs) xs.length)
theorem l1Words_spec {w0 : World} {Γ : List Atom} {v : Value} {ss : List ByteArray} {c : UInt8} [h : HasRd (List ByteArray) repList Γ [v] ss] (hB : szT ss ss.length + ss.length ≤ 1000000000) :
    CJ Tryd.prog 50 [v, .string { data := #[c] }] w0 Γ (fun _ : Unit => .string (S (jnT c ss ss.length))) (fun _ => Γ) := by
  refine cj_len v fun hlen => ?_
  have hcs : ({ data := #[c] } : ByteArray).size = 1 := rfl
  refine cj_enter Tryd.func50 Tryd.ntmps50 ?_
  repeat' (first | refine red ?_ | refine redf fun hbi => ?_ | refine reds ?_ | refine redc fun r => ?_ | refine redp (fun r => ?_) (fun r => ?_) | refine redv fun sv => ?_ | refine redn fun b => ?_ | refine redz fun zs => ?_ | refine redq (fun hc => ?_) (fun hc => ?_) | with_reducible refine wq_blk_o rfl ?_ | (refine redd fun p cs as_ hcs has hf => ?_; simp only [Un.cells, Un.atoms, Un.fact, List.cons_append, List.nil_append] at hcs has hf; subst hcs has) | (refine redi (fun hc => ?_) (fun hc => ?_) <;> try first | (exfalso; omega) | with_reducible first | exact absurd rfl hc | exact absurd hc Bool.false_ne_true | exact absurd hc Bool.false_ne_true.symm) | fail)
  refine wc_loop_c [5, 6] [7, 8, 9, 10, 13, 14, 15, 16, 17, 18, 19, 20, 21, 22, 23, 11, 12] (ι := Nat) (fun k => [.string (S (jnT c ss k)), .int .i64 k]) (fun k => k ≤ ss.length) (fun k => ss.length - k) 0 (by kernel_rfl) (Nat.zero_le _) ?_
  intro k u l' hl' hk
  simp only [patch, List.map_cons, List.map_nil, List.set_cons_zero, List.set_cons_succ] at hl'
  subst hl'
  have hjl := jnT_len c ss k
  have hmono := szT_mono ss k (ss.length - k)
  rw [show k + (ss.length - k) = ss.length by omega] at hmono
  have hSs := S_size (jnT c ss k)
  have hap : (S (jnT c ss k) ++ ({ data := #[c] } : ByteArray)).size = (jnT c ss k).length + 1 := by
    rw [show ({ data := #[c] } : ByteArray) = S [c] from rfl, S_app, S_size, List.length_append]; rfl
  have hm1 : k < ss.length → szT ss k + (ss.getD ((k : Nat) : Int).toNat ByteArray.empty).size ≤ szT ss ss.length := fun hkl => by
    have := szT_mono ss (k + 1) (ss.length - (k + 1))
    rw [show k + 1 + (ss.length - (k + 1)) = ss.length by omega] at this
    exact this
  have hgt : ss.getD ((k : Nat) : Int).toNat ByteArray.empty = S (ss.getD k ByteArray.empty).data.toList := by
    rw [Int.toNat_natCast]; exact ByteArray.ext (by simp [S])
  repeat' (first | refine red ?_ | refine redf fun hbi => ?_ | refine reds ?_ | refine redc fun r => ?_ | refine redp (fun r => ?_) (fun r => ?_) | refine redv fun sv => ?_ | refine redn fun b => ?_ | refine redz fun zs => ?_ | refine redq (fun hc => ?_) (fun hc => ?_) | with_reducible refine wq_blk_o rfl ?_ | (refine redd fun p cs as_ hcs has hf => ?_; simp only [Un.cells, Un.atoms, Un.fact, List.cons_append, List.nil_append] at hcs has hf; subst hcs has) | (refine redi (fun hc => ?_) (fun hc => ?_) <;> try first | (exfalso; omega) | with_reducible first | exact absurd rfl hc | exact absurd hc Bool.false_ne_true | exact absurd hc Bool.false_ne_true.symm) | fail)
  · rw [hgt, show ({ data := #[c] } : ByteArray) = S [c] from rfl, S_app, S_app, show jnT c ss k ++ [c] ++ (ss.getD k ByteArray.empty).data.toList = jnT c ss (k + 1) by
      rw [jnT, if_neg (by omega), List.append_assoc]]
    exact wq_next (k + 1) (by omega) (by omega) (by kernel_rfl) ent_e
  · rw [hgt, S_app, show jnT c ss k ++ (ss.getD k ByteArray.empty).data.toList = jnT c ss (k + 1) by
      rw [jnT, if_pos (by omega)]; rfl]
    exact wq_next (k + 1) (by omega) (by omega) (by kernel_rfl) ent_e
  · rw [show k = ss.length by omega]
    exact ⟨(), rfl, ent_e⟩
instance l1Words_ctr {Γ : List Atom} {v : Value} {ss : List ByteArray} {c : UInt8} [h : HasRd (List ByteArray) repList Γ [v] ss] :
    CtrC Tryd.prog 50 [v, .string { data := #[c] }] Γ (szT ss ss.length + ss.length ≤ 1000000000) (Unit) (fun _ : Unit => .string (S (jnT c ss ss.length))) (fun _ => Γ) := ⟨fun s w0 => l1Words_spec s⟩

theorem nT_sz (xs : List Int) (h : ∀ n ∈ xs, In64 n) : szT (nT xs) xs.length ≤ xs.length * 21 := by
  refine szT_le _ 21 (fun s hs => ?_) _
  obtain ⟨n, hn, rfl⟩ := List.mem_map.1 hs
  rw [S_size]
  exact Lib.itoa_length_le n (h n hn).1 (h n hn).2
theorem in64_getD {xs : List Int} (h : ∀ n ∈ xs, In64 n) {k : Nat} (hk : k < xs.length) : -9223372036854775808 ≤ xs.getD k 0 ∧ xs.getD k 0 ≤ 9223372036854775807 := by
  rw [List.getD_eq_getElem?_getD, List.getElem?_eq_getElem hk]
  exact h _ (List.getElem_mem hk)
theorem l32List_spec {w0 : World} {Γ : List Atom} {v : Value} {xs : List Int} [h : HasRd (List Int) repList Γ [v] xs] (hx : xs.length ≤ 1048576) :
    CJ Tryd.prog 52 [v] w0 Γ (fun _ : Unit => .string (lsT xs)) (fun _ => Γ) := by
  refine cj_in64 v fun h64 => ?_
  refine cj_lift (R := [.rd [v] xs]) (A := fun _ => []) (fun w1 => ?_) (reads_cons h (inferInstance)) (fun _ => inferInstance)
  simp only [List.cons_append, List.nil_append]
  have hsz := nT_sz xs h64
  refine cj_enter Tryd.func52 Tryd.ntmps52 ?_
  repeat' (first | refine red ?_ | refine redf fun hbi => ?_ | refine reds ?_ | refine redc fun r => ?_ | refine redp (fun r => ?_) (fun r => ?_) | refine redv fun sv => ?_ | refine redn fun b => ?_ | refine redz fun zs => ?_ | refine redq (fun hc => ?_) (fun hc => ?_) | with_reducible refine wq_blk_o rfl ?_ | (refine redi (fun hc => ?_) (fun hc => ?_) <;> try first | (exfalso; omega) | with_reducible first | exact absurd rfl hc | exact absurd hc Bool.false_ne_true | exact absurd hc Bool.false_ne_true.symm) | fail)
  · exact ⟨(), congrArg Value.string (by rw [lsT, if_pos (by omega)]; rfl), ent_e⟩
  refine wc_loop_p [3, 4] [9, 10, 11, 12, 15, 16, 17, 18, 19, 20, 21, 22, 13, 14] (ι := Nat × Value) (fun k => [k.2, .int .i64 k.1]) (fun k => [.ow [k.2] (nT (xs.take k.1))]) (fun k => k.1 ≤ xs.length) (fun k => xs.length - k.1) (0, sv) [.ow [sv] ([] : List ByteArray)] (by kernel_rfl) (Nat.zero_le _) rfl ?_
  intro ⟨k, sv⟩ u l' hl' hk
  simp only [patch, List.map_cons, List.map_nil, List.set_cons_zero, List.set_cons_succ] at hl'
  subst hl'
  simp only [List.cons_append, List.nil_append] at hk ⊢
  have hkl : (nT (xs.take k)).length = k := by rw [nT_len, List.length_take]; omega
  have hg : k < xs.length → -9223372036854775808 ≤ xs.getD ((k : Nat) : Int).toNat 0 ∧ xs.getD ((k : Nat) : Int).toNat 0 ≤ 9223372036854775807 := fun hk => in64_getD h64 hk
  have hrs : k < xs.length → (S (Lib.itoa (xs.getD k 0))).size ≤ 21 := fun hk => by
    rw [S_size]; exact Lib.itoa_length_le _ (hg hk).1 (hg hk).2
  have hsk : szT (nT (xs.take k)) (nT (xs.take k)).length ≤ k * 21 := by
    have := nT_sz (xs.take k) (fun n hn => h64 n (List.mem_of_mem_take hn))
    rw [List.length_take, show min k xs.length = k by omega] at this
    rw [hkl]; exact this
  repeat' (first | refine red ?_ | refine redf fun hbi => ?_ | refine reds ?_ | refine redc fun r => ?_ | refine redp (fun r => ?_) (fun r => ?_) | refine redv fun sv => ?_ | refine redn fun b => ?_ | refine redz fun zs => ?_ | refine redq (fun hc => ?_) (fun hc => ?_) | with_reducible refine wq_blk_o rfl ?_ | (refine redi (fun hc => ?_) (fun hc => ?_) <;> try first | (exfalso; omega) | with_reducible first | exact absurd rfl hc | exact absurd hc Bool.false_ne_true | exact absurd hc Bool.false_ne_true.symm) | fail)
  · rw [nT_take xs (by omega)]
    exact wq_next (k + 1, sv) (by simp only; omega) (by simp only; omega) (by kernel_rfl) ent_e
  · refine ⟨(), congrArg Value.string ?_, ent_e⟩
    rw [lsT, if_neg (by omega), show k = xs.length by omega, List.take_length, nT_len]
instance l32List_ctr {Γ : List Atom} {v : Value} {xs : List Int} [h : HasRd (List Int) repList Γ [v] xs] :
    CtrC Tryd.prog 52 [v] Γ (xs.length ≤ 1048576) (Unit) (fun _ : Unit => .string (lsT xs)) (fun _ => Γ) := ⟨fun s w0 => l32List_spec s⟩

theorem nT_set (xs : List Int) {k : Nat} (h : k < xs.length) : (nT (xs.take k) ++ List.replicate (xs.length - k) ByteArray.empty).set k (S (Lib.itoa (xs.getD k 0))) = nT (xs.take (k + 1)) ++ List.replicate (xs.length - (k + 1)) ByteArray.empty := by
  have hkl : (nT (xs.take k)).length = k := by rw [nT_len, List.length_take]; omega
  rw [List.set_append_right _ _ (by omega), hkl, Nat.sub_self, show xs.length - k = (xs.length - (k + 1)) + 1 by omega, List.replicate_succ, List.set_cons_zero, ← nT_take xs h, List.append_assoc]; rfl
theorem numsText_spec {w0 : World} {Γ : List Atom} {v : Value} {xs : List Int} {c : UInt8} [h : HasRd (List Int) repList Γ [v] xs] [ht : HasRd (Tab) repTab Γ [tabV] (Tab.mk Lib.pow10Tab)] (hx : xs.length ≤ 1048576) :
    CJ Tryd.prog 90 [v, .string { data := #[c] }] w0 Γ (fun _ : Unit => .string (S (jnT c (nT xs) xs.length))) (fun _ => Γ) := by
  refine cj_in64 v fun h64 => ?_
  refine cj_lift (R := [.rd [v] xs, .rd [tabV] (Tab.mk Lib.pow10Tab)]) (A := fun _ => []) (fun w1 => ?_) (reads_cons h (reads_cons ht (inferInstance))) (fun _ => inferInstance)
  simp only [List.cons_append, List.nil_append]
  have hsz := nT_sz xs h64
  refine cj_enter Tryd.func90 Tryd.ntmps90 ?_
  repeat' (first | refine red ?_ | refine redf fun hbi => ?_ | refine reds ?_ | refine redc fun r => ?_ | refine redp (fun r => ?_) (fun r => ?_) | refine redv fun sv => ?_ | refine redn fun b => ?_ | refine redz fun zs => ?_ | refine redq (fun hc => ?_) (fun hc => ?_) | with_reducible refine wq_blk_o rfl ?_ | (refine redd fun p cs as_ hcs has hf => ?_; simp only [Un.cells, Un.atoms, Un.fact, List.cons_append, List.nil_append] at hcs has hf; subst hcs has) | (refine redi (fun hc => ?_) (fun hc => ?_) <;> try first | (exfalso; omega) | with_reducible first | exact absurd rfl hc | exact absurd hc Bool.false_ne_true | exact absurd hc Bool.false_ne_true.symm) | fail)
  refine wc_loop_p [13] [14, 15, 16, 17, 6, 7, 18, 19, 20, 21, 22, 23] (ι := Nat) (fun k => [.int .i64 k]) (fun k => [.ow [sv] (nT (xs.take k) ++ List.replicate (xs.length - k) ByteArray.empty)]) (fun k => k ≤ xs.length) (fun k => xs.length - k) 0 [.ow [sv] (List.replicate xs.length ByteArray.empty)] (by kernel_rfl) (Nat.zero_le _) rfl ?_
  intro k u l' hl' hk
  simp only [patch, List.map_cons, List.map_nil, List.set_cons_zero, List.set_cons_succ] at hl'
  subst hl'
  simp only [List.cons_append, List.nil_append] at hk ⊢
  have hkl : (nT (xs.take k) ++ List.replicate (xs.length - k) ByteArray.empty).length = xs.length := by rw [List.length_append, nT_len, List.length_take, List.length_replicate]; omega
  have hg : k < xs.length → -9223372036854775808 ≤ xs.getD ((k : Nat) : Int).toNat 0 ∧ xs.getD ((k : Nat) : Int).toNat 0 ≤ 9223372036854775807 := fun hk => in64_getD h64 hk
  have hrs : k < xs.length → (S (Lib.itoa (xs.getD k 0))).size ≤ 21 := fun hk => by
    rw [S_size]; exact Lib.itoa_length_le _ (hg hk).1 (hg hk).2
  have hsk : k = xs.length → szT (nT (xs.take k) ++ List.replicate (xs.length - k) ByteArray.empty) (nT (xs.take k) ++ List.replicate (xs.length - k) ByteArray.empty).length ≤ xs.length * 21 := fun hk => by
    rw [hkl, hk, Nat.sub_self, List.replicate_zero, List.append_nil, List.take_length]; exact hsz
  repeat' (first | refine red ?_ | refine redf fun hbi => ?_ | refine reds ?_ | refine redc fun r => ?_ | refine redp (fun r => ?_) (fun r => ?_) | refine redv fun sv => ?_ | refine redn fun b => ?_ | refine redz fun zs => ?_ | refine redq (fun hc => ?_) (fun hc => ?_) | with_reducible refine wq_blk_o rfl ?_ | (refine redd fun p cs as_ hcs has hf => ?_; simp only [Un.cells, Un.atoms, Un.fact, List.cons_append, List.nil_append] at hcs has hf; subst hcs has) | (refine redi (fun hc => ?_) (fun hc => ?_) <;> try first | (exfalso; omega) | with_reducible first | exact absurd rfl hc | exact absurd hc Bool.false_ne_true | exact absurd hc Bool.false_ne_true.symm) | fail)
  · rw [nT_set xs (by omega)]
    exact wq_next (k + 1) (by omega) (by omega) (by kernel_rfl) ent_e
  · refine ⟨(), congrArg Value.string ?_, ent_e⟩
    rw [hkl, show xs.length - k = 0 by omega, show k = xs.length by omega, List.replicate_zero, List.append_nil, List.take_length]; rfl
instance numsText_ctr {Γ : List Atom} {v : Value} {xs : List Int} {c : UInt8} [h : HasRd (List Int) repList Γ [v] xs] [ht : HasRd (Tab) repTab Γ [tabV] (Tab.mk Lib.pow10Tab)] :
    CtrC Tryd.prog 90 [v, .string { data := #[c] }] Γ (xs.length ≤ 1048576) (Unit) (fun _ : Unit => .string (S (jnT c (nT xs) xs.length))) (fun _ => Γ) := ⟨fun s w0 => numsText_spec s⟩

theorem listText_spec {w0 : World} {Γ : List Atom} {v : Value} {xs : List Int} [h : HasRd (List Int) repList Γ [v] xs] [ht : HasRd (Tab) repTab Γ [tabV] (Tab.mk Lib.pow10Tab)] (hx : xs.length ≤ 1048576) :
    CJ Tryd.prog 61 [v] w0 Γ (fun _ : Unit => .string (lsT xs)) (fun _ => Γ) := by
  refine cj_enter Tryd.func61 Tryd.ntmps61 ?_
  repeat' (first | refine red ?_ | refine redf fun hbi => ?_ | refine reds ?_ | refine redc fun r => ?_ | refine redp (fun r => ?_) (fun r => ?_) | refine redv fun sv => ?_ | refine redn fun b => ?_ | refine redz fun zs => ?_ | refine redq (fun hc => ?_) (fun hc => ?_) | with_reducible refine wq_blk_o rfl ?_ | (refine redi (fun hc => ?_) (fun hc => ?_) <;> try first | (exfalso; omega) | with_reducible first | exact absurd rfl hc | exact absurd hc Bool.false_ne_true | exact absurd hc Bool.false_ne_true.symm) | fail)
  · exact ⟨(), congrArg Value.string (by rw [lsT, if_pos (by omega)]; rfl), ent_e⟩
  · exact ⟨(), congrArg Value.string (by rw [lsT, if_neg (by omega)]), ent_e⟩
instance listText_ctr {Γ : List Atom} {v : Value} {xs : List Int} [h : HasRd (List Int) repList Γ [v] xs] [ht : HasRd (Tab) repTab Γ [tabV] (Tab.mk Lib.pow10Tab)] :
    CtrC Tryd.prog 61 [v] Γ (xs.length ≤ 1048576) (Unit) (fun _ : Unit => .string (lsT xs)) (fun _ => Γ) := ⟨fun s w0 => listText_spec s⟩

end Go.Proofs.YtcaljjkmaffedaaDoor
