/- Numbers below 100 in decimal. -/
import Derived.Test.YtogmjihokkdcfaaGreatDoorStr
import Derived.Test.YtogmjihokkdcfaaGreatDoorBase
namespace Go.Proofs.YtogmjihokkdcfaaGreatDoor
open Go Go.Eng
set_option linter.unusedVariables false
set_option linter.unusedSimpArgs false
set_option synthInstance.maxHeartbeats 400000
set_option synthInstance.maxSize 1000
set_option maxRecDepth 20000

def S (l : List UInt8) : ByteArray := ⟨l.toArray⟩
def numL (n : Nat) : List UInt8 := if n < 10 then [UInt8.ofNat (48 + n)] else [UInt8.ofNat (48 + n / 10), UInt8.ofNat (48 + n % 10)]
theorem S_size (l : List UInt8) : (S l).size = l.length := by simp [S, ByteArray.size]
theorem S_list (l : List UInt8) : (S l).data.toList = l := rfl
theorem S_app (x y : List UInt8) : S x ++ S y = S (x ++ y) := by
  apply ByteArray.ext
  simp [S, ByteArray.data_append]
theorem numL_len (n : Nat) : 1 ≤ (numL n).length ∧ (numL n).length ≤ 2 := by
  unfold numL; split <;> simp
theorem small_spec {w0 : World} {Γ : List Atom} {n : Nat} (hn : n < 100) : CJ Tryz.prog 105 [.int .i64 (n : Int)] w0 Γ (fun _ : Unit => .string (S (numL n))) (fun _ => Γ) := by
  refine cj_enter Tryz.func105 Tryz.ntmps105 ?_
  repeat' (first | refine red ?_ | refine redf fun hbi => ?_ | refine reds ?_ | refine redc fun r => ?_ | refine redp (fun r => ?_) (fun r => ?_) | refine redv fun sv => ?_ | refine redn fun b => ?_ | refine redz fun zs => ?_ | refine redq (fun hc => ?_) (fun hc => ?_) | with_reducible refine wq_blk_o rfl ?_ | (refine redi (fun hc => ?_) (fun hc => ?_) <;> try first | (exfalso; omega) | with_reducible first | exact absurd rfl hc | exact absurd hc Bool.false_ne_true | exact absurd hc Bool.false_ne_true.symm) | fail)
  · refine reds ?_ ⟨by omega, by omega, Int.le_trans (show (n : Int) + 1 ≤ ((36 : Nat) : Int) by omega) (Int.ofNat_le.2 (Nat.le_of_ble_eq_true (by kernel_rfl)))⟩
    repeat' (first | refine red ?_ | refine redf fun hbi => ?_ | refine reds ?_ | refine redc fun r => ?_ | refine redp (fun r => ?_) (fun r => ?_) | refine redv fun sv => ?_ | refine redn fun b => ?_ | refine redz fun zs => ?_ | refine redq (fun hc => ?_) (fun hc => ?_) | with_reducible refine wq_blk_o rfl ?_ | (refine redi (fun hc => ?_) (fun hc => ?_) <;> try first | (exfalso; omega) | with_reducible first | exact absurd rfl hc | exact absurd hc Bool.false_ne_true | exact absurd hc Bool.false_ne_true.symm) | fail)
    refine ⟨(), congrArg Value.string ?_, ent_e⟩
    have hc' : n < 10 := by omega
    clear hn hc
    revert n
    decide +kernel
  · refine reds ?_ ⟨by omega, by omega, Int.le_trans (show (n : Int) * 2 + 2 ≤ ((200 : Nat) : Int) by omega) (Int.ofNat_le.2 (Nat.le_of_ble_eq_true (by kernel_rfl)))⟩
    repeat' (first | refine red ?_ | refine redf fun hbi => ?_ | refine reds ?_ | refine redc fun r => ?_ | refine redp (fun r => ?_) (fun r => ?_) | refine redv fun sv => ?_ | refine redn fun b => ?_ | refine redz fun zs => ?_ | refine redq (fun hc => ?_) (fun hc => ?_) | with_reducible refine wq_blk_o rfl ?_ | (refine redi (fun hc => ?_) (fun hc => ?_) <;> try first | (exfalso; omega) | with_reducible first | exact absurd rfl hc | exact absurd hc Bool.false_ne_true | exact absurd hc Bool.false_ne_true.symm) | fail)
    refine ⟨(), congrArg Value.string ?_, ent_e⟩
    have hc' : 10 ≤ n := by omega
    clear hc
    revert n
    decide +kernel
instance small_ctr {Γ : List Atom} {n : Nat} :
    CtrC Tryz.prog 105 [.int .i64 (n : Int)] Γ (n < 100) (Unit) (fun _ : Unit => .string (S (numL n))) (fun _ => Γ) := ⟨fun s w0 => small_spec s⟩

theorem iFormatInt_spec {w0 : World} {Γ : List Atom} {n : Nat} (hn : n < 100) : CJ Tryz.prog 94 [.int .i64 (n : Int), .int .i64 10] w0 Γ (fun _ : Unit => .string (S (numL n))) (fun _ => Γ) := by
  refine cj_enter Tryz.func94 Tryz.ntmps94 ?_
  repeat' (first | refine red ?_ | refine redf fun hbi => ?_ | refine reds ?_ | refine redc fun r => ?_ | refine redp (fun r => ?_) (fun r => ?_) | refine redv fun sv => ?_ | refine redn fun b => ?_ | refine redz fun zs => ?_ | refine redq (fun hc => ?_) (fun hc => ?_) | with_reducible refine wq_blk_o rfl ?_ | (refine redd fun p cs as_ hcs has hf => ?_; simp only [Un.cells, Un.atoms, Un.fact, List.cons_append, List.nil_append] at hcs has hf; subst hcs has) | (refine redi (fun hc => ?_) (fun hc => ?_) <;> try first | (exfalso; omega) | with_reducible first | exact absurd rfl hc | exact absurd hc Bool.false_ne_true | exact absurd hc Bool.false_ne_true.symm) | fail)
  all_goals exact ⟨(), rfl, ent_e⟩
instance iFormatInt_ctr {Γ : List Atom} {n : Nat} :
    CtrC Tryz.prog 94 [.int .i64 (n : Int), .int .i64 10] Γ (n < 100) (Unit) (fun _ : Unit => .string (S (numL n))) (fun _ => Γ) := ⟨fun s w0 => iFormatInt_spec s⟩

theorem FormatInt_spec {w0 : World} {Γ : List Atom} {n : Nat} (hn : n < 100) : CJ Tryz.prog 79 [.int .i64 (n : Int), .int .i64 10] w0 Γ (fun _ : Unit => .string (S (numL n))) (fun _ => Γ) := by
  refine cj_enter Tryz.func79 Tryz.ntmps79 ?_
  repeat' (first | refine red ?_ | refine redf fun hbi => ?_ | refine reds ?_ | refine redc fun r => ?_ | refine redp (fun r => ?_) (fun r => ?_) | refine redv fun sv => ?_ | refine redn fun b => ?_ | refine redz fun zs => ?_ | refine redq (fun hc => ?_) (fun hc => ?_) | with_reducible refine wq_blk_o rfl ?_ | (refine redi (fun hc => ?_) (fun hc => ?_) <;> try first | (exfalso; omega) | with_reducible first | exact absurd rfl hc | exact absurd hc Bool.false_ne_true | exact absurd hc Bool.false_ne_true.symm) | fail)
  all_goals exact ⟨(), rfl, ent_e⟩
instance FormatInt_ctr {Γ : List Atom} {n : Nat} :
    CtrC Tryz.prog 79 [.int .i64 (n : Int), .int .i64 10] Γ (n < 100) (Unit) (fun _ : Unit => .string (S (numL n))) (fun _ => Γ) := ⟨fun s w0 => FormatInt_spec s⟩

theorem num_spec {w0 : World} {Γ : List Atom} {i : Int} {n : Nat} [hm : ToN i n] (hn : 0 ≤ i ∧ i < 100) : CJ Tryz.prog 62 [.int .i64 i] w0 Γ (fun _ : Unit => .string (S (numL n))) (fun _ => Γ) := by
  obtain rfl : i = (n : Int) := by have := hm.eq; omega
  refine cj_enter Tryz.func62 Tryz.ntmps62 ?_
  repeat' (first | refine red ?_ | refine redf fun hbi => ?_ | refine reds ?_ | refine redc fun r => ?_ | refine redp (fun r => ?_) (fun r => ?_) | refine redv fun sv => ?_ | refine redn fun b => ?_ | refine redz fun zs => ?_ | refine redq (fun hc => ?_) (fun hc => ?_) | with_reducible refine wq_blk_o rfl ?_ | (refine redi (fun hc => ?_) (fun hc => ?_) <;> try first | (exfalso; omega) | with_reducible first | exact absurd rfl hc | exact absurd hc Bool.false_ne_true | exact absurd hc Bool.false_ne_true.symm) | fail)
  all_goals exact ⟨(), rfl, ent_e⟩
instance num_ctr {Γ : List Atom} {i : Int} {n : Nat} [hm : ToN i n] :
    CtrC Tryz.prog 62 [.int .i64 i] Γ (0 ≤ i ∧ i < 100) (Unit) (fun _ : Unit => .string (S (numL n))) (fun _ => Γ) := ⟨fun s w0 => num_spec s⟩

/-- What stands so far, and what is left. -/
def lI (n k : Nat) : List UInt8 × Nat := if k = 0 then ([], n) else if k = 1 then ([UInt8.ofNat (48 + n % 10)], n / 10) else (numL n, 0)
theorem l1Int_spec {w0 : World} {Γ : List Atom} {i : Int} {n : Nat} [hm : ToN i n] (hn : 0 ≤ i ∧ i < 100) : CJ Tryz.prog 68 [.int .i64 i] w0 Γ (fun _ : Unit => .string (S (numL n))) (fun _ => Γ) := by
  obtain rfl : i = (n : Int) := by have := hm.eq; omega
  refine cj_enter Tryz.func68 Tryz.ntmps68 ?_
  repeat' (first | refine red ?_ | refine redf fun hbi => ?_ | refine reds ?_ | refine redc fun r => ?_ | refine redp (fun r => ?_) (fun r => ?_) | refine redv fun sv => ?_ | refine redn fun b => ?_ | refine redz fun zs => ?_ | refine redq (fun hc => ?_) (fun hc => ?_) | with_reducible refine wq_blk_o rfl ?_ | (refine redi (fun hc => ?_) (fun hc => ?_) <;> try first | (exfalso; omega) | with_reducible first | exact absurd rfl hc | exact absurd hc Bool.false_ne_true | exact absurd hc Bool.false_ne_true.symm) | fail)
  refine wc_loop_c [0, 3] [8, 9, 10, 11, 12, 13, 14, 15, 5, 16, 17, 18, 19, 20, 21, 22, 23, 24, 25, 26, 27, 28] (ι := Nat) (fun k => [.int .i64 ((lI n k).2 : Nat), .string (S (lI n k).1)]) (fun k => k ≤ 2 ∧ (k = 2 → 10 ≤ n)) (fun k => 2 - k) 0 (by kernel_rfl) ⟨by decide, by omega⟩ ?_
  intro k u l' hl' ⟨hk, hk2⟩
  simp only [patch, List.map_cons, List.map_nil, List.set_cons_zero, List.set_cons_succ] at hl'
  subst hl'
  have hmod : (n : Int).tmod 10 = ((n % 10 : Nat) : Int) := by rw [Int.tmod_eq_emod_of_nonneg (by omega)]; rfl
  have hdiv : (n : Int).tdiv 10 = ((n / 10 : Nat) : Int) := by rw [Int.tdiv_eq_ediv_of_nonneg (by omega)]; rfl
  have hmod2 : ((n / 10 : Nat) : Int).tmod 10 = ((n / 10 % 10 : Nat) : Int) := by rw [Int.tmod_eq_emod_of_nonneg (by omega)]; rfl
  have hdiv2 : ((n / 10 : Nat) : Int).tdiv 10 = ((n / 10 / 10 : Nat) : Int) := by rw [Int.tdiv_eq_ediv_of_nonneg (by omega)]; rfl
  have hS : ∀ c : UInt8, (S [c]).size = 1 := fun c => rfl
  have h0 : lI n 0 = ([], n) := rfl
  have h1 : lI n 1 = ([UInt8.ofNat (48 + n % 10)], n / 10) := rfl
  have h2 : lI n 2 = (numL n, 0) := rfl
  have hne : ∀ l : List UInt8, 1 ≤ l.length → ¬ S l = { data := #[] } := fun l hl e => by
    have := congrArg ByteArray.size e
    rw [S_size] at this
    have h3 : ({ data := #[] } : ByteArray).size = 0 := rfl
    omega
  by_cases k0 : k = 0
  · subst k0
    rw [h0]
    simp only
    repeat' (first | refine red ?_ | refine redf fun hbi => ?_ | refine reds ?_ | refine redc fun r => ?_ | refine redp (fun r => ?_) (fun r => ?_) | refine redv fun sv => ?_ | refine redn fun b => ?_ | refine redz fun zs => ?_ | refine redq (fun hc => ?_) (fun hc => ?_) | with_reducible refine wq_blk_o rfl ?_ | (refine redi (fun hc => ?_) (fun hc => ?_) <;> try first | (exfalso; omega) | with_reducible first | exact absurd rfl hc | exact absurd hc Bool.false_ne_true | exact absurd hc Bool.false_ne_true.symm) | fail)
    refine reds ?_ (show (1 + 0 : Nat) ≤ 9223372036854775807 by decide)
    repeat' (first | refine red ?_ | refine redf fun hbi => ?_ | refine reds ?_ | refine redc fun r => ?_ | refine redp (fun r => ?_) (fun r => ?_) | refine redv fun sv => ?_ | refine redn fun b => ?_ | refine redz fun zs => ?_ | refine redq (fun hc => ?_) (fun hc => ?_) | with_reducible refine wq_blk_o rfl ?_ | (refine redi (fun hc => ?_) (fun hc => ?_) <;> try first | (exfalso; omega) | with_reducible first | exact absurd rfl hc | exact absurd hc Bool.false_ne_true | exact absurd hc Bool.false_ne_true.symm) | fail)
    rw [hmod, hdiv, show (({ data := [UInt8.ofNat (48 + ((n % 10 : Nat) : Int)).toNat].toArray } : ByteArray) ++ S []) = S (lI n 1).1 by
      rw [h1, show ({ data := [UInt8.ofNat (48 + ((n % 10 : Nat) : Int)).toNat].toArray } : ByteArray) = S [UInt8.ofNat (48 + n % 10)] by
        rw [show (48 + ((n % 10 : Nat) : Int)).toNat = 48 + n % 10 by omega]; rfl, S_app, List.append_nil]]
    exact wq_next 1 ⟨by omega, by omega⟩ (by omega) (by kernel_rfl) ent_e
  by_cases k1 : k = 1
  · subst k1
    rw [h1]
    simp only
    repeat' (first | refine red ?_ | refine redf fun hbi => ?_ | refine reds ?_ | refine redc fun r => ?_ | refine redp (fun r => ?_) (fun r => ?_) | refine redv fun sv => ?_ | refine redn fun b => ?_ | refine redz fun zs => ?_ | refine redq (fun hc => ?_) (fun hc => ?_) | with_reducible refine wq_blk_o rfl ?_ | (refine redi (fun hc => ?_) (fun hc => ?_) <;> try first | (exfalso; omega) | with_reducible first | exact absurd rfl hc | exact absurd hc Bool.false_ne_true | exact absurd hc Bool.false_ne_true.symm) | fail)
    · exact absurd ‹S [UInt8.ofNat (48 + n % 10)] = { data := #[] }› (hne _ (by simp))
    · refine reds ?_ (show (1 + 1 : Nat) ≤ 9223372036854775807 by decide)
      have hge : 10 ≤ n := by omega
      repeat' (first | refine red ?_ | refine redf fun hbi => ?_ | refine reds ?_ | refine redc fun r => ?_ | refine redp (fun r => ?_) (fun r => ?_) | refine redv fun sv => ?_ | refine redn fun b => ?_ | refine redz fun zs => ?_ | refine redq (fun hc => ?_) (fun hc => ?_) | with_reducible refine wq_blk_o rfl ?_ | (refine redi (fun hc => ?_) (fun hc => ?_) <;> try first | (exfalso; omega) | with_reducible first | exact absurd rfl hc | exact absurd hc Bool.false_ne_true | exact absurd hc Bool.false_ne_true.symm) | fail)
      rw [hmod2, hdiv2, show (({ data := [UInt8.ofNat (48 + ((n / 10 % 10 : Nat) : Int)).toNat].toArray } : ByteArray) ++ S [UInt8.ofNat (48 + n % 10)]) = S (lI n 2).1 by
        rw [h2, show ({ data := [UInt8.ofNat (48 + ((n / 10 % 10 : Nat) : Int)).toNat].toArray } : ByteArray) = S [UInt8.ofNat (48 + n / 10)] by
          rw [show (48 + ((n / 10 % 10 : Nat) : Int)).toNat = 48 + n / 10 by omega]; rfl, S_app]
        simp only [numL]
        rw [if_neg (by omega)]; rfl, show n / 10 / 10 = 0 by omega]
      exact wq_next 2 ⟨by omega, fun _ => hge⟩ (by omega) (by kernel_rfl) ent_e
    · have hlt : n < 10 := by omega
      refine ⟨(), congrArg Value.string ?_, ent_e⟩
      simp only [numL]
      rw [if_pos hlt, show n % 10 = n by omega]
  · obtain rfl : k = 2 := by omega
    rw [h2]
    simp only
    repeat' (first | refine red ?_ | refine redf fun hbi => ?_ | refine reds ?_ | refine redc fun r => ?_ | refine redp (fun r => ?_) (fun r => ?_) | refine redv fun sv => ?_ | refine redn fun b => ?_ | refine redz fun zs => ?_ | refine redq (fun hc => ?_) (fun hc => ?_) | with_reducible refine wq_blk_o rfl ?_ | (refine redi (fun hc => ?_) (fun hc => ?_) <;> try first | (exfalso; omega) | with_reducible first | exact absurd rfl hc | exact absurd hc Bool.false_ne_true | exact absurd hc Bool.false_ne_true.symm) | fail)
    · exact absurd ‹S (numL n) = { data := #[] }› (hne _ (numL_len n).1)
    · exact absurd ‹S (numL n) = { data := #[] }› (hne _ (numL_len n).1)
    · exact ⟨(), rfl, ent_e⟩
instance l1Int_ctr {Γ : List Atom} {i : Int} {n : Nat} [hm : ToN i n] :
    CtrC Tryz.prog 68 [.int .i64 i] Γ (0 ≤ i ∧ i < 100) (Unit) (fun _ : Unit => .string (S (numL n))) (fun _ => Γ) := ⟨fun s w0 => l1Int_spec s⟩

end Go.Proofs.YtogmjihokkdcfaaGreatDoor
