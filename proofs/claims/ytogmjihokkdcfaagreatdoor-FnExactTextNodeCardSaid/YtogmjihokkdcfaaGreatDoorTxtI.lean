/- Texts of terms. -/
import Derived.Test.YtogmjihokkdcfaaGreatDoorNum
import Derived.Test.YtogmjihokkdcfaaGreatDoorAug3
namespace Go.Proofs.YtogmjihokkdcfaaGreatDoor
open Go Go.Eng
set_option linter.unusedVariables false
set_option linter.unusedSimpArgs false
set_option synthInstance.maxHeartbeats 400000
set_option synthInstance.maxSize 1000
set_option maxHeartbeats 2000000
set_option maxRecDepth 20000

/-- The text of what stands at a place; of its first arguments. -/
def tx (a t : List Int) : Nat → Nat → List UInt8
  | 0, _ => []
  | f + 1, p => if t.getD p 0 < 0 then 120 :: numL (-1 - t.getD p 0).toNat else
      102 :: numL (t.getD p 0).toNat ++ ((List.range (arK a t p)).map fun i => (if i = 0 then 40 else 44) :: tx a t f (kidN a t (p + 1) i)).flatten ++ (if arK a t p = 0 then [] else [41])
theorem tx_fuel {a t : List Int} (h : termOk a t = true) : ∀ (f g p : Nat), p < t.length → t.length - p ≤ f → t.length - p ≤ g → tx a t f p = tx a t g p
  | 0, g, p, hp, hf, _ => by omega
  | f + 1, 0, p, hp, _, hg => by omega
  | f + 1, g + 1, p, hp, hf, hg => by
    unfold tx
    by_cases h0 : t.getD p 0 < 0
    · rw [if_pos h0, if_pos h0]
    · rw [if_neg h0, if_neg h0]
      congr 2
      congr 1
      refine List.map_congr_left fun i hi => ?_
      have hi := List.mem_range.1 hi
      have hk := kid_lt h hp hi
      rw [tx_fuel h f g _ hk.2 (by omega) (by omega)]
def TX (a t : List Int) (p : Nat) : List UInt8 := tx a t (t.length - p) p
/-- What is written behind the name, up to argument i. -/
def KX (a t : List Int) (p i : Nat) : List UInt8 := ((List.range i).map fun j => (if j = 0 then 40 else 44) :: TX a t (kidN a t (p + 1) j)).flatten
theorem KX_zero (a t : List Int) (p : Nat) : KX a t p 0 = [] := rfl
theorem KX_succ (a t : List Int) (p i : Nat) : KX a t p (i + 1) = KX a t p i ++ ((if i = 0 then 40 else 44) :: TX a t (kidN a t (p + 1) i)) := by
  unfold KX; rw [List.range_succ, List.map_append, List.flatten_append]; simp
theorem TX_var {a t : List Int} {p : Nat} (hp : p < t.length) (h0 : t.getD p 0 < 0) : TX a t p = 120 :: numL (-1 - t.getD p 0).toNat := by
  unfold TX
  rw [show t.length - p = (t.length - p - 1) + 1 by omega]
  unfold tx
  rw [if_pos h0]
theorem TX_fun {a t : List Int} (h : termOk a t = true) {p : Nat} (hp : p < t.length) (h0 : 0 ≤ t.getD p 0) : TX a t p = 102 :: numL (t.getD p 0).toNat ++ KX a t p (arK a t p) ++ (if arK a t p = 0 then [] else [41]) := by
  unfold TX KX
  rw [show t.length - p = (t.length - p - 1) + 1 by omega]
  conv => lhs; unfold tx
  rw [if_neg (by omega)]
  congr 2
  congr 1
  refine List.map_congr_left fun i hi => ?_
  have hi := List.mem_range.1 hi
  have hk := kid_lt h hp hi
  unfold TX
  rw [tx_fuel h (t.length - p - 1) (t.length - kidN a t (p + 1) i) _ hk.2 (by omega) (by omega)]
theorem kidN_le {a t : List Int} (h : termOk a t = true) {p : Nat} (hp : p < t.length) : ∀ i, i ≤ arK a t p → p + 1 ≤ kidN a t (p + 1) i ∧ kidN a t (p + 1) i ≤ t.length
  | 0, _ => ⟨Nat.le_refl _, hp⟩
  | i + 1, hi => by
    have h1 := kid_lt h hp (i := i) (by omega)
    have h2 := (term_at h h1.2).2
    show p + 1 ≤ kidN a t (p + 1) i + sz a t (kidN a t (p + 1) i) ∧ kidN a t (p + 1) i + sz a t (kidN a t (p + 1) i) ≤ t.length
    omega
theorem kid_end {a t : List Int} (h : termOk a t = true) {p : Nat} (hp : p < t.length) : kidN a t (p + 1) (arK a t p) = p + (subt a t p).length := by
  have h1 := kidN_le h hp (arK a t p) (Nat.le_refl _)
  have h2 := congrArg List.length (preK_all h hp)
  rw [List.length_cons] at h2
  have h3 : (preK a t p (arK a t p)).length = kidN a t (p + 1) (arK a t p) - (p + 1) := by
    unfold preK
    rw [List.length_take, List.length_drop]
    omega
  omega
theorem TX_len {a t : List Int} (h : termOk a t = true) : ∀ (N p : Nat), p < t.length → t.length - p ≤ N → 1 ≤ (TX a t p).length ∧ (TX a t p).length ≤ 8 * (subt a t p).length
  | 0, p, hp, hN => by omega
  | N + 1, p, hp, hN => by
    have hs := termOk_len (subt_ok h hp)
    by_cases h0 : t.getD p 0 < 0
    · rw [TX_var hp h0]
      have := (numL_len (-1 - t.getD p 0).toNat).2
      simp only [List.length_cons]
      omega
    · rw [TX_fun h hp (by omega)]
      have h1 := (numL_len (t.getD p 0).toNat).2
      have h3 := (arK_le h hp).1
      have hK : ∀ i, i ≤ arK a t p → (KX a t p i).length ≤ i + 8 * (preK a t p i).length := fun i => by
        induction i with
        | zero => intro _; simp [KX_zero]
        | succ i ih =>
          intro hi
          have hk := kid_lt h hp (i := i) (by omega)
          have h5 := (TX_len h N (kidN a t (p + 1) i) hk.2 (by omega)).2
          have h6 := ih (by omega)
          rw [KX_succ, preK_succ h hp (by omega)]
          simp only [List.length_append, List.length_cons]
          omega
      have h7 := hK (arK a t p) (Nat.le_refl _)
      have h8 := congrArg List.length (preK_all h hp)
      rw [List.length_cons] at h8
      have h9 : (if arK a t p = 0 then ([] : List UInt8) else [41]).length ≤ 1 := by split <;> simp
      simp only [List.length_append, List.length_cons]
      omega
theorem KX_len {a t : List Int} (h : termOk a t = true) {p : Nat} (hp : p < t.length) : ∀ i, i ≤ arK a t p → (KX a t p i).length ≤ i * 481
  | 0, _ => by simp [KX_zero]
  | i + 1, hi => by
    have h1 := KX_len h hp i (by omega)
    have hk := kid_lt h hp (i := i) (by omega)
    have h2 := (TX_len h _ _ hk.2 (Nat.le_refl _)).2
    have h3 := termOk_len (subt_ok h hk.2)
    rw [KX_succ]
    simp only [List.length_append, List.length_cons]
    omega
theorem S_one (c : UInt8) : ({ data := #[c] } : ByteArray) = S [c] := rfl
end Go.Proofs.YtogmjihokkdcfaaGreatDoor
namespace Go.Proofs.YtogmjihokkdcfaaGreatDoor
open Go Go.Eng
set_option linter.unusedVariables false
set_option linter.unusedSimpArgs false
set_option synthInstance.maxHeartbeats 400000
set_option synthInstance.maxSize 1000
set_option maxHeartbeats 2000000
set_option maxRecDepth 20000

structure TxC (a t : List Int) (p : Int) (m N : Nat) : Prop where
  ok : termOk a t = true
  hp : 0 ≤ p ∧ p < t.length
  hN : t.length ≤ m + N
theorem l10Text_rec (N : Nat) : ∀ {w0 : World} {Γ : List Atom} {v vt : Value} {a t : List Int} {p : Int} {m : Nat} [hm : ToN p m] [h : HasRd (List Int) repList Γ [v] a] [h1 : HasRd (List Int) repList Γ [vt] t] (hG : TxC a t p m N),
    CJ Tryz.prog 56 [.agg #[v], vt, .int .i64 p] w0 Γ (fun _ : Unit => .string (S (TX a t m))) (fun _ => Γ) := by
  induction N with
  | zero =>
    intro w0 Γ v vt a t p m hm h h1 hG
    have := hG.hN
    have := hG.hp
    have := hm.eq
    omega
  | succ N ih =>
    intro w0 Γ v vt a t p m hm h h1 hG
    haveI hI : ∀ (Γ : List Atom) (v vt : Value) (a t : List Int) (p : Int) (m : Nat) [ToN p m] [HasRd (List Int) repList Γ [v] a] [HasRd (List Int) repList Γ [vt] t], CtrC Tryz.prog 56 [.agg #[v], vt, .int .i64 p] Γ (TxC a t p m N) Unit (fun _ => .string (S (TX a t m))) (fun _ => Γ) := fun Γ v vt a t p m _ _ _ => ⟨fun hG w0 => ih hG⟩
    obtain ⟨hok, hp, hN⟩ := hG
    refine cj_lift (R := [.rd [v] a, .rd [vt] t]) (A := fun _ => []) (fun w1 => ?_) (reads_cons h (reads_cons h1 inferInstance)) (fun _ => inferInstance)
    simp only [List.cons_append, List.nil_append]
    obtain rfl : p = (m : Int) := by have := hm.eq; omega
    have hpl : m < t.length := by omega
    have htl := termOk_len hok
    have htm := termOk_get hok hpl
    have hsg := sigOk_len (termOk_sig hok)
    have c1 : ({ data := #[120] } : ByteArray).size = 1 := rfl
    have c2 : ({ data := #[102] } : ByteArray).size = 1 := rfl
    have c3 : ({ data := #[40] } : ByteArray).size = 1 := rfl
    have c4 : ({ data := #[44] } : ByteArray).size = 1 := rfl
    have c5 : ({ data := #[41] } : ByteArray).size = 1 := rfl
    have n1 := numL_len (-1 - t.getD m 0).toNat
    have n2 := S_size (numL (-1 - t.getD m 0).toNat)
    have n3 := numL_len (t.getD m 0).toNat
    have n4 := S_size (numL (t.getD m 0).toNat)
    refine cj_enter Tryz.func56 Tryz.ntmps56 ?_
    repeat' (first | refine red ?_ | refine redf fun hbi => ?_ | refine reds ?_ | refine redc fun r => ?_ | refine redp (fun r => ?_) (fun r => ?_) | refine redv fun sv => ?_ | refine redn fun b => ?_ | refine redz fun zs => ?_ | refine redq (fun hc => ?_) (fun hc => ?_) | with_reducible refine wq_blk_o rfl ?_ | (refine redi (fun hc => ?_) (fun hc => ?_) <;> try first | (exfalso; omega) | with_reducible first | exact absurd rfl hc | exact absurd hc Bool.false_ne_true | exact absurd hc Bool.false_ne_true.symm) | ((refine wa_begin 11 [false, false, false, false, false, false, false, false, false, false] [] ?_ <;> (first | refine wa_p 0 ?_ | refine wa_p0 0 ?_) <;> refine wa_p 1 ?_ <;> (first | refine wa_p 2 ?_ | refine wa_p0 2 ?_) <;> (first | refine wa_p 3 ?_ | refine wa_p0 3 ?_) <;> (first | refine wa_p 4 ?_ | refine wa_p0 4 ?_) <;> refine wa_p 5 ?_ <;> (first | refine wa_f 6 fun hbi => ?_ | refine wa_p 6 ?_ | (refine wa_do 6 ?_ <;> (repeat' (first | refine red ?_ | refine redc fun r => ?_ | refine redv fun sv => ?_ | refine redf fun hbi => ?_ | refine redn fun b => ?_ | refine reds ?_ | refine redi (fun hc => ?_) (fun hc => ?_) | refine redq (fun hc => ?_) (fun hc => ?_) | refine redp (fun r => ?_) (fun r => ?_) | fail))) | fail) <;> (refine wa_do 7 ?_ <;> (repeat' (first | refine red ?_ | refine redc fun r => ?_ | refine redv fun sv => ?_ | refine redf fun hbi => ?_ | refine redn fun b => ?_ | refine reds ?_ | refine redi (fun hc => ?_) (fun hc => ?_) | refine redq (fun hc => ?_) (fun hc => ?_) | refine redp (fun r => ?_) (fun r => ?_) | fail))) <;> (first | refine wa_p 8 ?_ | refine wa_p0 8 ?_ | (refine wa_do 8 ?_ <;> (repeat' (first | refine red ?_ | refine redc fun r => ?_ | refine redv fun sv => ?_ | refine redf fun hbi => ?_ | refine redn fun b => ?_ | refine reds ?_ | refine redi (fun hc => ?_) (fun hc => ?_) | refine redq (fun hc => ?_) (fun hc => ?_) | refine redp (fun r => ?_) (fun r => ?_) | fail))) | fail) <;> (first | refine wa_p 9 ?_ | refine wa_p0 9 ?_)) <;> (first | refine wa_end ?_ | with_reducible refine wq_keep ?_)) | fail)
    · refine ⟨(), congrArg Value.string ?_, ent_e⟩
      rw [TX_var hpl (by omega), S_one, S_app]; rfl
    · have h0 : 0 ≤ t.getD m 0 := by omega
      have hn3 := (arK_le hok hpl).1
      have hla := kidL_len a t m (arK a t m)
      refine wc_share r ?_
      rw [show ({ data := #[102] } : ByteArray) ++ S (numL (t.getD m 0).toNat) = S (102 :: numL (t.getD m 0).toNat ++ KX a t m 0) by rw [S_one, S_app, KX_zero, List.append_nil]; rfl]
      refine wc_loop_c [7, 9] [32, 33, 34, 35, 38, 39, 40, 41, 42, 43, 44, 45, 46, 47, 48, 49, 50, 51, 52, 36, 37] (ι := Nat) (fun i => [.string (S (102 :: numL (t.getD m 0).toNat ++ KX a t m i)), .int .i64 i]) (fun i => i ≤ arK a t m) (fun i => arK a t m - i) 0 (by kernel_rfl) (Nat.zero_le _) ?_
      intro i u l' hl' hi
      simp only [patch, List.map_cons, List.map_nil, List.set_cons_zero, List.set_cons_succ] at hl'
      subst hl'
      have hkl := KX_len hok hpl i hi
      have hsz := S_size (102 :: numL (t.getD m 0).toNat ++ KX a t m i)
      rw [List.length_append, List.length_cons] at hsz
      by_cases hil : i < arK a t m
      · have hga := kidL_get (a := a) (t := t) (k := m) hil
        have hk := kid_lt hok hpl hil
        have hG' : TxC a t ((kidL a t m (arK a t m)).getD i 0) ((kidL a t m (arK a t m)).getD i 0).toNat N := by
          rw [hga, Int.toNat_natCast]
          exact ⟨hok, by omega, by omega⟩
        have htx := (TX_len hok _ _ hk.2 (Nat.le_refl _)).2
        have hts := termOk_len (subt_ok hok hk.2)
        have htz : (S (TX a t ((kidL a t m (arK a t m)).getD i 0).toNat)).size ≤ 480 := by rw [S_size, hga, Int.toNat_natCast]; omega
        have hap : ∀ x y : ByteArray, (x ++ y).size = x.size + y.size := fun x y => by simp [ByteArray.size_append]
        have ha1 := hap (S (102 :: numL (t.getD m 0).toNat ++ KX a t m i)) { data := #[40] }
        have ha2 := hap (S (102 :: numL (t.getD m 0).toNat ++ KX a t m i)) { data := #[44] }
        have hks := KX_succ a t m i
        repeat' (first | refine red ?_ | refine redf fun hbi => ?_ | refine reds ?_ | refine redc fun r => ?_ | refine redp (fun r => ?_) (fun r => ?_) | refine redv fun sv => ?_ | refine redn fun b => ?_ | refine redz fun zs => ?_ | refine redq (fun hc => ?_) (fun hc => ?_) | with_reducible refine wq_blk_o rfl ?_ | (refine redi (fun hc => ?_) (fun hc => ?_) <;> try first | (exfalso; omega) | with_reducible first | exact absurd rfl hc | exact absurd hc Bool.false_ne_true | exact absurd hc Bool.false_ne_true.symm) | ((refine wa_begin 11 [false, false, false, false, false, false, false, false, false, false] [] ?_ <;> (first | refine wa_p 0 ?_ | refine wa_p0 0 ?_) <;> refine wa_p 1 ?_ <;> (first | refine wa_p 2 ?_ | refine wa_p0 2 ?_) <;> (first | refine wa_p 3 ?_ | refine wa_p0 3 ?_) <;> (first | refine wa_p 4 ?_ | refine wa_p0 4 ?_) <;> refine wa_p 5 ?_ <;> (first | refine wa_f 6 fun hbi => ?_ | refine wa_p 6 ?_ | (refine wa_do 6 ?_ <;> (repeat' (first | refine red ?_ | refine redc fun r => ?_ | refine redv fun sv => ?_ | refine redf fun hbi => ?_ | refine redn fun b => ?_ | refine reds ?_ | refine redi (fun hc => ?_) (fun hc => ?_) | refine redq (fun hc => ?_) (fun hc => ?_) | refine redp (fun r => ?_) (fun r => ?_) | fail))) | fail) <;> (refine wa_do 7 ?_ <;> (repeat' (first | refine red ?_ | refine redc fun r => ?_ | refine redv fun sv => ?_ | refine redf fun hbi => ?_ | refine redn fun b => ?_ | refine reds ?_ | refine redi (fun hc => ?_) (fun hc => ?_) | refine redq (fun hc => ?_) (fun hc => ?_) | refine redp (fun r => ?_) (fun r => ?_) | fail))) <;> (first | refine wa_p 8 ?_ | refine wa_p0 8 ?_ | (refine wa_do 8 ?_ <;> (repeat' (first | refine red ?_ | refine redc fun r => ?_ | refine redv fun sv => ?_ | refine redf fun hbi => ?_ | refine redn fun b => ?_ | refine reds ?_ | refine redi (fun hc => ?_) (fun hc => ?_) | refine redq (fun hc => ?_) (fun hc => ?_) | refine redp (fun r => ?_) (fun r => ?_) | fail))) | fail) <;> (first | refine wa_p 9 ?_ | refine wa_p0 9 ?_)) <;> (first | refine wa_end ?_ | with_reducible refine wq_keep ?_)) | fail)
        · rw [show S (102 :: numL (t.getD m 0).toNat ++ KX a t m i) ++ { data := #[40] } ++ S (TX a t ((kidL a t m (arK a t m)).getD i 0).toNat) = S (102 :: numL (t.getD m 0).toNat ++ KX a t m (i + 1)) by
            rw [hga, Int.toNat_natCast, hks, if_pos (by omega), S_one, S_app, S_app]; simp]
          exact wq_next (i + 1) (by omega) (by omega) (by kernel_rfl) ent_e
        · rw [show S (102 :: numL (t.getD m 0).toNat ++ KX a t m i) ++ { data := #[44] } ++ S (TX a t ((kidL a t m (arK a t m)).getD i 0).toNat) = S (102 :: numL (t.getD m 0).toNat ++ KX a t m (i + 1)) by
            rw [hga, Int.toNat_natCast, hks, if_neg (by omega), S_one, S_app, S_app]; simp]
          exact wq_next (i + 1) (by omega) (by omega) (by kernel_rfl) ent_e
      · obtain rfl : i = arK a t m := by omega
        have hall := TX_fun hok hpl h0
        repeat' (first | refine red ?_ | refine redf fun hbi => ?_ | refine reds ?_ | refine redc fun r => ?_ | refine redp (fun r => ?_) (fun r => ?_) | refine redv fun sv => ?_ | refine redn fun b => ?_ | refine redz fun zs => ?_ | refine redq (fun hc => ?_) (fun hc => ?_) | with_reducible refine wq_blk_o rfl ?_ | (refine redi (fun hc => ?_) (fun hc => ?_) <;> try first | (exfalso; omega) | with_reducible first | exact absurd rfl hc | exact absurd hc Bool.false_ne_true | exact absurd hc Bool.false_ne_true.symm) | ((refine wa_begin 11 [false, false, false, false, false, false, false, false, false, false] [] ?_ <;> (first | refine wa_p 0 ?_ | refine wa_p0 0 ?_) <;> refine wa_p 1 ?_ <;> (first | refine wa_p 2 ?_ | refine wa_p0 2 ?_) <;> (first | refine wa_p 3 ?_ | refine wa_p0 3 ?_) <;> (first | refine wa_p 4 ?_ | refine wa_p0 4 ?_) <;> refine wa_p 5 ?_ <;> (first | refine wa_f 6 fun hbi => ?_ | refine wa_p 6 ?_ | (refine wa_do 6 ?_ <;> (repeat' (first | refine red ?_ | refine redc fun r => ?_ | refine redv fun sv => ?_ | refine redf fun hbi => ?_ | refine redn fun b => ?_ | refine reds ?_ | refine redi (fun hc => ?_) (fun hc => ?_) | refine redq (fun hc => ?_) (fun hc => ?_) | refine redp (fun r => ?_) (fun r => ?_) | fail))) | fail) <;> (refine wa_do 7 ?_ <;> (repeat' (first | refine red ?_ | refine redc fun r => ?_ | refine redv fun sv => ?_ | refine redf fun hbi => ?_ | refine redn fun b => ?_ | refine reds ?_ | refine redi (fun hc => ?_) (fun hc => ?_) | refine redq (fun hc => ?_) (fun hc => ?_) | refine redp (fun r => ?_) (fun r => ?_) | fail))) <;> (first | refine wa_p 8 ?_ | refine wa_p0 8 ?_ | (refine wa_do 8 ?_ <;> (repeat' (first | refine red ?_ | refine redc fun r => ?_ | refine redv fun sv => ?_ | refine redf fun hbi => ?_ | refine redn fun b => ?_ | refine reds ?_ | refine redi (fun hc => ?_) (fun hc => ?_) | refine redq (fun hc => ?_) (fun hc => ?_) | refine redp (fun r => ?_) (fun r => ?_) | fail))) | fail) <;> (first | refine wa_p 9 ?_ | refine wa_p0 9 ?_)) <;> (first | refine wa_end ?_ | with_reducible refine wq_keep ?_)) | fail)
        · refine ⟨(), congrArg Value.string ?_, ent_e⟩
          rw [hall, if_neg (by omega), S_one, S_app]
        · refine ⟨(), congrArg Value.string ?_, ent_e⟩
          rw [hall, if_pos (by omega), List.append_nil]
theorem l10Text_spec {w0 : World} {Γ : List Atom} {v vt : Value} {a t : List Int} {p : Int} {m : Nat} [hm : ToN p m] [h : HasRd (List Int) repList Γ [v] a] [h1 : HasRd (List Int) repList Γ [vt] t] (hG : termOk a t = true) (hp : 0 ≤ p ∧ p < t.length) :
    CJ Tryz.prog 56 [.agg #[v], vt, .int .i64 p] w0 Γ (fun _ : Unit => .string (S (TX a t m))) (fun _ => Γ) := by
  exact l10Text_rec t.length ⟨hG, hp, by omega⟩
instance l10Text_ctr {Γ : List Atom} {v vt : Value} {a t : List Int} {p : Int} {m : Nat} [hm : ToN p m] [h : HasRd (List Int) repList Γ [v] a] [h1 : HasRd (List Int) repList Γ [vt] t] :
    CtrC Tryz.prog 56 [.agg #[v], vt, .int .i64 p] Γ ((termOk a t = true) ∧ (0 ≤ p ∧ p < t.length)) (Unit) (fun _ : Unit => .string (S (TX a t m))) (fun _ => Γ) := ⟨fun s w0 => l10Text_spec s.1 s.2⟩

def TT (a t : List Int) : List UInt8 := if termOk a t = true then TX a t 0 else []
theorem TT_len (a t : List Int) : (TT a t).length ≤ 480 := by
  unfold TT
  split
  · rename_i h
    have hl := termOk_len h
    have h1 := (TX_len h _ 0 (by omega) (Nat.le_refl _)).2
    have h2 := termOk_len (subt_ok h (k := 0) (by omega))
    omega
  · simp
theorem TT_ne {a t : List Int} : TT a t = [] ↔ termOk a t = false := by
  unfold TT
  split
  · rename_i h
    have hl := termOk_len h
    have h1 := (TX_len h _ 0 (by omega) (Nat.le_refl _)).1
    rw [h]
    constructor
    · intro e; rw [e] at h1; simp at h1
    · intro e; cases e
  · rename_i h; simp [h]
theorem spec_TermText_spec {w0 : World} {Γ : List Atom} {v vt : Value} {a t : List Int} [h : HasRd (List Int) repList Γ [v] a] [h1 : HasRd (List Int) repList Γ [vt] t] :
    CJ Tryz.prog 38 [.agg #[v], vt] w0 Γ (fun _ : Unit => .string (S (TT a t))) (fun _ => Γ) := by
  refine cj_lift (R := [.rd [v] a, .rd [vt] t]) (A := fun _ => []) (fun w1 => ?_) (reads_cons h (reads_cons h1 (inferInstance))) (fun _ => inferInstance)
  simp only [List.cons_append, List.nil_append]
  refine cj_enter Tryz.func38 Tryz.ntmps38 ?_
  repeat' (first | refine red ?_ | refine redf fun hbi => ?_ | refine reds ?_ | refine redc fun r => ?_ | refine redp (fun r => ?_) (fun r => ?_) | refine redv fun sv => ?_ | refine redn fun b => ?_ | refine redz fun zs => ?_ | refine redq (fun hc => ?_) (fun hc => ?_) | with_reducible refine wq_blk_o rfl ?_ | (refine redi (fun hc => ?_) (fun hc => ?_) <;> try first | (exfalso; omega) | with_reducible first | exact absurd rfl hc | exact absurd hc Bool.false_ne_true | exact absurd hc Bool.false_ne_true.symm) | fail)
  · rw [show TT a t = [] from if_neg (by rw [hc]; simp)]
    exact ⟨(), rfl, ent_e⟩
  · have hl := termOk_len hc
    repeat' (first | refine red ?_ | refine redf fun hbi => ?_ | refine reds ?_ | refine redc fun r => ?_ | refine redp (fun r => ?_) (fun r => ?_) | refine redv fun sv => ?_ | refine redn fun b => ?_ | refine redz fun zs => ?_ | refine redq (fun hc => ?_) (fun hc => ?_) | with_reducible refine wq_blk_o rfl ?_ | (refine redi (fun hc => ?_) (fun hc => ?_) <;> try first | (exfalso; omega) | with_reducible first | exact absurd rfl hc | exact absurd hc Bool.false_ne_true | exact absurd hc Bool.false_ne_true.symm) | fail)
    rw [show TT a t = TX a t 0 from if_pos hc]
    exact ⟨(), rfl, ent_e⟩
instance spec_TermText_ctr {Γ : List Atom} {v vt : Value} {a t : List Int} [h : HasRd (List Int) repList Γ [v] a] [h1 : HasRd (List Int) repList Γ [vt] t] :
    CtrC Tryz.prog 38 [.agg #[v], vt] Γ (True) (Unit) (fun _ : Unit => .string (S (TT a t))) (fun _ => Γ) := ⟨fun s w0 => spec_TermText_spec⟩

end Go.Proofs.YtogmjihokkdcfaaGreatDoor
namespace Go.Proofs.YtogmjihokkdcfaaGreatDoor
open Go Go.Eng
set_option linter.unusedVariables false
set_option linter.unusedSimpArgs false
set_option synthInstance.maxHeartbeats 400000
set_option synthInstance.maxSize 1000
set_option maxHeartbeats 2000000
set_option maxRecDepth 20000

structure TxD (a t : List Int) (p : Int) (m N : Nat) (bs : List UInt8) (pv : Value) (b : Nat) : Prop where
  ok : termOk a t = true
  hp : 0 ≤ p ∧ p < t.length
  hN : t.length ≤ m + N
  hb : bs.length + 2000 * N ≤ 1000000000
  hv : pv = .pointer none ∨ pv = .pointer (some ⟨b, 0, none⟩)
theorem termText_rec (N : Nat) : ∀ {w0 : World} {Γ Δ1 Δ : List Atom} {b : Nat} {pv bv v vt : Value} {a t : List Int} {p : Int} {m : Nat} {bs : List UInt8} [hm : ToN p m] [h0 : PullTb Γ b tB [pv, bv] Δ1] [h2 : PullOw (TBy t8) repTBy Δ1 [bv] (TBy.mk bs) Δ] [h : HasRd (List Int) repList Δ [v] a] [h1 : HasRd (List Int) repList Δ [vt] t] (hG : TxD a t p m N bs pv b),
    CJ Tryz.prog 82 [.pointer (some ⟨b, 0, none⟩), .agg #[v], vt, .int .i64 p] w0 Γ (fun q : Value => .int .i64 ((m + (subt a t m).length : Nat) : Int)) (fun q => @Atom.ow (TB tB) repTB [.pointer (some ⟨b, 0, none⟩)] (TB.mk [.pointer (some ⟨b, 0, none⟩), q]) :: @Atom.ow (TBy t8) repTBy [q] (TBy.mk (bs ++ TX a t m)) :: Δ) := by
  induction N with
  | zero =>
    intro w0 Γ Δ1 Δ b pv bv v vt a t p m bs hm h0 h2 h h1 hG
    have := hG.hN
    have := hG.hp
    have := hm.eq
    omega
  | succ N ih =>
    intro w0 Γ Δ1 Δ bb pv bv v vt a t p m bs hm h0 h2 h h1 hG
    haveI hI : ∀ (Γ Δ1 Δ : List Atom) (b : Nat) (pv bv v vt : Value) (a t : List Int) (p : Int) (m : Nat) (bs : List UInt8) [ToN p m] [PullTb Γ b tB [pv, bv] Δ1] [PullOw (TBy t8) repTBy Δ1 [bv] (TBy.mk bs) Δ] [HasRd (List Int) repList Δ [v] a] [HasRd (List Int) repList Δ [vt] t], CtrC Tryz.prog 82 [.pointer (some ⟨b, 0, none⟩), .agg #[v], vt, .int .i64 p] Γ (TxD a t p m N bs pv b) Value (fun q => .int .i64 ((m + (subt a t m).length : Nat) : Int)) (fun q => @Atom.ow (TB tB) repTB [.pointer (some ⟨b, 0, none⟩)] (TB.mk [.pointer (some ⟨b, 0, none⟩), q]) :: @Atom.ow (TBy t8) repTBy [q] (TBy.mk (bs ++ TX a t m)) :: Δ) := fun Γ Δ1 Δ b pv bv v vt a t p m bs _ _ _ _ _ => ⟨fun hG w0 => ih hG⟩
    refine cj_perm (h0.perm.trans (h2.perm.cons _)) ?_
    obtain ⟨hok, hp, hN, hb, hv⟩ := hG
    obtain rfl : p = (m : Int) := by have := hm.eq; omega
    have hpl : m < t.length := by omega
    have htl := termOk_len hok
    have htm := termOk_get hok hpl
    have hsg := sigOk_len (termOk_sig hok)
    have c1 : ({ data := #[120] } : ByteArray).size = 1 := rfl
    have c2 : ({ data := #[102] } : ByteArray).size = 1 := rfl
    have n1 := numL_len (-1 - t.getD m 0).toNat
    have n2 := S_size (numL (-1 - t.getD m 0).toNat)
    have n3 := numL_len (t.getD m 0).toNat
    have n4 := S_size (numL (t.getD m 0).toNat)
    have hap : ∀ x y : ByteArray, (x ++ y).size = x.size + y.size := fun x y => by simp [ByteArray.size_append]
    have ha1 := hap { data := #[120] } (S (numL (-1 - t.getD m 0).toNat))
    have ha2 := hap { data := #[102] } (S (numL (t.getD m 0).toNat))
    have hself : (Value.pointer (some ⟨bb, 0, none⟩) = .pointer none ∨ Value.pointer (some ⟨bb, 0, none⟩) = .pointer (some ⟨bb, 0, none⟩)) := .inr rfl
    refine cj_enter Tryz.func82 Tryz.ntmps82 ?_
    have hend := kid_end hok hpl
    have har : 0 ≤ t.getD m 0 → a.getD (t.getD m 0).toNat 0 = ((arK a t m : Nat) : Int) := fun h => by
      have := (arK_le hok hpl).2.1
      unfold ar at this
      rw [if_neg (by omega)] at this
      exact this
    repeat' (first | refine red ?_ | refine redf fun hbi => ?_ | refine reds ?_ | refine redc fun r => ?_ | refine redp (fun r => ?_) (fun r => ?_) | refine redv fun sv => ?_ | refine redn fun b => ?_ | refine redz fun zs => ?_ | refine redq (fun hc => ?_) (fun hc => ?_) | with_reducible refine wq_blk_o rfl ?_ | (refine redi (fun hc => ?_) (fun hc => ?_) <;> try first | (exfalso; omega) | with_reducible first | exact absurd rfl hc | exact absurd hc Bool.false_ne_true | exact absurd hc Bool.false_ne_true.symm) | fail)
    · have hz : arK a t m = 0 := by unfold arK; rw [ar_var (by omega)]; rfl
      have hs1 : (subt a t m).length = 1 := by
        rw [hz] at hend
        have : kidN a t (m + 1) 0 = m + 1 := rfl
        omega
      rw [S_one, S_app, S_list, hs1, TX_var hpl (by omega), show [120] ++ numL (-1 - t.getD m 0).toNat = 120 :: numL (-1 - t.getD m 0).toNat from rfl]
      exact ⟨r, rfl, ent_e⟩
    · have h0 : 0 ≤ t.getD m 0 := by omega
      have hn3 := (arK_le hok hpl).1
      rw [S_one, S_app, S_list, har h0]
      refine wc_loop_p [3, 37] [38, 39, 10, 40, 41, 42, 43, 44, 45, 46, 47, 48, 49, 50, 51] (ι := Nat × Value) (fun i => [.int .i64 ((kidN a t (m + 1) i.1 : Nat) : Int), .int .i64 i.1]) (fun i => [@Atom.ow (TB tB) repTB [.pointer (some ⟨bb, 0, none⟩)] (TB.mk [.pointer (some ⟨bb, 0, none⟩), i.2]), @Atom.ow (TBy t8) repTBy [i.2] (TBy.mk (bs ++ (102 :: numL (t.getD m 0).toNat ++ KX a t m i.1)))]) (fun i => i.1 ≤ arK a t m) (fun i => arK a t m - i.1) (0, r) [@Atom.ow (TB tB) repTB [.pointer (some ⟨bb, 0, none⟩)] (TB.mk [.pointer (some ⟨bb, 0, none⟩), r]), @Atom.ow (TBy t8) repTBy [r] (TBy.mk (bs ++ ([102] ++ numL (t.getD m 0).toNat)))] (by kernel_rfl) (Nat.zero_le _) (by simp [KX_zero]) ?_
      intro ⟨i, q⟩ u l' hl' hi
      simp only [patch, List.map_cons, List.map_nil, List.set_cons_zero, List.set_cons_succ] at hl'
      subst hl'
      simp only [List.cons_append, List.nil_append] at hi ⊢
      have hkl := KX_len hok hpl i hi
      have hlen : (bs ++ 102 :: (numL (t.getD m 0).toNat ++ KX a t m i)).length = bs.length + ((numL (t.getD m 0).toNat).length + 1 + (KX a t m i).length) := by simp only [List.length_append, List.length_cons]; omega
      by_cases hil : i < arK a t m
      · have hk := kid_lt hok hpl hil
        have hks := KX_succ a t m i
        have hsz := subt_len hok hk.2
        have hG40 : TxD a t ((kidN a t (m + 1) i : Nat) : Int) (kidN a t (m + 1) i) N (bs ++ 102 :: (numL (t.getD m 0).toNat ++ KX a t m i) ++ [UInt8.ofNat (40 : Int).toNat]) (.pointer (some ⟨bb, 0, none⟩)) bb := ⟨hok, by omega, by omega, by rw [List.length_append, hlen, List.length_singleton]; omega, .inr rfl⟩
        have hG44 : TxD a t ((kidN a t (m + 1) i : Nat) : Int) (kidN a t (m + 1) i) N (bs ++ 102 :: (numL (t.getD m 0).toNat ++ KX a t m i) ++ [UInt8.ofNat (44 : Int).toNat]) (.pointer (some ⟨bb, 0, none⟩)) bb := ⟨hok, by omega, by omega, by rw [List.length_append, hlen, List.length_singleton]; omega, .inr rfl⟩
        repeat' (first | refine red ?_ | refine redf fun hbi => ?_ | refine reds ?_ | refine redc fun r => ?_ | refine redp (fun r => ?_) (fun r => ?_) | refine redv fun sv => ?_ | refine redn fun b => ?_ | refine redz fun zs => ?_ | refine redq (fun hc => ?_) (fun hc => ?_) | with_reducible refine wq_blk_o rfl ?_ | (refine redi (fun hc => ?_) (fun hc => ?_) <;> try first | (exfalso; omega) | with_reducible first | exact absurd rfl hc | exact absurd hc Bool.false_ne_true | exact absurd hc Bool.false_ne_true.symm) | fail)
        · rw [show bs ++ 102 :: (numL (t.getD m 0).toNat ++ KX a t m i) ++ [UInt8.ofNat (Int.toNat 40)] ++ TX a t (kidN a t (m + 1) i) = bs ++ 102 :: (numL (t.getD m 0).toNat ++ KX a t m (i + 1)) by
            rw [hks, if_pos (by omega), show UInt8.ofNat (Int.toNat 40) = 40 from rfl]; simp, hsz]
          exact wq_next (i + 1, r) (by show i + 1 ≤ arK a t m; omega) (by show arK a t m - (i + 1) < arK a t m - i; omega) (by kernel_rfl) ent_e
        · rw [show bs ++ 102 :: (numL (t.getD m 0).toNat ++ KX a t m i) ++ [UInt8.ofNat (Int.toNat 44)] ++ TX a t (kidN a t (m + 1) i) = bs ++ 102 :: (numL (t.getD m 0).toNat ++ KX a t m (i + 1)) by
            rw [hks, if_neg (by omega), show UInt8.ofNat (Int.toNat 44) = 44 from rfl]; simp, hsz]
          exact wq_next (i + 1, r) (by show i + 1 ≤ arK a t m; omega) (by show arK a t m - (i + 1) < arK a t m - i; omega) (by kernel_rfl) ent_e
      · obtain rfl : i = arK a t m := by omega
        have hall := TX_fun hok hpl h0
        have har0 := har h0
        repeat' (first | refine red ?_ | refine redf fun hbi => ?_ | refine reds ?_ | refine redc fun r => ?_ | refine redp (fun r => ?_) (fun r => ?_) | refine redv fun sv => ?_ | refine redn fun b => ?_ | refine redz fun zs => ?_ | refine redq (fun hc => ?_) (fun hc => ?_) | with_reducible refine wq_blk_o rfl ?_ | (refine redi (fun hc => ?_) (fun hc => ?_) <;> try first | (exfalso; omega) | with_reducible first | exact absurd rfl hc | exact absurd hc Bool.false_ne_true | exact absurd hc Bool.false_ne_true.symm) | fail)
        · rw [hend, show bs ++ 102 :: (numL (t.getD m 0).toNat ++ KX a t m (arK a t m)) ++ [UInt8.ofNat (Int.toNat 41)] = bs ++ TX a t m by
            rw [hall, if_neg (by omega), show UInt8.ofNat (Int.toNat 41) = 41 from rfl]; simp]
          exact ⟨r, rfl, ent_e⟩
        · rw [hend, show bs ++ 102 :: (numL (t.getD m 0).toNat ++ KX a t m (arK a t m)) = bs ++ TX a t m by
            rw [hall, if_pos (by omega)]; simp]
          exact ⟨q, rfl, ent_e⟩
theorem termText_spec {w0 : World} {Γ Δ1 Δ : List Atom} {b : Nat} {pv bv v vt : Value} {a t : List Int} {p : Int} {m : Nat} {bs : List UInt8} [hm : ToN p m] [h0 : PullTb Γ b tB [pv, bv] Δ1] [h2 : PullOw (TBy t8) repTBy Δ1 [bv] (TBy.mk bs) Δ] [h : HasRd (List Int) repList Δ [v] a] [h1 : HasRd (List Int) repList Δ [vt] t] (hG : TxD a t p m t.length bs pv b) :
    CJ Tryz.prog 82 [.pointer (some ⟨b, 0, none⟩), .agg #[v], vt, .int .i64 p] w0 Γ (fun q : Value => .int .i64 ((m + (subt a t m).length : Nat) : Int)) (fun q => @Atom.ow (TB tB) repTB [.pointer (some ⟨b, 0, none⟩)] (TB.mk [.pointer (some ⟨b, 0, none⟩), q]) :: @Atom.ow (TBy t8) repTBy [q] (TBy.mk (bs ++ TX a t m)) :: Δ) := by
  exact termText_rec t.length hG
instance termText_ctr {Γ Δ1 Δ : List Atom} {b : Nat} {pv bv v vt : Value} {a t : List Int} {p : Int} {m : Nat} {bs : List UInt8} [hm : ToN p m] [h0 : PullTb Γ b tB [pv, bv] Δ1] [h2 : PullOw (TBy t8) repTBy Δ1 [bv] (TBy.mk bs) Δ] [h : HasRd (List Int) repList Δ [v] a] [h1 : HasRd (List Int) repList Δ [vt] t] :
    CtrC Tryz.prog 82 [.pointer (some ⟨b, 0, none⟩), .agg #[v], vt, .int .i64 p] Γ (TxD a t p m t.length bs pv b) (Value) (fun q : Value => .int .i64 ((m + (subt a t m).length : Nat) : Int)) (fun q => @Atom.ow (TB tB) repTB [.pointer (some ⟨b, 0, none⟩)] (TB.mk [.pointer (some ⟨b, 0, none⟩), q]) :: @Atom.ow (TBy t8) repTBy [q] (TBy.mk (bs ++ TX a t m)) :: Δ) := ⟨fun s w0 => termText_spec s⟩

theorem wl_ownilT {P : Program} {ops : Array Oper} {Q : Exit → Act → World → Prop} {w0 : World} {rest : List Oper} {l : List Value} {Γ : List Atom} (h : WL P ops Q w0 rest l (@Atom.ow (TBy t8) repTBy [.slice none 0 0] (TBy.mk []) :: Γ)) : WL P ops Q w0 rest l Γ := fun w hs => by
  obtain ⟨hb, F, hnd, hl, hsep⟩ := hs
  exact h w ⟨hb, F, hnd, hl, [], F, rfl, .inl ⟨rfl, rfl, rfl⟩, hsep⟩
theorem text_spec {w0 : World} {Γ : List Atom} {v vt : Value} {a t : List Int} [h : HasRd (List Int) repList Γ [v] a] [h1 : HasRd (List Int) repList Γ [vt] t] (hok : termOk a t = true) :
    CJ Tryz.prog 65 [.agg #[v], vt] w0 Γ (fun _ : Unit => .string (S (TX a t 0))) (fun _ => Γ) := by
  refine cj_lift (R := [.rd [v] a, .rd [vt] t]) (A := fun _ => []) (fun w1 => ?_) (reads_cons h (reads_cons h1 (inferInstance))) (fun _ => inferInstance)
  simp only [List.cons_append, List.nil_append]
  have htl := termOk_len hok
  have hlen := TX_len hok _ 0 (by omega) (Nat.le_refl _)
  have hG : ∀ b, TxD a t 0 0 t.length [] (.pointer none) b := fun b => ⟨hok, by omega, by omega, by show 0 + 2000 * t.length ≤ _; omega, .inl rfl⟩
  refine cj_enter Tryz.func65 Tryz.ntmps65 ?_
  repeat' (first | refine red ?_ | refine redf fun hbi => ?_ | refine reds ?_ | refine redc fun r => ?_ | refine redp (fun r => ?_) (fun r => ?_) | refine redv fun sv => ?_ | refine redn fun b => ?_ | refine redz fun zs => ?_ | refine redq (fun hc => ?_) (fun hc => ?_) | with_reducible refine wq_blk_o rfl ?_ | (refine redi (fun hc => ?_) (fun hc => ?_) <;> try first | (exfalso; omega) | with_reducible first | exact absurd rfl hc | exact absurd hc Bool.false_ne_true | exact absurd hc Bool.false_ne_true.symm) | fail)
  rename_i b
  have hG' := hG b
  refine wl_ownilT ?_
  repeat' (first | refine red ?_ | refine redf fun hbi => ?_ | refine reds ?_ | refine redc fun r => ?_ | refine redp (fun r => ?_) (fun r => ?_) | refine redv fun sv => ?_ | refine redn fun b => ?_ | refine redz fun zs => ?_ | refine redq (fun hc => ?_) (fun hc => ?_) | with_reducible refine wq_blk_o rfl ?_ | (refine redi (fun hc => ?_) (fun hc => ?_) <;> try first | (exfalso; omega) | with_reducible first | exact absurd rfl hc | exact absurd hc Bool.false_ne_true | exact absurd hc Bool.false_ne_true.symm) | fail)
  exact ⟨(), rfl, ent_e⟩
instance text_ctr {Γ : List Atom} {v vt : Value} {a t : List Int} [h : HasRd (List Int) repList Γ [v] a] [h1 : HasRd (List Int) repList Γ [vt] t] :
    CtrC Tryz.prog 65 [.agg #[v], vt] Γ (termOk a t = true) (Unit) (fun _ : Unit => .string (S (TX a t 0))) (fun _ => Γ) := ⟨fun s w0 => text_spec s⟩

end Go.Proofs.YtogmjihokkdcfaaGreatDoor
