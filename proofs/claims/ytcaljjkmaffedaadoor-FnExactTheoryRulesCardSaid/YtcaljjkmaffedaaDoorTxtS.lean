/- Texts of terms: the reference. -/
import Derived.Test.YtcaljjkmaffedaaDoorTxt
namespace Go.Proofs.YtcaljjkmaffedaaDoor
open Go Go.Eng
set_option linter.unusedVariables false
set_option linter.unusedSimpArgs false
set_option synthInstance.maxHeartbeats 400000
set_option synthInstance.maxSize 1000
set_option maxHeartbeats 2000000
set_option maxRecDepth 20000

structure TxC (a t : List Int) (p : Int) (m N : Nat) : Prop where
  ok : termOk a t = true
  hp : 0 ≤ p ∧ p < t.length
  hN : t.length ≤ m + N
theorem l10Text_rec (N : Nat) : ∀ {w0 : World} {Γ : List Atom} {v vt : Value} {a t : List Int} {p : Int} {m : Nat} [hm : ToN p m] [h : HasRd (List Int) repList Γ [v] a] [h1 : HasRd (List Int) repList Γ [vt] t] (hG : TxC a t p m N),
    CJ Tryd.prog 79 [.agg #[v], vt, .int .i64 p] w0 Γ (fun _ : Unit => .string (S (TX a t m))) (fun _ => Γ) := by
  induction N with
  | zero =>
    intro w0 Γ v vt a t p m hm h h1 hG
    have := hG.hN
    have := hG.hp
    have := hm.eq
    omega
  | succ N ih =>
    intro w0 Γ v vt a t p m hm h h1 hG
    haveI hI : ∀ (Γ : List Atom) (v vt : Value) (a t : List Int) (p : Int) (m : Nat) [ToN p m] [HasRd (List Int) repList Γ [v] a] [HasRd (List Int) repList Γ [vt] t], CtrC Tryd.prog 79 [.agg #[v], vt, .int .i64 p] Γ (TxC a t p m N) Unit (fun _ => .string (S (TX a t m))) (fun _ => Γ) := fun Γ v vt a t p m _ _ _ => ⟨fun hG w0 => ih hG⟩
    obtain ⟨hok, hp, hN⟩ := hG
    refine cj_lift (R := [.rd [v] a, .rd [vt] t]) (A := fun _ => []) (fun w1 => ?_) (reads_cons h (reads_cons h1 inferInstance)) (fun _ => inferInstance)
    simp only [List.cons_append, List.nil_append]
    obtain rfl : p = (m : Int) := by have := hm.eq; omega
    have hpl : m < t.length := by omega
    have htl := termOk_len hok
    have htm := termOk_get hok hpl
    have hsg := sigOk_len (termOk_sig hok)
    have c1 : ({ data := #[120] } : ByteArray).size = 1 := rfl
    have c2 : ({ data := #[102] } : ByteArray).size = 1 := rfl
    have c3 : ({ data := #[40] } : ByteArray).size = 1 := rfl
    have c4 : ({ data := #[44] } : ByteArray).size = 1 := rfl
    have c5 : ({ data := #[41] } : ByteArray).size = 1 := rfl
    have n1 := numL_len (-1 - t.getD m 0).toNat
    have n2 := S_size (numL (-1 - t.getD m 0).toNat)
    have n3 := numL_len (t.getD m 0).toNat
    have n4 := S_size (numL (t.getD m 0).toNat)
    refine cj_enter Tryd.func79 Tryd.ntmps79 ?_
    repeat' (first | refine red ?_ | refine redf fun hbi => ?_ | refine reds ?_ | refine redc fun r => ?_ | refine redp (fun r => ?_) (fun r => ?_) | refine redv fun sv => ?_ | refine redn fun b => ?_ | refine redz fun zs => ?_ | refine redq (fun hc => ?_) (fun hc => ?_) | with_reducible refine wq_blk_o rfl ?_ | (refine redi (fun hc => ?_) (fun hc => ?_) <;> try first | (exfalso; omega) | with_reducible first | exact absurd rfl hc | exact absurd hc Bool.false_ne_true | exact absurd hc Bool.false_ne_true.symm) | ((refine wa_begin 11 [false, false, false, false, false, false, false, false, false, false] [] ?_ <;> (first | refine wa_p 0 ?_ | refine wa_p0 0 ?_) <;> refine wa_p 1 ?_ <;> (first | refine wa_p 2 ?_ | refine wa_p0 2 ?_) <;> (first | refine wa_p 3 ?_ | refine wa_p0 3 ?_) <;> (first | refine wa_p 4 ?_ | refine wa_p0 4 ?_) <;> refine wa_p 5 ?_ <;> (first | refine wa_f 6 fun hbi => ?_ | refine wa_p 6 ?_ | (refine wa_do 6 ?_ <;> (repeat' (first | refine red ?_ | refine redc fun r => ?_ | refine redv fun sv => ?_ | refine redf fun hbi => ?_ | refine redn fun b => ?_ | refine reds ?_ | refine redi (fun hc => ?_) (fun hc => ?_) | refine redq (fun hc => ?_) (fun hc => ?_) | refine redp (fun r => ?_) (fun r => ?_) | fail))) | fail) <;> (refine wa_do 7 ?_ <;> (repeat' (first | refine red ?_ | refine redc fun r => ?_ | refine redv fun sv => ?_ | refine redf fun hbi => ?_ | refine redn fun b => ?_ | refine reds ?_ | refine redi (fun hc => ?_) (fun hc => ?_) | refine redq (fun hc => ?_) (fun hc => ?_) | refine redp (fun r => ?_) (fun r => ?_) | fail))) <;> (first | refine wa_p 8 ?_ | refine wa_p0 8 ?_ | (refine wa_do 8 ?_ <;> (repeat' (first | refine red ?_ | refine redc fun r => ?_ | refine redv fun sv => ?_ | refine redf fun hbi => ?_ | refine redn fun b => ?_ | refine reds ?_ | refine redi (fun hc => ?_) (fun hc => ?_) | refine redq (fun hc => ?_) (fun hc => ?_) | refine redp (fun r => ?_) (fun r => ?_) | fail))) | fail) <;> (first | refine wa_p 9 ?_ | refine wa_p0 9 ?_)) <;> (first | refine wa_end ?_ | with_reducible refine wq_keep ?_)) | fail)
    · refine ⟨(), congrArg Value.string ?_, ent_e⟩
      rw [TX_var hpl (by omega), S_one, S_app]; rfl
    · have h0 : 0 ≤ t.getD m 0 := by omega
      have hn3 := (arK_le hok hpl).1
      have hla := kidL_len a t m (arK a t m)
      refine wc_share r ?_
      rw [show ({ data := #[102] } : ByteArray) ++ S (numL (t.getD m 0).toNat) = S (102 :: numL (t.getD m 0).toNat ++ KX a t m 0) by rw [S_one, S_app, KX_zero, List.append_nil]; rfl]
      refine wc_loop_c [7, 9] [32, 33, 34, 35, 38, 39, 40, 41, 42, 43, 44, 45, 46, 47, 48, 49, 50, 51, 52, 36, 37] (ι := Nat) (fun i => [.string (S (102 :: numL (t.getD m 0).toNat ++ KX a t m i)), .int .i64 i]) (fun i => i ≤ arK a t m) (fun i => arK a t m - i) 0 (by kernel_rfl) (Nat.zero_le _) ?_
      intro i u l' hl' hi
      simp only [patch, List.map_cons, List.map_nil, List.set_cons_zero, List.set_cons_succ] at hl'
      subst hl'
      have hkl := KX_len hok hpl i hi
      have hsz := S_size (102 :: numL (t.getD m 0).toNat ++ KX a t m i)
      rw [List.length_append, List.length_cons] at hsz
      by_cases hil : i < arK a t m
      · have hga := kidL_get (a := a) (t := t) (k := m) hil
        have hk := kid_lt hok hpl hil
        have hG' : TxC a t ((kidL a t m (arK a t m)).getD i 0) ((kidL a t m (arK a t m)).getD i 0).toNat N := by
          rw [hga, Int.toNat_natCast]
          exact ⟨hok, by omega, by omega⟩
        have htx := (TX_len hok _ _ hk.2 (Nat.le_refl _)).2
        have hts := termOk_len (subt_ok hok hk.2)
        have htz : (S (TX a t ((kidL a t m (arK a t m)).getD i 0).toNat)).size ≤ 480 := by rw [S_size, hga, Int.toNat_natCast]; omega
        have hap : ∀ x y : ByteArray, (x ++ y).size = x.size + y.size := fun x y => by simp [ByteArray.size_append]
        have ha1 := hap (S (102 :: numL (t.getD m 0).toNat ++ KX a t m i)) { data := #[40] }
        have ha2 := hap (S (102 :: numL (t.getD m 0).toNat ++ KX a t m i)) { data := #[44] }
        have hks := KX_succ a t m i
        repeat' (first | refine red ?_ | refine redf fun hbi => ?_ | refine reds ?_ | refine redc fun r => ?_ | refine redp (fun r => ?_) (fun r => ?_) | refine redv fun sv => ?_ | refine redn fun b => ?_ | refine redz fun zs => ?_ | refine redq (fun hc => ?_) (fun hc => ?_) | with_reducible refine wq_blk_o rfl ?_ | (refine redi (fun hc => ?_) (fun hc => ?_) <;> try first | (exfalso; omega) | with_reducible first | exact absurd rfl hc | exact absurd hc Bool.false_ne_true | exact absurd hc Bool.false_ne_true.symm) | ((refine wa_begin 11 [false, false, false, false, false, false, false, false, false, false] [] ?_ <;> (first | refine wa_p 0 ?_ | refine wa_p0 0 ?_) <;> refine wa_p 1 ?_ <;> (first | refine wa_p 2 ?_ | refine wa_p0 2 ?_) <;> (first | refine wa_p 3 ?_ | refine wa_p0 3 ?_) <;> (first | refine wa_p 4 ?_ | refine wa_p0 4 ?_) <;> refine wa_p 5 ?_ <;> (first | refine wa_f 6 fun hbi => ?_ | refine wa_p 6 ?_ | (refine wa_do 6 ?_ <;> (repeat' (first | refine red ?_ | refine redc fun r => ?_ | refine redv fun sv => ?_ | refine redf fun hbi => ?_ | refine redn fun b => ?_ | refine reds ?_ | refine redi (fun hc => ?_) (fun hc => ?_) | refine redq (fun hc => ?_) (fun hc => ?_) | refine redp (fun r => ?_) (fun r => ?_) | fail))) | fail) <;> (refine wa_do 7 ?_ <;> (repeat' (first | refine red ?_ | refine redc fun r => ?_ | refine redv fun sv => ?_ | refine redf fun hbi => ?_ | refine redn fun b => ?_ | refine reds ?_ | refine redi (fun hc => ?_) (fun hc => ?_) | refine redq (fun hc => ?_) (fun hc => ?_) | refine redp (fun r => ?_) (fun r => ?_) | fail))) <;> (first | refine wa_p 8 ?_ | refine wa_p0 8 ?_ | (refine wa_do 8 ?_ <;> (repeat' (first | refine red ?_ | refine redc fun r => ?_ | refine redv fun sv => ?_ | refine redf fun hbi => ?_ | refine redn fun b => ?_ | refine reds ?_ | refine redi (fun hc => ?_) (fun hc => ?_) | refine redq (fun hc => ?_) (fun hc => ?_) | refine redp (fun r => ?_) (fun r => ?_) | fail))) | fail) <;> (first | refine wa_p 9 ?_ | refine wa_p0 9 ?_)) <;> (first | refine wa_end ?_ | with_reducible refine wq_keep ?_)) | fail)
        · rw [show S (102 :: numL (t.getD m 0).toNat ++ KX a t m i) ++ { data := #[40] } ++ S (TX a t ((kidL a t m (arK a t m)).getD i 0).toNat) = S (102 :: numL (t.getD m 0).toNat ++ KX a t m (i + 1)) by
            rw [hga, Int.toNat_natCast, hks, if_pos (by omega), S_one, S_app, S_app]; simp]
          exact wq_next (i + 1) (by omega) (by omega) (by kernel_rfl) ent_e
        · rw [show S (102 :: numL (t.getD m 0).toNat ++ KX a t m i) ++ { data := #[44] } ++ S (TX a t ((kidL a t m (arK a t m)).getD i 0).toNat) = S (102 :: numL (t.getD m 0).toNat ++ KX a t m (i + 1)) by
            rw [hga, Int.toNat_natCast, hks, if_neg (by omega), S_one, S_app, S_app]; simp]
          exact wq_next (i + 1) (by omega) (by omega) (by kernel_rfl) ent_e
      · obtain rfl : i = arK a t m := by omega
        have hall := TX_fun hok hpl h0
        repeat' (first | refine red ?_ | refine redf fun hbi => ?_ | refine reds ?_ | refine redc fun r => ?_ | refine redp (fun r => ?_) (fun r => ?_) | refine redv fun sv => ?_ | refine redn fun b => ?_ | refine redz fun zs => ?_ | refine redq (fun hc => ?_) (fun hc => ?_) | with_reducible refine wq_blk_o rfl ?_ | (refine redi (fun hc => ?_) (fun hc => ?_) <;> try first | (exfalso; omega) | with_reducible first | exact absurd rfl hc | exact absurd hc Bool.false_ne_true | exact absurd hc Bool.false_ne_true.symm) | ((refine wa_begin 11 [false, false, false, false, false, false, false, false, false, false] [] ?_ <;> (first | refine wa_p 0 ?_ | refine wa_p0 0 ?_) <;> refine wa_p 1 ?_ <;> (first | refine wa_p 2 ?_ | refine wa_p0 2 ?_) <;> (first | refine wa_p 3 ?_ | refine wa_p0 3 ?_) <;> (first | refine wa_p 4 ?_ | refine wa_p0 4 ?_) <;> refine wa_p 5 ?_ <;> (first | refine wa_f 6 fun hbi => ?_ | refine wa_p 6 ?_ | (refine wa_do 6 ?_ <;> (repeat' (first | refine red ?_ | refine redc fun r => ?_ | refine redv fun sv => ?_ | refine redf fun hbi => ?_ | refine redn fun b => ?_ | refine reds ?_ | refine redi (fun hc => ?_) (fun hc => ?_) | refine redq (fun hc => ?_) (fun hc => ?_) | refine redp (fun r => ?_) (fun r => ?_) | fail))) | fail) <;> (refine wa_do 7 ?_ <;> (repeat' (first | refine red ?_ | refine redc fun r => ?_ | refine redv fun sv => ?_ | refine redf fun hbi => ?_ | refine redn fun b => ?_ | refine reds ?_ | refine redi (fun hc => ?_) (fun hc => ?_) | refine redq (fun hc => ?_) (fun hc => ?_) | refine redp (fun r => ?_) (fun r => ?_) | fail))) <;> (first | refine wa_p 8 ?_ | refine wa_p0 8 ?_ | (refine wa_do 8 ?_ <;> (repeat' (first | refine red ?_ | refine redc fun r => ?_ | refine redv fun sv => ?_ | refine redf fun hbi => ?_ | refine redn fun b => ?_ | refine reds ?_ | refine redi (fun hc => ?_) (fun hc => ?_) | refine redq (fun hc => ?_) (fun hc => ?_) | refine redp (fun r => ?_) (fun r => ?_) | fail))) | fail) <;> (first | refine wa_p 9 ?_ | refine wa_p0 9 ?_)) <;> (first | refine wa_end ?_ | with_reducible refine wq_keep ?_)) | fail)
        · refine ⟨(), congrArg Value.string ?_, ent_e⟩
          rw [hall, if_neg (by omega), S_one, S_app]
        · refine ⟨(), congrArg Value.string ?_, ent_e⟩
          rw [hall, if_pos (by omega), List.append_nil]
theorem l10Text_spec {w0 : World} {Γ : List Atom} {v vt : Value} {a t : List Int} {p : Int} {m : Nat} [hm : ToN p m] [h : HasRd (List Int) repList Γ [v] a] [h1 : HasRd (List Int) repList Γ [vt] t] (hG : termOk a t = true) (hp : 0 ≤ p ∧ p < t.length) :
    CJ Tryd.prog 79 [.agg #[v], vt, .int .i64 p] w0 Γ (fun _ : Unit => .string (S (TX a t m))) (fun _ => Γ) := by
  exact l10Text_rec t.length ⟨hG, hp, by omega⟩
instance l10Text_ctr {Γ : List Atom} {v vt : Value} {a t : List Int} {p : Int} {m : Nat} [hm : ToN p m] [h : HasRd (List Int) repList Γ [v] a] [h1 : HasRd (List Int) repList Γ [vt] t] :
    CtrC Tryd.prog 79 [.agg #[v], vt, .int .i64 p] Γ ((termOk a t = true) ∧ (0 ≤ p ∧ p < t.length)) (Unit) (fun _ : Unit => .string (S (TX a t m))) (fun _ => Γ) := ⟨fun s w0 => l10Text_spec s.1 s.2⟩

def TT (a t : List Int) : List UInt8 := if termOk a t = true then TX a t 0 else []
theorem TT_len (a t : List Int) : (TT a t).length ≤ 480 := by
  unfold TT
  split
  · rename_i h
    have hl := termOk_len h
    have h1 := (TX_len h _ 0 (by omega) (Nat.le_refl _)).2
    have h2 := termOk_len (subt_ok h (k := 0) (by omega))
    omega
  · simp
theorem TT_ne {a t : List Int} : TT a t = [] ↔ termOk a t = false := by
  unfold TT
  split
  · rename_i h
    have hl := termOk_len h
    have h1 := (TX_len h _ 0 (by omega) (Nat.le_refl _)).1
    rw [h]
    constructor
    · intro e; rw [e] at h1; simp at h1
    · intro e; cases e
  · rename_i h; simp [h]
theorem spec_TermText_spec {w0 : World} {Γ : List Atom} {v vt : Value} {a t : List Int} [h : HasRd (List Int) repList Γ [v] a] [h1 : HasRd (List Int) repList Γ [vt] t] :
    CJ Tryd.prog 49 [.agg #[v], vt] w0 Γ (fun _ : Unit => .string (S (TT a t))) (fun _ => Γ) := by
  refine cj_lift (R := [.rd [v] a, .rd [vt] t]) (A := fun _ => []) (fun w1 => ?_) (reads_cons h (reads_cons h1 (inferInstance))) (fun _ => inferInstance)
  simp only [List.cons_append, List.nil_append]
  refine cj_enter Tryd.func49 Tryd.ntmps49 ?_
  repeat' (first | refine red ?_ | refine redf fun hbi => ?_ | refine reds ?_ | refine redc fun r => ?_ | refine redp (fun r => ?_) (fun r => ?_) | refine redv fun sv => ?_ | refine redn fun b => ?_ | refine redz fun zs => ?_ | refine redq (fun hc => ?_) (fun hc => ?_) | with_reducible refine wq_blk_o rfl ?_ | (refine redi (fun hc => ?_) (fun hc => ?_) <;> try first | (exfalso; omega) | with_reducible first | exact absurd rfl hc | exact absurd hc Bool.false_ne_true | exact absurd hc Bool.false_ne_true.symm) | fail)
  · rw [show TT a t = [] from if_neg (by rw [hc]; simp)]
    exact ⟨(), rfl, ent_e⟩
  · have hl := termOk_len hc
    repeat' (first | refine red ?_ | refine redf fun hbi => ?_ | refine reds ?_ | refine redc fun r => ?_ | refine redp (fun r => ?_) (fun r => ?_) | refine redv fun sv => ?_ | refine redn fun b => ?_ | refine redz fun zs => ?_ | refine redq (fun hc => ?_) (fun hc => ?_) | with_reducible refine wq_blk_o rfl ?_ | (refine redi (fun hc => ?_) (fun hc => ?_) <;> try first | (exfalso; omega) | with_reducible first | exact absurd rfl hc | exact absurd hc Bool.false_ne_true | exact absurd hc Bool.false_ne_true.symm) | fail)
    rw [show TT a t = TX a t 0 from if_pos hc]
    exact ⟨(), rfl, ent_e⟩
instance spec_TermText_ctr {Γ : List Atom} {v vt : Value} {a t : List Int} [h : HasRd (List Int) repList Γ [v] a] [h1 : HasRd (List Int) repList Γ [vt] t] :
    CtrC Tryd.prog 49 [.agg #[v], vt] Γ (True) (Unit) (fun _ : Unit => .string (S (TT a t))) (fun _ => Γ) := ⟨fun s w0 => spec_TermText_spec⟩

end Go.Proofs.YtcaljjkmaffedaaDoor
