/- Texts of terms: the program. -/
import Derived.Test.YtcaljjkmaffedaaDoorTxtS
namespace Go.Proofs.YtcaljjkmaffedaaDoor
open Go Go.Eng
set_option linter.unusedVariables false
set_option linter.unusedSimpArgs false
set_option synthInstance.maxHeartbeats 400000
set_option synthInstance.maxSize 1000
set_option maxHeartbeats 2000000
set_option maxRecDepth 20000

structure TxD (a t : List Int) (p : Int) (m N : Nat) (bs : List UInt8) (pv : Value) (b : Nat) : Prop where
  ok : termOk a t = true
  hp : 0 ≤ p ∧ p < t.length
  hN : t.length ≤ m + N
  hb : bs.length + 2000 * N ≤ 1000000000
  hv : pv = .pointer none ∨ pv = .pointer (some ⟨b, 0, none⟩)
theorem termText_rec (N : Nat) : ∀ {w0 : World} {Γ Δ1 Δ : List Atom} {b : Nat} {pv bv v vt : Value} {a t : List Int} {p : Int} {m : Nat} {bs : List UInt8} [hm : ToN p m] [h0 : PullTb Γ b tB [pv, bv] Δ1] [h2 : PullOw (TBy t8) repTBy Δ1 [bv] (TBy.mk bs) Δ] [h : HasRd (List Int) repList Δ [v] a] [h1 : HasRd (List Int) repList Δ [vt] t] (hG : TxD a t p m N bs pv b),
    CJ Tryd.prog 87 [.pointer (some ⟨b, 0, none⟩), .agg #[v], vt, .int .i64 p] w0 Γ (fun q : Value => .int .i64 ((m + (subt a t m).length : Nat) : Int)) (fun q => @Atom.ow (TB tB) repTB [.pointer (some ⟨b, 0, none⟩)] (TB.mk [.pointer (some ⟨b, 0, none⟩), q]) :: @Atom.ow (TBy t8) repTBy [q] (TBy.mk (bs ++ TX a t m)) :: Δ) := by
  induction N with
  | zero =>
    intro w0 Γ Δ1 Δ b pv bv v vt a t p m bs hm h0 h2 h h1 hG
    have := hG.hN
    have := hG.hp
    have := hm.eq
    omega
  | succ N ih =>
    intro w0 Γ Δ1 Δ bb pv bv v vt a t p m bs hm h0 h2 h h1 hG
    haveI hI : ∀ (Γ Δ1 Δ : List Atom) (b : Nat) (pv bv v vt : Value) (a t : List Int) (p : Int) (m : Nat) (bs : List UInt8) [ToN p m] [PullTb Γ b tB [pv, bv] Δ1] [PullOw (TBy t8) repTBy Δ1 [bv] (TBy.mk bs) Δ] [HasRd (List Int) repList Δ [v] a] [HasRd (List Int) repList Δ [vt] t], CtrC Tryd.prog 87 [.pointer (some ⟨b, 0, none⟩), .agg #[v], vt, .int .i64 p] Γ (TxD a t p m N bs pv b) Value (fun q => .int .i64 ((m + (subt a t m).length : Nat) : Int)) (fun q => @Atom.ow (TB tB) repTB [.pointer (some ⟨b, 0, none⟩)] (TB.mk [.pointer (some ⟨b, 0, none⟩), q]) :: @Atom.ow (TBy t8) repTBy [q] (TBy.mk (bs ++ TX a t m)) :: Δ) := fun Γ Δ1 Δ b pv bv v vt a t p m bs _ _ _ _ _ => ⟨fun hG w0 => ih hG⟩
    refine cj_perm (h0.perm.trans (h2.perm.cons _)) ?_
    obtain ⟨hok, hp, hN, hb, hv⟩ := hG
    obtain rfl : p = (m : Int) := by have := hm.eq; omega
    have hpl : m < t.length := by omega
    have htl := termOk_len hok
    have htm := termOk_get hok hpl
    have hsg := sigOk_len (termOk_sig hok)
    have c1 : ({ data := #[120] } : ByteArray).size = 1 := rfl
    have c2 : ({ data := #[102] } : ByteArray).size = 1 := rfl
    have n1 := numL_len (-1 - t.getD m 0).toNat
    have n2 := S_size (numL (-1 - t.getD m 0).toNat)
    have n3 := numL_len (t.getD m 0).toNat
    have n4 := S_size (numL (t.getD m 0).toNat)
    have hap : ∀ x y : ByteArray, (x ++ y).size = x.size + y.size := fun x y => by simp [ByteArray.size_append]
    have ha1 := hap { data := #[120] } (S (numL (-1 - t.getD m 0).toNat))
    have ha2 := hap { data := #[102] } (S (numL (t.getD m 0).toNat))
    have hself : (Value.pointer (some ⟨bb, 0, none⟩) = .pointer none ∨ Value.pointer (some ⟨bb, 0, none⟩) = .pointer (some ⟨bb, 0, none⟩)) := .inr rfl
    refine cj_enter Tryd.func87 Tryd.ntmps87 ?_
    have hend := kid_end hok hpl
    have har : 0 ≤ t.getD m 0 → a.getD (t.getD m 0).toNat 0 = ((arK a t m : Nat) : Int) := fun h => by
      have := (arK_le hok hpl).2.1
      unfold ar at this
      rw [if_neg (by omega)] at this
      exact this
    repeat' (first | refine red ?_ | refine redf fun hbi => ?_ | refine reds ?_ | refine redc fun r => ?_ | refine redp (fun r => ?_) (fun r => ?_) | refine redv fun sv => ?_ | refine redn fun b => ?_ | refine redz fun zs => ?_ | refine redq (fun hc => ?_) (fun hc => ?_) | with_reducible refine wq_blk_o rfl ?_ | (refine redi (fun hc => ?_) (fun hc => ?_) <;> try first | (exfalso; omega) | with_reducible first | exact absurd rfl hc | exact absurd hc Bool.false_ne_true | exact absurd hc Bool.false_ne_true.symm) | fail)
    · have hz : arK a t m = 0 := by unfold arK; rw [ar_var (by omega)]; rfl
      have hs1 : (subt a t m).length = 1 := by
        rw [hz] at hend
        have : kidN a t (m + 1) 0 = m + 1 := rfl
        omega
      rw [S_one, S_app, S_list, hs1, TX_var hpl (by omega), show [120] ++ numL (-1 - t.getD m 0).toNat = 120 :: numL (-1 - t.getD m 0).toNat from rfl]
      exact ⟨r, rfl, ent_e⟩
    · have h0 : 0 ≤ t.getD m 0 := by omega
      have hn3 := (arK_le hok hpl).1
      rw [S_one, S_app, S_list, har h0]
      refine wc_loop_p [3, 37] [38, 39, 10, 40, 41, 42, 43, 44, 45, 46, 47, 48, 49, 50, 51] (ι := Nat × Value) (fun i => [.int .i64 ((kidN a t (m + 1) i.1 : Nat) : Int), .int .i64 i.1]) (fun i => [@Atom.ow (TB tB) repTB [.pointer (some ⟨bb, 0, none⟩)] (TB.mk [.pointer (some ⟨bb, 0, none⟩), i.2]), @Atom.ow (TBy t8) repTBy [i.2] (TBy.mk (bs ++ (102 :: numL (t.getD m 0).toNat ++ KX a t m i.1)))]) (fun i => i.1 ≤ arK a t m) (fun i => arK a t m - i.1) (0, r) [@Atom.ow (TB tB) repTB [.pointer (some ⟨bb, 0, none⟩)] (TB.mk [.pointer (some ⟨bb, 0, none⟩), r]), @Atom.ow (TBy t8) repTBy [r] (TBy.mk (bs ++ ([102] ++ numL (t.getD m 0).toNat)))] (by kernel_rfl) (Nat.zero_le _) (by simp [KX_zero]) ?_
      intro ⟨i, q⟩ u l' hl' hi
      simp only [patch, List.map_cons, List.map_nil, List.set_cons_zero, List.set_cons_succ] at hl'
      subst hl'
      simp only [List.cons_append, List.nil_append] at hi ⊢
      have hkl := KX_len hok hpl i hi
      have hlen : (bs ++ 102 :: (numL (t.getD m 0).toNat ++ KX a t m i)).length = bs.length + ((numL (t.getD m 0).toNat).length + 1 + (KX a t m i).length) := by simp only [List.length_append, List.length_cons]; omega
      by_cases hil : i < arK a t m
      · have hk := kid_lt hok hpl hil
        have hks := KX_succ a t m i
        have hsz := subt_len hok hk.2
        have hG40 : TxD a t ((kidN a t (m + 1) i : Nat) : Int) (kidN a t (m + 1) i) N (bs ++ 102 :: (numL (t.getD m 0).toNat ++ KX a t m i) ++ [UInt8.ofNat (40 : Int).toNat]) (.pointer (some ⟨bb, 0, none⟩)) bb := ⟨hok, by omega, by omega, by rw [List.length_append, hlen, List.length_singleton]; omega, .inr rfl⟩
        have hG44 : TxD a t ((kidN a t (m + 1) i : Nat) : Int) (kidN a t (m + 1) i) N (bs ++ 102 :: (numL (t.getD m 0).toNat ++ KX a t m i) ++ [UInt8.ofNat (44 : Int).toNat]) (.pointer (some ⟨bb, 0, none⟩)) bb := ⟨hok, by omega, by omega, by rw [List.length_append, hlen, List.length_singleton]; omega, .inr rfl⟩
        repeat' (first | refine red ?_ | refine redf fun hbi => ?_ | refine reds ?_ | refine redc fun r => ?_ | refine redp (fun r => ?_) (fun r => ?_) | refine redv fun sv => ?_ | refine redn fun b => ?_ | refine redz fun zs => ?_ | refine redq (fun hc => ?_) (fun hc => ?_) | with_reducible refine wq_blk_o rfl ?_ | (refine redi (fun hc => ?_) (fun hc => ?_) <;> try first | (exfalso; omega) | with_reducible first | exact absurd rfl hc | exact absurd hc Bool.false_ne_true | exact absurd hc Bool.false_ne_true.symm) | fail)
        · rw [show bs ++ 102 :: (numL (t.getD m 0).toNat ++ KX a t m i) ++ [UInt8.ofNat (Int.toNat 40)] ++ TX a t (kidN a t (m + 1) i) = bs ++ 102 :: (numL (t.getD m 0).toNat ++ KX a t m (i + 1)) by
            rw [hks, if_pos (by omega), show UInt8.ofNat (Int.toNat 40) = 40 from rfl]; simp, hsz]
          exact wq_next (i + 1, r) (by show i + 1 ≤ arK a t m; omega) (by show arK a t m - (i + 1) < arK a t m - i; omega) (by kernel_rfl) ent_e
        · rw [show bs ++ 102 :: (numL (t.getD m 0).toNat ++ KX a t m i) ++ [UInt8.ofNat (Int.toNat 44)] ++ TX a t (kidN a t (m + 1) i) = bs ++ 102 :: (numL (t.getD m 0).toNat ++ KX a t m (i + 1)) by
            rw [hks, if_neg (by omega), show UInt8.ofNat (Int.toNat 44) = 44 from rfl]; simp, hsz]
          exact wq_next (i + 1, r) (by show i + 1 ≤ arK a t m; omega) (by show arK a t m - (i + 1) < arK a t m - i; omega) (by kernel_rfl) ent_e
      · obtain rfl : i = arK a t m := by omega
        have hall := TX_fun hok hpl h0
        have har0 := har h0
        repeat' (first | refine red ?_ | refine redf fun hbi => ?_ | refine reds ?_ | refine redc fun r => ?_ | refine redp (fun r => ?_) (fun r => ?_) | refine redv fun sv => ?_ | refine redn fun b => ?_ | refine redz fun zs => ?_ | refine redq (fun hc => ?_) (fun hc => ?_) | with_reducible refine wq_blk_o rfl ?_ | (refine redi (fun hc => ?_) (fun hc => ?_) <;> try first | (exfalso; omega) | with_reducible first | exact absurd rfl hc | exact absurd hc Bool.false_ne_true | exact absurd hc Bool.false_ne_true.symm) | fail)
        · rw [hend, show bs ++ 102 :: (numL (t.getD m 0).toNat ++ KX a t m (arK a t m)) ++ [UInt8.ofNat (Int.toNat 41)] = bs ++ TX a t m by
            rw [hall, if_neg (by omega), show UInt8.ofNat (Int.toNat 41) = 41 from rfl]; simp]
          exact ⟨r, rfl, ent_e⟩
        · rw [hend, show bs ++ 102 :: (numL (t.getD m 0).toNat ++ KX a t m (arK a t m)) = bs ++ TX a t m by
            rw [hall, if_pos (by omega)]; simp]
          exact ⟨q, rfl, ent_e⟩
theorem termText_spec {w0 : World} {Γ Δ1 Δ : List Atom} {b : Nat} {pv bv v vt : Value} {a t : List Int} {p : Int} {m : Nat} {bs : List UInt8} [hm : ToN p m] [h0 : PullTb Γ b tB [pv, bv] Δ1] [h2 : PullOw (TBy t8) repTBy Δ1 [bv] (TBy.mk bs) Δ] [h : HasRd (List Int) repList Δ [v] a] [h1 : HasRd (List Int) repList Δ [vt] t] (hG : TxD a t p m t.length bs pv b) :
    CJ Tryd.prog 87 [.pointer (some ⟨b, 0, none⟩), .agg #[v], vt, .int .i64 p] w0 Γ (fun q : Value => .int .i64 ((m + (subt a t m).length : Nat) : Int)) (fun q => @Atom.ow (TB tB) repTB [.pointer (some ⟨b, 0, none⟩)] (TB.mk [.pointer (some ⟨b, 0, none⟩), q]) :: @Atom.ow (TBy t8) repTBy [q] (TBy.mk (bs ++ TX a t m)) :: Δ) := by
  exact termText_rec t.length hG
instance termText_ctr {Γ Δ1 Δ : List Atom} {b : Nat} {pv bv v vt : Value} {a t : List Int} {p : Int} {m : Nat} {bs : List UInt8} [hm : ToN p m] [h0 : PullTb Γ b tB [pv, bv] Δ1] [h2 : PullOw (TBy t8) repTBy Δ1 [bv] (TBy.mk bs) Δ] [h : HasRd (List Int) repList Δ [v] a] [h1 : HasRd (List Int) repList Δ [vt] t] :
    CtrC Tryd.prog 87 [.pointer (some ⟨b, 0, none⟩), .agg #[v], vt, .int .i64 p] Γ (TxD a t p m t.length bs pv b) (Value) (fun q : Value => .int .i64 ((m + (subt a t m).length : Nat) : Int)) (fun q => @Atom.ow (TB tB) repTB [.pointer (some ⟨b, 0, none⟩)] (TB.mk [.pointer (some ⟨b, 0, none⟩), q]) :: @Atom.ow (TBy t8) repTBy [q] (TBy.mk (bs ++ TX a t m)) :: Δ) := ⟨fun s w0 => termText_spec s⟩

theorem wl_ownilT {P : Program} {ops : Array Oper} {Q : Exit → Act → World → Prop} {w0 : World} {rest : List Oper} {l : List Value} {Γ : List Atom} (h : WL P ops Q w0 rest l (@Atom.ow (TBy t8) repTBy [.slice none 0 0] (TBy.mk []) :: Γ)) : WL P ops Q w0 rest l Γ := fun w hs => by
  obtain ⟨hb, F, hnd, hl, hsep⟩ := hs
  exact h w ⟨hb, F, hnd, hl, [], F, rfl, .inl ⟨rfl, rfl, rfl⟩, hsep⟩
theorem text_spec {w0 : World} {Γ : List Atom} {v vt : Value} {a t : List Int} [h : HasRd (List Int) repList Γ [v] a] [h1 : HasRd (List Int) repList Γ [vt] t] (hok : termOk a t = true) :
    CJ Tryd.prog 58 [.agg #[v], vt] w0 Γ (fun _ : Unit => .string (S (TX a t 0))) (fun _ => Γ) := by
  refine cj_lift (R := [.rd [v] a, .rd [vt] t]) (A := fun _ => []) (fun w1 => ?_) (reads_cons h (reads_cons h1 (inferInstance))) (fun _ => inferInstance)
  simp only [List.cons_append, List.nil_append]
  have htl := termOk_len hok
  have hlen := TX_len hok _ 0 (by omega) (Nat.le_refl _)
  have hG : ∀ b, TxD a t 0 0 t.length [] (.pointer none) b := fun b => ⟨hok, by omega, by omega, by show 0 + 2000 * t.length ≤ _; omega, .inl rfl⟩
  refine cj_enter Tryd.func58 Tryd.ntmps58 ?_
  repeat' (first | refine red ?_ | refine redf fun hbi => ?_ | refine reds ?_ | refine redc fun r => ?_ | refine redp (fun r => ?_) (fun r => ?_) | refine redv fun sv => ?_ | refine redn fun b => ?_ | refine redz fun zs => ?_ | refine redq (fun hc => ?_) (fun hc => ?_) | with_reducible refine wq_blk_o rfl ?_ | (refine redi (fun hc => ?_) (fun hc => ?_) <;> try first | (exfalso; omega) | with_reducible first | exact absurd rfl hc | exact absurd hc Bool.false_ne_true | exact absurd hc Bool.false_ne_true.symm) | fail)
  rename_i b
  have hG' := hG b
  refine wl_ownilT ?_
  repeat' (first | refine red ?_ | refine redf fun hbi => ?_ | refine reds ?_ | refine redc fun r => ?_ | refine redp (fun r => ?_) (fun r => ?_) | refine redv fun sv => ?_ | refine redn fun b => ?_ | refine redz fun zs => ?_ | refine redq (fun hc => ?_) (fun hc => ?_) | with_reducible refine wq_blk_o rfl ?_ | (refine redi (fun hc => ?_) (fun hc => ?_) <;> try first | (exfalso; omega) | with_reducible first | exact absurd rfl hc | exact absurd hc Bool.false_ne_true | exact absurd hc Bool.false_ne_true.symm) | fail)
  exact ⟨(), rfl, ent_e⟩
instance text_ctr {Γ : List Atom} {v vt : Value} {a t : List Int} [h : HasRd (List Int) repList Γ [v] a] [h1 : HasRd (List Int) repList Γ [vt] t] :
    CtrC Tryd.prog 58 [.agg #[v], vt] Γ (termOk a t = true) (Unit) (fun _ : Unit => .string (S (TX a t 0))) (fun _ => Γ) := ⟨fun s w0 => text_spec s⟩

end Go.Proofs.YtcaljjkmaffedaaDoor
