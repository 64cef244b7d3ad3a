/- Bytes of a string. -/
import Derived.Test.YtogmjihokkdcfaaGreatDoorEngY
import Derived.Test.YtogmjihokkdcfaaGreatDoorTxtI
namespace Go.Eng
open Go Go.RowKit
set_option linter.unusedVariables false
set_option linter.unusedSimpArgs false
section
variable {P : Program} {ops : Array Oper} {Q : Exit → Act → World → Prop} {w0 : World} {rest : List Oper} {l l' : List Value} {Γ Δ : List Atom} {ty : TypeId} {pos : String} {after : Array Edge} {d : Nat}
theorem bytes_at {s : ByteArray} {m : Nat} (h : m < s.size) : s[m]? = some (s.data.toList.getD m 0) := by
  have h2 : m < s.data.size := h
  rw [getElem?_pos s m h, List.getD_eq_getElem?_getD, Array.getElem?_toList, Array.getElem?_eq_getElem h2]
  rfl
theorem pu_index_s {T : TypeId} {x y : Operand} {s : ByteArray} {n : Int} {m : Nat} {k : IntKind} [hT : IsStr P T] [hx : Ev l x (.string s)] [hy : Ev l y (.int k n)] [hm : ToN n m] (h : 0 ≤ n ∧ n < s.size) :
    Pu P w0 l Γ (.index T x y) ty (.int .u8 (((s.data.toList.getD m 0).toNat : Nat) : Int)) :=
  pu_of (s := Instr.index T (.string s) (.int k n)) (fun o ho _ => by unfold execOp; rw [ho]; simp only [hx.eq, hy.eq]) (fun w _ => by
    have hmn : n.toNat = m := by have := hm.eq; omega
    have hb := bytes_at (s := s) (m := m) (by omega)
    simp [Instr.index, asIntOf, run_underlying hT.eq, Sem.run_bind, h.1, hmn, hb])
instance {T : TypeId} {x y : Operand} {s : ByteArray} {n : Int} {m : Nat} {k : IntKind} [hT : IsStr P T] [hx : Ev l x (.string s)] [hy : Ev l y (.int k n)] [hm : ToN n m] :
    PuS P l Γ (.index T x y) ty (.int .u8 (((s.data.toList.getD m 0).toNat : Nat) : Int)) (0 ≤ n ∧ n < s.size) := ⟨fun h _ => pu_index_s h⟩
theorem u8_sub {a : UInt8} {n : Int} (h : 0 ≤ n ∧ n ≤ a.toNat) : (((a - UInt8.ofNat n.toNat).toNat : Nat) : Int) = (a.toNat : Int) - n := by
  have ha : a.toNat < 256 := a.toNat_lt
  have hb : (UInt8.ofNat n.toNat).toNat = n.toNat := by rw [UInt8.toNat_ofNat', Nat.mod_eq_of_lt (by omega)]
  rw [UInt8.toNat_sub, hb]
  omega
theorem pu_sub_8 {T U : TypeId} {x y : Operand} {a : UInt8} {n : Int} [hx : Ev l x (.int .u8 ((a.toNat : Nat) : Int))] [hy : Ev l y (.int .u8 n)] (h : 0 ≤ n ∧ n ≤ a.toNat) : Pu P w0 l Γ (.binOp .sub T x y U) ty (.int .u8 (((a - UInt8.ofNat n.toNat).toNat : Nat) : Int)) :=
  pu_bin eqGuard_int (fun w => by
    have ha : a.toNat < 256 := a.toNat_lt
    simp only [binOp, Op.intArith, ne_eq, not_true_eq_false, if_false]
    rw [show IntKind.u8.wrap ((a.toNat : Int) - n) = (a.toNat : Int) - n from (show IntKind.u8.wrap ((a.toNat : Int) - n) = ((a.toNat : Int) - n) % 256 from rfl).trans (by omega), u8_sub h]
    rfl)
instance {T U : TypeId} {x y : Operand} {a : UInt8} {n : Int} [hx : Ev l x (.int .u8 ((a.toNat : Nat) : Int))] [hy : Ev l y (.int .u8 n)] : PuS P l Γ (.binOp .sub T x y U) ty (.int .u8 (((a - UInt8.ofNat n.toNat).toNat : Nat) : Int)) (0 ≤ n ∧ n ≤ a.toNat) := ⟨fun h _ => pu_sub_8 h⟩
end
end Go.Eng
namespace Go.Proofs.YtogmjihokkdcfaaGreatDoor
open Go Go.Eng
set_option linter.unusedVariables false
set_option linter.unusedSimpArgs false
set_option synthInstance.maxHeartbeats 400000
set_option synthInstance.maxSize 1000
set_option maxHeartbeats 2000000
set_option maxRecDepth 20000

def isDg (c : UInt8) : Prop := 48 ≤ c.toNat ∧ c.toNat ≤ 57
instance {c : UInt8} : Decidable (isDg c) := by unfold isDg; infer_instance
def pnV (l : List UInt8) : Nat → Nat
  | 0 => 0
  | k + 1 => 10 * pnV l k + ((l.getD k 0).toNat - 48)
def DigTo (l : List UInt8) (k : Nat) : Prop := ∀ i, i < k → isDg (l.getD i 0)
instance {l : List UInt8} {k : Nat} : Decidable (DigTo l k) := by unfold DigTo; infer_instance
def PnP (l : List UInt8) : Prop := (1 ≤ l.length ∧ l.length ≤ 9 ∧ ¬ (1 < l.length ∧ (l.getD 0 0).toNat = 48)) ∧ DigTo l l.length
instance {l : List UInt8} : Decidable (PnP l) := by unfold PnP; infer_instance
def pNum (l : List UInt8) : Int := if PnP l then (pnV l l.length : Int) else 0
theorem pnV_lt (l : List UInt8) : ∀ k, DigTo l k → pnV l k < 10 ^ k
  | 0, _ => by simp [pnV]
  | k + 1, h => by
    have h1 := pnV_lt l k (fun i hi => h i (by omega))
    have h2 := h k (by omega)
    unfold isDg at h2
    show 10 * pnV l k + ((l.getD k 0).toNat - 48) < 10 ^ (k + 1)
    rw [Nat.pow_succ]; omega
theorem parseNum_spec {w0 : World} {Γ : List Atom} {s : ByteArray} :
    CJ Tryz.prog 63 [.string s] w0 Γ (fun _ : Unit => .tuple #[.int .i64 (pNum s.data.toList), .bool (decide (PnP s.data.toList))]) (fun _ => Γ) := by
  have hll : s.data.toList.length = s.size := Array.length_toList
  have hno : ¬ (1 ≤ s.data.toList.length ∧ s.data.toList.length ≤ 9 ∧ ¬ (1 < s.data.toList.length ∧ (s.data.toList.getD 0 0).toNat = 48)) → ¬ PnP s.data.toList := fun h h2 => h h2.1
  refine cj_enter Tryz.func63 Tryz.ntmps63 ?_
  repeat' (first | refine red ?_ | refine redf fun hbi => ?_ | refine reds ?_ | refine redc fun r => ?_ | refine redp (fun r => ?_) (fun r => ?_) | refine redv fun sv => ?_ | refine redn fun b => ?_ | refine redz fun zs => ?_ | refine redq (fun hc => ?_) (fun hc => ?_) | with_reducible refine wq_blk_o rfl ?_ | (refine redi (fun hc => ?_) (fun hc => ?_) <;> try first | (exfalso; omega) | with_reducible first | exact absurd rfl hc | exact absurd hc Bool.false_ne_true | exact absurd hc Bool.false_ne_true.symm) | fail)
  all_goals first
    | (refine ⟨(), ?_, ent_e⟩
       have hn : ¬ PnP s.data.toList := hno (by omega)
       rw [pNum, if_neg hn, decide_eq_false hn])
    | skip
  all_goals
    have hgd : 1 ≤ s.data.toList.length ∧ s.data.toList.length ≤ 9 ∧ ¬ (1 < s.data.toList.length ∧ (s.data.toList.getD 0 0).toNat = 48) := by omega
    refine wc_loop_c [4, 26] [27, 28, 5, 29, 30, 31, 32, 33, 34, 35, 36, 37, 38, 2, 3, 39, 40, 41, 42, 43, 44, 45, 46, 47] (ι := Nat) (fun k => [.int .i64 (pnV s.data.toList k), .int .i64 k]) (fun k => k ≤ s.size ∧ DigTo s.data.toList k) (fun k => s.size - k) 0 (by kernel_rfl) ⟨Nat.zero_le _, fun i hi => by omega⟩ ?_
    intro k u l' hl' ⟨hk, hd⟩
    simp only [patch, List.map_cons, List.map_nil, List.set_cons_zero, List.set_cons_succ] at hl'
    subst hl'
    have hv := pnV_lt s.data.toList k hd
    have hp : 10 ^ k ≤ 10 ^ 9 := Nat.pow_le_pow_right (by decide) (by omega)
    have hv2 : pnV s.data.toList k < 1000000000 := Nat.lt_of_lt_of_le hv hp
    have h48 : (UInt8.ofNat (48 : Int).toNat) = 48 := rfl
    have hsb : k < s.size → isDg (s.data.toList.getD k 0) → ((s.data.toList.getD k 0 - UInt8.ofNat (48 : Int).toNat).toNat : Int) = (s.data.toList.getD k 0).toNat - 48 := fun _ h => u8_sub ⟨by decide, by unfold isDg at h; omega⟩
    have hc256 : (s.data.toList.getD k 0 - UInt8.ofNat (48 : Int).toNat).toNat < 256 := UInt8.toNat_lt _
    repeat' (first | refine red ?_ | refine redf fun hbi => ?_ | refine reds ?_ | refine redc fun r => ?_ | refine redp (fun r => ?_) (fun r => ?_) | refine redv fun sv => ?_ | refine redn fun b => ?_ | refine redz fun zs => ?_ | refine redq (fun hc => ?_) (fun hc => ?_) | with_reducible refine wq_blk_o rfl ?_ | (refine redi (fun hc => ?_) (fun hc => ?_) <;> try first | (exfalso; omega) | with_reducible first | exact absurd rfl hc | exact absurd hc Bool.false_ne_true | exact absurd hc Bool.false_ne_true.symm) | fail)
    · have hn : ¬ PnP s.data.toList := fun h => by have := h.2 k (by omega); unfold isDg at this; omega
      exact ⟨(), by rw [pNum, if_neg hn, decide_eq_false hn], ent_e⟩
    · have hn : ¬ PnP s.data.toList := fun h => by have := h.2 k (by omega); unfold isDg at this; omega
      exact ⟨(), by rw [pNum, if_neg hn, decide_eq_false hn], ent_e⟩
    · have hdk : isDg (s.data.toList.getD k 0) := by unfold isDg; omega
      have hsk := hsb (by omega) hdk
      have hpk : ((10 : Int) * (pnV s.data.toList k : Int) + ((s.data.toList.getD k 0 - UInt8.ofNat (48 : Int).toNat).toNat : Int)) = ((pnV s.data.toList (k + 1) : Nat) : Int) := by
        rw [hsk]
        show _ = ((10 * pnV s.data.toList k + ((s.data.toList.getD k 0).toNat - 48) : Nat) : Int)
        omega
      rw [hpk]
      exact wq_next (k + 1) ⟨by omega, fun i hi => by
        by_cases he : i = k
        · rw [he]; exact hdk
        · exact hd i (by omega)⟩ (by omega) (by kernel_rfl) ent_e
    · have hy : PnP s.data.toList := ⟨hgd, by rw [hll, show s.size = k by omega]; exact hd⟩
      exact ⟨(), by rw [pNum, if_pos hy, decide_eq_true hy, hll, show s.size = k by omega], ent_e⟩
instance parseNum_ctr {Γ : List Atom} {s : ByteArray} :
    CtrC Tryz.prog 63 [.string s] Γ (True) (Unit) (fun _ : Unit => .tuple #[.int .i64 (pNum s.data.toList), .bool (decide (PnP s.data.toList))]) (fun _ => Γ) := ⟨fun s w0 => parseNum_spec⟩

theorem pNum_lt (l : List UInt8) : 0 ≤ pNum l ∧ pNum l < 1000000000 := by
  unfold pNum
  split
  · rename_i h
    have h1 := pnV_lt l l.length h.2
    have hp : 10 ^ l.length ≤ 10 ^ 9 := Nat.pow_le_pow_right (by decide) h.1.2.1
    omega
  · omega
/-- Where the digits from j on end. -/
def digE (l : List UInt8) : Nat → Nat → Nat
  | 0, j => j
  | f + 1, j => if j < l.length ∧ isDg (l.getD j 0) then digE l f (j + 1) else j
theorem digE_ge (l : List UInt8) : ∀ f j, j ≤ digE l f j
  | 0, j => Nat.le_refl _
  | f + 1, j => by
    unfold digE
    split
    · have := digE_ge l f (j + 1); omega
    · exact Nat.le_refl _
theorem digE_le (l : List UInt8) : ∀ f j, j ≤ l.length → digE l f j ≤ l.length
  | 0, j, h => h
  | f + 1, j, h => by
    unfold digE
    split
    · rename_i h2; exact digE_le l f (j + 1) (by omega)
    · exact h
theorem digE_step {l : List UInt8} {j : Nat} (h : j < l.length) (hd : isDg (l.getD j 0)) : digE l (l.length - j) j = digE l (l.length - (j + 1)) (j + 1) := by
  rw [show l.length - j = (l.length - (j + 1)) + 1 by omega]
  rw [digE, if_pos ⟨h, hd⟩]
theorem digE_stop {l : List UInt8} {j : Nat} (h : ¬ (j < l.length ∧ isDg (l.getD j 0))) : digE l (l.length - j) j = j := by
  by_cases h2 : l.length - j = 0
  · rw [h2]; rfl
  · rw [show l.length - j = (l.length - (j + 1)) + 1 by omega, digE, if_neg h]
abbrev dgE (l : List UInt8) (j : Nat) : Nat := digE l (l.length - j) j
/-- A sign that parts symbols. -/
def isPn (c : UInt8) : Prop := c.toNat = 40 ∨ c.toNat = 44 ∨ c.toNat = 41
instance {c : UInt8} : Decidable (isPn c) := by unfold isPn; infer_instance
def psW (l : List UInt8) (i : Nat) : List UInt8 := (l.drop (i + 1)).take (dgE l (i + 1) - (i + 1))
def psO (l : List UInt8) (i : Nat) : Prop := PnP (psW l i) ∧ ((l.getD i 0).toNat = 120 ∨ (l.getD i 0).toNat = 102)
instance {l : List UInt8} {i : Nat} : Decidable (psO l i) := by unfold psO; infer_instance
def psN (l : List UInt8) (i : Nat) : Int := if (l.getD i 0).toNat = 120 then -1 - pNum (psW l i) else pNum (psW l i)
/-- The numbers in a text of a term. -/
def psT (l : List UInt8) : Nat → Nat → List Int → Option (List Int)
  | 0, _, t => some t
  | f + 1, i, t => if i < l.length then (if isPn (l.getD i 0) then psT l f (i + 1) t else if psO l i then psT l f (dgE l (i + 1)) (t ++ [psN l i]) else none) else some t
theorem psT_fuel (l : List UInt8) : ∀ (f g i : Nat) (t : List Int), l.length - i ≤ f → l.length - i ≤ g → psT l f i t = psT l g i t
  | 0, 0, i, t, _, _ => rfl
  | 0, g + 1, i, t, h, _ => by
    rw [psT, psT, if_neg (by omega)]
  | f + 1, 0, i, t, _, h => by
    rw [psT, psT, if_neg (by omega)]
  | f + 1, g + 1, i, t, hf, hg => by
    have hge : i + 1 ≤ dgE l (i + 1) := digE_ge l (l.length - (i + 1)) (i + 1)
    unfold psT
    split
    · split
      · exact psT_fuel l f g (i + 1) t (by omega) (by omega)
      · split
        · exact psT_fuel l f g _ _ (by omega) (by omega)
        · rfl
    · rfl
abbrev ps0 (l : List UInt8) (i : Nat) (t : List Int) : Option (List Int) := psT l (l.length - i) i t
theorem ps_pn {l : List UInt8} {i : Nat} {t : List Int} (h : i < l.length) (hp : isPn (l.getD i 0)) : ps0 l i t = ps0 l (i + 1) t := by
  unfold ps0
  rw [show l.length - i = (l.length - (i + 1)) + 1 by omega, psT, if_pos h, if_pos hp]
theorem ps_sym {l : List UInt8} {i : Nat} {t : List Int} (h : i < l.length) (hp : ¬ isPn (l.getD i 0)) (ho : psO l i) : ps0 l i t = ps0 l (dgE l (i + 1)) (t ++ [psN l i]) := by
  have hge : i + 1 ≤ dgE l (i + 1) := digE_ge l (l.length - (i + 1)) (i + 1)
  unfold ps0
  rw [show l.length - i = (l.length - (i + 1)) + 1 by omega, psT, if_pos h, if_neg hp, if_pos ho]
  exact psT_fuel _ _ _ _ _ (by omega) (by omega)
theorem ps_no {l : List UInt8} {i : Nat} {t : List Int} (h : i < l.length) (hp : ¬ isPn (l.getD i 0)) (ho : ¬ psO l i) : ps0 l i t = none := by
  unfold ps0
  rw [show l.length - i = (l.length - (i + 1)) + 1 by omega, psT, if_pos h, if_neg hp, if_neg ho]
theorem ps_end {l : List UInt8} {i : Nat} {t : List Int} (h : l.length ≤ i) : ps0 l i t = some t := by
  unfold ps0
  rw [show l.length - i = 0 by omega]; rfl
/-- A term is read. -/
def ptL (l : List UInt8) : List Int := (ps0 l 0 []).getD []
def ptB (a : List Int) (s : ByteArray) : Prop := (ps0 s.data.toList 0 []).isSome = true ∧ termOk a (ptL s.data.toList) = true ∧ S (TX a (ptL s.data.toList) 0) = s
instance {a : List Int} {s : ByteArray} : Decidable (ptB a s) := by unfold ptB; infer_instance
theorem parseTerm_spec {w0 : World} {Γ : List Atom} {v : Value} {a : List Int} {s : ByteArray} [h : HasRd (List Int) repList Γ [v] a] (hs : s.size ≤ 1000000) :
    CJ Tryz.prog 47 [.agg #[v], .string s] w0 Γ (fun q : Value => .tuple #[q, .bool (decide (ptB a s))]) (fun q => .ow [q] (ptL s.data.toList) :: Γ) := by
  have hll : s.data.toList.length = s.size := Array.length_toList
  refine cj_lift (R := [.rd [v] a]) (A := fun q : Value => [.ow [q] (ptL s.data.toList)]) (fun w1 => ?_) (reads_cons h (inferInstance)) (fun _ => inferInstance)
  simp only [List.cons_append, List.nil_append]
  refine cj_enter Tryz.func47 Tryz.ntmps47 ?_
  repeat' (first | refine red ?_ | refine redf fun hbi => ?_ | refine reds ?_ | refine redc fun r => ?_ | refine redp (fun r => ?_) (fun r => ?_) | refine redv fun sv => ?_ | refine redn fun b => ?_ | refine redz fun zs => ?_ | refine redq (fun hc => ?_) (fun hc => ?_) | with_reducible refine wq_blk_o rfl ?_ | (refine redi (fun hc => ?_) (fun hc => ?_) <;> try first | (exfalso; omega) | with_reducible first | exact absurd rfl hc | exact absurd hc Bool.false_ne_true | exact absurd hc Bool.false_ne_true.symm) | fail)
  refine wc_nil_ow (α := Int) (iα := repInt) ?_
  refine wc_loop_p [6, 7] [12, 13, 14, 15, 16, 17, 18, 8, 19, 20, 21, 22, 23, 24, 25, 26, 27, 28, 29, 30, 31, 32, 9, 33, 34, 35, 36, 37, 38, 39, 40, 41, 42, 43, 44, 45, 46, 47, 48, 49, 50, 52, 53, 54, 55, 56, 57, 51, 58, 59, 10, 11, 60, 61, 62, 63, 64, 65, 66, 67, 68, 69, 4, 5, 70, 71, 72, 73, 74, 75, 76, 77, 78] (ι := Nat × List Int × Value) (fun k => [k.2.2, .int .i64 k.1]) (fun k => [.ow [k.2.2] k.2.1]) (fun k => k.1 ≤ s.size ∧ k.2.1.length ≤ k.1 ∧ ps0 s.data.toList 0 [] = ps0 s.data.toList k.1 k.2.1) (fun k => s.size - k.1) (0, [], .slice none 0 0) [.ow [.slice none 0 0] ([] : List Int)] (by kernel_rfl) ⟨Nat.zero_le _, Nat.le_refl _, rfl⟩ rfl ?_
  intro ⟨i, t, tv⟩ u l' hl' ⟨hi, htl, hps⟩
  simp only [patch, List.map_cons, List.map_nil, List.set_cons_zero, List.set_cons_succ] at hl'
  subst hl'
  simp only [List.cons_append, List.nil_append] at hi htl hps ⊢
  repeat' (first | refine red ?_ | refine redf fun hbi => ?_ | refine reds ?_ | refine redc fun r => ?_ | refine redp (fun r => ?_) (fun r => ?_) | refine redv fun sv => ?_ | refine redn fun b => ?_ | refine redz fun zs => ?_ | refine redq (fun hc => ?_) (fun hc => ?_) | with_reducible refine wq_blk_o rfl ?_ | (refine redi (fun hc => ?_) (fun hc => ?_) <;> try first | (exfalso; omega) | with_reducible first | exact absurd rfl hc | exact absurd hc Bool.false_ne_true | exact absurd hc Bool.false_ne_true.symm) | fail)
  iterate 3
    · exact wq_next (i + 1, t, tv) ⟨by simp only; omega, by simp only; omega, by simp only; rw [hps]; exact ps_pn (by omega) (by unfold isPn; omega)⟩ (by simp only; omega) (by kernel_rfl) ent_e
  · have hnp : ¬ isPn (s.data.toList.getD i 0) := by unfold isPn; omega
    have hil : i < s.size := by omega
    have hge : i + 1 ≤ dgE s.data.toList (i + 1) := digE_ge _ _ _
    refine wc_loop_c [9] [33, 34, 35, 36, 37, 38, 39, 40, 41, 42, 43, 44, 45, 46, 47, 48, 49, 50] (ι := Nat) (fun e => [.int .i64 e]) (fun e => i + 1 ≤ e ∧ e ≤ s.size ∧ dgE s.data.toList (i + 1) = dgE s.data.toList e) (fun e => s.size - e) (i + 1) (by kernel_rfl) ⟨Nat.le_refl _, hil, rfl⟩ ?_
    intro e u l' hl' ⟨he1, he2, hee⟩
    simp only [patch, List.map_cons, List.map_nil, List.set_cons_zero, List.set_cons_succ] at hl'
    subst hl'
    have hpl := pNum_lt (s.extract ((i : Int) + 1).toNat (e : Int).toNat).data.toList
    have hst : ¬ (e < s.size ∧ isDg (s.data.toList.getD e 0)) → dgE s.data.toList (i + 1) = e := fun h => hee.trans (digE_stop (by rw [hll]; exact h))
    have hxw : dgE s.data.toList (i + 1) = e → psW s.data.toList i = (s.extract ((i : Int) + 1).toNat (e : Int).toNat).data.toList := fun h => by
      rw [psW, h, show ((i : Int) + 1).toNat = i + 1 by omega, Int.toNat_natCast, ByteArray.data_extract, Array.toList_extract]
    have hnone : ∀ h : dgE s.data.toList (i + 1) = e, ¬ psO s.data.toList i → ptL s.data.toList = [] ∧ ¬ ptB a s := fun h ho => by
      have hn : ps0 s.data.toList 0 [] = none := by rw [hps]; exact ps_no (by omega) hnp ho
      exact ⟨by rw [ptL, hn]; rfl, fun h2 => by rw [ptB, hn] at h2; exact absurd h2.1 (by simp)⟩
    have hnext : dgE s.data.toList (i + 1) = e → psO s.data.toList i → ps0 s.data.toList 0 [] = ps0 s.data.toList e (t ++ [psN s.data.toList i]) := fun h ho => by
      rw [hps, ps_sym (by omega) hnp ho, h]
    repeat' (first | refine red ?_ | refine redf fun hbi => ?_ | refine reds ?_ | refine redc fun r => ?_ | refine redp (fun r => ?_) (fun r => ?_) | refine redv fun sv => ?_ | refine redn fun b => ?_ | refine redz fun zs => ?_ | refine redq (fun hc => ?_) (fun hc => ?_) | with_reducible refine wq_blk_o rfl ?_ | (refine redi (fun hc => ?_) (fun hc => ?_) <;> try first | (exfalso; omega) | with_reducible first | exact absurd rfl hc | exact absurd hc Bool.false_ne_true | exact absurd hc Bool.false_ne_true.symm) | fail)
    all_goals first
      | exact wq_next (e + 1) ⟨by omega, by omega, by rw [hee]; exact digE_step (by omega) ⟨by omega, by omega⟩⟩ (by omega) (by kernel_rfl) ent_e
      | skip
    all_goals
      have hend : dgE s.data.toList (i + 1) = e := hst (fun h => by unfold isDg at h; omega)
      first
      | (have ho : ¬ psO s.data.toList i := fun h => by
           first
           | (have h1 := h.1
              rw [hxw hend] at h1
              exact absurd h1 ‹_›)
           | (have h1 := h.2; omega)
         rw [(hnone hend ho).1, decide_eq_false (hnone hend ho).2]
         exact ⟨_, rfl, ent_e⟩)
      | (have ho : psO s.data.toList i := ⟨by rw [hxw hend]; assumption, by omega⟩
         have hN := hnext hend ho
         have hNN : psN s.data.toList i = if (s.data.toList.getD i 0).toNat = 120 then -1 - pNum (s.extract ((i : Int) + 1).toNat (e : Int).toNat).data.toList else pNum (s.extract ((i : Int) + 1).toNat (e : Int).toNat).data.toList := by rw [psN, hxw hend]
         first
         | (rw [if_pos (by omega)] at hNN
            rw [← hNN]
            exact wq_next (e, t ++ [psN s.data.toList i], sv) ⟨by simp only; omega, by simp only [List.length_append, List.length_singleton]; omega, hN⟩ (by simp only; omega) (by kernel_rfl) ent_e)
         | (rw [if_neg (by omega)] at hNN
            rw [← hNN]
            exact wq_next (e, t ++ [psN s.data.toList i], sv) ⟨by simp only; omega, by simp only [List.length_append, List.length_singleton]; omega, hN⟩ (by simp only; omega) (by kernel_rfl) ent_e))
      | skip
  all_goals
    have hend : ps0 s.data.toList 0 [] = some t := by rw [hps]; exact ps_end (by omega)
    have hpt : ptL s.data.toList = t := by rw [ptL, hend]; rfl
    rw [hpt]
  · exact ⟨tv, by rw [show decide (ptB a s) = decide (S (TX a t 0) = s) from decide_eq_decide.2 ⟨fun h => by rw [ptB, hpt] at h; exact h.2.2, fun h => ⟨by rw [hend]; rfl, by rw [hpt]; assumption, by rw [hpt]; exact h⟩⟩], ent_e⟩
  · exact ⟨tv, by rw [decide_eq_false (fun h : ptB a s => by rw [ptB, hpt] at h; rw [h.2.1] at hc; exact absurd hc (by decide))], ent_e⟩
instance parseTerm_ctr {Γ : List Atom} {v : Value} {a : List Int} {s : ByteArray} [h : HasRd (List Int) repList Γ [v] a] :
    CtrC Tryz.prog 47 [.agg #[v], .string s] Γ (s.size ≤ 1000000) (Value) (fun q : Value => .tuple #[q, .bool (decide (ptB a s))]) (fun q => .ow [q] (ptL s.data.toList) :: Γ) := ⟨fun s w0 => parseTerm_spec s⟩

end Go.Proofs.YtogmjihokkdcfaaGreatDoor
