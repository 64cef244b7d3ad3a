/- Numbers in decimal, all of int64; the table of powers of ten stands in memory. -/
import Derived.Test.YtogmjihokkdcfaaGreatDoorNum
import Derived.Test.YtogmjihokkdcfaaGreatDoorGrw
import Derived.Test.YtogmjihokkdcfaaGreatDoorShelf
import Derived.Lib.LaidTab
import Derived.Lib.ItoaLen
namespace Go.Proofs.YtogmjihokkdcfaaGreatDoor
open Go Go.Eng Go.RowKit Go.Sort
set_option linter.unusedVariables false
set_option linter.unusedSimpArgs false
set_option synthInstance.maxHeartbeats 400000
set_option synthInstance.maxSize 1000
set_option maxRecDepth 20000
/-- A table of the library's. -/
structure Tab where
  zs : List Int
instance repTab : Rep Tab where
  sz := 1
  rd ok w cells x := ∃ g e fz, cells = [.pointer (some ⟨g, 0, none⟩)] ∧ ok g ∧ w.heap[g]? = some (.cells (x.zs.map (Value.int .u64)).toArray e fz)
  ow ok w F cells x := F = [] ∧ ∃ g e fz, cells = [.pointer (some ⟨g, 0, none⟩)] ∧ ok g ∧ w.heap[g]? = some (.cells (x.zs.map (Value.int .u64)).toArray e fz)
  pos := by decide
  rd_len := by rintro _ _ _ _ ⟨g, e, fz, rfl, _⟩; rfl
  rd_one := by rintro _ _ _ _ ⟨g, e, fz, rfl, _⟩ x hx; simp at hx; subst hx; rfl
  rd_mono := by
    rintro _ _ _ _ _ _ ⟨g, e, fz, h1, h2, h3⟩ hm
    have := hm g h2 (Array.getElem?_eq_some_iff.1 h3).1
    exact ⟨g, e, fz, h1, this.1, this.2.trans h3⟩
  ow_mono := by
    rintro _ _ _ _ _ _ _ ⟨hF, g, e, fz, h1, h2, h3⟩ _ hm
    have := hm g h2 (Array.getElem?_eq_some_iff.1 h3).1
    exact ⟨hF, g, e, fz, h1, this.1, this.2.trans h3⟩
  ow_rd := by
    rintro _ _ _ _ _ _ ⟨hF, g, e, fz, h1, h2, h3⟩ ho _
    exact ⟨g, e, fz, h1, ho g h2, h3⟩
  ow_lt := by rintro _ _ _ _ _ ⟨rfl, _⟩ b hb; cases hb
abbrev tabV : Value := .pointer (some ⟨5, 0, none⟩)
abbrev tabA : Atom := @Atom.rd Tab repTab [tabV] (Tab.mk Lib.pow10Tab)
theorem tab_named : Tryz.prog.globalNamed "internal/strconv.uint64pow10" = some 5 := by kernel_rfl
theorem tab_is {w0 w : World} {Γ : List Atom} [h : HasRd Tab repTab Γ [tabV] (Tab.mk Lib.pow10Tab)] (hs : Sat w0 w Γ) : Lib.TabIs Tryz.prog w "internal/strconv.uint64pow10" .u64 Lib.pow10Tab := by
  obtain ⟨g, e, fz, h1, _, h3⟩ := hs.rd (hr := h)
  simp only [List.cons.injEq, Value.pointer.injEq, Option.some.injEq, Addr.mk.injEq, and_true] at h1
  subst h1
  unfold Lib.TabIs World.var?
  rw [tab_named]
  simp only [Option.bind_some, h3]
theorem below_grow (w : World) (k : Nat) (os : Array Obj) : Below w.heap.size w (grow (w.drewN k) os) := by
  have h1 : ∀ k, Below w.heap.size w (w.drewN k) := fun k => ⟨rfl, rfl, rfl, Nat.le_refl _, fun _ _ => rfl⟩
  refine (h1 k).trans ⟨rfl, rfl, rfl, ?_, fun b hb => ?_⟩
  · show _ ≤ (w.heap ++ os).size
    rw [Array.size_append]; exact Nat.le_add_right _ _
  · show (w.heap ++ os)[b]? = w.heap[b]?
    rw [Array.getElem?_append_left hb]
theorem iFormatIntG_spec {w0 : World} {Γ : List Atom} {i : Int} [h : HasRd Tab repTab Γ [tabV] (Tab.mk Lib.pow10Tab)] (hi : -9223372036854775808 ≤ i ∧ i ≤ 9223372036854775807) :
    CJ Tryz.prog 94 [.int .i64 i, .int .i64 10] w0 Γ (fun _ : Unit => .string (S (Lib.itoa i))) (fun _ => Γ) := by
  exact fun w hs =>
    (Tryz.internal_strconv_FormatInt_10 i hi.1 hi.2 w (tab_is hs)).mono fun e w' ⟨he, k, os, hw⟩ => ⟨(), he, by rw [hw]; exact hs.ext (below_grow w k os)⟩
instance iFormatIntG_ctr {Γ : List Atom} {i : Int} [h : HasRd Tab repTab Γ [tabV] (Tab.mk Lib.pow10Tab)] :
    CtrC Tryz.prog 94 [.int .i64 i, .int .i64 10] Γ (-9223372036854775808 ≤ i ∧ i ≤ 9223372036854775807) (Unit) (fun _ : Unit => .string (S (Lib.itoa i))) (fun _ => Γ) := ⟨fun s w0 => iFormatIntG_spec s⟩

theorem FormatIntG_spec {w0 : World} {Γ : List Atom} {i : Int} [h : HasRd Tab repTab Γ [tabV] (Tab.mk Lib.pow10Tab)] (hi : -9223372036854775808 ≤ i ∧ i ≤ 9223372036854775807) :
    CJ Tryz.prog 79 [.int .i64 i, .int .i64 10] w0 Γ (fun _ : Unit => .string (S (Lib.itoa i))) (fun _ => Γ) := by
  refine cj_enter Tryz.func79 Tryz.ntmps79 ?_
  repeat' (first | refine red ?_ | refine redf fun hbi => ?_ | refine reds ?_ | refine redc fun r => ?_ | refine redp (fun r => ?_) (fun r => ?_) | refine redv fun sv => ?_ | refine redn fun b => ?_ | refine redz fun zs => ?_ | refine redq (fun hc => ?_) (fun hc => ?_) | with_reducible refine wq_blk_o rfl ?_ | (refine redi (fun hc => ?_) (fun hc => ?_) <;> try first | (exfalso; omega) | exact absurd rfl hc) | fail)
  all_goals exact ⟨(), rfl, ent_e⟩
instance FormatIntG_ctr {Γ : List Atom} {i : Int} [h : HasRd Tab repTab Γ [tabV] (Tab.mk Lib.pow10Tab)] :
    CtrC Tryz.prog 79 [.int .i64 i, .int .i64 10] Γ (-9223372036854775808 ≤ i ∧ i ≤ 9223372036854775807) (Unit) (fun _ : Unit => .string (S (Lib.itoa i))) (fun _ => Γ) := ⟨fun s w0 => FormatIntG_spec s⟩

theorem numG_spec {w0 : World} {Γ : List Atom} {i : Int} [h : HasRd Tab repTab Γ [tabV] (Tab.mk Lib.pow10Tab)] (hi : -9223372036854775808 ≤ i ∧ i ≤ 9223372036854775807) :
    CJ Tryz.prog 62 [.int .i64 i] w0 Γ (fun _ : Unit => .string (S (Lib.itoa i))) (fun _ => Γ) := by
  refine cj_enter Tryz.func62 Tryz.ntmps62 ?_
  repeat' (first | refine red ?_ | refine redf fun hbi => ?_ | refine reds ?_ | refine redc fun r => ?_ | refine redp (fun r => ?_) (fun r => ?_) | refine redv fun sv => ?_ | refine redn fun b => ?_ | refine redz fun zs => ?_ | refine redq (fun hc => ?_) (fun hc => ?_) | with_reducible refine wq_blk_o rfl ?_ | (refine redi (fun hc => ?_) (fun hc => ?_) <;> try first | (exfalso; omega) | exact absurd rfl hc) | fail)
  all_goals exact ⟨(), rfl, ent_e⟩
instance numG_ctr {Γ : List Atom} {i : Int} [h : HasRd Tab repTab Γ [tabV] (Tab.mk Lib.pow10Tab)] :
    CtrC Tryz.prog 62 [.int .i64 i] Γ (-9223372036854775808 ≤ i ∧ i ≤ 9223372036854775807) (Unit) (fun _ : Unit => .string (S (Lib.itoa i))) (fun _ => Γ) := ⟨fun s w0 => numG_spec s⟩

theorem dd_ten (m : Nat) (h : 10 ≤ m) : Lib.decDigits m = Lib.decDigits (m / 10) ++ [UInt8.ofNat (48 + m % 10)] := by
  rw [Lib.decDigits, dif_neg (by omega)]
theorem dd_one (m : Nat) (h : m < 10) : Lib.decDigits m = [UInt8.ofNat (48 + m % 10)] := by
  rw [Lib.decDigits_one h, Nat.mod_eq_of_lt h]
theorem dd_pos (m : Nat) : 0 < (Lib.decDigits m).length := by
  rw [Lib.decDigits_length]
  by_cases h : m < 10
  · rw [Lib.nDigits_small h]; decide
  · rw [Lib.nDigits_big h]; omega
theorem S_ne {l : List UInt8} (hl : 0 < l.length) : ¬ S l = { data := #[] } := fun e => by
  have := congrArg ByteArray.size e
  rw [S_size] at this
  have h3 : ({ data := #[] } : ByteArray).size = 0 := rfl
  omega
theorem S_nil : S [] = { data := #[] } := rfl
/-- One digit ahead. -/
theorem S_dig (d : Nat) (s : List UInt8) : (({ data := #[UInt8.ofNat d] } : ByteArray) ++ S s) = S (UInt8.ofNat d :: s) := by
  rw [show ({ data := #[UInt8.ofNat d] } : ByteArray) = S [UInt8.ofNat d] from rfl, S_app]; rfl
end Go.Proofs.YtogmjihokkdcfaaGreatDoor
namespace Go.Proofs.YtogmjihokkdcfaaGreatDoor
open Go Go.Eng
set_option linter.unusedVariables false
set_option linter.unusedSimpArgs false
set_option synthInstance.maxHeartbeats 400000
set_option synthInstance.maxSize 1000
set_option maxRecDepth 20000

/-- What stands after some digits: m is left, s is written. -/
def DgI (D : List UInt8) (m : Nat) (s : List UInt8) : Prop := (0 < m ∧ Lib.decDigits m ++ s = D) ∨ (m = 0 ∧ s = D)
theorem DgI.next {D : List UInt8} {m : Nat} {s : List UInt8} (h : DgI D m s) (hm : 0 < m) : DgI D (m / 10) (UInt8.ofNat (48 + m % 10) :: s) := by
  rcases h with ⟨_, h⟩ | ⟨h, _⟩
  · by_cases h10 : m < 10
    · refine .inr ⟨by omega, ?_⟩
      rw [← h, dd_one m h10]; rfl
    · refine .inl ⟨by omega, ?_⟩
      rw [← h, dd_ten m (by omega), List.append_assoc]; rfl
  · omega
theorem DgI.len {D : List UInt8} {m : Nat} {s : List UInt8} (h : DgI D m s) : s.length ≤ D.length := by
  rcases h with ⟨_, h⟩ | ⟨_, h⟩
  · rw [← h, List.length_append]; omega
  · rw [h]; exact Nat.le_refl _
theorem dd_len {n : Nat} (h : n ≤ 9223372036854775808) : (Lib.decDigits n).length ≤ 20 := by
  have h1 := Lib.itoa_length_le (-(n : Int)) (by omega) (by omega)
  by_cases hn : n = 0
  · subst hn; decide +kernel
  · rw [Lib.itoa_neg n (by omega)] at h1
    simp only [List.length_cons] at h1
    omega
theorem l32Digits_spec {w0 : World} {Γ : List Atom} {i : Int} (hi : -9223372036854775808 ≤ i ∧ i < 0) :
    CJ Tryz.prog 67 [.int .i64 i] w0 Γ (fun _ : Unit => .string (S (Lib.decDigits i.natAbs))) (fun _ => Γ) := by
  obtain ⟨n, rfl⟩ : ∃ n : Nat, i = -(n : Int) := ⟨i.natAbs, by omega⟩
  rw [show (-(n : Int)).natAbs = n by omega]
  have hD : (Lib.decDigits n).length ≤ 20 := dd_len (by omega)
  refine cj_enter Tryz.func67 Tryz.ntmps67 ?_
  repeat' (first | refine red ?_ | refine redf fun hbi => ?_ | refine reds ?_ | refine redc fun r => ?_ | refine redp (fun r => ?_) (fun r => ?_) | refine redv fun sv => ?_ | refine redn fun b => ?_ | refine redz fun zs => ?_ | refine redq (fun hc => ?_) (fun hc => ?_) | with_reducible refine wq_blk_o rfl ?_ | (refine redi (fun hc => ?_) (fun hc => ?_) <;> try first | (exfalso; omega) | with_reducible first | exact absurd rfl hc | exact absurd hc Bool.false_ne_true | exact absurd hc Bool.false_ne_true.symm) | fail)
  refine wc_loop_c [0, 3] [4, 5, 6, 7, 8, 9, 10, 11, 12, 13, 14, 15] (ι := Nat × List UInt8) (fun k => [.int .i64 (-(k.1 : Int)), .string (S k.2)]) (fun k => k.1 ≤ 9223372036854775808 ∧ DgI (Lib.decDigits n) k.1 k.2) (fun k => k.1) (n, []) (by kernel_rfl) ⟨by simp only; omega, .inl ⟨by simp only; omega, List.append_nil _⟩⟩ ?_
  intro ⟨m, s⟩ u l' hl' ⟨hm, hd⟩
  simp only [patch, List.map_cons, List.map_nil, List.set_cons_zero, List.set_cons_succ] at hl'
  subst hl'
  simp only at hm hd ⊢
  have hln := hd.len
  have hmod : (-(m : Int)).tmod 10 = -((m % 10 : Nat) : Int) := by rw [Int.neg_tmod, Int.tmod_eq_emod_of_nonneg (by omega)]; rfl
  have hdiv : (-(m : Int)).tdiv 10 = -((m / 10 : Nat) : Int) := by rw [Int.neg_tdiv, Int.tdiv_eq_ediv_of_nonneg (by omega)]; rfl
  have hSs := S_size s
  have hs1 : ({ data := #[UInt8.ofNat (48 - (-(m : Int)).tmod 10).toNat] } : ByteArray).size = 1 := rfl
  repeat' (first | refine red ?_ | refine redf fun hbi => ?_ | refine reds ?_ | refine redc fun r => ?_ | refine redp (fun r => ?_) (fun r => ?_) | refine redv fun sv => ?_ | refine redn fun b => ?_ | refine redz fun zs => ?_ | refine redq (fun hc => ?_) (fun hc => ?_) | with_reducible refine wq_blk_o rfl ?_ | (refine redi (fun hc => ?_) (fun hc => ?_) <;> try first | (exfalso; omega) | with_reducible first | exact absurd rfl hc | exact absurd hc Bool.false_ne_true | exact absurd hc Bool.false_ne_true.symm) | fail)
  · rw [hmod, hdiv, show (48 - -((m % 10 : Nat) : Int)).toNat = 48 + m % 10 by omega, S_dig]
    exact wq_next (m / 10, UInt8.ofNat (48 + m % 10) :: s) ⟨by simp only; omega, hd.next (by omega)⟩ (by simp only; omega) (by kernel_rfl) ent_e
  · rcases hd with ⟨h, _⟩ | ⟨_, h⟩
    · omega
    · exact ⟨(), by rw [h], ent_e⟩
instance l32Digits_ctr {Γ : List Atom} {i : Int} :
    CtrC Tryz.prog 67 [.int .i64 i] Γ (-9223372036854775808 ≤ i ∧ i < 0) (Unit) (fun _ : Unit => .string (S (Lib.decDigits i.natAbs))) (fun _ => Γ) := ⟨fun s w0 => l32Digits_spec s⟩

theorem l1IntG_spec {w0 : World} {Γ : List Atom} {i : Int} (hi : 0 ≤ i ∧ i ≤ 9223372036854775807) :
    CJ Tryz.prog 68 [.int .i64 i] w0 Γ (fun _ : Unit => .string (S (Lib.decDigits i.natAbs))) (fun _ => Γ) := by
  obtain ⟨n, rfl⟩ : ∃ n : Nat, i = (n : Int) := ⟨i.natAbs, by omega⟩
  rw [show (n : Int).natAbs = n by omega]
  have hD : (Lib.decDigits n).length ≤ 20 := dd_len (by omega)
  have hn0 := dd_pos n
  refine cj_enter Tryz.func68 Tryz.ntmps68 ?_
  repeat' (first | refine red ?_ | refine redf fun hbi => ?_ | refine reds ?_ | refine redc fun r => ?_ | refine redp (fun r => ?_) (fun r => ?_) | refine redv fun sv => ?_ | refine redn fun b => ?_ | refine redz fun zs => ?_ | refine redq (fun hc => ?_) (fun hc => ?_) | with_reducible refine wq_blk_o rfl ?_ | (refine redi (fun hc => ?_) (fun hc => ?_) <;> try first | (exfalso; omega) | with_reducible first | exact absurd rfl hc | exact absurd hc Bool.false_ne_true | exact absurd hc Bool.false_ne_true.symm) | fail)
  refine wc_loop_c [0, 3] [8, 9, 10, 11, 12, 13, 14, 15, 5, 16, 17, 18, 19, 20, 21, 22, 23, 24, 25, 26, 27, 28] (ι := Nat × List UInt8) (fun k => [.int .i64 (k.1 : Int), .string (S k.2)]) (fun k => k.1 ≤ 9223372036854775807 ∧ ((k.2 = [] ∧ k.1 = n) ∨ (0 < k.2.length ∧ DgI (Lib.decDigits n) k.1 k.2))) (fun k => if k.2.length = 0 then k.1 + 1 else k.1) (n, []) (by kernel_rfl) ⟨by simp only; omega, .inl ⟨rfl, rfl⟩⟩ ?_
  intro ⟨m, s⟩ u l' hl' ⟨hm, hd⟩
  simp only [patch, List.map_cons, List.map_nil, List.set_cons_zero, List.set_cons_succ] at hl'
  subst hl'
  simp only at hm hd ⊢
  have hln : s.length ≤ (Lib.decDigits n).length := by
    rcases hd with ⟨h, _⟩ | ⟨_, h⟩
    · rw [h]; exact Nat.zero_le _
    · exact h.len
  have hmod : (m : Int).tmod 10 = ((m % 10 : Nat) : Int) := by rw [Int.tmod_eq_emod_of_nonneg (by omega)]; rfl
  have hdiv : (m : Int).tdiv 10 = ((m / 10 : Nat) : Int) := by rw [Int.tdiv_eq_ediv_of_nonneg (by omega)]; rfl
  have hSs := S_size s
  have hs1 : ({ data := #[UInt8.ofNat (48 + (m : Int).tmod 10).toNat] } : ByteArray).size = 1 := rfl
  have hnx : (s = [] ∧ m = n) ∨ (0 < s.length ∧ 0 < m) → DgI (Lib.decDigits n) (m / 10) (UInt8.ofNat (48 + m % 10) :: s) := fun h => by
    rcases hd with ⟨h1, rfl⟩ | ⟨h1, h2⟩
    · rw [h1]
      by_cases h10 : m < 10
      · exact .inr ⟨by omega, by rw [dd_one m h10]⟩
      · exact .inl ⟨by omega, by rw [dd_ten m (by omega)]⟩
    · refine h2.next ?_
      rcases h with ⟨h, _⟩ | ⟨_, h⟩
      · rw [h] at h1; simp at h1
      · exact h
  have hsn : ¬ S s = { data := #[] } → 0 < s.length := fun h => by
    rcases hd with ⟨h1, _⟩ | ⟨h1, _⟩
    · rw [h1] at h; exact absurd S_nil h
    · exact h1
  have hst : (s = [] ∧ m = n) ∨ (0 < s.length ∧ 0 < m) → ((if s.length = 0 then m + 1 else m) > m / 10) := fun h => by
    rcases h with ⟨h, _⟩ | ⟨h, h2⟩
    · rw [h, List.length_nil, if_pos rfl]; omega
    · rw [if_neg (by omega)]; omega
  repeat' (first | refine red ?_ | refine redf fun hbi => ?_ | refine reds ?_ | refine redc fun r => ?_ | refine redp (fun r => ?_) (fun r => ?_) | refine redv fun sv => ?_ | refine redn fun b => ?_ | refine redz fun zs => ?_ | refine redq (fun hc => ?_) (fun hc => ?_) | with_reducible refine wq_blk_o rfl ?_ | (refine redi (fun hc => ?_) (fun hc => ?_) <;> try first | (exfalso; omega) | with_reducible first | exact absurd rfl hc | exact absurd hc Bool.false_ne_true | exact absurd hc Bool.false_ne_true.symm) | fail)
  · have hq : (s = [] ∧ m = n) ∨ (0 < s.length ∧ 0 < m) := by
      rcases hd with h | h
      · exact .inl h
      · exact absurd ‹S s = { data := #[] }› (S_ne h.1)
    have hst1 := hst hq
    rw [hmod, hdiv, show (48 + ((m % 10 : Nat) : Int)).toNat = 48 + m % 10 by omega, S_dig]
    exact wq_next (m / 10, UInt8.ofNat (48 + m % 10) :: s) ⟨by simp only; omega, .inr ⟨Nat.succ_pos _, hnx hq⟩⟩ (by simp only [List.length_cons, Nat.succ_ne_zero, if_false, Nat.add_eq_zero_iff, and_false]; exact hst1) (by kernel_rfl) ent_e
  · have hq : (s = [] ∧ m = n) ∨ (0 < s.length ∧ 0 < m) := .inr ⟨hsn ‹_›, by omega⟩
    have hst1 := hst hq
    rw [hmod, hdiv, show (48 + ((m % 10 : Nat) : Int)).toNat = 48 + m % 10 by omega, S_dig]
    exact wq_next (m / 10, UInt8.ofNat (48 + m % 10) :: s) ⟨by simp only; omega, .inr ⟨Nat.succ_pos _, hnx hq⟩⟩ (by simp only [List.length_cons, Nat.succ_ne_zero, if_false, Nat.add_eq_zero_iff, and_false]; exact hst1) (by kernel_rfl) ent_e
  · have h0 := hsn ‹_›
    refine ⟨(), ?_, ent_e⟩
    rcases hd with ⟨h, _⟩ | ⟨_, ⟨h, _⟩ | ⟨_, h⟩⟩
    · rw [h] at h0; simp at h0
    · omega
    · rw [h]
instance l1IntG_ctr {Γ : List Atom} {i : Int} :
    CtrC Tryz.prog 68 [.int .i64 i] Γ (0 ≤ i ∧ i ≤ 9223372036854775807) (Unit) (fun _ : Unit => .string (S (Lib.decDigits i.natAbs))) (fun _ => Γ) := ⟨fun s w0 => l1IntG_spec s⟩

attribute [local instance 2000] l1IntG_ctr
theorem l32Number_spec {w0 : World} {Γ : List Atom} {i : Int} (hi : -9223372036854775808 ≤ i ∧ i ≤ 9223372036854775807) :
    CJ Tryz.prog 51 [.int .i64 i] w0 Γ (fun _ : Unit => .string (S (Lib.itoa i))) (fun _ => Γ) := by
  have hs1 : ({ data := #[45] } : ByteArray).size = 1 := rfl
  have hl : (Lib.decDigits i.natAbs).length ≤ 20 := dd_len (by omega)
  have hSs := S_size (Lib.decDigits i.natAbs)
  refine cj_enter Tryz.func51 Tryz.ntmps51 ?_
  repeat' (first | refine red ?_ | refine redf fun hbi => ?_ | refine reds ?_ | refine redc fun r => ?_ | refine redp (fun r => ?_) (fun r => ?_) | refine redv fun sv => ?_ | refine redn fun b => ?_ | refine redz fun zs => ?_ | refine redq (fun hc => ?_) (fun hc => ?_) | with_reducible refine wq_blk_o rfl ?_ | (refine redi (fun hc => ?_) (fun hc => ?_) <;> try first | (exfalso; omega) | with_reducible first | exact absurd rfl hc | exact absurd hc Bool.false_ne_true | exact absurd hc Bool.false_ne_true.symm) | fail)
  · refine ⟨(), congrArg Value.string ?_, ent_e⟩
    rw [show ({ data := #[45] } : ByteArray) = S [45] from rfl, S_app, Lib.itoa, if_pos (by omega)]; rfl
  · refine ⟨(), congrArg Value.string ?_, ent_e⟩
    rw [Lib.itoa, if_neg (by omega), show i.natAbs = i.toNat by omega]
instance l32Number_ctr {Γ : List Atom} {i : Int} :
    CtrC Tryz.prog 51 [.int .i64 i] Γ (-9223372036854775808 ≤ i ∧ i ≤ 9223372036854775807) (Unit) (fun _ : Unit => .string (S (Lib.itoa i))) (fun _ => Γ) := ⟨fun s w0 => l32Number_spec s⟩

/-- A list of numbers, each as a text. -/
def nT (xs : List Int) : List ByteArray := xs.map fun n => S (Lib.itoa n)
theorem nT_len (xs : List Int) : (nT xs).length = xs.length := List.length_map _
theorem nT_take (xs : List Int) {k : Nat} (h : k < xs.length) : nT (xs.take k) ++ [S (Lib.itoa (xs.getD k 0))] = nT (xs.take (k + 1)) := by
  unfold nT
  rw [List.take_succ_eq_append_getElem h, List.map_append, List.getD_eq_getElem?_getD, List.getElem?_eq_getElem h]; rfl
theorem szT_le (ss : List ByteArray) (b : Nat) (h : ∀ s ∈ ss, s.size ≤ b) : ∀ k, szT ss k ≤ k * b
  | 0 => Nat.zero_le _
  | k + 1 => by
    have h1 := szT_le ss b h k
    have h2 : (ss.getD k ByteArray.empty).size ≤ b := by
      by_cases hk : k < ss.length
      · rw [List.getD_eq_getElem?_getD, List.getElem?_eq_getElem hk]; exact h _ (List.getElem_mem hk)
      · rw [List.getD_eq_getElem?_getD, List.getElem?_eq_none (by omega)]; exact Nat.zero_le _
    unfold szT
    rw [Nat.succ_mul]; omega
/-- A list of numbers as a text. -/
def lsT (xs : List Int) : ByteArray := if xs.length = 0 then S [45] else S (jnT 44 (nT xs) xs.length)
theorem l1Words_spec {w0 : World} {Γ : List Atom} {v : Value} {ss : List ByteArray} {c : UInt8} [h : HasRd (List ByteArray) repList Γ [v] ss] (hB : szT ss ss.length + ss.length ≤ 1000000000) :
    CJ Tryz.prog 39 [v, .string { data := #[c] }] w0 Γ (fun _ : Unit => .string (S (jnT c ss ss.length))) (fun _ => Γ) := by
  refine cj_len v fun hlen => ?_
  have hcs : ({ data := #[c] } : ByteArray).size = 1 := rfl
  refine cj_enter Tryz.func39 Tryz.ntmps39 ?_
  repeat' (first | refine red ?_ | refine redf fun hbi => ?_ | refine reds ?_ | refine redc fun r => ?_ | refine redp (fun r => ?_) (fun r => ?_) | refine redv fun sv => ?_ | refine redn fun b => ?_ | refine redz fun zs => ?_ | refine redq (fun hc => ?_) (fun hc => ?_) | with_reducible refine wq_blk_o rfl ?_ | (refine redd fun p cs as_ hcs has hf => ?_; simp only [Un.cells, Un.atoms, Un.fact, List.cons_append, List.nil_append] at hcs has hf; subst hcs has) | (refine redi (fun hc => ?_) (fun hc => ?_) <;> try first | (exfalso; omega) | with_reducible first | exact absurd rfl hc | exact absurd hc Bool.false_ne_true | exact absurd hc Bool.false_ne_true.symm) | fail)
  refine wc_loop_c [5, 6] [7, 8, 9, 10, 13, 14, 15, 16, 17, 18, 19, 20, 21, 22, 23, 11, 12] (ι := Nat) (fun k => [.string (S (jnT c ss k)), .int .i64 k]) (fun k => k ≤ ss.length) (fun k => ss.length - k) 0 (by kernel_rfl) (Nat.zero_le _) ?_
  intro k u l' hl' hk
  simp only [patch, List.map_cons, List.map_nil, List.set_cons_zero, List.set_cons_succ] at hl'
  subst hl'
  have hjl := jnT_len c ss k
  have hmono := szT_mono ss k (ss.length - k)
  rw [show k + (ss.length - k) = ss.length by omega] at hmono
  have hSs := S_size (jnT c ss k)
  have hap : (S (jnT c ss k) ++ ({ data := #[c] } : ByteArray)).size = (jnT c ss k).length + 1 := by
    rw [show ({ data := #[c] } : ByteArray) = S [c] from rfl, S_app, S_size, List.length_append]; rfl
  have hm1 : k < ss.length → szT ss k + (ss.getD ((k : Nat) : Int).toNat ByteArray.empty).size ≤ szT ss ss.length := fun hkl => by
    have := szT_mono ss (k + 1) (ss.length - (k + 1))
    rw [show k + 1 + (ss.length - (k + 1)) = ss.length by omega] at this
    exact this
  have hgt : ss.getD ((k : Nat) : Int).toNat ByteArray.empty = S (ss.getD k ByteArray.empty).data.toList := by
    rw [Int.toNat_natCast]; exact ByteArray.ext (by simp [S])
  repeat' (first | refine red ?_ | refine redf fun hbi => ?_ | refine reds ?_ | refine redc fun r => ?_ | refine redp (fun r => ?_) (fun r => ?_) | refine redv fun sv => ?_ | refine redn fun b => ?_ | refine redz fun zs => ?_ | refine redq (fun hc => ?_) (fun hc => ?_) | with_reducible refine wq_blk_o rfl ?_ | (refine redd fun p cs as_ hcs has hf => ?_; simp only [Un.cells, Un.atoms, Un.fact, List.cons_append, List.nil_append] at hcs has hf; subst hcs has) | (refine redi (fun hc => ?_) (fun hc => ?_) <;> try first | (exfalso; omega) | with_reducible first | exact absurd rfl hc | exact absurd hc Bool.false_ne_true | exact absurd hc Bool.false_ne_true.symm) | fail)
  · rw [hgt, show ({ data := #[c] } : ByteArray) = S [c] from rfl, S_app, S_app, show jnT c ss k ++ [c] ++ (ss.getD k ByteArray.empty).data.toList = jnT c ss (k + 1) by
      rw [jnT, if_neg (by omega), List.append_assoc]]
    exact wq_next (k + 1) (by omega) (by omega) (by kernel_rfl) ent_e
  · rw [hgt, S_app, show jnT c ss k ++ (ss.getD k ByteArray.empty).data.toList = jnT c ss (k + 1) by
      rw [jnT, if_pos (by omega)]; rfl]
    exact wq_next (k + 1) (by omega) (by omega) (by kernel_rfl) ent_e
  · rw [show k = ss.length by omega]
    exact ⟨(), rfl, ent_e⟩
instance l1Words_ctr {Γ : List Atom} {v : Value} {ss : List ByteArray} {c : UInt8} [h : HasRd (List ByteArray) repList Γ [v] ss] :
    CtrC Tryz.prog 39 [v, .string { data := #[c] }] Γ (szT ss ss.length + ss.length ≤ 1000000000) (Unit) (fun _ : Unit => .string (S (jnT c ss ss.length))) (fun _ => Γ) := ⟨fun s w0 => l1Words_spec s⟩

theorem nT_sz (xs : List Int) (h : ∀ n ∈ xs, In64 n) : szT (nT xs) xs.length ≤ xs.length * 21 := by
  refine szT_le _ 21 (fun s hs => ?_) _
  obtain ⟨n, hn, rfl⟩ := List.mem_map.1 hs
  rw [S_size]
  exact Lib.itoa_length_le n (h n hn).1 (h n hn).2
theorem in64_getD {xs : List Int} (h : ∀ n ∈ xs, In64 n) {k : Nat} (hk : k < xs.length) : -9223372036854775808 ≤ xs.getD k 0 ∧ xs.getD k 0 ≤ 9223372036854775807 := by
  rw [List.getD_eq_getElem?_getD, List.getElem?_eq_getElem hk]
  exact h _ (List.getElem_mem hk)
theorem l32List_spec {w0 : World} {Γ : List Atom} {v : Value} {xs : List Int} [h : HasRd (List Int) repList Γ [v] xs] (hx : xs.length ≤ 1048576) :
    CJ Tryz.prog 41 [v] w0 Γ (fun _ : Unit => .string (lsT xs)) (fun _ => Γ) := by
  refine cj_in64 v fun h64 => ?_
  refine cj_lift (R := [.rd [v] xs]) (A := fun _ => []) (fun w1 => ?_) (reads_cons h (inferInstance)) (fun _ => inferInstance)
  simp only [List.cons_append, List.nil_append]
  have hsz := nT_sz xs h64
  refine cj_enter Tryz.func41 Tryz.ntmps41 ?_
  repeat' (first | refine red ?_ | refine redf fun hbi => ?_ | refine reds ?_ | refine redc fun r => ?_ | refine redp (fun r => ?_) (fun r => ?_) | refine redv fun sv => ?_ | refine redn fun b => ?_ | refine redz fun zs => ?_ | refine redq (fun hc => ?_) (fun hc => ?_) | with_reducible refine wq_blk_o rfl ?_ | (refine redi (fun hc => ?_) (fun hc => ?_) <;> try first | (exfalso; omega) | with_reducible first | exact absurd rfl hc | exact absurd hc Bool.false_ne_true | exact absurd hc Bool.false_ne_true.symm) | fail)
  · exact ⟨(), congrArg Value.string (by rw [lsT, if_pos (by omega)]; rfl), ent_e⟩
  refine wc_loop_p [3, 4] [9, 10, 11, 12, 15, 16, 17, 18, 19, 20, 21, 22, 13, 14] (ι := Nat × Value) (fun k => [k.2, .int .i64 k.1]) (fun k => [.ow [k.2] (nT (xs.take k.1))]) (fun k => k.1 ≤ xs.length) (fun k => xs.length - k.1) (0, sv) [.ow [sv] ([] : List ByteArray)] (by kernel_rfl) (Nat.zero_le _) rfl ?_
  intro ⟨k, sv⟩ u l' hl' hk
  simp only [patch, List.map_cons, List.map_nil, List.set_cons_zero, List.set_cons_succ] at hl'
  subst hl'
  simp only [List.cons_append, List.nil_append] at hk ⊢
  have hkl : (nT (xs.take k)).length = k := by rw [nT_len, List.length_take]; omega
  have hg : k < xs.length → -9223372036854775808 ≤ xs.getD ((k : Nat) : Int).toNat 0 ∧ xs.getD ((k : Nat) : Int).toNat 0 ≤ 9223372036854775807 := fun hk => in64_getD h64 hk
  have hrs : k < xs.length → (S (Lib.itoa (xs.getD k 0))).size ≤ 21 := fun hk => by
    rw [S_size]; exact Lib.itoa_length_le _ (hg hk).1 (hg hk).2
  have hsk : szT (nT (xs.take k)) (nT (xs.take k)).length ≤ k * 21 := by
    have := nT_sz (xs.take k) (fun n hn => h64 n (List.mem_of_mem_take hn))
    rw [List.length_take, show min k xs.length = k by omega] at this
    rw [hkl]; exact this
  repeat' (first | refine red ?_ | refine redf fun hbi => ?_ | refine reds ?_ | refine redc fun r => ?_ | refine redp (fun r => ?_) (fun r => ?_) | refine redv fun sv => ?_ | refine redn fun b => ?_ | refine redz fun zs => ?_ | refine redq (fun hc => ?_) (fun hc => ?_) | with_reducible refine wq_blk_o rfl ?_ | (refine redi (fun hc => ?_) (fun hc => ?_) <;> try first | (exfalso; omega) | with_reducible first | exact absurd rfl hc | exact absurd hc Bool.false_ne_true | exact absurd hc Bool.false_ne_true.symm) | fail)
  · rw [nT_take xs (by omega)]
    exact wq_next (k + 1, sv) (by simp only; omega) (by simp only; omega) (by kernel_rfl) ent_e
  · refine ⟨(), congrArg Value.string ?_, ent_e⟩
    rw [lsT, if_neg (by omega), show k = xs.length by omega, List.take_length, nT_len]
instance l32List_ctr {Γ : List Atom} {v : Value} {xs : List Int} [h : HasRd (List Int) repList Γ [v] xs] :
    CtrC Tryz.prog 41 [v] Γ (xs.length ≤ 1048576) (Unit) (fun _ : Unit => .string (lsT xs)) (fun _ => Γ) := ⟨fun s w0 => l32List_spec s⟩

theorem nT_set (xs : List Int) {k : Nat} (h : k < xs.length) : (nT (xs.take k) ++ List.replicate (xs.length - k) ByteArray.empty).set k (S (Lib.itoa (xs.getD k 0))) = nT (xs.take (k + 1)) ++ List.replicate (xs.length - (k + 1)) ByteArray.empty := by
  have hkl : (nT (xs.take k)).length = k := by rw [nT_len, List.length_take]; omega
  rw [List.set_append_right _ _ (by omega), hkl, Nat.sub_self, show xs.length - k = (xs.length - (k + 1)) + 1 by omega, List.replicate_succ, List.set_cons_zero, ← nT_take xs h, List.append_assoc]; rfl
end Go.Proofs.YtogmjihokkdcfaaGreatDoor
