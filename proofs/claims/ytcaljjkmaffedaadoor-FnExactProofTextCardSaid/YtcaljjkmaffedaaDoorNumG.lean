/- Numbers in decimal, all of int64; the table of powers of ten stands in memory. -/
import Derived.Test.YtcaljjkmaffedaaDoorNum
import Derived.Test.YtcaljjkmaffedaaDoorGrw
import Derived.Test.YtcaljjkmaffedaaDoorShelf
import Derived.Lib.LaidTab
import Derived.Lib.ItoaLen
namespace Go.Proofs.YtcaljjkmaffedaaDoor
open Go Go.Eng Go.RowKit Go.Sort
set_option linter.unusedVariables false
set_option linter.unusedSimpArgs false
set_option synthInstance.maxHeartbeats 400000
set_option synthInstance.maxSize 1000
set_option maxRecDepth 20000
/-- A table of the library's. -/
structure Tab where
  zs : List Int
instance repTab : Rep Tab where
  sz := 1
  rd ok w cells x := ∃ g e fz, cells = [.pointer (some ⟨g, 0, none⟩)] ∧ ok g ∧ w.heap[g]? = some (.cells (x.zs.map (Value.int .u64)).toArray e fz)
  ow ok w F cells x := F = [] ∧ ∃ g e fz, cells = [.pointer (some ⟨g, 0, none⟩)] ∧ ok g ∧ w.heap[g]? = some (.cells (x.zs.map (Value.int .u64)).toArray e fz)
  pos := by decide
  rd_len := by rintro _ _ _ _ ⟨g, e, fz, rfl, _⟩; rfl
  rd_one := by rintro _ _ _ _ ⟨g, e, fz, rfl, _⟩ x hx; simp at hx; subst hx; rfl
  rd_mono := by
    rintro _ _ _ _ _ _ ⟨g, e, fz, h1, h2, h3⟩ hm
    have := hm g h2 (Array.getElem?_eq_some_iff.1 h3).1
    exact ⟨g, e, fz, h1, this.1, this.2.trans h3⟩
  ow_mono := by
    rintro _ _ _ _ _ _ _ ⟨hF, g, e, fz, h1, h2, h3⟩ _ hm
    have := hm g h2 (Array.getElem?_eq_some_iff.1 h3).1
    exact ⟨hF, g, e, fz, h1, this.1, this.2.trans h3⟩
  ow_rd := by
    rintro _ _ _ _ _ _ ⟨hF, g, e, fz, h1, h2, h3⟩ ho _
    exact ⟨g, e, fz, h1, ho g h2, h3⟩
  ow_lt := by rintro _ _ _ _ _ ⟨rfl, _⟩ b hb; cases hb
abbrev tabV : Value := .pointer (some ⟨1, 0, none⟩)
abbrev tabA : Atom := @Atom.rd Tab repTab [tabV] (Tab.mk Lib.pow10Tab)
theorem tab_named : Tryd.prog.globalNamed "internal/strconv.uint64pow10" = some 1 := by kernel_rfl
theorem tab_is {w0 w : World} {Γ : List Atom} [h : HasRd Tab repTab Γ [tabV] (Tab.mk Lib.pow10Tab)] (hs : Sat w0 w Γ) : Lib.TabIs Tryd.prog w "internal/strconv.uint64pow10" .u64 Lib.pow10Tab := by
  obtain ⟨g, e, fz, h1, _, h3⟩ := hs.rd (hr := h)
  simp only [List.cons.injEq, Value.pointer.injEq, Option.some.injEq, Addr.mk.injEq, and_true] at h1
  subst h1
  unfold Lib.TabIs World.var?
  rw [tab_named]
  simp only [Option.bind_some, h3]
theorem below_grow (w : World) (k : Nat) (os : Array Obj) : Below w.heap.size w (grow (w.drewN k) os) := by
  have h1 : ∀ k, Below w.heap.size w (w.drewN k) := fun k => ⟨rfl, rfl, rfl, Nat.le_refl _, fun _ _ => rfl⟩
  refine (h1 k).trans ⟨rfl, rfl, rfl, ?_, fun b hb => ?_⟩
  · show _ ≤ (w.heap ++ os).size
    rw [Array.size_append]; exact Nat.le_add_right _ _
  · show (w.heap ++ os)[b]? = w.heap[b]?
    rw [Array.getElem?_append_left hb]
theorem iFormatIntG_spec {w0 : World} {Γ : List Atom} {i : Int} [h : HasRd Tab repTab Γ [tabV] (Tab.mk Lib.pow10Tab)] (hi : -9223372036854775808 ≤ i ∧ i ≤ 9223372036854775807) :
    CJ Tryd.prog 123 [.int .i64 i, .int .i64 10] w0 Γ (fun _ : Unit => .string (S (Lib.itoa i))) (fun _ => Γ) := by
  exact fun w hs =>
    (Tryd.internal_strconv_FormatInt_10 i hi.1 hi.2 w (tab_is hs)).mono fun e w' ⟨he, k, os, hw⟩ => ⟨(), he, by rw [hw]; exact hs.ext (below_grow w k os)⟩
instance iFormatIntG_ctr {Γ : List Atom} {i : Int} [h : HasRd Tab repTab Γ [tabV] (Tab.mk Lib.pow10Tab)] :
    CtrC Tryd.prog 123 [.int .i64 i, .int .i64 10] Γ (-9223372036854775808 ≤ i ∧ i ≤ 9223372036854775807) (Unit) (fun _ : Unit => .string (S (Lib.itoa i))) (fun _ => Γ) := ⟨fun s w0 => iFormatIntG_spec s⟩

theorem FormatIntG_spec {w0 : World} {Γ : List Atom} {i : Int} [h : HasRd Tab repTab Γ [tabV] (Tab.mk Lib.pow10Tab)] (hi : -9223372036854775808 ≤ i ∧ i ≤ 9223372036854775807) :
    CJ Tryd.prog 117 [.int .i64 i, .int .i64 10] w0 Γ (fun _ : Unit => .string (S (Lib.itoa i))) (fun _ => Γ) := by
  refine cj_enter Tryd.func117 Tryd.ntmps117 ?_
  repeat' (first | refine red ?_ | refine redf fun hbi => ?_ | refine reds ?_ | refine redc fun r => ?_ | refine redp (fun r => ?_) (fun r => ?_) | refine redv fun sv => ?_ | refine redn fun b => ?_ | refine redz fun zs => ?_ | refine redq (fun hc => ?_) (fun hc => ?_) | with_reducible refine wq_blk_o rfl ?_ | (refine redi (fun hc => ?_) (fun hc => ?_) <;> try first | (exfalso; omega) | exact absurd rfl hc) | fail)
  all_goals exact ⟨(), rfl, ent_e⟩
instance FormatIntG_ctr {Γ : List Atom} {i : Int} [h : HasRd Tab repTab Γ [tabV] (Tab.mk Lib.pow10Tab)] :
    CtrC Tryd.prog 117 [.int .i64 i, .int .i64 10] Γ (-9223372036854775808 ≤ i ∧ i ≤ 9223372036854775807) (Unit) (fun _ : Unit => .string (S (Lib.itoa i))) (fun _ => Γ) := ⟨fun s w0 => FormatIntG_spec s⟩

theorem numG_spec {w0 : World} {Γ : List Atom} {i : Int} [h : HasRd Tab repTab Γ [tabV] (Tab.mk Lib.pow10Tab)] (hi : -9223372036854775808 ≤ i ∧ i ≤ 9223372036854775807) :
    CJ Tryd.prog 109 [.int .i64 i] w0 Γ (fun _ : Unit => .string (S (Lib.itoa i))) (fun _ => Γ) := by
  refine cj_enter Tryd.func109 Tryd.ntmps109 ?_
  repeat' (first | refine red ?_ | refine redf fun hbi => ?_ | refine reds ?_ | refine redc fun r => ?_ | refine redp (fun r => ?_) (fun r => ?_) | refine redv fun sv => ?_ | refine redn fun b => ?_ | refine redz fun zs => ?_ | refine redq (fun hc => ?_) (fun hc => ?_) | with_reducible refine wq_blk_o rfl ?_ | (refine redi (fun hc => ?_) (fun hc => ?_) <;> try first | (exfalso; omega) | exact absurd rfl hc) | fail)
  all_goals exact ⟨(), rfl, ent_e⟩
instance numG_ctr {Γ : List Atom} {i : Int} [h : HasRd Tab repTab Γ [tabV] (Tab.mk Lib.pow10Tab)] :
    CtrC Tryd.prog 109 [.int .i64 i] Γ (-9223372036854775808 ≤ i ∧ i ≤ 9223372036854775807) (Unit) (fun _ : Unit => .string (S (Lib.itoa i))) (fun _ => Γ) := ⟨fun s w0 => numG_spec s⟩

theorem dd_ten (m : Nat) (h : 10 ≤ m) : Lib.decDigits m = Lib.decDigits (m / 10) ++ [UInt8.ofNat (48 + m % 10)] := by
  rw [Lib.decDigits, dif_neg (by omega)]
theorem dd_one (m : Nat) (h : m < 10) : Lib.decDigits m = [UInt8.ofNat (48 + m % 10)] := by
  rw [Lib.decDigits_one h, Nat.mod_eq_of_lt h]
theorem dd_pos (m : Nat) : 0 < (Lib.decDigits m).length := by
  rw [Lib.decDigits_length]
  by_cases h : m < 10
  · rw [Lib.nDigits_small h]; decide
  · rw [Lib.nDigits_big h]; omega
theorem S_ne {l : List UInt8} (hl : 0 < l.length) : ¬ S l = { data := #[] } := fun e => by
  have := congrArg ByteArray.size e
  rw [S_size] at this
  have h3 : ({ data := #[] } : ByteArray).size = 0 := rfl
  omega
theorem S_nil : S [] = { data := #[] } := rfl
/-- One digit ahead. -/
theorem S_dig (d : Nat) (s : List UInt8) : (({ data := #[UInt8.ofNat d] } : ByteArray) ++ S s) = S (UInt8.ofNat d :: s) := by
  rw [show ({ data := #[UInt8.ofNat d] } : ByteArray) = S [UInt8.ofNat d] from rfl, S_app]; rfl
end Go.Proofs.YtcaljjkmaffedaaDoor
