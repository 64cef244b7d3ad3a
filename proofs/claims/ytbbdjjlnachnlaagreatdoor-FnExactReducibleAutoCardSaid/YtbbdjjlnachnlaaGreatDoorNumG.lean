/- Contracts of the library at this program, as the shelf of the kit lays them. -/
import Derived.Shelf.Strings.Builder1
import Derived.Shelf.Strings.Builder2
import Derived.Shelf.Small.Bits
import Derived.Shelf.Strconv.Itoa0
import Derived.Shelf.Strconv.Itoa1
import Derived.Shelf.LaysM
import Derived.Shelf.Strconv.Itoa2
import Derived.Shelf.Strconv.Itoa3
import Derived.Shelf.Strconv.Itoa4
import Derived.Shelf.Bits.Mul64
import Derived.Shelf.SlicesG.Turned
import Derived.Shelf.SlicesG.Equal
import Derived.Shelf.SlicesG.Clone
import Derived.Shelf.SlicesG.SearchI
import Derived.Shelf.SlicesE.Clone
import Derived.Shelf.SlSortCmp.Insertion
import Derived.Shelf.SlSortCmp.SiftDown1
import Derived.Shelf.SlSortCmp.HeapSort1
import Derived.Shelf.SlSortCmp.Insertion1
import Derived.Shelf.SlSortCmp.Median1
import Derived.Shelf.SlSortCmp.Pivot1
import Derived.Shelf.SlSortCmp.ReverseRange1
import Derived.Shelf.SlSortCmp.PartialInsertion1
import Derived.Shelf.SlSortCmp.PartitionEqual1
import Derived.Shelf.SlSortCmp.Partition1
import Derived.Shelf.SlSortCmp.Pdq1
import Derived.Shelf.SlSortCmp.Whole1
import Derived.Shelf.SlSortCmp.NoneTotal
import Derived.Test.YtbbdjjlnachnlaaGreatDoorProg
import Derived.Test.YtbbdjjlnachnlaaGreatDoorNum
import Derived.Test.YtbbdjjlnachnlaaGreatDoorGrw
import Derived.Lib.LaidTab
import Derived.Lib.ItoaLen
namespace Go.Proofs
open Go.Shelf
def Tryz.laysM246_ren : Go.Shelf.Ren := ⟨fun | 246 => 206 | 283 => 209 | 284 => 210 | 285 => 211 | 286 => 212 | 129 => 185 | 317 => 215 | 318 => 216 | 319 => 217 | 320 => 218 | 337 => 219 | 338 => 220 | n => n, fun | 2 => 2 | 3 => 3 | 9 => 9 | 4 => 4 | 171 => 235 | 0 => 0 | 53 => 198 | 37 => 22 | 5 => 5 | 173 => 237 | 212 => 244 | 51 => 67 | 20 => 20 | 213 => 245 | 46 => 122 | 232 => 247 | 233 => 248 | n => n, fun | 17 => 0 | 18 => 2 | 19 => 3 | n => n⟩
theorem Tryz.laysM246 : Go.Proofs.LaysM.n246 Tryz.prog Tryz.laysM246_ren := {
  mixed := by kernel_rfl
  f129 := Tryz.func185.trans (congrArg some (by kernel_rfl))
  f246 := Tryz.func206.trans (congrArg some (by kernel_rfl))
  f283 := Tryz.func209.trans (congrArg some (by kernel_rfl))
  f284 := Tryz.func210.trans (congrArg some (by kernel_rfl))
  f285 := Tryz.func211.trans (congrArg some (by kernel_rfl))
  f286 := Tryz.func212.trans (congrArg some (by kernel_rfl))
  f317 := Tryz.func215.trans (congrArg some (by kernel_rfl))
  f318 := Tryz.func216.trans (congrArg some (by kernel_rfl))
  f319 := Tryz.func217.trans (congrArg some (by kernel_rfl))
  f320 := Tryz.func218.trans (congrArg some (by kernel_rfl))
  f337 := Tryz.func219.trans (congrArg some (by kernel_rfl))
  f338 := Tryz.func220.trans (congrArg some (by kernel_rfl))
  t0 := Tryz.underlying0
  a0 := Tryz.isAgg0
  z0 := Tryz.sizeOf0
  v0 := Tryz.zeroValue0
  t2 := Tryz.underlying2
  a2 := Tryz.isAgg2
  z2 := Tryz.sizeOf2
  v2 := Tryz.zeroValue2
  t3 := Tryz.underlying3
  a3 := Tryz.isAgg3
  z3 := Tryz.sizeOf3
  v3 := Tryz.zeroValue3
  t4 := Tryz.underlying4
  a4 := Tryz.isAgg4
  z4 := Tryz.sizeOf4
  v4 := Tryz.zeroValue4
  t5 := Tryz.underlying5
  a5 := Tryz.isAgg5
  z5 := Tryz.sizeOf5
  v5 := Tryz.zeroValue5
  t9 := Tryz.underlying9
  a9 := Tryz.isAgg9
  z9 := Tryz.sizeOf9
  v9 := Tryz.zeroValue9
  t20 := Tryz.underlying20
  a20 := Tryz.isAgg20
  z20 := Tryz.sizeOf20
  v20 := Tryz.zeroValue20
  t37 := Tryz.underlying22
  a37 := Tryz.isAgg22
  z37 := Tryz.sizeOf22
  v37 := Tryz.zeroValue22
  t46 := Tryz.underlying122
  a46 := Tryz.isAgg122
  z46 := Tryz.sizeOf122
  v46 := Tryz.zeroValue122
  t51 := Tryz.underlying67
  a51 := Tryz.isAgg67
  z51 := Tryz.sizeOf67
  v51 := Tryz.zeroValue67
  t53 := Tryz.underlying198
  a53 := Tryz.isAgg198
  z53 := Tryz.sizeOf198
  v53 := Tryz.zeroValue198
  t171 := Tryz.underlying235
  a171 := Tryz.isAgg235
  z171 := Tryz.sizeOf235
  v171 := Tryz.zeroValue235
  t173 := Tryz.underlying237
  a173 := Tryz.isAgg237
  z173 := Tryz.sizeOf237
  v173 := Tryz.zeroValue237
  t212 := Tryz.underlying244
  a212 := Tryz.isAgg244
  z212 := Tryz.sizeOf244
  v212 := Tryz.zeroValue244
  t213 := Tryz.underlying245
  a213 := Tryz.isAgg245
  z213 := Tryz.sizeOf245
  t232 := Tryz.underlying247
  a232 := Tryz.isAgg247
  z232 := Tryz.sizeOf247
  v232 := Tryz.zeroValue247
  t233 := Tryz.underlying248
  a233 := Tryz.isAgg248
  z233 := Tryz.sizeOf248
  v233 := Tryz.zeroValue248
  g17 := by kernel_rfl
  g18 := by kernel_rfl
  g19 := by kernel_rfl
  i0 := by kernel_rfl
  i2 := by kernel_rfl
  i3 := by kernel_rfl
  i4 := by kernel_rfl
  i5 := by kernel_rfl
  i9 := by kernel_rfl
  i20 := by kernel_rfl
  i37 := by kernel_rfl
  i46 := by kernel_rfl
  i51 := by kernel_rfl
  i53 := by kernel_rfl
  i171 := by kernel_rfl
  i173 := by kernel_rfl
  i212 := by kernel_rfl
  i232 := by kernel_rfl
  i233 := by kernel_rfl
  m17 := by kernel_rfl
  m18 := by kernel_rfl
  m19 := by kernel_rfl }
open Go.RowKit Go.Sort Go.Lib in
theorem Tryz.internal_strconv_FormatInt_10 (n : Int) (h0 : -9223372036854775808 ≤ n) (h1 : n ≤ 9223372036854775807) (w : World) (htab : Lib.TabIs Tryz.prog w "internal/strconv.uint64pow10" .u64 Lib.pow10Tab) :
    Calls Tryz.prog 206 #[.int .i64 n, .int .i64 10] w fun e w' => e = .returned (.string ⟨(Lib.itoa n).toArray⟩) ∧ ∃ k os, w' = grow (w.drewN k) os := Any.internal_strconv_FormatInt_10 Tryz.laysM246 n h0 h1 w htab
end Go.Proofs
namespace Go.Proofs.YtbbdjjlnachnlaaGreatDoor
open Go Go.Eng Go.RowKit Go.Sort
set_option linter.unusedVariables false
set_option linter.unusedSimpArgs false
set_option synthInstance.maxHeartbeats 400000
set_option synthInstance.maxSize 1000
set_option maxRecDepth 20000
/-- A table of the library's. -/
structure Tab where
  zs : List Int
instance repTab : Rep Tab where
  sz := 1
  rd ok w cells x := ∃ g e fz, cells = [.pointer (some ⟨g, 0, none⟩)] ∧ ok g ∧ w.heap[g]? = some (.cells (x.zs.map (Value.int .u64)).toArray e fz)
  ow ok w F cells x := F = [] ∧ ∃ g e fz, cells = [.pointer (some ⟨g, 0, none⟩)] ∧ ok g ∧ w.heap[g]? = some (.cells (x.zs.map (Value.int .u64)).toArray e fz)
  pos := by decide
  rd_len := by rintro _ _ _ _ ⟨g, e, fz, rfl, _⟩; rfl
  rd_one := by rintro _ _ _ _ ⟨g, e, fz, rfl, _⟩ x hx; simp at hx; subst hx; rfl
  rd_mono := by
    rintro _ _ _ _ _ _ ⟨g, e, fz, h1, h2, h3⟩ hm
    have := hm g h2 (Array.getElem?_eq_some_iff.1 h3).1
    exact ⟨g, e, fz, h1, this.1, this.2.trans h3⟩
  ow_mono := by
    rintro _ _ _ _ _ _ _ ⟨hF, g, e, fz, h1, h2, h3⟩ _ hm
    have := hm g h2 (Array.getElem?_eq_some_iff.1 h3).1
    exact ⟨hF, g, e, fz, h1, this.1, this.2.trans h3⟩
  ow_rd := by
    rintro _ _ _ _ _ _ ⟨hF, g, e, fz, h1, h2, h3⟩ ho _
    exact ⟨g, e, fz, h1, ho g h2, h3⟩
  ow_lt := by rintro _ _ _ _ _ ⟨rfl, _⟩ b hb; cases hb
abbrev tabV : Value := .pointer (some ⟨0, 0, none⟩)
abbrev tabA : Atom := @Atom.rd Tab repTab [tabV] (Tab.mk Lib.pow10Tab)
theorem tab_named : Tryz.prog.globalNamed "internal/strconv.uint64pow10" = some 0 := by kernel_rfl
theorem tab_is {w0 w : World} {Γ : List Atom} [h : HasRd Tab repTab Γ [tabV] (Tab.mk Lib.pow10Tab)] (hs : Sat w0 w Γ) : Lib.TabIs Tryz.prog w "internal/strconv.uint64pow10" .u64 Lib.pow10Tab := by
  obtain ⟨g, e, fz, h1, _, h3⟩ := hs.rd (hr := h)
  simp only [List.cons.injEq, Value.pointer.injEq, Option.some.injEq, Addr.mk.injEq, and_true] at h1
  subst h1
  unfold Lib.TabIs World.var?
  rw [tab_named]
  simp only [Option.bind_some, h3]
theorem below_grow (w : World) (k : Nat) (os : Array Obj) : Below w.heap.size w (grow (w.drewN k) os) := by
  have h1 : ∀ k, Below w.heap.size w (w.drewN k) := fun k => ⟨rfl, rfl, rfl, Nat.le_refl _, fun _ _ => rfl⟩
  refine (h1 k).trans ⟨rfl, rfl, rfl, ?_, fun b hb => ?_⟩
  · show _ ≤ (w.heap ++ os).size
    rw [Array.size_append]; exact Nat.le_add_right _ _
  · show (w.heap ++ os)[b]? = w.heap[b]?
    rw [Array.getElem?_append_left hb]
theorem iFormatIntG_spec {w0 : World} {Γ : List Atom} {i : Int} [h : HasRd Tab repTab Γ [tabV] (Tab.mk Lib.pow10Tab)] (hi : -9223372036854775808 ≤ i ∧ i ≤ 9223372036854775807) :
    CJ Tryz.prog 206 [.int .i64 i, .int .i64 10] w0 Γ (fun _ : Unit => .string (S (Lib.itoa i))) (fun _ => Γ) := by
  exact fun w hs =>
    (Tryz.internal_strconv_FormatInt_10 i hi.1 hi.2 w (tab_is hs)).mono fun e w' ⟨he, k, os, hw⟩ => ⟨(), he, by rw [hw]; exact hs.ext (.of (below_grow w k os) (Nat.le_add_right _ _))⟩
instance iFormatIntG_ctr {Γ : List Atom} {i : Int} [h : HasRd Tab repTab Γ [tabV] (Tab.mk Lib.pow10Tab)] :
    CtrC Tryz.prog 206 [.int .i64 i, .int .i64 10] Γ (-9223372036854775808 ≤ i ∧ i ≤ 9223372036854775807) (Unit) (fun _ : Unit => .string (S (Lib.itoa i))) (fun _ => Γ) := ⟨fun s w0 => iFormatIntG_spec s⟩

theorem FormatIntG_spec {w0 : World} {Γ : List Atom} {i : Int} [h : HasRd Tab repTab Γ [tabV] (Tab.mk Lib.pow10Tab)] (hi : -9223372036854775808 ≤ i ∧ i ≤ 9223372036854775807) :
    CJ Tryz.prog 202 [.int .i64 i, .int .i64 10] w0 Γ (fun _ : Unit => .string (S (Lib.itoa i))) (fun _ => Γ) := by
  refine cj_enter Tryz.func202 Tryz.ntmps202 ?_
  repeat' (first | refine red ?_ | refine redc fun r => ?_ | fail)
  all_goals exact ⟨(), rfl, ent_e⟩
instance FormatIntG_ctr {Γ : List Atom} {i : Int} [h : HasRd Tab repTab Γ [tabV] (Tab.mk Lib.pow10Tab)] :
    CtrC Tryz.prog 202 [.int .i64 i, .int .i64 10] Γ (-9223372036854775808 ≤ i ∧ i ≤ 9223372036854775807) (Unit) (fun _ : Unit => .string (S (Lib.itoa i))) (fun _ => Γ) := ⟨fun s w0 => FormatIntG_spec s⟩

theorem numG_spec {w0 : World} {Γ : List Atom} {i : Int} [h : HasRd Tab repTab Γ [tabV] (Tab.mk Lib.pow10Tab)] (hi : -9223372036854775808 ≤ i ∧ i ≤ 9223372036854775807) :
    CJ Tryz.prog 197 [.int .i64 i] w0 Γ (fun _ : Unit => .string (S (Lib.itoa i))) (fun _ => Γ) := by
  refine cj_enter Tryz.func197 Tryz.ntmps197 ?_
  repeat' (first | refine red ?_ | refine redc fun r => ?_ | fail)
  all_goals exact ⟨(), rfl, ent_e⟩
instance numG_ctr {Γ : List Atom} {i : Int} [h : HasRd Tab repTab Γ [tabV] (Tab.mk Lib.pow10Tab)] :
    CtrC Tryz.prog 197 [.int .i64 i] Γ (-9223372036854775808 ≤ i ∧ i ≤ 9223372036854775807) (Unit) (fun _ : Unit => .string (S (Lib.itoa i))) (fun _ => Γ) := ⟨fun s w0 => numG_spec s⟩

theorem dd_ten (m : Nat) (h : 10 ≤ m) : Lib.decDigits m = Lib.decDigits (m / 10) ++ [UInt8.ofNat (48 + m % 10)] := by
  rw [Lib.decDigits, dif_neg (by omega)]
theorem dd_one (m : Nat) (h : m < 10) : Lib.decDigits m = [UInt8.ofNat (48 + m % 10)] := by
  rw [Lib.decDigits_one h, Nat.mod_eq_of_lt h]
theorem dd_pos (m : Nat) : 0 < (Lib.decDigits m).length := by
  rw [Lib.decDigits_length]
  by_cases h : m < 10
  · rw [Lib.nDigits_small h]; decide
  · rw [Lib.nDigits_big h]; omega
theorem S_ne {l : List UInt8} (hl : 0 < l.length) : ¬ S l = { data := #[] } := fun e => by
  have := congrArg ByteArray.size e
  rw [S_size] at this
  have h3 : ({ data := #[] } : ByteArray).size = 0 := rfl
  omega
theorem S_nil : S [] = { data := #[] } := rfl
/-- One digit ahead. -/
theorem S_dig (d : Nat) (s : List UInt8) : (({ data := #[UInt8.ofNat d] } : ByteArray) ++ S s) = S (UInt8.ofNat d :: s) := by
  rw [show ({ data := #[UInt8.ofNat d] } : ByteArray) = S [UInt8.ofNat d] from rfl, S_app]; rfl
end Go.Proofs.YtbbdjjlnachnlaaGreatDoor
