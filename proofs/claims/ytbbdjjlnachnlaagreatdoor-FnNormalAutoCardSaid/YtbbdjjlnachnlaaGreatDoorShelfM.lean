/- Numbers and lists of numbers as texts: the reference and the program. -/
import Derived.Test.YtbbdjjlnachnlaaGreatDoorNumG
import Derived.Test.YtbbdjjlnachnlaaGreatDoorNrmJ
import Derived.Test.YtbbdjjlnachnlaaGreatDoorNum
import Derived.DeepKeys4
import Derived.Shelf.Strings.Builder1
import Derived.Shelf.Strings.Builder2
import Derived.Shelf.Small.Bits
import Derived.Shelf.Strconv.Itoa0
import Derived.Shelf.Strconv.Itoa1
import Derived.Shelf.LaysM
import Derived.Shelf.Strconv.Itoa2
import Derived.Shelf.Strconv.Itoa3
import Derived.Shelf.Strconv.Itoa4
import Derived.Shelf.Bits.Mul64
import Derived.Shelf.SlicesG.Turned
import Derived.Shelf.SlicesG.Equal
import Derived.Shelf.SlicesG.Clone
import Derived.Shelf.SlicesG.SearchI
import Derived.Shelf.SlicesE.Clone
import Derived.Shelf.SlSortCmp.Insertion
import Derived.Shelf.SlSortCmp.SiftDown1
import Derived.Shelf.SlSortCmp.HeapSort1
import Derived.Shelf.SlSortCmp.Insertion1
import Derived.Shelf.SlSortCmp.Median1
import Derived.Shelf.SlSortCmp.Pivot1
import Derived.Shelf.SlSortCmp.ReverseRange1
import Derived.Shelf.SlSortCmp.PartialInsertion1
import Derived.Shelf.SlSortCmp.PartitionEqual1
import Derived.Shelf.SlSortCmp.Partition1
import Derived.Shelf.SlSortCmp.Pdq1
import Derived.Shelf.SlSortCmp.Whole1
import Derived.Shelf.SlSortCmp.NoneTotal
import Derived.Test.YtbbdjjlnachnlaaGreatDoorProg
namespace Go.Proofs.YtbbdjjlnachnlaaGreatDoor
open Go Go.Eng
set_option linter.unusedVariables false
set_option linter.unusedSimpArgs false
set_option synthInstance.maxHeartbeats 400000
set_option synthInstance.maxSize 1000
set_option maxRecDepth 20000

/-- A list of numbers, each as a text. -/
def nT (xs : List Int) : List ByteArray := xs.map fun n => S (Lib.itoa n)
theorem nT_len (xs : List Int) : (nT xs).length = xs.length := List.length_map _
theorem nT_take (xs : List Int) {k : Nat} (h : k < xs.length) : nT (xs.take k) ++ [S (Lib.itoa (xs.getD k 0))] = nT (xs.take (k + 1)) := by
  unfold nT
  rw [List.take_succ_eq_append_getElem h, List.map_append, List.getD_eq_getElem?_getD, List.getElem?_eq_getElem h]; rfl
theorem szT_le (ss : List ByteArray) (b : Nat) (h : ∀ s ∈ ss, s.size ≤ b) : ∀ k, szT ss k ≤ k * b
  | 0 => Nat.zero_le _
  | k + 1 => by
    have h1 := szT_le ss b h k
    have h2 : (ss.getD k ByteArray.empty).size ≤ b := by
      by_cases hk : k < ss.length
      · rw [List.getD_eq_getElem?_getD, List.getElem?_eq_getElem hk]; exact h _ (List.getElem_mem hk)
      · rw [List.getD_eq_getElem?_getD, List.getElem?_eq_none (by omega)]; exact Nat.zero_le _
    unfold szT
    rw [Nat.succ_mul]; omega
theorem nT_sz (xs : List Int) (h : ∀ n ∈ xs, In64 n) : szT (nT xs) xs.length ≤ xs.length * 21 := by
  refine szT_le _ 21 (fun s hs => ?_) _
  obtain ⟨n, hn, rfl⟩ := List.mem_map.1 hs
  rw [S_size]
  exact Lib.itoa_length_le n (h n hn).1 (h n hn).2
theorem in64_getD {xs : List Int} (h : ∀ n ∈ xs, In64 n) {k : Nat} (hk : k < xs.length) : -9223372036854775808 ≤ xs.getD k 0 ∧ xs.getD k 0 ≤ 9223372036854775807 := by
  rw [List.getD_eq_getElem?_getD, List.getElem?_eq_getElem hk]
  exact h _ (List.getElem_mem hk)
theorem nT_set (xs : List Int) {k : Nat} (h : k < xs.length) : (nT (xs.take k) ++ List.replicate (xs.length - k) ByteArray.empty).set k (S (Lib.itoa (xs.getD k 0))) = nT (xs.take (k + 1)) ++ List.replicate (xs.length - (k + 1)) ByteArray.empty := by
  have hkl : (nT (xs.take k)).length = k := by rw [nT_len, List.length_take]; omega
  rw [List.set_append_right _ _ (by omega), hkl, Nat.sub_self, show xs.length - k = (xs.length - (k + 1)) + 1 by omega, List.replicate_succ, List.set_cons_zero, ← nT_take xs h, List.append_assoc]; rfl
theorem numsText_spec {w0 : World} {Γ : List Atom} {v : Value} {xs : List Int} {c : UInt8} [h : HasRd (List Int) repList Γ [v] xs] [ht : HasRd (Tab) repTab Γ [tabV] (Tab.mk Lib.pow10Tab)] (hx : xs.length ≤ 1048576) :
    CJ Tryz.prog 188 [v, .string { data := #[c] }] w0 Γ (fun _ : Unit => .string (S (jnT c (nT xs) xs.length))) (fun _ => Γ) := by
  refine cj_in64 v fun h64 => ?_
  refine cj_lift (R := [.rd [v] xs, .rd [tabV] (Tab.mk Lib.pow10Tab)]) (A := fun _ => []) (fun w1 => ?_) (reads_cons h (reads_cons ht (inferInstance))) (fun _ => inferInstance)
  simp only [List.cons_append, List.nil_append]
  have hsz := nT_sz xs h64
  refine cj_enter Tryz.func188 Tryz.ntmps188 ?_
  repeat' (first | refine red ?_ | refine redv fun sv => ?_ | fail)
  refine wc_loop_p [13] [14, 15, 16, 17, 6, 7, 18, 19, 20, 21, 22, 23] (ι := Nat) (fun k => [.int .i64 k]) (fun k => [.ow [sv] (nT (xs.take k) ++ List.replicate (xs.length - k) ByteArray.empty)]) (fun k => k ≤ xs.length) (fun k => xs.length - k) 0 [.ow [sv] (List.replicate xs.length ByteArray.empty)] (by kernel_rfl) (Nat.zero_le _) rfl ?_
  intro k u l' hl' hk
  simp only [patch, List.map_cons, List.map_nil, List.set_cons_zero, List.set_cons_succ] at hl'
  subst hl'
  simp only [List.cons_append, List.nil_append] at hk ⊢
  have hkl : (nT (xs.take k) ++ List.replicate (xs.length - k) ByteArray.empty).length = xs.length := by rw [List.length_append, nT_len, List.length_take, List.length_replicate]; omega
  have hg : k < xs.length → -9223372036854775808 ≤ xs.getD ((k : Nat) : Int).toNat 0 ∧ xs.getD ((k : Nat) : Int).toNat 0 ≤ 9223372036854775807 := fun hk => in64_getD h64 hk
  have hrs : k < xs.length → (S (Lib.itoa (xs.getD k 0))).size ≤ 21 := fun hk => by
    rw [S_size]; exact Lib.itoa_length_le _ (hg hk).1 (hg hk).2
  have hsk : k = xs.length → szT (nT (xs.take k) ++ List.replicate (xs.length - k) ByteArray.empty) (nT (xs.take k) ++ List.replicate (xs.length - k) ByteArray.empty).length ≤ xs.length * 21 := fun hk => by
    rw [hkl, hk, Nat.sub_self, List.replicate_zero, List.append_nil, List.take_length]; exact hsz
  repeat' (first | refine red ?_ | refine redf fun hbi => ?_ | refine reds ?_ | refine redc fun r => ?_ | (refine redi (fun hc => ?_) (fun hc => ?_) <;> try first | (exfalso; omega) | with_reducible first | exact absurd rfl hc | exact absurd hc Bool.false_ne_true | exact absurd hc Bool.false_ne_true.symm) | fail)
  · rw [nT_set xs (by omega)]
    exact wq_next (k + 1) (by omega) (by omega) (by kernel_rfl) ent_e
  · refine ⟨(), congrArg Value.string ?_, ent_e⟩
    rw [hkl, show xs.length - k = 0 by omega, show k = xs.length by omega, List.replicate_zero, List.append_nil, List.take_length]; rfl
instance numsText_ctr {Γ : List Atom} {v : Value} {xs : List Int} {c : UInt8} [h : HasRd (List Int) repList Γ [v] xs] [ht : HasRd (Tab) repTab Γ [tabV] (Tab.mk Lib.pow10Tab)] :
    CtrC Tryz.prog 188 [v, .string { data := #[c] }] Γ (xs.length ≤ 1048576) (Unit) (fun _ : Unit => .string (S (jnT c (nT xs) xs.length))) (fun _ => Γ) := ⟨fun s w0 => numsText_spec s⟩

end Go.Proofs.YtbbdjjlnachnlaaGreatDoor
namespace Go.Eng
open Go Go.RowKit Go.Maps
set_option linter.unusedVariables false
set_option linter.unusedSimpArgs false
/-- A key of a number and a string. -/
structure KS where
  n : Int
  s : ByteArray
deriving DecidableEq
abbrev I6s (n : Int) : Prop := -9223372036854775808 ≤ n ∧ n ≤ 9223372036854775807
theorem i6s_wf {n : Int} (h : I6s n) : (Lit.int .i64 n).wf = true := by
  simp only [Lit.wf, IntKind.min, IntKind.max, IntKind.signed, IntKind.bits, Bool.and_eq_true, decide_eq_true_eq, if_true]
  exact h
instance kyKS : Ky KS where
  dec := inferInstance
  v q := .agg #[.int .i64 q.n, .string q.s]
  l q := .string (keyBytes [.int .i64 q.n, .string q.s.data.toList])
  ok q := I6s q.n ∧ q.s.size ≤ maxLen
  inj p q hp hq h := by
    simp only [Lit.string.injEq] at h
    obtain ⟨a, b⟩ := p
    obtain ⟨a', b'⟩ := q
    have key := keyBytes_inj (l := [.int .i64 a, .string b.data.toList]) (l' := [.int .i64 a', .string b'.data.toList]) ⟨rfl, trivial, trivial⟩ (fun x hx => by
      simp only [List.mem_cons, List.not_mem_nil, or_false] at hx
      rcases hx with rfl | rfl
      · exact i6s_wf hp.1
      · exact hp.2) (fun x hx => by
      simp only [List.mem_cons, List.not_mem_nil, or_false] at hx
      rcases hx with rfl | rfl
      · exact i6s_wf hq.1
      · exact hq.2) h
    simp only [List.cons.injEq, Lit.int.injEq, Lit.string.injEq, true_and, and_true] at key
    obtain ⟨h1, h2⟩ := key
    rw [h1, ByteArray.ext (Array.toList_inj.1 h2)]
instance {a : Int} {b : ByteArray} : KeyIs KS (.agg #[.int .i64 a, .string b]) ⟨a, b⟩ := ⟨rfl⟩
theorem keyOf_ks {P : Program} {k : TypeId} (h : ∀ a b, (Lit.int .i64 a).wf = true → b.size ≤ maxLen → keyOf P k (.agg #[.int .i64 a, .string b]) = some (.string (keyBytes [.int .i64 a, .string b.data.toList]))) {q : KS} (hq : Ky.ok q) : keyOf P k (Ky.v q) = some (Ky.l q) := h q.n q.s (i6s_wf hq.1) hq.2
end Go.Eng
namespace Go.Proofs.YtbbdjjlnachnlaaGreatDoor
open Go Go.Eng Go.WideMaps
set_option linter.unusedVariables false
set_option linter.unusedSimpArgs false
set_option synthInstance.maxHeartbeats 400000
set_option synthInstance.maxSize 1000
set_option maxRecDepth 20000

abbrev tKey : TypeId := 179
theorem key_laid : laidOutB Tryz.prog = true := by kernel_rfl
theorem key_law : KeyLaw Tryz.prog tKey := deep_law_laid key_laid (m := 2) (by omega) (by decide +kernel) (by kernel_rfl) (by kernel_rfl)
theorem key_kt : Tryz.prog.keyType tKey = true := by kernel_rfl
theorem key_sz : ∃ m, Tryz.prog.types.size = m + 1 := ⟨Tryz.prog.types.size - 1, by kernel_rfl⟩
theorem key_of (a : Int) (b : ByteArray) (ha : (Lit.int .i64 a).wf = true) (hb : b.size ≤ maxLen) : keyOf Tryz.prog tKey (.agg #[.int .i64 a, .string b]) = some (.string (keyBytes [.int .i64 a, .string b.data.toList])) := by
  obtain ⟨m, hm⟩ := key_sz
  have hu := Tryz.underlying179
  have c1 : Tryz.prog.cellsOf tKey = 2 := by kernel_rfl
  have c2 : Tryz.prog.cellsOf 3 = 1 := by kernel_rfl
  have c3 : Tryz.prog.cellsOf 9 = 1 := by kernel_rfl
  unfold keyOf
  simp only [hu]
  rw [if_pos (by simp [key_kt, Value.formed, hu, c1]), hm]
  unfold Program.keyLits
  simp only [hu, Value.cells]
  rw [if_pos ⟨by rw [c1]; rfl, by decide +kernel⟩]
  simp [Program.keyLits, Tryz.underlying3, Tryz.underlying9, c2, c3, ha, hb]
instance kyPS : KyP Tryz.prog tKey KS := ⟨Maps.Keyed.of_law key_law, fun q hq => keyOf_ks key_of hq⟩
instance kyTS : KyT Tryz.prog 107 KS := ⟨inferInstance⟩
instance mpTS : MpT Tryz.prog 107 tKey (.int .i64 0) := ⟨_, Tryz.underlying107, Tryz.zeroValue3⟩
/-- The key of a list. -/
def lkey (xs : List Int) : KS := ⟨(xs.length : Int), S (jnT 44 (nT xs) xs.length)⟩
theorem keyOf_spec {w0 : World} {Γ : List Atom} {v : Value} {xs : List Int} [h : HasRd (List Int) repList Γ [v] xs] [ht : HasRd (Tab) repTab Γ [tabV] (Tab.mk Lib.pow10Tab)] (hx : xs.length ≤ 1048576) :
    CJ Tryz.prog 169 [v] w0 Γ (fun _ : Unit => .agg #[.int .i64 (xs.length : Int), .string (S (jnT 44 (nT xs) xs.length))]) (fun _ => Γ) := by
  refine cj_enter Tryz.func169 Tryz.ntmps169 ?_
  repeat' (first | refine red ?_ | refine redc fun r => ?_ | refine redn fun b => ?_ | fail)
  exact ⟨(), rfl, ent_e⟩
instance keyOf_ctr {Γ : List Atom} {v : Value} {xs : List Int} [h : HasRd (List Int) repList Γ [v] xs] [ht : HasRd (Tab) repTab Γ [tabV] (Tab.mk Lib.pow10Tab)] :
    CtrC Tryz.prog 169 [v] Γ (xs.length ≤ 1048576) (Unit) (fun _ : Unit => .agg #[.int .i64 (xs.length : Int), .string (S (jnT 44 (nT xs) xs.length))]) (fun _ => Γ) := ⟨fun s w0 => keyOf_spec s⟩

end Go.Proofs.YtbbdjjlnachnlaaGreatDoor
namespace Go.Proofs.YtbbdjjlnachnlaaGreatDoor
open Go Go.Eng
set_option linter.unusedVariables false
set_option linter.unusedSimpArgs false
set_option maxRecDepth 20000
theorem dd_inj : ∀ n m : Nat, Lib.decDigits n = Lib.decDigits m → n = m := by
  intro n
  induction n using Nat.strongRecOn with
  | _ n ih =>
    intro m h
    have hu : ∀ a b : Nat, a < 10 → b < 10 → UInt8.ofNat (48 + a) = UInt8.ofNat (48 + b) → a = b := fun a b ha hb e => by
      have := congrArg UInt8.toNat e
      rw [UInt8.toNat_ofNat', UInt8.toNat_ofNat', Nat.mod_eq_of_lt (by omega), Nat.mod_eq_of_lt (by omega)] at this
      omega
    by_cases hn : n < 10
    · by_cases hm : m < 10
      · rw [dd_one n hn, dd_one m hm] at h
        simp only [List.cons.injEq, and_true] at h
        have := hu _ _ (Nat.mod_lt _ (by omega)) (Nat.mod_lt _ (by omega)) h
        omega
      · rw [dd_one n hn, dd_ten m (by omega)] at h
        have h1 := congrArg List.length h
        have h2 := dd_pos (m / 10)
        simp only [List.length_append, List.length_cons, List.length_nil] at h1
        omega
    · by_cases hm : m < 10
      · rw [dd_one m hm, dd_ten n (by omega)] at h
        have h1 := congrArg List.length h
        have h2 := dd_pos (n / 10)
        simp only [List.length_append, List.length_cons, List.length_nil] at h1
        omega
      · rw [dd_ten n (by omega), dd_ten m (by omega)] at h
        have h1 := List.append_inj' h rfl
        have h2 := ih (n / 10) (by omega) (m / 10) h1.1
        have h3 := h1.2
        simp only [List.cons.injEq, and_true] at h3
        have := hu _ _ (Nat.mod_lt _ (by omega)) (Nat.mod_lt _ (by omega)) h3
        omega
theorem dd_big : ∀ n : Nat, ∀ c ∈ Lib.decDigits n, 48 ≤ c.toNat := by
  intro n
  induction n using Nat.strongRecOn with
  | _ n ih =>
    intro c hc
    have hd : (UInt8.ofNat (48 + n % 10)).toNat = 48 + n % 10 := by rw [UInt8.toNat_ofNat', Nat.mod_eq_of_lt (by omega)]
    by_cases hn : n < 10
    · rw [dd_one n hn, List.mem_singleton] at hc
      rw [hc, hd]; omega
    · rw [dd_ten n (by omega), List.mem_append, List.mem_singleton] at hc
      rcases hc with hc | hc
      · exact ih _ (by omega) c hc
      · rw [hc, hd]; omega
theorem split_last {c : UInt8} {x y s t : List UInt8} (hs : c ∉ s) (ht : c ∉ t) (h : x ++ ([c] ++ s) = y ++ ([c] ++ t)) : x = y ∧ s = t := by
  have key : ∀ (x y : List UInt8), x ++ c :: s = y ++ c :: t → x.length ≤ y.length → x = y ∧ s = t := by
    intro x
    induction x with
    | nil =>
      intro y h _
      cases y with
      | nil => simp only [List.nil_append, List.cons.injEq, true_and] at h; exact ⟨rfl, h⟩
      | cons a y =>
        simp only [List.nil_append, List.cons_append, List.cons.injEq] at h
        exact absurd (h.2 ▸ List.mem_append_right _ List.mem_cons_self) hs
    | cons b x ih =>
      intro y h hl
      cases y with
      | nil => simp at hl
      | cons a y =>
        simp only [List.cons_append, List.cons.injEq] at h
        have := ih y h.2 (by simpa using hl)
        exact ⟨by rw [h.1, this.1], this.2⟩
  rcases Nat.le_total x.length y.length with hl | hl
  · exact key x y h hl
  · have key2 : ∀ (y x : List UInt8), y ++ c :: t = x ++ c :: s → y.length ≤ x.length → y = x ∧ t = s := by
      intro y
      induction y with
      | nil =>
        intro x h _
        cases x with
        | nil => simp only [List.nil_append, List.cons.injEq, true_and] at h; exact ⟨rfl, h⟩
        | cons a x =>
          simp only [List.nil_append, List.cons_append, List.cons.injEq] at h
          exact absurd (h.2 ▸ List.mem_append_right _ List.mem_cons_self) ht
      | cons b y ih =>
        intro x h hl
        cases x with
        | nil => simp at hl
        | cons a x =>
          simp only [List.cons_append, List.cons.injEq] at h
          have := ih x h.2 (by simpa using hl)
          exact ⟨by rw [h.1, this.1], this.2⟩
    have := key2 y x h.symm hl
    exact ⟨this.1.symm, this.2.symm⟩
/-- Lists of natural numbers. -/
def NonN (xs : List Int) : Prop := ∀ n ∈ xs, 0 ≤ n
theorem nT_get {xs : List Int} {k : Nat} (h : k < xs.length) (hn : NonN xs) : ((nT xs).getD k ByteArray.empty).data.toList = Lib.decDigits (xs.getD k 0).toNat := by
  unfold nT
  rw [List.getD_eq_getElem?_getD, List.getElem?_map, List.getElem?_eq_getElem h, List.getD_eq_getElem?_getD, List.getElem?_eq_getElem h]
  show Lib.itoa (xs[k]) = Lib.decDigits (xs[k]).toNat
  have h0 := hn _ (List.getElem_mem h)
  rw [Lib.itoa, if_neg (by omega)]
theorem jn_inj {xs ys : List Int} (hx : NonN xs) (hy : NonN ys) : ∀ k, k ≤ xs.length → k ≤ ys.length → jnT 44 (nT xs) k = jnT 44 (nT ys) k → ∀ j, j < k → xs.getD j 0 = ys.getD j 0
  | 0, _, _, _, _, hj => absurd hj (Nat.not_lt_zero _)
  | k + 1, hkx, hky, h, j, hj => by
    rw [jnT, jnT, nT_get (by omega) hx, nT_get (by omega) hy] at h
    have h0x := hx _ (getK (show k < xs.length by omega))
    have h0y := hy _ (getK (show k < ys.length by omega))
    have no : ∀ n : Nat, (44 : UInt8) ∉ Lib.decDigits n := fun n hm => by
      have := dd_big n _ hm
      exact absurd this (by decide)
    by_cases hk : k = 0
    · subst hk
      rw [if_pos rfl] at h
      simp only [jnT, List.nil_append] at h
      have := dd_inj _ _ h
      rw [show j = 0 by omega]; omega
    · rw [if_neg hk] at h
      have h2 := split_last (no _) (no _) h
      by_cases hjk : j = k
      · have := dd_inj _ _ h2.2
        rw [hjk]; omega
      · exact jn_inj hx hy k (by omega) (by omega) h2.1 j (by omega)
theorem lkey_inj {xs ys : List Int} (hx : NonN xs) (hy : NonN ys) (h : lkey xs = lkey ys) : xs = ys := by
  unfold lkey at h
  simp only [KS.mk.injEq] at h
  have hl : xs.length = ys.length := by omega
  have h2 : jnT 44 (nT xs) xs.length = jnT 44 (nT ys) ys.length := congrArg (fun b : ByteArray => b.data.toList) h.2
  rw [← hl] at h2
  refine List.ext_getElem hl fun i h1 h3 => ?_
  have := jn_inj hx hy xs.length (Nat.le_refl _) (by omega) h2 i h1
  rw [List.getD_eq_getElem?_getD, List.getElem?_eq_getElem h1, List.getD_eq_getElem?_getD, List.getElem?_eq_getElem h3] at this
  exact this
/-! ### The map of sets -/
/-- The numbers of the sets, by their keys. -/
def numK (sets : List (List Int)) : KS → Option Value := fun q => if q ∈ sets.map lkey then some (.int .i64 (((sets.map lkey).idxOf q : Nat) : Int)) else none
theorem numK_nil : numK [] = fun _ => none := by funext q; simp [numK]
theorem numK_add {sets : List (List Int)} {s : List Int} (h : lkey s ∉ sets.map lkey) : upd (numK sets) (lkey s) (.int .i64 (sets.length : Int)) = numK (sets ++ [s]) := by
  funext q
  unfold upd numK
  rw [List.map_append]
  by_cases he : q = lkey s
  · subst he
    rw [if_pos rfl, if_pos (by simp), List.idxOf_append, if_neg h]
    simp
  · rw [if_neg he]
    by_cases hm : q ∈ sets.map lkey
    · rw [if_pos hm, if_pos (List.mem_append_left _ hm), List.idxOf_append, if_pos hm]
    · rw [if_neg hm, if_neg (by simp only [List.mem_append, hm, false_or, List.map_cons, List.map_nil, List.mem_singleton, he, not_false_eq_true])]
theorem mem_lkey {sets : List (List Int)} {s : List Int} (hs : NonN s) (ha : ∀ t ∈ sets, NonN t) : lkey s ∈ sets.map lkey ↔ s ∈ sets := by
  constructor
  · intro h
    obtain ⟨t, ht, e⟩ := List.mem_map.1 h
    rw [← lkey_inj (ha t ht) hs e]; exact ht
  · exact fun h => List.mem_map_of_mem h
theorem idx_lkey {s : List Int} (hs : NonN s) : ∀ {sets : List (List Int)}, (∀ t ∈ sets, NonN t) → (sets.map lkey).idxOf (lkey s) = sets.idxOf s
  | [], _ => rfl
  | t :: r, ha => by
    rw [List.map_cons, List.idxOf_cons, List.idxOf_cons]
    have ih := idx_lkey hs (sets := r) fun t ht => ha t (List.mem_cons_of_mem _ ht)
    by_cases e : t = s
    · subst e; simp
    · have e2 : ¬ lkey t = lkey s := fun h => e (lkey_inj (ha t List.mem_cons_self) hs h)
      have b1 : (lkey t == lkey s) = false := by simpa using e2
      have b2 : (t == s) = false := by simpa using e
      rw [b1, b2, ih]
end Go.Proofs.YtbbdjjlnachnlaaGreatDoor
namespace Go.Proofs
open Go.Shelf
def Tryz.lays212_ren : Go.Shelf.Ren := ⟨fun | 212 => 196 | 263 => 200 | 264 => 201 | n => n, fun | 46 => 122 | 51 => 67 | 146 => 219 | 53 => 198 | 148 => 221 | n => n, fun | n => n⟩
theorem Tryz.lays212 : Go.Proofs.Lays.n212 Tryz.prog Tryz.lays212_ren := {
  mixed := by kernel_rfl
  f212 := Tryz.func196.trans (congrArg some (by kernel_rfl))
  f263 := Tryz.func200.trans (congrArg some (by kernel_rfl))
  f264 := Tryz.func201.trans (congrArg some (by kernel_rfl))
  t46 := Tryz.underlying122
  a46 := Tryz.isAgg122
  z46 := Tryz.sizeOf122
  v46 := Tryz.zeroValue122
  t51 := Tryz.underlying67
  a51 := Tryz.isAgg67
  z51 := Tryz.sizeOf67
  v51 := Tryz.zeroValue67
  t53 := Tryz.underlying198
  a53 := Tryz.isAgg198
  z53 := Tryz.sizeOf198
  v53 := Tryz.zeroValue198
  t146 := Tryz.underlying219
  a146 := Tryz.isAgg219
  z146 := Tryz.sizeOf219
  v146 := Tryz.zeroValue219
  t148 := Tryz.underlying221
  a148 := Tryz.isAgg221
  z148 := Tryz.sizeOf221
  v148 := Tryz.zeroValue221 }
open Go.RowKit Go.Lib in
theorem Tryz.bits_Mul (x y : Nat) (hx : x < 18446744073709551616) (hy : y < 18446744073709551616) (w : World) :
    Calls Tryz.prog 196 #[.int .u64 x, .int .u64 y] w fun e w' => e = .returned (.tuple #[.int .u64 ((x * y / 18446744073709551616 : Nat) : Int), .int .u64 ((x * y % 18446744073709551616 : Nat) : Int)]) ∧ w' = w := Any.bits_Mul Tryz.lays212 x y hx hy w
end Go.Proofs
