/- Numbers and lists of numbers as texts: the reference and the program. -/
import Derived.Test.YtbbdjjlnachnlaaGreatDoorNumG
import Derived.Test.YtbbdjjlnachnlaaGreatDoorNrmJ
import Derived.Test.YtbbdjjlnachnlaaGreatDoorMap
import Derived.DeepKeys4
namespace Go.Proofs.YtbbdjjlnachnlaaGreatDoor
open Go Go.Eng
set_option linter.unusedVariables false
set_option linter.unusedSimpArgs false
set_option synthInstance.maxHeartbeats 400000
set_option synthInstance.maxSize 1000
set_option maxRecDepth 20000

theorem dd_len {n : Nat} (h : n ≤ 9223372036854775808) : (Lib.decDigits n).length ≤ 20 := by
  have h1 := Lib.itoa_length_le (-(n : Int)) (by omega) (by omega)
  by_cases hn : n = 0
  · subst hn; decide +kernel
  · rw [Lib.itoa_neg n (by omega)] at h1
    simp only [List.length_cons] at h1
    omega
/-- A list of numbers, each as a text. -/
def nT (xs : List Int) : List ByteArray := xs.map fun n => S (Lib.itoa n)
theorem nT_len (xs : List Int) : (nT xs).length = xs.length := List.length_map _
theorem nT_take (xs : List Int) {k : Nat} (h : k < xs.length) : nT (xs.take k) ++ [S (Lib.itoa (xs.getD k 0))] = nT (xs.take (k + 1)) := by
  unfold nT
  rw [List.take_succ_eq_append_getElem h, List.map_append, List.getD_eq_getElem?_getD, List.getElem?_eq_getElem h]; rfl
theorem szT_le (ss : List ByteArray) (b : Nat) (h : ∀ s ∈ ss, s.size ≤ b) : ∀ k, szT ss k ≤ k * b
  | 0 => Nat.zero_le _
  | k + 1 => by
    have h1 := szT_le ss b h k
    have h2 : (ss.getD k ByteArray.empty).size ≤ b := by
      by_cases hk : k < ss.length
      · rw [List.getD_eq_getElem?_getD, List.getElem?_eq_getElem hk]; exact h _ (List.getElem_mem hk)
      · rw [List.getD_eq_getElem?_getD, List.getElem?_eq_none (by omega)]; exact Nat.zero_le _
    unfold szT
    rw [Nat.succ_mul]; omega
/-- A list of numbers as a text. -/
def lsT (xs : List Int) : ByteArray := if xs.length = 0 then S [45] else S (jnT 44 (nT xs) xs.length)
theorem nT_sz (xs : List Int) (h : ∀ n ∈ xs, In64 n) : szT (nT xs) xs.length ≤ xs.length * 21 := by
  refine szT_le _ 21 (fun s hs => ?_) _
  obtain ⟨n, hn, rfl⟩ := List.mem_map.1 hs
  rw [S_size]
  exact Lib.itoa_length_le n (h n hn).1 (h n hn).2
theorem in64_getD {xs : List Int} (h : ∀ n ∈ xs, In64 n) {k : Nat} (hk : k < xs.length) : -9223372036854775808 ≤ xs.getD k 0 ∧ xs.getD k 0 ≤ 9223372036854775807 := by
  rw [List.getD_eq_getElem?_getD, List.getElem?_eq_getElem hk]
  exact h _ (List.getElem_mem hk)
theorem nT_set (xs : List Int) {k : Nat} (h : k < xs.length) : (nT (xs.take k) ++ List.replicate (xs.length - k) ByteArray.empty).set k (S (Lib.itoa (xs.getD k 0))) = nT (xs.take (k + 1)) ++ List.replicate (xs.length - (k + 1)) ByteArray.empty := by
  have hkl : (nT (xs.take k)).length = k := by rw [nT_len, List.length_take]; omega
  rw [List.set_append_right _ _ (by omega), hkl, Nat.sub_self, show xs.length - k = (xs.length - (k + 1)) + 1 by omega, List.replicate_succ, List.set_cons_zero, ← nT_take xs h, List.append_assoc]; rfl
theorem numsText_spec {w0 : World} {Γ : List Atom} {v : Value} {xs : List Int} {c : UInt8} [h : HasRd (List Int) repList Γ [v] xs] [ht : HasRd (Tab) repTab Γ [tabV] (Tab.mk Lib.pow10Tab)] (hx : xs.length ≤ 1048576) :
    CJ Tryz.prog 188 [v, .string { data := #[c] }] w0 Γ (fun _ : Unit => .string (S (jnT c (nT xs) xs.length))) (fun _ => Γ) := by
  refine cj_in64 v fun h64 => ?_
  refine cj_lift (R := [.rd [v] xs, .rd [tabV] (Tab.mk Lib.pow10Tab)]) (A := fun _ => []) (fun w1 => ?_) (reads_cons h (reads_cons ht (inferInstance))) (fun _ => inferInstance)
  simp only [List.cons_append, List.nil_append]
  have hsz := nT_sz xs h64
  refine cj_enter Tryz.func188 Tryz.ntmps188 ?_
  repeat' (first | refine red ?_ | refine redv fun sv => ?_ | fail)
  refine wc_loop_p [13] [14, 15, 16, 17, 6, 7, 18, 19, 20, 21, 22, 23] (ι := Nat) (fun k => [.int .i64 k]) (fun k => [.ow [sv] (nT (xs.take k) ++ List.replicate (xs.length - k) ByteArray.empty)]) (fun k => k ≤ xs.length) (fun k => xs.length - k) 0 [.ow [sv] (List.replicate xs.length ByteArray.empty)] (by kernel_rfl) (Nat.zero_le _) rfl ?_
  intro k u l' hl' hk
  simp only [patch, List.map_cons, List.map_nil, List.set_cons_zero, List.set_cons_succ] at hl'
  subst hl'
  simp only [List.cons_append, List.nil_append] at hk ⊢
  have hkl : (nT (xs.take k) ++ List.replicate (xs.length - k) ByteArray.empty).length = xs.length := by rw [List.length_append, nT_len, List.length_take, List.length_replicate]; omega
  have hg : k < xs.length → -9223372036854775808 ≤ xs.getD ((k : Nat) : Int).toNat 0 ∧ xs.getD ((k : Nat) : Int).toNat 0 ≤ 9223372036854775807 := fun hk => in64_getD h64 hk
  have hrs : k < xs.length → (S (Lib.itoa (xs.getD k 0))).size ≤ 21 := fun hk => by
    rw [S_size]; exact Lib.itoa_length_le _ (hg hk).1 (hg hk).2
  have hsk : k = xs.length → szT (nT (xs.take k) ++ List.replicate (xs.length - k) ByteArray.empty) (nT (xs.take k) ++ List.replicate (xs.length - k) ByteArray.empty).length ≤ xs.length * 21 := fun hk => by
    rw [hkl, hk, Nat.sub_self, List.replicate_zero, List.append_nil, List.take_length]; exact hsz
  repeat' (first | refine red ?_ | refine redf fun hbi => ?_ | refine reds ?_ | refine redc fun r => ?_ | (refine redi (fun hc => ?_) (fun hc => ?_) <;> try first | (exfalso; omega) | with_reducible first | exact absurd rfl hc | exact absurd hc Bool.false_ne_true | exact absurd hc Bool.false_ne_true.symm) | fail)
  · rw [nT_set xs (by omega)]
    exact wq_next (k + 1) (by omega) (by omega) (by kernel_rfl) ent_e
  · refine ⟨(), congrArg Value.string ?_, ent_e⟩
    rw [hkl, show xs.length - k = 0 by omega, show k = xs.length by omega, List.replicate_zero, List.append_nil, List.take_length]; rfl
instance numsText_ctr {Γ : List Atom} {v : Value} {xs : List Int} {c : UInt8} [h : HasRd (List Int) repList Γ [v] xs] [ht : HasRd (Tab) repTab Γ [tabV] (Tab.mk Lib.pow10Tab)] :
    CtrC Tryz.prog 188 [v, .string { data := #[c] }] Γ (xs.length ≤ 1048576) (Unit) (fun _ : Unit => .string (S (jnT c (nT xs) xs.length))) (fun _ => Γ) := ⟨fun s w0 => numsText_spec s⟩

end Go.Proofs.YtbbdjjlnachnlaaGreatDoor
namespace Go.Eng
open Go Go.RowKit Go.Maps
set_option linter.unusedVariables false
set_option linter.unusedSimpArgs false
/-- A key of a number and a string. -/
structure KS where
  n : Int
  s : ByteArray
deriving DecidableEq
abbrev I6s (n : Int) : Prop := -9223372036854775808 ≤ n ∧ n ≤ 9223372036854775807
theorem i6s_wf {n : Int} (h : I6s n) : (Lit.int .i64 n).wf = true := by
  simp only [Lit.wf, IntKind.min, IntKind.max, IntKind.signed, IntKind.bits, Bool.and_eq_true, decide_eq_true_eq, if_true]
  exact h
instance kyKS : Ky KS where
  dec := inferInstance
  v q := .agg #[.int .i64 q.n, .string q.s]
  l q := .string (keyBytes [.int .i64 q.n, .string q.s.data.toList])
  ok q := I6s q.n ∧ q.s.size ≤ maxLen
  inj p q hp hq h := by
    simp only [Lit.string.injEq] at h
    obtain ⟨a, b⟩ := p
    obtain ⟨a', b'⟩ := q
    have key := keyBytes_inj (l := [.int .i64 a, .string b.data.toList]) (l' := [.int .i64 a', .string b'.data.toList]) ⟨rfl, trivial, trivial⟩ (fun x hx => by
      simp only [List.mem_cons, List.not_mem_nil, or_false] at hx
      rcases hx with rfl | rfl
      · exact i6s_wf hp.1
      · exact hp.2) (fun x hx => by
      simp only [List.mem_cons, List.not_mem_nil, or_false] at hx
      rcases hx with rfl | rfl
      · exact i6s_wf hq.1
      · exact hq.2) h
    simp only [List.cons.injEq, Lit.int.injEq, Lit.string.injEq, true_and, and_true] at key
    obtain ⟨h1, h2⟩ := key
    rw [h1, ByteArray.ext (Array.toList_inj.1 h2)]
instance {a : Int} {b : ByteArray} : KeyIs KS (.agg #[.int .i64 a, .string b]) ⟨a, b⟩ := ⟨rfl⟩
theorem keyOf_ks {P : Program} {k : TypeId} (h : ∀ a b, (Lit.int .i64 a).wf = true → b.size ≤ maxLen → keyOf P k (.agg #[.int .i64 a, .string b]) = some (.string (keyBytes [.int .i64 a, .string b.data.toList]))) {q : KS} (hq : Ky.ok q) : keyOf P k (Ky.v q) = some (Ky.l q) := h q.n q.s (i6s_wf hq.1) hq.2
end Go.Eng
namespace Go.Proofs.YtbbdjjlnachnlaaGreatDoor
open Go Go.Eng Go.WideMaps
set_option linter.unusedVariables false
set_option linter.unusedSimpArgs false
set_option synthInstance.maxHeartbeats 400000
set_option synthInstance.maxSize 1000
set_option maxRecDepth 20000

abbrev tKey : TypeId := 179
theorem key_laid : laidOutB Tryz.prog = true := by kernel_rfl
theorem key_law : KeyLaw Tryz.prog tKey := deep_law_laid key_laid (m := 2) (by omega) (by decide +kernel) (by kernel_rfl) (by kernel_rfl)
theorem key_kt : Tryz.prog.keyType tKey = true := by kernel_rfl
theorem key_sz : ∃ m, Tryz.prog.types.size = m + 1 := ⟨Tryz.prog.types.size - 1, by kernel_rfl⟩
theorem key_of (a : Int) (b : ByteArray) (ha : (Lit.int .i64 a).wf = true) (hb : b.size ≤ maxLen) : keyOf Tryz.prog tKey (.agg #[.int .i64 a, .string b]) = some (.string (keyBytes [.int .i64 a, .string b.data.toList])) := by
  obtain ⟨m, hm⟩ := key_sz
  have hu := Tryz.underlying179
  have c1 : Tryz.prog.cellsOf tKey = 2 := by kernel_rfl
  have c2 : Tryz.prog.cellsOf 3 = 1 := by kernel_rfl
  have c3 : Tryz.prog.cellsOf 9 = 1 := by kernel_rfl
  unfold keyOf
  simp only [hu]
  rw [if_pos (by simp [key_kt, Value.formed, hu, c1]), hm]
  unfold Program.keyLits
  simp only [hu, Value.cells]
  rw [if_pos ⟨by rw [c1]; rfl, by decide +kernel⟩]
  simp [Program.keyLits, Tryz.underlying3, Tryz.underlying9, c2, c3, ha, hb]
instance kyPS : KyP Tryz.prog tKey KS := ⟨Maps.Keyed.of_law key_law, fun q hq => keyOf_ks key_of hq⟩
instance kyTS : KyT Tryz.prog 107 KS := ⟨inferInstance⟩
instance mpTS : MpT Tryz.prog 107 tKey (.int .i64 0) := ⟨_, Tryz.underlying107, Tryz.zeroValue3⟩
/-- The key of a list. -/
def lkey (xs : List Int) : KS := ⟨(xs.length : Int), S (jnT 44 (nT xs) xs.length)⟩
theorem keyOf_spec {w0 : World} {Γ : List Atom} {v : Value} {xs : List Int} [h : HasRd (List Int) repList Γ [v] xs] [ht : HasRd (Tab) repTab Γ [tabV] (Tab.mk Lib.pow10Tab)] (hx : xs.length ≤ 1048576) :
    CJ Tryz.prog 169 [v] w0 Γ (fun _ : Unit => .agg #[.int .i64 (xs.length : Int), .string (S (jnT 44 (nT xs) xs.length))]) (fun _ => Γ) := by
  refine cj_enter Tryz.func169 Tryz.ntmps169 ?_
  repeat' (first | refine red ?_ | refine redc fun r => ?_ | refine redn fun b => ?_ | fail)
  exact ⟨(), rfl, ent_e⟩
instance keyOf_ctr {Γ : List Atom} {v : Value} {xs : List Int} [h : HasRd (List Int) repList Γ [v] xs] [ht : HasRd (Tab) repTab Γ [tabV] (Tab.mk Lib.pow10Tab)] :
    CtrC Tryz.prog 169 [v] Γ (xs.length ≤ 1048576) (Unit) (fun _ : Unit => .agg #[.int .i64 (xs.length : Int), .string (S (jnT 44 (nT xs) xs.length))]) (fun _ => Γ) := ⟨fun s w0 => keyOf_spec s⟩

end Go.Proofs.YtbbdjjlnachnlaaGreatDoor
