/- The builder grows; strings are joined. -/
import Derived.Test.YtbbdjjlnachnlaaGreatDoorNum
import Derived.Test.YtbbdjjlnachnlaaGreatDoorTerm
import Derived.Lib.MakeNoZero
import Derived.Laws.IdiomCopy
import Derived.Shelf.Strings.Builder1
import Derived.Shelf.Strings.Builder2
import Derived.Shelf.Small.Bits
import Derived.Shelf.Strconv.Itoa0
import Derived.Shelf.Strconv.Itoa1
import Derived.Shelf.LaysM
import Derived.Shelf.Strconv.Itoa2
import Derived.Shelf.Strconv.Itoa3
import Derived.Shelf.Strconv.Itoa4
import Derived.Shelf.Bits.Mul64
import Derived.Shelf.SlicesG.Turned
import Derived.Shelf.SlicesG.Equal
import Derived.Shelf.SlicesG.Clone
import Derived.Shelf.SlicesG.SearchI
import Derived.Shelf.SlicesE.Clone
import Derived.Shelf.SlSortCmp.Insertion
import Derived.Shelf.SlSortCmp.SiftDown1
import Derived.Shelf.SlSortCmp.HeapSort1
import Derived.Shelf.SlSortCmp.Insertion1
import Derived.Shelf.SlSortCmp.Median1
import Derived.Shelf.SlSortCmp.Pivot1
import Derived.Shelf.SlSortCmp.ReverseRange1
import Derived.Shelf.SlSortCmp.PartialInsertion1
import Derived.Shelf.SlSortCmp.PartitionEqual1
import Derived.Shelf.SlSortCmp.Partition1
import Derived.Shelf.SlSortCmp.Pdq1
import Derived.Shelf.SlSortCmp.Whole1
import Derived.Shelf.SlSortCmp.NoneTotal
import Derived.Test.YtbbdjjlnachnlaaGreatDoorProg
import Derived.Lib.LaidTab
import Derived.Lib.ItoaLen
namespace Go.Proofs.YtbbdjjlnachnlaaGreatDoor
open Go Go.Eng Go.RowKit
set_option linter.unusedVariables false
set_option linter.unusedSimpArgs false
set_option synthInstance.maxHeartbeats 400000
set_option synthInstance.maxSize 1000
set_option maxRecDepth 20000
/-- A row of bytes of which nothing is known. -/
structure RawB (T : TypeId) where
  n : Nat
instance repRawB {T : TypeId} : Rep (RawB T) where
  sz := 1
  rd _ _ cells x := ∃ a cap, cells = [.slice a x.n cap]
  ow _ w F cells x := ∃ g cap cur, cells = [.slice (some ⟨g, 0, none⟩) x.n cap] ∧ F = [g] ∧ w.heap[g]? = some (.cells cur T (0, 0)) ∧ x.n ≤ cap ∧ cap ≤ maxLen ∧ cap ≤ cur.size
  pos := by decide
  rd_len := by rintro _ _ _ _ ⟨a, c, rfl⟩; rfl
  rd_one := by rintro _ _ _ _ ⟨a, c, rfl⟩ x hx; simp at hx; subst hx; rfl
  rd_mono := fun h _ => h
  ow_mono := by
    rintro _ _ _ _ _ _ _ ⟨g, cap, cur, h1, h2, h3, h4⟩ hf _
    exact ⟨g, cap, cur, h1, h2, (hf g (by simp [h2])).trans h3, h4⟩
  ow_rd := by
    rintro _ _ _ _ _ x ⟨g, cap, cur, h1, _⟩ _ _
    exact ⟨_, cap, h1⟩
  ow_lt := by
    rintro _ _ _ _ _ ⟨_, _, _, _, rfl, h3, _⟩ b hb
    simp at hb; subst hb; exact (Array.getElem?_eq_some_iff.1 h3).1
class IsMk (P : Program) (f : FuncId) (e : outParam TypeId) : Prop where
  run : ∀ (n : Nat) (w : World), n ≤ 140737488355328 → ∃ cs : Array Value, (callFunc f #[.int .i64 n]).run P w = .ok (.value (.slice (some ⟨w.heap.size, 0, none⟩) n cs.size)) (w.drew.drew.alloc (.cells cs e)) ∧ n ≤ cs.size ∧ cs.size ≤ maxLen
section
variable {P : Program} {ops : Array Oper} {Q : Exit → Act → World → Prop} {w0 : World} {rest : List Oper} {l l' : List Value} {Γ Γb Δ Ε : List Atom} {ty : TypeId} {v : Value} {pos : String} {after : Array Edge} {d : Nat}
theorem wl_makeNoZero {f : FuncId} {e : TypeId} {x : Operand} {n : Int} {ts : Array TypeId} [hx : Ev l x (.int .i64 n)] [hf : IsMk P f e] (hn : 0 ≤ n ∧ n ≤ 140737488355328)
    (h : ∀ sv, WL P ops Q w0 rest (l.set d sv) (@Atom.ow (RawB e) repRawB [sv] (RawB.mk n.toNat) :: Γ)) :
    WL P ops Q w0 (⟨some d, .call { callee := .value (.func f), args := #[x], argTypes := ts }, ty, pos, after, none⟩ :: rest) l Γ := by
  intro w hs
  obtain ⟨m, rfl⟩ : ∃ m : Nat, n = m := ⟨n.toNat, by omega⟩
  obtain ⟨cs, hrun, hc1, hc2⟩ := hf.run m w (by omega)
  have hexec : (execOp (E l).eval (⟨some d, .call { callee := .value (.func f), args := #[x], argTypes := ts }, ty, pos, after, none⟩ : Oper)).run P w = .ok (.value (.slice (some ⟨w.heap.size, 0, none⟩) m cs.size)) (w.drew.drew.alloc (.cells cs e)) := by
    unfold execOp
    simp only [resolve, Sem.run_bind]
    show (Sem.run P (Deferred.ofValue (.func (.func f) #[] #[]) _) w).andThen _ = _
    simpa [Deferred.ofValue, invoke, hx.eq] using hrun
  refine wl_op rfl hexec ?_
  rw [E_put]
  refine h _ _ ?_
  obtain ⟨hb, F, hnd, hl, hsep⟩ := hs
  refine Sat.step' (Δ' := [@Atom.ow (RawB e) repRawB [_] (RawB.mk (m : Int).toNat)]) (Γ := Γ) (f := []) (g := F) (w := w) hb (by simpa using hnd) (by simpa using hl) (by simpa using hsep) ⟨rfl, rfl, rfl, by simp, (by first | exact Nat.le_refl _ | exact Nat.le_add_right w.drawn 2)⟩ (fun b hlt _ => ?_) [w.heap.size] (by simp) (fun b hb => .inr (by simp at hb; omega)) (fun ok' hok' => ⟨[w.heap.size], [], by simp, ⟨w.heap.size, cs.size, cs, by simp, rfl, ?_, by simpa using hc1, hc2, Nat.le_refl _⟩, rfl⟩)
  · show (w.drew.drew.alloc (.cells cs e)).heap[b]? = w.heap[b]?
    exact Below.heap_alloc w.drew.drew _ b (by simpa using hlt)
  · show (w.heap.push (.cells cs e (0, 0)))[w.heap.size]? = _
    simp
instance {f : FuncId} {e : TypeId} {x : Operand} {n : Int} {ts : Array TypeId} [hx : Ev l x (.int .i64 n)] [hf : IsMk P f e] :
    RedV (WL P ops Q w0 (⟨some d, .call { callee := .value (.func f), args := #[x], argTypes := ts }, ty, pos, after, none⟩ :: rest) l Γ) (0 ≤ n ∧ n ≤ 140737488355328) (fun sv => WL P ops Q w0 rest (l.set d sv) (@Atom.ow (RawB e) repRawB [sv] (RawB.mk n.toNat) :: Γ)) := ⟨fun s h => wl_makeNoZero s h⟩
theorem wl_rawNone {T e : TypeId} {x y : Operand} {v : Value} {m : Nat} [hx : Ev l x v] [hy : Ev l y (.int .i64 0)] [hT : BySl P T e] [hp : PullOw (RawB e) repRawB Γ [v] (RawB.mk m) Δ]
    (h : ∀ sv, WL P ops Q w0 rest (l.set d sv) (@Atom.ow (TBy e) repTBy [sv] (TBy.mk []) :: Δ)) :
    WL P ops Q w0 (⟨some d, .slice T x none (some y) none, ty, pos, after, none⟩ :: rest) l Γ := by
  intro w hs
  obtain ⟨i, z, hi, _⟩ := hT.info
  have hs1 := hs.perm hp.perm
  obtain ⟨hb, F, hn, hl, f, g, rfl, hf, hrest⟩ := hs1
  obtain ⟨r, cap, cur, h1, rfl, h3, h4, h5, h6⟩ := (show Rep.ow (α := RawB e) _ w f [v] (RawB.mk m) from hf)
  simp only [List.cons.injEq, and_true] at h1
  subst h1
  have hrun := run_slice (P := P) (T := T) (a := some ⟨r, 0, none⟩) (n := m) (cap := cap) (lo := 0) (hi := 0) (vlo := none) (vhi := some (.int .i64 0)) hT.eq hi (.inl ⟨rfl, rfl⟩) (.inr ⟨.i64, rfl⟩) (by omega) (by omega) w
  have hexec : (execOp (E l).eval (⟨some d, .slice T x none (some y) none, ty, pos, after, none⟩ : Oper)).run P w = .ok (.value (.slice (some ⟨r, 0, none⟩) 0 cap)) w := by
    unfold execOp
    simp only [hx.eq, hy.eq, Option.map, Sem.run_bind]
    have ez : (if cap = 0 then (some ⟨r, 0, none⟩ : Option Addr) else Option.map (fun x : Addr => x.add (0 * i.size)) (some (⟨r, 0, none⟩ : Addr))) = some (⟨r, 0, none⟩ : Addr) := by
      split
      · rfl
      · simp [add_lit]
    rw [hrun, ez]
    rfl
  refine wl_op rfl hexec ?_
  rw [E_put]
  refine h _ _ ⟨hb, [r] ++ g, hn, hl, [r], g, rfl, .inr ⟨r, cap, cur, rfl, rfl, h3, Nat.zero_le _, h5, h6, rfl⟩, hrest⟩
instance (priority := 1600) {T e : TypeId} {x y : Operand} {v : Value} {m : Nat} [hx : Ev l x v] [hy : Ev l y (.int .i64 0)] [hT : BySl P T e] [hp : PullOw (RawB e) repRawB Γ [v] (RawB.mk m) Δ] :
    RedV (WL P ops Q w0 (⟨some d, .slice T x none (some y) none, ty, pos, after, none⟩ :: rest) l Γ) True (fun sv => WL P ops Q w0 rest (l.set d sv) (@Atom.ow (TBy e) repTBy [sv] (TBy.mk []) :: Δ)) := ⟨fun _ h => wl_rawNone h⟩
instance (priority := 1600) {T e : TypeId} {x y : Operand} {v : Value} {xs : List UInt8} [h : Ev l x v] [hy : Ev l y (.slice none 0 0)] [hT : BySl P T e] [hp : PullOw (TBy e) repTBy Γ [v] (TBy.mk xs) Δ] : PuS P l Γ (.call { callee := .builtin .copy, args := #[x, y], argTypes := #[T, T] }) ty (.int .i64 0) True := ⟨fun _ w0 => by
  obtain ⟨i, z, hi, hsz, _⟩ := hT.info
  refine pu_of (s := Builtin.copy_ #[T, T] ty #[v, .slice none 0 0]) (fun o ho h2 => ?_) (fun w hs => ?_)
  · unfold execOp
    rw [ho]
    simp [resolve, invoke, builtin, h.eq, hy.eq, h2, Pure.pure, Bind.bind, Sem.bind]
  · obtain ⟨_, F, _, _, f, g2, _, hf, _⟩ := hs.perm hp.perm
    have hv : ∃ a c, v = .slice a xs.length c := by
      rcases (show Rep.ow (α := TBy e) _ w f [v] (TBy.mk xs) from hf) with ⟨h1, hx, _⟩ | ⟨g, cap, cur, h1, _⟩
      · have hx : xs = [] := hx
        simp only [List.cons.injEq, and_true] at h1
        exact ⟨none, 0, by rw [h1, hx]; rfl⟩
      · simp only [List.cons.injEq, and_true] at h1
        exact ⟨_, cap, h1⟩
    obtain ⟨a, c, rfl⟩ := hv
    exact run_copy_none w T T ty e _ _ _ _ _ _ hT.eq (by rw [hi]; simp [hsz]) (Nat.zero_min _)⟩
end
instance : IsMk Tryz.prog 214 5 := ⟨fun n w hn => by
  obtain ⟨cs, hrun, hle, hmax⟩ := Lib.run_makeNoZero (P := Tryz.prog) w #[3] 22 5 Tryz.underlying22 n (by omega)
  refine ⟨cs, ?_, hle, hmax (by unfold maxLen; omega)⟩
  rw [run_callFunc_extern Tryz.func214 (by kernel_rfl) (by kernel_rfl) (by kernel_rfl) (e := Extern.BytealgMakeNoZero.makeNoZero #[3] #[22]) (by kernel_rfl), hrun]
  rfl⟩
theorem grow_spec {w0 : World} {Γ Δ : List Atom} {b : Nat} {n : Int} [h : PullTb Γ b tB [.pointer (some ⟨b, 0, none⟩), .slice none 0 0] Δ] (hn : 0 ≤ n ∧ n ≤ 100000000000) :
    CJ Tryz.prog 208 [.pointer (some ⟨b, 0, none⟩), .int .i64 n] w0 Γ (fun _ : Value => .tuple #[]) (fun q => @Atom.ow (TB tB) repTB [.pointer (some ⟨b, 0, none⟩)] (TB.mk [.pointer (some ⟨b, 0, none⟩), q]) :: @Atom.ow (TBy t8) repTBy [q] (TBy.mk []) :: Δ) := by
  refine cj_perm h.perm ?_
  refine cj_enter Tryz.func208 Tryz.ntmps208 ?_
  repeat' (first | refine red ?_ | refine reds ?_ | ((refine wa_begin 0 [false, false, false, false, false, false, false, false, false, false, false, false, false, false, false, false] [] ?_ <;> refine wa_p 0 ?_ <;> (first | refine wa_p 1 ?_ | fail) <;> (first | refine wa_p 2 ?_ | fail) <;> (first | refine wa_p 3 ?_ | fail) <;> (first | refine wa_p 4 ?_ | fail) <;> (first | refine wa_p 5 ?_ | fail) <;> refine wa_p 6 ?_ <;> (first | refine wa_p 7 ?_ | fail) <;> refine wa_p 9 ?_ <;> (first | refine wa_p 10 ?_ | fail) <;> (first | refine wa_p 11 ?_ | fail) <;> (first | refine wa_p 12 ?_ | fail) <;> (first | refine wa_p 13 ?_ | fail) <;> (refine wa_do 8 ?_ <;> (repeat' (first | refine red ?_ | refine redv fun sv => ?_ | fail))) <;> (refine wa_do 14 ?_ <;> (repeat' (first | refine red ?_ | refine redv fun sv => ?_ | fail))) <;> refine wa_p 15 ?_) <;> (refine wa_end ?_)) | fail)
  exact ⟨sv, rfl, ent_e⟩
instance grow_ctr {Γ Δ : List Atom} {b : Nat} {n : Int} [h : PullTb Γ b tB [.pointer (some ⟨b, 0, none⟩), .slice none 0 0] Δ] :
    CtrC Tryz.prog 208 [.pointer (some ⟨b, 0, none⟩), .int .i64 n] Γ (0 ≤ n ∧ n ≤ 100000000000) (Value) (fun _ : Value => .tuple #[]) (fun q => @Atom.ow (TB tB) repTB [.pointer (some ⟨b, 0, none⟩)] (TB.mk [.pointer (some ⟨b, 0, none⟩), q]) :: @Atom.ow (TBy t8) repTBy [q] (TBy.mk []) :: Δ) := ⟨fun s w0 => grow_spec s⟩

theorem Grow_spec {w0 : World} {Γ Δ : List Atom} {b : Nat} {n : Int} [h : PullTb Γ b tB [.pointer none, .slice none 0 0] Δ] (hn : 0 ≤ n ∧ n ≤ 100000000000) :
    CJ Tryz.prog 203 [.pointer (some ⟨b, 0, none⟩), .int .i64 n] w0 Γ (fun _ : Value => .tuple #[]) (fun q => @Atom.ow (TB tB) repTB [.pointer (some ⟨b, 0, none⟩)] (TB.mk [.pointer (some ⟨b, 0, none⟩), q]) :: @Atom.ow (TBy t8) repTBy [q] (TBy.mk []) :: Δ) := by
  refine cj_perm h.perm ?_
  have hp : (Value.pointer none = .pointer none ∨ Value.pointer none = .pointer (some ⟨b, 0, none⟩)) := .inl rfl
  refine cj_enter Tryz.func203 Tryz.ntmps203 ?_
  repeat' (first | refine red ?_ | refine redc fun r => ?_ | (refine redi (fun hc => ?_) (fun hc => ?_) <;> try first | (exfalso; omega) | exact absurd rfl hc) | ((refine wa_begin 3 [false, false, false, false, false, false, false, false, false, false, false, false, false] [] ?_ <;> refine wa_p 0 ?_ <;> (first | refine wa_p 1 ?_ | fail) <;> (first | refine wa_p 2 ?_ | fail) <;> (first | refine wa_p 3 ?_ | fail) <;> (first | refine wa_p 4 ?_ | fail) <;> refine wa_p 5 ?_ <;> (first | refine wa_p 6 ?_ | fail) <;> (first | refine wa_p 7 ?_ | fail) <;> (first | refine wa_p 8 ?_ | fail) <;> (first | refine wa_p 9 ?_ | fail) <;> (first | refine wa_p 10 ?_ | fail) <;> refine wa_p 11 ?_ <;> refine wa_p 12 ?_) <;> (refine wa_end ?_)) | fail)
  · exact ⟨r, rfl, ent_e⟩
  · exact ⟨.slice none 0 0, rfl, fun w hs => by
      obtain ⟨hb, F, hnd, hl, f, g, rfl, hf, hg⟩ := hs
      exact ⟨hb, f ++ g, hnd, hl, f, g, rfl, hf, [], g, rfl, .inl ⟨rfl, rfl, rfl⟩, hg⟩⟩
instance Grow_ctr {Γ Δ : List Atom} {b : Nat} {n : Int} [h : PullTb Γ b tB [.pointer none, .slice none 0 0] Δ] :
    CtrC Tryz.prog 203 [.pointer (some ⟨b, 0, none⟩), .int .i64 n] Γ (0 ≤ n ∧ n ≤ 100000000000) (Value) (fun _ : Value => .tuple #[]) (fun q => @Atom.ow (TB tB) repTB [.pointer (some ⟨b, 0, none⟩)] (TB.mk [.pointer (some ⟨b, 0, none⟩), q]) :: @Atom.ow (TBy t8) repTBy [q] (TBy.mk []) :: Δ) := ⟨fun s w0 => Grow_spec s⟩

/-- The first k strings, joined. -/
def jnT (c : UInt8) (ss : List ByteArray) : Nat → List UInt8
  | 0 => []
  | k + 1 => jnT c ss k ++ ((if k = 0 then [] else [c]) ++ (ss.getD k ByteArray.empty).data.toList)
def szT (ss : List ByteArray) : Nat → Nat
  | 0 => 0
  | k + 1 => szT ss k + (ss.getD k ByteArray.empty).size
theorem jnT_len (c : UInt8) (ss : List ByteArray) : ∀ k, (jnT c ss k).length ≤ szT ss k + k ∧ k ≤ (jnT c ss k).length + 1
  | 0 => ⟨Nat.le_refl _, Nat.zero_le _⟩
  | k + 1 => by
    have h := jnT_len c ss k
    have h2 : (ss.getD k ByteArray.empty).data.toList.length = (ss.getD k ByteArray.empty).size := Array.length_toList
    unfold jnT szT
    simp only [List.length_append, h2]
    split <;> simp only [List.length_nil, List.length_singleton] <;> omega
theorem szT_mono (ss : List ByteArray) (k : Nat) : ∀ j, szT ss k ≤ szT ss (k + j)
  | 0 => Nat.le_refl _
  | j + 1 => Nat.le_trans (szT_mono ss k j) (Nat.le_add_right _ _)
theorem Join_spec {w0 : World} {Γ : List Atom} {v : Value} {ss : List ByteArray} {c : UInt8} [h : HasRd (List ByteArray) repList Γ [v] ss] (hB : szT ss ss.length + ss.length ≤ 1000000000) :
    CJ Tryz.prog 198 [v, .string { data := #[c] }] w0 Γ (fun _ : Unit => .string ⟨(jnT c ss ss.length).toArray⟩) (fun _ => Γ) := by
  refine cj_lift (R := [.rd [v] ss]) (A := fun _ => []) (fun w1 => ?_) (reads_cons h (inferInstance)) (fun _ => inferInstance)
  simp only [List.cons_append, List.nil_append]
  have hcs : ({ data := #[c] } : ByteArray).size = 1 := rfl
  have hq : 2 ≤ ss.length → 2 ≤ (9223372036854775807 : Int).tdiv ((ss.length : Int) - 1) ∧ (9223372036854775807 : Int).tdiv ((ss.length : Int) - 1) ≤ 9223372036854775807 := fun h2 => by
    rw [Int.tdiv_eq_ediv_of_nonneg (by decide)]
    exact ⟨(Int.le_ediv_iff_mul_le (by omega)).2 (by omega), Int.ediv_le_self _ (by decide)⟩
  have hm : ((({ data := #[c] } : ByteArray).size : Nat) : Int) * ((ss.length : Int) - 1) = (ss.length : Int) - 1 := by rw [hcs]; omega
  refine cj_enter Tryz.func198 Tryz.ntmps198 ?_
  by_cases hL : 2 ≤ ss.length
  · have hq2 := hq hL
    repeat' (first | refine red ?_ | refine reds ?_ | (refine redi (fun hc => ?_) (fun hc => ?_) <;> try first | (exfalso; omega) | exact absurd rfl hc) | fail)
    refine wc_loop_c [5, 41] [42, 43, 44, 7, 45, 46, 47, 48, 49, 50, 51, 52, 53, 54, 55] (ι := Int × Nat) (fun k => [.int .i64 k.1, .int .i64 k.2]) (fun k => k.2 ≤ ss.length ∧ k.1 = (ss.length : Int) - 1 + szT ss k.2) (fun k => ss.length - k.2) (0 + (({ data := #[c] } : ByteArray).size : Int) * ((ss.length : Int) - 1), 0) (by kernel_rfl) ⟨Nat.zero_le _, by simp only [hm]; show 0 + _ = _ + (0 : Int); omega⟩ ?_
    intro ⟨n, k⟩ u l' hl' ⟨hk, hn⟩
    simp only [patch, List.map_cons, List.map_nil, List.set_cons_zero, List.set_cons_succ] at hl'
    subst hl'
    simp only at hk hn ⊢
    have hmono := szT_mono ss k (ss.length - k)
    rw [show k + (ss.length - k) = ss.length by omega] at hmono
    have hsc : k < ss.length → szT ss (k + 1) = szT ss k + (ss.getD ((k : Nat) : Int).toNat ByteArray.empty).size := fun _ => rfl
    have hsc' : k < ss.length → szT ss (k + 1) = szT ss k + (ss.getD k ByteArray.empty).size := fun _ => rfl
    have hmono2 : k < ss.length → szT ss (k + 1) ≤ szT ss ss.length := fun hkl => by
      have := szT_mono ss (k + 1) (ss.length - (k + 1))
      rw [show k + 1 + (ss.length - (k + 1)) = ss.length by omega] at this
      exact this
    repeat' (first | refine red ?_ | refine reds ?_ | refine redc fun r => ?_ | refine redn fun b => ?_ | (refine redi (fun hc => ?_) (fun hc => ?_) <;> try first | (exfalso; omega) | exact absurd rfl hc) | fail)
    · exact wq_next (n + (ss.getD ((k : Nat) : Int).toNat ByteArray.empty).size, k + 1) ⟨by simp only; omega, by have := hsc (by omega); simp only; omega⟩ (by simp only; omega) (by kernel_rfl) ent_e
    have hself : (Value.pointer (some ⟨b, 0, none⟩) = .pointer none ∨ Value.pointer (some ⟨b, 0, none⟩) = .pointer (some ⟨b, 0, none⟩)) := .inr rfl
    have h01 : szT ss 1 ≤ szT ss ss.length := by
      have := szT_mono ss 1 (ss.length - 1)
      rw [show 1 + (ss.length - 1) = ss.length by omega] at this
      exact this
    have h00 : (ss.getD (((0 : Nat) : Int)).toNat ByteArray.empty).size = szT ss 1 := (Nat.zero_add _).symm
    have hl0 : ([] : List UInt8).length + (ss.getD (((0 : Nat) : Int)).toNat ByteArray.empty).size ≤ 140737488355328 := by rw [h00, List.length_nil]; omega
    repeat' (first | refine red ?_ | refine redc fun r => ?_ | refine redv fun sv => ?_ | fail)
    refine wc_loop_p [65] [66, 67, 68, 10, 69, 70, 71, 72, 73] (ι := Nat × Value) (fun k => [.int .i64 k.1]) (fun k => [@Atom.ow (TB tB) repTB [.pointer (some ⟨b, 0, none⟩)] (TB.mk [.pointer (some ⟨b, 0, none⟩), k.2]), @Atom.ow (TBy t8) repTBy [k.2] (TBy.mk (jnT c ss (k.1 + 1)))]) (fun k => k.1 + 1 ≤ ss.length) (fun k => ss.length - k.1) (0, r) [@Atom.ow (TB tB) repTB [.pointer (some ⟨b, 0, none⟩)] (TB.mk [.pointer (some ⟨b, 0, none⟩), r]), @Atom.ow (TBy t8) repTBy [r] (TBy.mk ([] ++ (ss.getD (((0 : Nat) : Int)).toNat ByteArray.empty).data.toList))] (by kernel_rfl) (by simp only; omega) rfl ?_
    intro ⟨k, q⟩ u l' hl' hk
    simp only [patch, List.map_cons, List.map_nil, List.set_cons_zero, List.set_cons_succ] at hl'
    subst hl'
    simp only [List.cons_append, List.nil_append] at hk ⊢
    have hjl := jnT_len c ss (k + 1)
    have hdr : (ss.drop 1).length = ss.length - 1 := List.length_drop
    have hgd : (ss.drop 1).getD ((k : Nat) : Int).toNat ByteArray.empty = ss.getD (k + 1) ByteArray.empty := by
      rw [List.getD_eq_getElem?_getD, List.getElem?_drop, ← List.getD_eq_getElem?_getD, Int.toNat_natCast, Nat.add_comm]
    have hm1 : szT ss (k + 1) ≤ szT ss ss.length := by
      have := szT_mono ss (k + 1) (ss.length - (k + 1))
      rw [show k + 1 + (ss.length - (k + 1)) = ss.length by omega] at this
      exact this
    have hl1 : (jnT c ss (k + 1)).length + ({ data := #[c] } : ByteArray).size ≤ 140737488355328 := by omega
    have hl2 : k + 1 < ss.length → (jnT c ss (k + 1) ++ ({ data := #[c] } : ByteArray).data.toList).length + ((ss.drop 1).getD ((k : Nat) : Int).toNat ByteArray.empty).size ≤ 140737488355328 := fun hkl => by
      have h2 := szT_mono ss (k + 1 + 1) (ss.length - (k + 1 + 1))
      rw [show k + 1 + 1 + (ss.length - (k + 1 + 1)) = ss.length by omega] at h2
      have h3 : szT ss (k + 1 + 1) = szT ss (k + 1) + (ss.getD (k + 1) ByteArray.empty).size := rfl
      rw [hgd, List.length_append]
      show (jnT c ss (k + 1)).length + 1 + _ ≤ _
      omega
    by_cases hkl : k + 1 < ss.length
    · have hl3 := hl2 hkl
      repeat' (first | refine red ?_ | refine reds ?_ | refine redc fun r => ?_ | (refine redi (fun hc => ?_) (fun hc => ?_) <;> try first | (exfalso; omega) | exact absurd rfl hc) | fail)
      have hjs : jnT c ss (k + 1) ++ ({ data := #[c] } : ByteArray).data.toList ++ ((ss.drop 1).getD ((k : Nat) : Int).toNat ByteArray.empty).data.toList = jnT c ss (k + 1 + 1) := by
        rw [hgd, List.append_assoc]; rfl
      rw [hjs]
      exact wq_next (k + 1, r) (by simp only; omega) (by simp only; omega) (by kernel_rfl) ent_e
    · have hlp : 0 < (jnT c ss (k + 1)).length := by omega
      repeat' (first | refine red ?_ | refine redc fun r => ?_ | (refine redi (fun hc => ?_) (fun hc => ?_) <;> try first | (exfalso; omega) | exact absurd rfl hc) | fail)
      rw [show k + 1 = ss.length by omega]
      exact ⟨(), rfl, ent_e⟩
  · repeat' (first | refine red ?_ | refine reds ?_ | (refine redi (fun hc => ?_) (fun hc => ?_) <;> try first | (exfalso; omega) | exact absurd rfl hc) | fail)
    · refine ⟨(), congrArg Value.string ?_, ent_e⟩
      rw [show ss.length = 0 by omega]; rfl
    · refine ⟨(), congrArg Value.string ?_, ent_e⟩
      rw [show ss.length = 1 by omega]
      show _ = (ss.getD 0 ByteArray.empty)
      simp [jnT]
instance Join_ctr {Γ : List Atom} {v : Value} {ss : List ByteArray} {c : UInt8} [h : HasRd (List ByteArray) repList Γ [v] ss] :
    CtrC Tryz.prog 198 [v, .string { data := #[c] }] Γ (szT ss ss.length + ss.length ≤ 1000000000) (Unit) (fun _ : Unit => .string ⟨(jnT c ss ss.length).toArray⟩) (fun _ => Γ) := ⟨fun s w0 => Join_spec s⟩

end Go.Proofs.YtbbdjjlnachnlaaGreatDoor
namespace Go.Proofs
open Go.Shelf
def Tryz.laysM246_ren : Go.Shelf.Ren := ⟨fun | 246 => 206 | 283 => 209 | 284 => 210 | 285 => 211 | 286 => 212 | 129 => 185 | 317 => 215 | 318 => 216 | 319 => 217 | 320 => 218 | 337 => 219 | 338 => 220 | n => n, fun | 2 => 2 | 3 => 3 | 9 => 9 | 4 => 4 | 171 => 235 | 0 => 0 | 53 => 198 | 37 => 22 | 5 => 5 | 173 => 237 | 212 => 244 | 51 => 67 | 20 => 20 | 213 => 245 | 46 => 122 | 232 => 247 | 233 => 248 | n => n, fun | 17 => 0 | 18 => 2 | 19 => 3 | n => n⟩
theorem Tryz.laysM246 : Go.Proofs.LaysM.n246 Tryz.prog Tryz.laysM246_ren := {
  mixed := by kernel_rfl
  f129 := Tryz.func185.trans (congrArg some (by kernel_rfl))
  f246 := Tryz.func206.trans (congrArg some (by kernel_rfl))
  f283 := Tryz.func209.trans (congrArg some (by kernel_rfl))
  f284 := Tryz.func210.trans (congrArg some (by kernel_rfl))
  f285 := Tryz.func211.trans (congrArg some (by kernel_rfl))
  f286 := Tryz.func212.trans (congrArg some (by kernel_rfl))
  f317 := Tryz.func215.trans (congrArg some (by kernel_rfl))
  f318 := Tryz.func216.trans (congrArg some (by kernel_rfl))
  f319 := Tryz.func217.trans (congrArg some (by kernel_rfl))
  f320 := Tryz.func218.trans (congrArg some (by kernel_rfl))
  f337 := Tryz.func219.trans (congrArg some (by kernel_rfl))
  f338 := Tryz.func220.trans (congrArg some (by kernel_rfl))
  t0 := Tryz.underlying0
  a0 := Tryz.isAgg0
  z0 := Tryz.sizeOf0
  v0 := Tryz.zeroValue0
  t2 := Tryz.underlying2
  a2 := Tryz.isAgg2
  z2 := Tryz.sizeOf2
  v2 := Tryz.zeroValue2
  t3 := Tryz.underlying3
  a3 := Tryz.isAgg3
  z3 := Tryz.sizeOf3
  v3 := Tryz.zeroValue3
  t4 := Tryz.underlying4
  a4 := Tryz.isAgg4
  z4 := Tryz.sizeOf4
  v4 := Tryz.zeroValue4
  t5 := Tryz.underlying5
  a5 := Tryz.isAgg5
  z5 := Tryz.sizeOf5
  v5 := Tryz.zeroValue5
  t9 := Tryz.underlying9
  a9 := Tryz.isAgg9
  z9 := Tryz.sizeOf9
  v9 := Tryz.zeroValue9
  t20 := Tryz.underlying20
  a20 := Tryz.isAgg20
  z20 := Tryz.sizeOf20
  v20 := Tryz.zeroValue20
  t37 := Tryz.underlying22
  a37 := Tryz.isAgg22
  z37 := Tryz.sizeOf22
  v37 := Tryz.zeroValue22
  t46 := Tryz.underlying122
  a46 := Tryz.isAgg122
  z46 := Tryz.sizeOf122
  v46 := Tryz.zeroValue122
  t51 := Tryz.underlying67
  a51 := Tryz.isAgg67
  z51 := Tryz.sizeOf67
  v51 := Tryz.zeroValue67
  t53 := Tryz.underlying198
  a53 := Tryz.isAgg198
  z53 := Tryz.sizeOf198
  v53 := Tryz.zeroValue198
  t171 := Tryz.underlying235
  a171 := Tryz.isAgg235
  z171 := Tryz.sizeOf235
  v171 := Tryz.zeroValue235
  t173 := Tryz.underlying237
  a173 := Tryz.isAgg237
  z173 := Tryz.sizeOf237
  v173 := Tryz.zeroValue237
  t212 := Tryz.underlying244
  a212 := Tryz.isAgg244
  z212 := Tryz.sizeOf244
  v212 := Tryz.zeroValue244
  t213 := Tryz.underlying245
  a213 := Tryz.isAgg245
  z213 := Tryz.sizeOf245
  t232 := Tryz.underlying247
  a232 := Tryz.isAgg247
  z232 := Tryz.sizeOf247
  v232 := Tryz.zeroValue247
  t233 := Tryz.underlying248
  a233 := Tryz.isAgg248
  z233 := Tryz.sizeOf248
  v233 := Tryz.zeroValue248
  g17 := by kernel_rfl
  g18 := by kernel_rfl
  g19 := by kernel_rfl
  i0 := by kernel_rfl
  i2 := by kernel_rfl
  i3 := by kernel_rfl
  i4 := by kernel_rfl
  i5 := by kernel_rfl
  i9 := by kernel_rfl
  i20 := by kernel_rfl
  i37 := by kernel_rfl
  i46 := by kernel_rfl
  i51 := by kernel_rfl
  i53 := by kernel_rfl
  i171 := by kernel_rfl
  i173 := by kernel_rfl
  i212 := by kernel_rfl
  i232 := by kernel_rfl
  i233 := by kernel_rfl
  m17 := by kernel_rfl
  m18 := by kernel_rfl
  m19 := by kernel_rfl }
open Go.RowKit Go.Sort Go.Lib in
theorem Tryz.internal_strconv_FormatInt_10 (n : Int) (h0 : -9223372036854775808 ≤ n) (h1 : n ≤ 9223372036854775807) (w : World) (htab : Lib.TabIs Tryz.prog w "internal/strconv.uint64pow10" .u64 Lib.pow10Tab) :
    Calls Tryz.prog 206 #[.int .i64 n, .int .i64 10] w fun e w' => e = .returned (.string ⟨(Lib.itoa n).toArray⟩) ∧ ∃ k os, w' = grow (w.drewN k) os := Any.internal_strconv_FormatInt_10 Tryz.laysM246 n h0 h1 w htab
end Go.Proofs
namespace Go.Proofs.YtbbdjjlnachnlaaGreatDoor
open Go Go.Eng Go.RowKit Go.Sort
set_option linter.unusedVariables false
set_option linter.unusedSimpArgs false
set_option synthInstance.maxHeartbeats 400000
set_option synthInstance.maxSize 1000
set_option maxRecDepth 20000
/-- A table of the library's. -/
structure Tab where
  zs : List Int
instance repTab : Rep Tab where
  sz := 1
  rd ok w cells x := ∃ g e fz, cells = [.pointer (some ⟨g, 0, none⟩)] ∧ ok g ∧ w.heap[g]? = some (.cells (x.zs.map (Value.int .u64)).toArray e fz)
  ow ok w F cells x := F = [] ∧ ∃ g e fz, cells = [.pointer (some ⟨g, 0, none⟩)] ∧ ok g ∧ w.heap[g]? = some (.cells (x.zs.map (Value.int .u64)).toArray e fz)
  pos := by decide
  rd_len := by rintro _ _ _ _ ⟨g, e, fz, rfl, _⟩; rfl
  rd_one := by rintro _ _ _ _ ⟨g, e, fz, rfl, _⟩ x hx; simp at hx; subst hx; rfl
  rd_mono := by
    rintro _ _ _ _ _ _ ⟨g, e, fz, h1, h2, h3⟩ hm
    have := hm g h2 (Array.getElem?_eq_some_iff.1 h3).1
    exact ⟨g, e, fz, h1, this.1, this.2.trans h3⟩
  ow_mono := by
    rintro _ _ _ _ _ _ _ ⟨hF, g, e, fz, h1, h2, h3⟩ _ hm
    have := hm g h2 (Array.getElem?_eq_some_iff.1 h3).1
    exact ⟨hF, g, e, fz, h1, this.1, this.2.trans h3⟩
  ow_rd := by
    rintro _ _ _ _ _ _ ⟨hF, g, e, fz, h1, h2, h3⟩ ho _
    exact ⟨g, e, fz, h1, ho g h2, h3⟩
  ow_lt := by rintro _ _ _ _ _ ⟨rfl, _⟩ b hb; cases hb
abbrev tabV : Value := .pointer (some ⟨0, 0, none⟩)
theorem tab_named : Tryz.prog.globalNamed "internal/strconv.uint64pow10" = some 0 := by kernel_rfl
theorem tab_is {w0 w : World} {Γ : List Atom} [h : HasRd Tab repTab Γ [tabV] (Tab.mk Lib.pow10Tab)] (hs : Sat w0 w Γ) : Lib.TabIs Tryz.prog w "internal/strconv.uint64pow10" .u64 Lib.pow10Tab := by
  obtain ⟨g, e, fz, h1, _, h3⟩ := hs.rd (hr := h)
  simp only [List.cons.injEq, Value.pointer.injEq, Option.some.injEq, Addr.mk.injEq, and_true] at h1
  subst h1
  unfold Lib.TabIs World.var?
  rw [tab_named]
  simp only [Option.bind_some, h3]
theorem below_grow (w : World) (k : Nat) (os : Array Obj) : Below w.heap.size w (grow (w.drewN k) os) := by
  have h1 : ∀ k, Below w.heap.size w (w.drewN k) := fun k => ⟨rfl, rfl, rfl, Nat.le_refl _, fun _ _ => rfl⟩
  refine (h1 k).trans ⟨rfl, rfl, rfl, ?_, fun b hb => ?_⟩
  · show _ ≤ (w.heap ++ os).size
    rw [Array.size_append]; exact Nat.le_add_right _ _
  · show (w.heap ++ os)[b]? = w.heap[b]?
    rw [Array.getElem?_append_left hb]
theorem iFormatIntG_spec {w0 : World} {Γ : List Atom} {i : Int} [h : HasRd Tab repTab Γ [tabV] (Tab.mk Lib.pow10Tab)] (hi : -9223372036854775808 ≤ i ∧ i ≤ 9223372036854775807) :
    CJ Tryz.prog 206 [.int .i64 i, .int .i64 10] w0 Γ (fun _ : Unit => .string (S (Lib.itoa i))) (fun _ => Γ) := by
  exact fun w hs =>
    (Tryz.internal_strconv_FormatInt_10 i hi.1 hi.2 w (tab_is hs)).mono fun e w' ⟨he, k, os, hw⟩ => ⟨(), he, by rw [hw]; exact hs.ext (.of (below_grow w k os) (Nat.le_add_right _ _))⟩
instance iFormatIntG_ctr {Γ : List Atom} {i : Int} [h : HasRd Tab repTab Γ [tabV] (Tab.mk Lib.pow10Tab)] :
    CtrC Tryz.prog 206 [.int .i64 i, .int .i64 10] Γ (-9223372036854775808 ≤ i ∧ i ≤ 9223372036854775807) (Unit) (fun _ : Unit => .string (S (Lib.itoa i))) (fun _ => Γ) := ⟨fun s w0 => iFormatIntG_spec s⟩

theorem FormatIntG_spec {w0 : World} {Γ : List Atom} {i : Int} [h : HasRd Tab repTab Γ [tabV] (Tab.mk Lib.pow10Tab)] (hi : -9223372036854775808 ≤ i ∧ i ≤ 9223372036854775807) :
    CJ Tryz.prog 202 [.int .i64 i, .int .i64 10] w0 Γ (fun _ : Unit => .string (S (Lib.itoa i))) (fun _ => Γ) := by
  refine cj_enter Tryz.func202 Tryz.ntmps202 ?_
  repeat' (first | refine red ?_ | refine redc fun r => ?_ | fail)
  all_goals exact ⟨(), rfl, ent_e⟩
instance FormatIntG_ctr {Γ : List Atom} {i : Int} [h : HasRd Tab repTab Γ [tabV] (Tab.mk Lib.pow10Tab)] :
    CtrC Tryz.prog 202 [.int .i64 i, .int .i64 10] Γ (-9223372036854775808 ≤ i ∧ i ≤ 9223372036854775807) (Unit) (fun _ : Unit => .string (S (Lib.itoa i))) (fun _ => Γ) := ⟨fun s w0 => FormatIntG_spec s⟩

theorem numG_spec {w0 : World} {Γ : List Atom} {i : Int} [h : HasRd Tab repTab Γ [tabV] (Tab.mk Lib.pow10Tab)] (hi : -9223372036854775808 ≤ i ∧ i ≤ 9223372036854775807) :
    CJ Tryz.prog 197 [.int .i64 i] w0 Γ (fun _ : Unit => .string (S (Lib.itoa i))) (fun _ => Γ) := by
  refine cj_enter Tryz.func197 Tryz.ntmps197 ?_
  repeat' (first | refine red ?_ | refine redc fun r => ?_ | fail)
  all_goals exact ⟨(), rfl, ent_e⟩
instance numG_ctr {Γ : List Atom} {i : Int} [h : HasRd Tab repTab Γ [tabV] (Tab.mk Lib.pow10Tab)] :
    CtrC Tryz.prog 197 [.int .i64 i] Γ (-9223372036854775808 ≤ i ∧ i ≤ 9223372036854775807) (Unit) (fun _ : Unit => .string (S (Lib.itoa i))) (fun _ => Γ) := ⟨fun s w0 => numG_spec s⟩

theorem dd_ten (m : Nat) (h : 10 ≤ m) : Lib.decDigits m = Lib.decDigits (m / 10) ++ [UInt8.ofNat (48 + m % 10)] := by
  rw [Lib.decDigits, dif_neg (by omega)]
theorem dd_one (m : Nat) (h : m < 10) : Lib.decDigits m = [UInt8.ofNat (48 + m % 10)] := by
  rw [Lib.decDigits_one h, Nat.mod_eq_of_lt h]
theorem dd_pos (m : Nat) : 0 < (Lib.decDigits m).length := by
  rw [Lib.decDigits_length]
  by_cases h : m < 10
  · rw [Lib.nDigits_small h]; decide
  · rw [Lib.nDigits_big h]; omega
end Go.Proofs.YtbbdjjlnachnlaaGreatDoor
