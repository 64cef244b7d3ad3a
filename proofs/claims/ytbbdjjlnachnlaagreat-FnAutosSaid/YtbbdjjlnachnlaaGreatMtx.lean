/- The rules of the walk: matrices of 16 by 16 in a variable, alone or behind two automata. -/
import Derived.Test.YtbbdjjlnachnlaaGreatEngT
import Derived.Test.YtbbdjjlnachnlaaGreatEngY
import Derived.Test.YtbbdjjlnachnlaaGreatInst
namespace Go.Eng
open Go Go.RowKit
set_option linter.unusedVariables false
set_option linter.unusedSimpArgs false
def bitV (g : Nat → Bool) : List Value := (List.range 256).map fun i => Value.bool (g i)
def intV (h : Nat → Int) : List Value := (List.range 256).map fun i => Value.int .i64 (h i)
def upF {α : Type} (g : Nat → α) (j : Nat) (v : α) : Nat → α := fun i => if i = j then v else g i
theorem bitV_len (g : Nat → Bool) : (bitV g).length = 256 := by unfold bitV; simp
theorem intV_len (h : Nat → Int) : (intV h).length = 256 := by unfold intV; simp
theorem bitV_get {g : Nat → Bool} {i : Nat} (h : i < 256) : (bitV g)[i]? = some (.bool (g i)) := by unfold bitV; rw [List.getElem?_map, List.getElem?_range h]; rfl
theorem intV_get {g : Nat → Int} {i : Nat} (h : i < 256) : (intV g)[i]? = some (.int .i64 (g i)) := by unfold intV; rw [List.getElem?_map, List.getElem?_range h]; rfl
theorem bitV_set {g : Nat → Bool} {i : Nat} {v : Bool} : (bitV g).set i (.bool v) = bitV (upF g i v) := by
  apply List.ext_getElem?
  intro j
  by_cases hj : j < 256
  · rw [bitV_get hj, List.getElem?_set, bitV_get hj, bitV_len]
    unfold upF
    by_cases e : i = j
    · rw [if_pos e, if_pos (by omega), if_pos e.symm]
    · rw [if_neg e, if_neg (Ne.symm e)]
  · rw [List.getElem?_eq_none (by rw [List.length_set, bitV_len]; omega), List.getElem?_eq_none (by rw [bitV_len]; omega)]
theorem intV_set {g : Nat → Int} {i : Nat} {v : Int} : (intV g).set i (.int .i64 v) = intV (upF g i v) := by
  apply List.ext_getElem?
  intro j
  by_cases hj : j < 256
  · rw [intV_get hj, List.getElem?_set, intV_get hj, intV_len]
    unfold upF
    by_cases e : i = j
    · rw [if_pos e, if_pos (by omega), if_pos e.symm]
    · rw [if_neg e, if_neg (Ne.symm e)]
  · rw [List.getElem?_eq_none (by rw [List.length_set, intV_len]; omega), List.getElem?_eq_none (by rw [intV_len]; omega)]
instance {Γ : List Atom} {g : Nat → Bool} : OneCs Γ (bitV g) := ⟨fun _ v hv => by
  obtain ⟨i, _, rfl⟩ := List.mem_map.1 hv; rfl⟩
instance {Γ : List Atom} {g : Nat → Int} : OneCs Γ (intV g) := ⟨fun _ v hv => by
  obtain ⟨i, _, rfl⟩ := List.mem_map.1 hv; rfl⟩
/-- T is an array type of 16 rows of 16 cells each. -/
class Mx (P : Program) (T : TypeId) : Prop where
  ex : ∃ e i, P.underlying T = some (.array 16 e) ∧ P.info? e = some i ∧ i.size = 16
class Mr (P : Program) (T : TypeId) : Prop where
  ex : ∃ e i, P.underlying T = some (.array 16 e) ∧ P.info? e = some i ∧ i.size = 1
section mtx
variable {P : Program} {ops : Array Oper} {Q : Exit → Act → World → Prop} {w0 : World} {rest : List Oper} {l l' : List Value} {Γ Γb Δ Ε : List Atom} {ty : TypeId} {v : Value} {pos : String} {after : Array Edge} {d : Nat} {x y : Operand}
theorem pu_mx {T b o m : Nat} {i : Int} {kk : IntKind} [h : Ev l x (.pointer (some ⟨b, o, none⟩))] [hy : Ev l y (.int kk i)] [hm : ToN i m] [hT : Mx P T] (hk : 0 ≤ i ∧ i < 16) : Pu P w0 l Γ (.indexAddr T x y) ty (.pointer (some ⟨b, o + m * 16, none⟩)) := by
  obtain ⟨e, inf, ht, hi, hs⟩ := hT.ex
  refine pu_of (s := Instr.indexAt T (.pointer (some ⟨b, o, none⟩)) (.int kk i)) (fun o ho _ => by unfold execOp; rw [ho]; simp only [h.eq, hy.eq]) (fun w hs' => ?_)
  have e1 := hm.eq
  simp [Instr.indexAt, asIntOf, run_underlying ht, sizeOf, typeInfo, hi, hs, hk.1, hk.2, Instr.sureAddr, e1, add_lit]
instance (priority := 1200) {T b o m : Nat} {i : Int} {kk : IntKind} [h : Ev l x (.pointer (some ⟨b, o, none⟩))] [hy : Ev l y (.int kk i)] [hm : ToN i m] [hT : Mx P T] : PuS P l Γ (.indexAddr T x y) ty (.pointer (some ⟨b, o + m * 16, none⟩)) (0 ≤ i ∧ i < 16) := ⟨fun h _ => pu_mx h⟩
theorem pu_mr {T b o m : Nat} {i : Int} {kk : IntKind} [h : Ev l x (.pointer (some ⟨b, o, none⟩))] [hy : Ev l y (.int kk i)] [hm : ToN i m] [hT : Mr P T] (hk : 0 ≤ i ∧ i < 16) : Pu P w0 l Γ (.indexAddr T x y) ty (.pointer (some ⟨b, o + m, none⟩)) := by
  obtain ⟨e, inf, ht, hi, hs⟩ := hT.ex
  refine pu_of (s := Instr.indexAt T (.pointer (some ⟨b, o, none⟩)) (.int kk i)) (fun o ho _ => by unfold execOp; rw [ho]; simp only [h.eq, hy.eq]) (fun w hs' => ?_)
  have e1 := hm.eq
  simp [Instr.indexAt, asIntOf, run_underlying ht, sizeOf, typeInfo, hi, hs, hk.1, hk.2, Instr.sureAddr, e1, add_lit]
instance (priority := 1200) {T b o m : Nat} {i : Int} {kk : IntKind} [h : Ev l x (.pointer (some ⟨b, o, none⟩))] [hy : Ev l y (.int kk i)] [hm : ToN i m] [hT : Mr P T] : PuS P l Γ (.indexAddr T x y) ty (.pointer (some ⟨b, o + m, none⟩)) (0 ≤ i ∧ i < 16) := ⟨fun h _ => pu_mr h⟩
theorem pu_load_at {T b off : Nat} {cs : List Value} [h : Ev l x (.pointer (some ⟨b, off, none⟩))] [hT : Sc P T] [hb : HasBk Γ b cs] (hv : cs[off]? = some v) : Pu P w0 l Γ (.load T x) ty v :=
  pu_of (s := Instr.loadAt T (.pointer (some ⟨b, off, none⟩))) (fun o ho _ => by unfold execOp; rw [ho]; simp only [h.eq]) (fun w hs => by
    obtain ⟨e, he⟩ := hs.bk (hr := hb)
    have hc : w.cell? ⟨b, off, none⟩ = some v := by simp [World.cell?, he, hv]
    simp [Instr.loadAt, Instr.sureAddr, loadVar, Sem.run_bind, hT.agg, load, Sem.run, hc])
instance (priority := 1200) {T b m k : Nat} {a0 a1 a2 a3 a4 a5 : Value} {g : Nat → Bool} [h : Ev l x (.pointer (some ⟨b, 6 + m * 16 + k, none⟩))] [hT : Sc P T] [hb : HasBk Γ b (a0 :: a1 :: a2 :: a3 :: a4 :: a5 :: bitV g)] : PuS P l Γ (.load T x) ty (.bool (g (m * 16 + k))) (m < 16 ∧ k < 16) := ⟨fun hk _ => pu_load_at (off := 6 + m * 16 + k) (by
  rw [show 6 + m * 16 + k = m * 16 + k + 1 + 1 + 1 + 1 + 1 + 1 by omega]
  simp only [List.getElem?_cons_succ]
  exact bitV_get (by omega))⟩
instance (priority := 1200) {T b m k : Nat} {g : Nat → Int} [h : Ev l x (.pointer (some ⟨b, 0 + m * 16 + k, none⟩))] [hT : Sc P T] [hb : HasBk Γ b (intV g)] : PuS P l Γ (.load T x) ty (.int .i64 (g (m * 16 + k))) (m < 16 ∧ k < 16) := ⟨fun hk _ => pu_load_at (off := 0 + m * 16 + k) (by
  rw [Nat.zero_add]; exact intV_get (by omega))⟩
theorem wl_store_at {T b off : Nat} {cs cs' : List Value} [hx : Ev l x (.pointer (some ⟨b, off, none⟩))] [hy : Ev l y v] [ho : OneC Γ v] [hT : Sc P T] [hb : PullBk Γ b cs Δ] (hlt : off < cs.length) (he : cs.set off v = cs')
    (h : WL P ops Q w0 rest l (.bk b cs' :: Δ)) : WL P ops Q w0 (⟨none, .store T x y, ty, pos, after, none⟩ :: rest) l Γ := by
  intro w hs
  have h1 : v.oneCell' = true := by
    obtain ⟨_, F, _, _, hs⟩ := hs
    exact ho.one hs
  have hs1 := hs.perm hb.perm
  obtain ⟨e, he2⟩ := hs1.bk (hr := HasBk.here)
  have hs2 := hs1.store off v
  rw [he] at hs2
  have hcell : w.cell? ⟨b, off, none⟩ = some (cs[off]'hlt) := by simp [World.cell?, he2, List.getElem?_eq_getElem hlt]
  have hfr : w.frozen? ⟨b, off, none⟩ = false := by simp [World.frozen?, he2]
  have hst : (store (⟨b, off, none⟩ : Addr) v).run P w = .ok () (w.setCell ⟨b, off, none⟩ v) := by
    cases v <;> simp_all [store, Sem.run, Value.oneCell']
  refine wpList_plain rfl fun K hK => ?_
  unfold Oper.wp
  have hrun : (execOp (E l).eval ⟨none, .store T x y, ty, pos, after, none⟩).run P w = .ok .skip (w.setCell ⟨b, off, none⟩ v) := by
    show (do Instr.storeAt T ((E l).eval x) ((E l).eval y); pure Next.skip : Sem Next).run P w = _
    simp only [hx.eq, hy.eq, Sem.run_bind, Instr.storeAt, Instr.sureAddr, Sem.run_pure, Result.andThen_ok, storeVar, hT.size, cells_one h1]
    simp only [List.size_toArray, List.length_cons, List.length_nil, Nat.zero_add, ne_eq, not_true_eq_false, if_false, Sem.run_pure, Result.andThen_ok, Sem.run_bind, storeCells]
    have : (⟨b, off, none⟩ : Addr).add 0 = ⟨b, off, none⟩ := by simp [Addr.add]
    rw [this]
    simp only [hst, Result.andThen_ok, Sem.run_pure]
  rw [hrun, Oper.upon_skip, E_put_none]
  exact hK _ _ (h _ hs2)
instance (priority := 1200) {T b m k : Nat} {a0 a1 a2 a3 a4 a5 : Value} {g : Nat → Bool} {u : Bool} [hx : Ev l x (.pointer (some ⟨b, 6 + m * 16 + k, none⟩))] [hy : Ev l y (.bool u)] [hT : Sc P T] [hb : PullBk Γ b (a0 :: a1 :: a2 :: a3 :: a4 :: a5 :: bitV g) Δ] :
    RedS (WL P ops Q w0 (⟨none, .store T x y, ty, pos, after, none⟩ :: rest) l Γ) (m < 16 ∧ k < 16) (WL P ops Q w0 rest l (.bk b (a0 :: a1 :: a2 :: a3 :: a4 :: a5 :: bitV (upF g (m * 16 + k) u)) :: Δ)) := ⟨fun hk h => by
  haveI : OneC Γ (.bool u) := ⟨fun _ => rfl⟩
  refine wl_store_at (off := 6 + m * 16 + k) (by simp only [List.length_cons, bitV_len]; omega) ?_ h
  rw [show 6 + m * 16 + k = m * 16 + k + 1 + 1 + 1 + 1 + 1 + 1 by omega]
  simp only [List.set_cons_succ, bitV_set]⟩
instance (priority := 1200) {T b m k : Nat} {g : Nat → Int} {u : Int} [hx : Ev l x (.pointer (some ⟨b, 0 + m * 16 + k, none⟩))] [hy : Ev l y (.int .i64 u)] [hT : Sc P T] [hb : PullBk Γ b (intV g) Δ] :
    RedS (WL P ops Q w0 (⟨none, .store T x y, ty, pos, after, none⟩ :: rest) l Γ) (m < 16 ∧ k < 16) (WL P ops Q w0 rest l (.bk b (intV (upF g (m * 16 + k) u)) :: Δ)) := ⟨fun hk h => by
  haveI : OneC Γ (.int .i64 u) := ⟨fun _ => rfl⟩
  refine wl_store_at (off := 0 + m * 16 + k) (by rw [intV_len]; omega) ?_ h
  rw [Nat.zero_add]
  exact intV_set⟩
/-- A struct of two structs of three cells, and a matrix. -/
class Bpr (P : Program) (T : TypeId) : Prop where
  run : ∀ (a0 a1 a2 a3 a4 a5 : Value) w, (Instr.build T #[(0, .agg #[a0, a1, a2]), (1, .agg #[a3, a4, a5])]).run P w = .ok (.agg (a0 :: a1 :: a2 :: a3 :: a4 :: a5 :: bitV fun _ => false).toArray) w
instance {T : TypeId} {a0 a1 a2 a3 a4 a5 : Value} [hT : Bpr P T] [hx : Ev l x (.agg #[a0, a1, a2])] [hy : Ev l y (.agg #[a3, a4, a5])] : PuC P l Γ (.build T #[(0, x), (1, y)]) ty (.agg (a0 :: a1 :: a2 :: a3 :: a4 :: a5 :: bitV fun _ => false).toArray) := ⟨fun w0 =>
  pu_of (s := Instr.build T #[(0, .agg #[a0, a1, a2]), (1, .agg #[a3, a4, a5])]) (fun o ho _ => by unfold execOp; rw [ho]; simp [hx.eq, hy.eq]) (fun w _ => hT.run a0 a1 a2 a3 a4 a5 w)⟩
end mtx
end Go.Eng
namespace Go.Proofs
open Go Go.Eng
instance : Mx Tryz.prog 83 := ⟨_, Tryz.t82, Tryz.underlying83, by kernel_rfl, rfl⟩
instance : Mx Tryz.prog 88 := ⟨_, Tryz.t87, Tryz.underlying88, by kernel_rfl, rfl⟩
instance : Mr Tryz.prog 82 := ⟨_, Tryz.t4, Tryz.underlying82, by kernel_rfl, rfl⟩
instance : Mr Tryz.prog 87 := ⟨_, Tryz.t2, Tryz.underlying87, by kernel_rfl, rfl⟩
instance : Zr Tryz.prog 88 (intV fun _ => 0) := ⟨_, fun w => Tryz.zeroValue88 w, by kernel_rfl⟩
instance : Ag Tryz.prog 85 262 := ⟨fun w => Tryz.isAgg85 w, fun w => Tryz.sizeOf85 w⟩
instance : Fo Tryz.prog 85 0 0 := ⟨fun w a => by simp [Instr.fieldAt, Instr.sureAddr, fieldPlace]⟩
instance : Fo Tryz.prog 85 1 3 := ⟨fun w a => by simp [Instr.fieldAt, Instr.sureAddr, fieldPlace]⟩
instance : Fo Tryz.prog 85 2 6 := ⟨fun w a => by simp [Instr.fieldAt, Instr.sureAddr, fieldPlace]⟩
instance : Bpr Tryz.prog 85 := ⟨fun a0 a1 a2 a3 a4 a5 w => run_build w 85 #[(0, .agg #[a0, a1, a2]), (1, .agg #[a3, a4, a5])] _ (by kernel_rfl)⟩
end Go.Proofs
