/- The rules of the walk: a block of many lists and a map; keys of four numbers; copy. -/
import Derived.Test.YtfdpmkilhllkoaaMap
import Derived.Test.YtfdpmkilhllkoaaInst
import Derived.WideKeyArr
import Derived.WideKeyPair
import Derived.Laws.CopyRow
namespace Go.Eng
open Go Go.RowKit Go.Maps
set_option linter.unusedVariables false
set_option linter.unusedSimpArgs false
/-! ### Keys -/
structure K4 where
  a : Int
  b : Int
  c : Int
  d : Int
deriving DecidableEq
abbrev I6 (n : Int) : Prop := -9223372036854775808 ≤ n ∧ n ≤ 9223372036854775807
theorem i6_wf {n : Int} (h : I6 n) : (Lit.int .i64 n).wf = true := by
  simp only [Lit.wf, IntKind.min, IntKind.max, IntKind.signed, IntKind.bits, Bool.and_eq_true, decide_eq_true_eq, if_true]
  exact h
instance kyK4 : Ky K4 where
  dec := inferInstance
  v q := .agg #[.int .i64 q.a, .int .i64 q.b, .int .i64 q.c, .int .i64 q.d]
  l q := .string (keyBytes [.int .i64 q.a, .int .i64 q.b, .int .i64 q.c, .int .i64 q.d])
  ok q := I6 q.a ∧ I6 q.b ∧ I6 q.c ∧ I6 q.d
  inj p q hp hq h := by
    simp only [Lit.string.injEq] at h
    obtain ⟨a, b, c, d⟩ := p
    obtain ⟨a', b', c', d'⟩ := q
    have key := keyBytes_inj (l := [.int .i64 a, .int .i64 b, .int .i64 c, .int .i64 d]) (l' := [.int .i64 a', .int .i64 b', .int .i64 c', .int .i64 d']) ⟨rfl, rfl, rfl, rfl, trivial⟩ (fun x hx => by
      simp only [List.mem_cons, List.not_mem_nil, or_false] at hx
      rcases hx with rfl | rfl | rfl | rfl
      · exact i6_wf hp.1
      · exact i6_wf hp.2.1
      · exact i6_wf hp.2.2.1
      · exact i6_wf hp.2.2.2) (fun x hx => by
      simp only [List.mem_cons, List.not_mem_nil, or_false] at hx
      rcases hx with rfl | rfl | rfl | rfl
      · exact i6_wf hq.1
      · exact i6_wf hq.2.1
      · exact i6_wf hq.2.2.1
      · exact i6_wf hq.2.2.2) h
    simp only [List.cons.injEq, Lit.int.injEq, true_and, and_true] at key
    obtain ⟨h1, h2, h3, h4⟩ := key
    rw [h1, h2, h3, h4]
instance {a b c d : Int} : KeyIs K4 (.agg #[.int .i64 a, .int .i64 b, .int .i64 c, .int .i64 d]) ⟨a, b, c, d⟩ := ⟨rfl⟩
theorem keyOf_quad {P : Program} {k e : TypeId} (A : WideMaps.ArrKey P k e 4) (he : P.underlying e = some (.int .i64)) (hsz : ∃ m, P.types.size = m + 1) {q : K4} (hq : Ky.ok q) : keyOf P k (Ky.v q) = some (Ky.l q) := by
  obtain ⟨wa, wb, wc, wd⟩ := hq
  have wa := i6_wf wa
  have wb := i6_wf wb
  have wc := i6_wf wc
  have wd := i6_wf wd
  have hkt := A.keyType hsz
  obtain ⟨m, hm⟩ := hsz
  show keyOf P k (.agg #[.int .i64 q.a, .int .i64 q.b, .int .i64 q.c, .int .i64 q.d]) = some (.string (keyBytes [.int .i64 q.a, .int .i64 q.b, .int .i64 q.c, .int .i64 q.d]))
  unfold keyOf
  simp only [A.hu]
  rw [if_pos (by simp [hkt, Value.formed, A.hu, A.size]), hm]
  unfold Program.keyLits
  simp only [A.hu, Value.cells]
  rw [if_pos (by rw [A.size]; rfl), show List.range 4 = [0, 1, 2, 3] from rfl, List.mapM_cons, List.mapM_cons, List.mapM_cons, List.mapM_cons, List.mapM_nil]
  simp [A.one, Program.keyLits, he, wa, wb, wc, wd]
theorem arr_keyed {P : Program} {k e : TypeId} (A : WideMaps.ArrKey P k e 4) (he : P.underlying e = some (.int .i64)) (hsz : ∃ m, P.types.size = m + 1) : KyP P k K4 := ⟨Keyed.of_law A.law, fun q hq => keyOf_quad A he hsz hq⟩
/-! ### A block of many lists, and one cell more -/
instance : PosN 976 := ⟨by decide⟩
/-- T is an array type of n elements of k cells each. -/
class Ar2 (P : Program) (T : TypeId) (n k : outParam Nat) : Prop where
  ex : ∃ e i, P.underlying T = some (.array n e) ∧ P.info? e = some i ∧ i.size = k
class Bld (P : Program) (T : TypeId) (n : outParam Nat) : Prop where
  run : ∀ (b : Nat) w, (Instr.build T #[(1, .map (some b))]).run P w = .ok (.agg (List.replicate n (Value.slice none 0 0) ++ [Value.map (some b)]).toArray) w
section blk
variable {P : Program} {ops : Array Oper} {Q : Exit → Act → World → Prop} {w0 : World} {rest : List Oper} {l l' : List Value} {Γ Γb Δ Ε : List Atom} {ty : TypeId} {v mv : Value} {pos : String} {after : Array Edge} {d : Nat} {x y : Operand}
theorem pu_index_ar2 {T n k b m : Nat} {i : Int} {kk : IntKind} [h : Ev l x (.pointer (some ⟨b, 0, none⟩))] [hy : Ev l y (.int kk i)] [hm : ToN i m] [hT : Ar2 P T n k] (hk : 0 ≤ i ∧ i < n) : Pu P w0 l Γ (.indexAddr T x y) ty (.pointer (some ⟨b, m * k, none⟩)) := by
  obtain ⟨e, inf, ht, hi, hs⟩ := hT.ex
  refine pu_of (s := Instr.indexAt T (.pointer (some ⟨b, 0, none⟩)) (.int kk i)) (fun o ho _ => by unfold execOp; rw [ho]; simp only [h.eq, hy.eq]) (fun w hs' => ?_)
  have e1 := hm.eq
  simp [Instr.indexAt, asIntOf, run_underlying ht, sizeOf, typeInfo, hi, hs, hk.1, hk.2, Instr.sureAddr, e1, add_lit]
instance {T n k b m : Nat} {i : Int} {kk : IntKind} [h : Ev l x (.pointer (some ⟨b, 0, none⟩))] [hy : Ev l y (.int kk i)] [hm : ToN i m] [hT : Ar2 P T n k] : PuS P l Γ (.indexAddr T x y) ty (.pointer (some ⟨b, m * k, none⟩)) (0 ≤ i ∧ i < n) := ⟨fun h _ => pu_index_ar2 h⟩
theorem pu_index_arro {T n b o m : Nat} {k : Int} {kk : IntKind} [h : Ev l x (.pointer (some ⟨b, o, none⟩))] [hy : Ev l y (.int kk k)] [hm : ToN k m] [hT : ArT P T n] (hk : 0 ≤ k ∧ k < n) : Pu P w0 l Γ (.indexAddr T x y) ty (.pointer (some ⟨b, o + m, none⟩)) := by
  obtain ⟨e, i, ht, hi, hs, hn⟩ := hT.ex
  refine pu_of (s := Instr.indexAt T (.pointer (some ⟨b, o, none⟩)) (.int kk k)) (fun o ho _ => by unfold execOp; rw [ho]; simp only [h.eq, hy.eq]) (fun w hs' => ?_)
  have e1 := hm.eq
  simp [Instr.indexAt, asIntOf, run_underlying ht, sizeOf, typeInfo, hi, hs, hk.1, hk.2, Instr.sureAddr, e1, add_lit]
instance (priority := 500) {T n b o m : Nat} {k : Int} {kk : IntKind} [h : Ev l x (.pointer (some ⟨b, o, none⟩))] [hy : Ev l y (.int kk k)] [hm : ToN k m] [hT : ArT P T n] : PuS P l Γ (.indexAddr T x y) ty (.pointer (some ⟨b, o + m, none⟩)) (0 ≤ k ∧ k < n) := ⟨fun h _ => pu_index_arro h⟩
instance (priority := 50) {a b : List Value} [h : OneCs Γ a] [h' : OneCs Γ b] : OneCs Γ (a ++ b) := ⟨fun hs u hu => by
  rcases List.mem_append.1 hu with hu | hu
  · exact h.one hs u hu
  · exact h'.one hs u hu⟩
instance {T n b m : Nat} {α : Type} {iα : Rep α} [hn : PosN n] {cs : List Value} {xs : List (NE α)} [h : Ev l x (.pointer (some ⟨b, m, none⟩))] [hT : Sc P T] [hb : HasBk Γ b (cs ++ [mv])] [hr : HasIm (Ar n (NE α)) repAr Γ cs (Ar.mk xs)] :
    RedV (WL P ops Q w0 (⟨some d, .load T x, ty, pos, after, none⟩ :: rest) l Γ) (m < n) (fun v => WL P ops Q w0 rest (l.set d v) (.rd [v] (xs.getD m default).xs :: .rd [v] (xs.getD m default) :: Γ)) := ⟨fun s hw w hs => by
  obtain ⟨hbel, F, hnd, hl, hsep⟩ := hs
  obtain ⟨e, he⟩ := hb.get hsep
  obtain ⟨v, hv, hrd⟩ := ar_get rfl (hr.get hsep) s
  have hc : w.cell? ⟨b, m, none⟩ = some v := by
    have hm : m < cs.length := (List.getElem?_eq_some_iff.1 hv).1
    simp [World.cell?, he, List.getElem?_append_left hm, hv]
  refine wl_op (v := v) (w' := w) rfl (run_value (f := Next.value) (s := Instr.loadAt T ((E l).eval x)) ?_) ?_
  · rw [h.eq]; simp [Instr.loadAt, Instr.sureAddr, loadVar, Sem.run_bind, hT.agg, load, Sem.run, hc]
  · rw [E_put]
    exact hw v _ ⟨hbel, F, hnd, hl, [], F, rfl, ⟨rfl, NERd.list hrd⟩, [], F, rfl, ⟨rfl, hrd⟩, hsep⟩⟩
instance {T n b : Nat} {α : Type} {iα : Rep α} [hn : PosN n] {cs : List Value} {xs : List (NE α)} [h : Ev l x (.pointer (some ⟨b, n, none⟩))] [hT : Sc P T] [hb : HasBk Γ b (cs ++ [mv])] [hr : HasIm (Ar n (NE α)) repAr Γ cs (Ar.mk xs)] : PuC P l Γ (.load T x) ty mv := ⟨fun w0 =>
  pu_of (s := Instr.loadAt T (.pointer (some ⟨b, n, none⟩))) (fun o ho _ => by unfold execOp; rw [ho]; simp only [h.eq]) (fun w hs => by
    obtain ⟨e, he⟩ := hs.bk (hr := hb)
    obtain ⟨_, F, _, _, hsep⟩ := hs
    have hlen : cs.length = n := by
      have h2 := hr.get hsep
      have := Rep.rd_len h2
      rw [this]; show n * 1 = n; rw [Nat.mul_one]
    have hc : w.cell? ⟨b, n, none⟩ = some mv := by
      simp [World.cell?, he, ← hlen]
    simp [Instr.loadAt, Instr.sureAddr, loadVar, Sem.run_bind, hT.agg, load, Sem.run, hc])⟩
theorem wl_store_blk {T n b m : Nat} {α : Type} {iα : Rep α} [hn : PosN n] {cs : List Value} {xs : List (NE α)} {ys : List α} [hx : Ev l x (.pointer (some ⟨b, m, none⟩))] [hy : Ev l y v] [ho : OneC Γ v] [hT : Sc P T] [hb : PullBk Γ b (cs ++ [mv]) Δ] [hr : HasIm (Ar n (NE α)) repAr Δ cs (Ar.mk xs)] [hu : HasIm (List α) repList Δ [v] ys] (hm : m < n ∧ 0 < ys.length)
    (h : WL P ops Q w0 rest l (.bk b (cs.set m v ++ [mv]) :: .rd (cs.set m v) (Ar.mk (xs.set m ⟨ys⟩) : Ar n (NE α)) :: Δ)) :
    WL P ops Q w0 (⟨none, .store T x y, ty, pos, after, none⟩ :: rest) l Γ := by
  intro w hs
  have h1 : v.oneCell' = true := by
    obtain ⟨_, F, _, _, hs⟩ := hs
    exact ho.one hs
  have hs1 := hs.perm hb.perm
  obtain ⟨e, he⟩ := hs1.bk (hr := HasBk.here)
  have hlen : cs.length = n := by
    obtain ⟨_, F, _, _, hs⟩ := hs1
    obtain ⟨f, g, _, _, hsep⟩ := hs
    have h2 := hr.get hsep
    have := Rep.rd_len h2
    rw [this]; show n * 1 = n; rw [Nat.mul_one]
  have hs2 := hs1.store m v
  rw [List.set_append_left _ _ (by omega)] at hs2
  have hcell : w.cell? ⟨b, m, none⟩ = some (cs[m]'(by omega)) := by
    simp [World.cell?, he, List.getElem?_append_left (show m < cs.length by omega), List.getElem?_eq_getElem (show m < cs.length by omega)]
  have hfr : w.frozen? ⟨b, m, none⟩ = false := by simp [World.frozen?, he]
  have hst : (store (⟨b, m, none⟩ : Addr) v).run P w = .ok () (w.setCell ⟨b, m, none⟩ v) := by
    cases v <;> simp_all [store, Sem.run, Value.oneCell']
  refine wpList_plain rfl fun K hK => ?_
  unfold Oper.wp
  have hrun : (execOp (E l).eval ⟨none, .store T x y, ty, pos, after, none⟩).run P w = .ok .skip (w.setCell ⟨b, m, none⟩ v) := by
    show (do Instr.storeAt T ((E l).eval x) ((E l).eval y); pure Next.skip : Sem Next).run P w = _
    simp only [hx.eq, hy.eq, Sem.run_bind, Instr.storeAt, Instr.sureAddr, Sem.run_pure, Result.andThen_ok, storeVar, hT.size, cells_one h1]
    simp only [List.size_toArray, List.length_cons, List.length_nil, Nat.zero_add, ne_eq, not_true_eq_false, if_false, Sem.run_pure, Result.andThen_ok, Sem.run_bind, storeCells]
    have : (⟨b, m, none⟩ : Addr).add 0 = ⟨b, m, none⟩ := by simp [Addr.add]
    rw [this]
    simp only [hst, Result.andThen_ok, Sem.run_pure]
  rw [hrun, Oper.upon_skip, E_put_none]
  refine hK _ _ (h _ ?_)
  obtain ⟨hbel, F, hnd, hl, f, g, rfl, hA, hsep⟩ := hs2
  exact ⟨hbel, f ++ g, hnd, hl, f, g, rfl, hA, [], g, rfl, ⟨rfl, by
    have := hr.get hsep
    exact ⟨by simpa using this.1, this.2.set rfl (show NERd _ _ [v] ys from .inr ⟨fun e => by have := hm.2; rw [e] at this; simp at this, hu.get hsep⟩)⟩⟩, hsep⟩
instance {T n b m : Nat} {α : Type} {iα : Rep α} [hn : PosN n] {cs : List Value} {xs : List (NE α)} {ys : List α} [hx : Ev l x (.pointer (some ⟨b, m, none⟩))] [hy : Ev l y v] [ho : OneC Γ v] [hT : Sc P T] [hb : PullBk Γ b (cs ++ [mv]) Δ] [hr : HasIm (Ar n (NE α)) repAr Δ cs (Ar.mk xs)] [hu : HasIm (List α) repList Δ [v] ys] :
    RedS (WL P ops Q w0 (⟨none, .store T x y, ty, pos, after, none⟩ :: rest) l Γ) (m < n ∧ 0 < ys.length) (WL P ops Q w0 rest l (.bk b (cs.set m v ++ [mv]) :: .rd (cs.set m v) (Ar.mk (xs.set m ⟨ys⟩) : Ar n (NE α)) :: Δ)) := ⟨fun s h => wl_store_blk s h⟩
/-- The block is made: all nil, and a map. -/
theorem wl_build_blk {T n : Nat} {α : Type} {iα : Rep α} {P' : Program} {k : TypeId} {κ : Type} [Ky κ] {M : Mp P' k κ} [hT : Bld P T n] [hn : PosN n] [hx : Ev l x mv] [hr : HasRd (Mp P' k κ) repMp Γ [mv] M]
    (h : ∀ cs, WL P ops Q w0 rest (l.set d (.agg (cs ++ [mv]).toArray)) (.rd cs (Ar.mk (List.replicate n ⟨[]⟩) : Ar n (NE α)) :: Γ)) : WL P ops Q w0 (⟨some d, .build T #[(1, x)], ty, pos, after, none⟩ :: rest) l Γ := fun w hs => by
  obtain ⟨b, hb, _⟩ := hs.rd (hr := hr)
  simp only [List.cons.injEq, and_true] at hb
  subst hb
  exact wl_pure (v := .agg (List.replicate n (Value.slice none 0 0) ++ [Value.map (some b)]).toArray) (hd := ⟨rfl⟩) (pu_of (s := Instr.build T #[(1, .map (some b))]) (fun o ho _ => by unfold execOp; rw [ho]; simp [hx.eq]) (fun w _ => hT.run b w)) (wl_nils (α := α) (n := n) (List.replicate n (.slice none 0 0)) rfl (h _)) w hs
instance {T n : Nat} {k : TypeId} {κ : Type} [Ky κ] {M : Mp P k κ} [hT : Bld P T n] [hn : PosN n] [hx : Ev l x mv] [hr : HasRd (Mp P k κ) repMp Γ [mv] M] :
    RedZ (WL P ops Q w0 (⟨some d, .build T #[(1, x)], ty, pos, after, none⟩ :: rest) l Γ) (fun cs => WL P ops Q w0 rest (l.set d (.agg (cs ++ [mv]).toArray)) (.rd cs (Ar.mk (List.replicate n ⟨[]⟩) : Ar n (NE Int)) :: Γ)) := ⟨fun h => wl_build_blk h⟩
/-! ### Four numbers -/
class B4 (P : Program) (T : TypeId) : Prop where
  run : ∀ (a b c d : Int) w, (Instr.build T #[(0, .int .i64 a), (1, .int .i64 b), (2, .int .i64 c), (3, .int .i64 d)]).run P w = .ok (.agg #[.int .i64 a, .int .i64 b, .int .i64 c, .int .i64 d]) w
instance {T : TypeId} {x0 x1 x2 x3 : Operand} {a b c e : Int} [hT : B4 P T] [h0 : Ev l x0 (.int .i64 a)] [h1 : Ev l x1 (.int .i64 b)] [h2 : Ev l x2 (.int .i64 c)] [h3 : Ev l x3 (.int .i64 e)] : PuC P l Γ (.build T #[(0, x0), (1, x1), (2, x2), (3, x3)]) ty (.agg #[.int .i64 a, .int .i64 b, .int .i64 c, .int .i64 e]) := ⟨fun w0 =>
  pu_of (s := Instr.build T #[(0, .int .i64 a), (1, .int .i64 b), (2, .int .i64 c), (3, .int .i64 e)]) (fun o ho _ => by unfold execOp; rw [ho]; simp [h0.eq, h1.eq, h2.eq, h3.eq]) (fun w _ => hT.run a b c e w)⟩
/-! ### copy into an array variable -/
theorem rdl_ints {ok : Nat → Prop} {w : World} : ∀ {cells : List Value} {xs : List Int}, RdL ok w cells xs → cells = xs.map fun z => Value.int .i64 z
  | _, [], h => h
  | _, x :: xs, ⟨c, d, e, h, h'⟩ => by
    rw [e, show c = [.int .i64 x] from h.1, rdl_ints h']; rfl
theorem wl_copy {T U n b by_ cap : Nat} {cs : List Value} {xs : List Int} {sv : Value} [hx : Ev l x (.slice (some ⟨b, 0, none⟩) n cap)] [hy : Ev l y sv] [hT : Sl P T 1 by_] [hb : PullBk Γ b cs Δ] [hr : HasRd (List Int) repList Δ [sv] xs] (hlen : 0 < xs.length ∧ xs.length ≤ n ∧ xs.length ≤ cs.length)
    (h : WL P ops Q w0 rest (l.set d (.int .i64 xs.length)) (.bk b (xs.map (fun z => Value.int .i64 z) ++ cs.drop xs.length) :: Δ)) :
    WL P ops Q w0 (⟨some d, .call { callee := .builtin .copy, args := #[x, y], argTypes := #[T, U] }, ty, pos, after, none⟩ :: rest) l Γ := by
  intro w hs
  obtain ⟨e, i, z, ht, hi, hik, hib, hz, hzk, hpos⟩ := hT.ex
  have hs1 := hs.perm hb.perm
  obtain ⟨hbel, F, hnd, hl, f, g, rfl, ⟨rfl, e', hg⟩, hsep⟩ := hs1
  have hrd := hr.get hsep
  obtain ⟨a, cp, hv, hc1, hc2, hc3, hc4⟩ := (id hrd : Rep.rd _ _ _ _)
  have hv' : sv = .slice a xs.length cp := by simpa using hv
  subst hv'
  have h1 : ∀ v ∈ xs.map (fun z => Value.int .i64 z), v.oneCell' = true := fun v hv => by
    obtain ⟨z, _, rfl⟩ := List.mem_map.1 hv; rfl
  have hmin : (xs.map (fun z => Value.int .i64 z)).length = Nat.min xs.length n := by rw [List.length_map]; exact (Nat.min_eq_left hlen.2.1).symm
  have hrun : ∃ w', (Builtin.copy_ #[T, U] ty #[.slice (some ⟨b, 0, none⟩) n cap, .slice a xs.length cp]).run P w = .ok (.int .i64 xs.length) w' ∧ Sat w0 w' (.bk b (xs.map (fun z => Value.int .i64 z) ++ cs.drop xs.length) :: Δ) := by
    obtain ⟨bb, off, cells, rfl, _, hcell, hrl⟩ := hc4 hlen.1
    obtain rfl := rdl_ints hrl
    have hz : (P.info? e).map (·.size) = some 1 := by rw [hi]; simp [hik]
    have := run_copy_row (P := P) w T U ty e b 0 n cap ⟨bb, off, none⟩ xs.length cp cs.toArray e' (xs.map fun z => Value.int .i64 z) ht hz hg hmin (fun j v hj => by
      have hj' := (List.getElem?_eq_some_iff.1 hj).1
      rw [add_lit, hcell j hj', hj]) (by simpa using hlen.2.2) h1
    rw [List.length_map] at this
    refine ⟨_, this, ?_⟩
    have hbg : b ∉ g := by have := hnd; simp at this; exact this.1
    refine Sat.step' (Δ' := [.bk b _]) (Γ := Δ) (f := [b]) (g := g) (w := w) hbel hnd hl hsep ⟨rfl, rfl, rfl, by simp [World.setRow]⟩ (fun k _ hk => setRow_other w b k _ (fun e => hk (by simp [e]))) [b] (by simp) (by simp) (fun ok' _ => ?_)
    refine ⟨[b], [], rfl, ⟨rfl, e', ?_⟩, rfl⟩
    rw [setRow_heap w b cs.toArray _ e' _ hg]
    simp
  obtain ⟨w', hrun, hs'⟩ := hrun
  refine wl_op (v := .int .i64 xs.length) (w' := w') rfl ?_ ?_
  · have : execOp (E l).eval ⟨some d, .call { callee := .builtin .copy, args := #[x, y], argTypes := #[T, U] }, ty, pos, after, none⟩ = (do pure (.value (← Builtin.copy_ #[T, U] ty #[.slice (some ⟨b, 0, none⟩) n cap, .slice a xs.length cp])) : Sem Next) := by
      unfold execOp
      simp [resolve, invoke, builtin, hx.eq, hy.eq, Pure.pure, Bind.bind, Sem.bind]
    rw [this]
    exact run_value (f := Next.value) hrun
  · rw [E_put]
    exact h w' hs'
instance {T U n b by_ cap : Nat} {cs : List Value} {xs : List Int} {sv : Value} [hx : Ev l x (.slice (some ⟨b, 0, none⟩) n cap)] [hy : Ev l y sv] [hT : Sl P T 1 by_] [hb : PullBk Γ b cs Δ] [hr : HasRd (List Int) repList Δ [sv] xs] :
    RedS (WL P ops Q w0 (⟨some d, .call { callee := .builtin .copy, args := #[x, y], argTypes := #[T, U] }, ty, pos, after, none⟩ :: rest) l Γ) (0 < xs.length ∧ xs.length ≤ n ∧ xs.length ≤ cs.length) (WL P ops Q w0 rest (l.set d (.int .i64 xs.length)) (.bk b (xs.map (fun z => Value.int .i64 z) ++ cs.drop xs.length) :: Δ)) := ⟨fun s h => wl_copy s h⟩
/-- A slice of a whole array variable, which stays. -/
theorem pu_slice_all {T n b : Nat} [hx : Ev l x (.pointer (some ⟨b, 0, none⟩))] [hT : ArT P T n] : Pu P w0 l Γ (.slice T x none none none) ty (.slice (some ⟨b, 0, none⟩) n n) := by
  obtain ⟨e, i, ht, hi, hs1, hn2⟩ := hT.ex
  exact pu_of (s := Instr.sliceAt T (.pointer (some ⟨b, 0, none⟩)) none none none) (fun o ho _ => by unfold execOp; rw [ho]; simp only [hx.eq, Option.map]) (fun w _ => by
    have : ¬ n = 0 := by omega
    simp [Instr.sliceAt, Instr.sliceBounds, Instr.sureAddr, run_underlying ht, sizeOf, typeInfo, hi, this, Addr.add])
instance (priority := 300) {T n b : Nat} [hx : Ev l x (.pointer (some ⟨b, 0, none⟩))] [hT : ArT P T n] : PuC P l Γ (.slice T x none none none) ty (.slice (some ⟨b, 0, none⟩) n n) := ⟨fun _ => pu_slice_all⟩
end blk
end Go.Eng
namespace Go.Proofs
open Go Go.Eng Go.WideMaps
theorem arr4 : ArrKey Try.prog 202 2 4 := ⟨Try.underlying202, by kernel_rfl, by kernel_rfl, by kernel_rfl⟩
instance kyP4 : KyP Try.prog 202 K4 := arr_keyed arr4 Try.underlying2 ⟨Try.prog.types.size - 1, by kernel_rfl⟩
instance mpT4 : MpT Try.prog 103 202 (.slice none 0 0) := ⟨22, Try.underlying103, fun w => Try.zeroValue22 w⟩
instance kyT4 : KyT Try.prog 103 K4 := ⟨inferInstance⟩
instance : Ar2 Try.prog 102 16 61 := ⟨_, Try.t101, Try.underlying102, by kernel_rfl, rfl⟩
instance : Ag Try.prog 105 977 := ⟨fun w => Try.isAgg105 w, fun w => Try.sizeOf105 w⟩
instance : Fo Try.prog 105 0 0 := ⟨fun w a => by simp [Instr.fieldAt, Instr.sureAddr, fieldPlace]⟩
instance : Fo Try.prog 105 1 976 := ⟨fun w a => by simp [Instr.fieldAt, Instr.sureAddr, fieldPlace]⟩
instance : B4 Try.prog 202 := ⟨fun a b c d w => run_build w 202 #[(0, .int .i64 a), (1, .int .i64 b), (2, .int .i64 c), (3, .int .i64 d)] _ (by kernel_rfl)⟩
instance : Bld Try.prog 105 976 := ⟨fun b w => run_build w 105 #[(1, .map (some b))] _ (by kernel_rfl)⟩
end Go.Proofs
