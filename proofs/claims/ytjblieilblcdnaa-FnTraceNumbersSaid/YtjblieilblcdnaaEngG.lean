/- The rules of the walk: literals, parts of slices, elements read and written. -/
import Derived.Test.YtjblieilblcdnaaEngF
namespace Go.Eng
open Go Go.RowKit
set_option linter.unusedVariables false
set_option linter.unusedSimpArgs false

theorem foldl_splice : ∀ (c : List Value) (off k : Nat) (cells : List Value), off + k + c.length ≤ cells.length →
    (c.zipIdx k).foldl (fun (cs : Array Value) x => cs.setIfInBounds (off + x.2) x.1) cells.toArray = (cells.take (off + k) ++ c ++ cells.drop (off + k + c.length)).toArray
  | [], off, k, cells, h => by simp
  | x :: c, off, k, cells, h => by
    have h' : off + k + c.length + 1 ≤ cells.length := by simp at h; omega
    simp only [List.zipIdx_cons, List.foldl_cons, List.setIfInBounds_toArray]
    rw [foldl_splice c off (k + 1) _ (by rw [List.length_set]; omega)]
    congr 1
    have e1 : (cells.set (off + k) x).take (off + (k + 1)) = cells.take (off + k) ++ [x] := by
      rw [← Nat.add_assoc, List.take_succ_eq_append_getElem (by rw [List.length_set]; omega)]
      simp [List.take_set_of_le]
    have e2 : (cells.set (off + k) x).drop (off + (k + 1) + c.length) = cells.drop (off + k + (x :: c).length) := by
      rw [List.drop_set_of_lt (by omega)]
      congr 1
      simp; omega
    rw [e1, e2]
    simp

class LenIs {α : Type} (l : List α) (n : outParam Nat) : Prop where
  eq : l.length = n
instance {α : Type} : LenIs ([] : List α) 0 := ⟨rfl⟩
instance {α : Type} {a : α} {l : List α} {n : Nat} [h : LenIs l n] : LenIs (a :: l) (n + 1) := ⟨by simp [h.eq]⟩

class NatEq (a b : Nat) : Prop where
  eq : a = b
instance {a : Nat} : NatEq a a := ⟨rfl⟩

/-- The parts of a literal written into its cells. -/
class BuildL (Γ : List Atom) (l : List Value) (places : List (Nat × Nat)) (cells : List Value) (ps : List (Nat × Operand)) (out : outParam (List Value)) : Prop where
  run : ∀ {ok w F}, Sep ok w Γ F → Instr.fill (places[·]?) cells.toArray (ps.map fun p => (p.1, (E l).eval p.2)) = some out.toArray
instance {Γ : List Atom} {l : List Value} {places : List (Nat × Nat)} {cells : List Value} : BuildL Γ l places cells [] cells := ⟨fun _ => rfl⟩
theorem fill_step {place : Nat → Option (Nat × Nat)} {i off size : Nat} {v : Value} {c cells : List Value} {rest : List (Nat × Value)} (hp : place i = some (off, size)) (hv : v.cells = c.toArray) (hc : c.length = size) (hle : off + c.length ≤ cells.length) :
    Instr.fill place cells.toArray ((i, v) :: rest) = Instr.fill place (cells.take off ++ c ++ cells.drop (off + c.length)).toArray rest := by
  have hf := foldl_splice c off 0 cells (by omega)
  simp only [Nat.add_zero] at hf
  simp only [Instr.fill, hp, hv]
  have h1 : (c.toArray.size ≠ size || off + c.toArray.size > cells.toArray.size) = false := by simp [hc]; omega
  rw [h1]
  simp only [Bool.false_eq_true, if_false]
  rw [← hf]
  congr 1
  simp
instance {Γ : List Atom} {l : List Value} {places : List (Nat × Nat)} {cells cells' out c : List Value} {i off size n : Nat} {x : Operand} {v : Value} {ps : List (Nat × Operand)} [hp : Ge places i (off, size)] [hx : Ev l x v] [hc : Cs Γ v c] [hl : LenIs c n] [hsp : Sp cells off c cells'] [hne : NatEq n size] [hb : BuildL Γ l places cells' ps out] :
    BuildL Γ l places cells ((i, x) :: ps) out := ⟨fun hs => by
  obtain ⟨e, hle⟩ := hsp.eq
  simp only [List.map_cons, hx.eq]
  rw [fill_step hp.eq (hc.eq hs).1 (hl.eq.trans hne.eq) hle, ← e]
  exact hb.run hs⟩

/-- T is a struct type, with its fields' places and its zero. -/
class StT (P : Program) (T : TypeId) (places : outParam (List (Nat × Nat))) (zs : outParam (List Value)) : Prop where
  ex : ∃ fields it z, P.underlying T = some (.struct fields) ∧ fields.toList.mapM (fun f => (P.info? f.type).map fun i => (f.offset, i.size)) = some places ∧ P.info? T = some it ∧ it.zero = some z ∧ z.cells = zs.toArray

section ops
variable {P : Program} {ops : Array Oper} {Q : Exit → Act → World → Prop} {w0 : World} {rest : List Oper} {l l' : List Value} {Γ Δ Ε : List Atom} {ty : TypeId} {v : Value} {pos : String} {after : Array Edge} {d : Nat}

theorem pu_build {T : TypeId} {ps : List (Nat × Operand)} {places : List (Nat × Nat)} {zs out : List Value} [hT : StT P T places zs] [hb : BuildL Γ l places zs ps out] : Pu P w0 l Γ (.build T ps.toArray) ty (.agg out.toArray) := by
  obtain ⟨fields, it, z, hu, hp, hi, hz, hzc⟩ := hT.ex
  refine pu_of (s := Instr.build T (ps.toArray.map fun (i, x) => (i, (E l).eval x))) (fun o ho _ => by unfold execOp; rw [ho]) (fun w hs => ?_)
  obtain ⟨_, F, _, _, hsep⟩ := hs
  have h := hb.run hsep
  refine run_build w T _ out.toArray ?_
  simp only [Program.built, hi, hu, hz, hp, hzc]
  simpa using h

/-- The parts of a slice literal, in order, each by its cells. -/
class PartsL (Γ : List Atom) (l : List Value) (k : Nat) (i : Nat) (ps : List (Nat × Operand)) (groups : outParam (List (List Value))) : Prop where
  idx : ps.map (·.1) = List.range' i groups.length
  run : ∀ {ok w F}, Sep ok w Γ F → ∀ (j : Nat) (p : Nat × Operand) (g : List Value), ps[j]? = some p → groups[j]? = some g → ((E l).eval p.2).cells = g.toArray ∧ g.length = k ∧ ∀ c ∈ g, c.oneCell' = true
instance {Γ : List Atom} {l : List Value} {k i : Nat} : PartsL Γ l k i [] [] := ⟨rfl, fun _ j p g h => by simp at h⟩
instance {Γ : List Atom} {l : List Value} {k i n : Nat} {x : Operand} {v : Value} {g : List Value} {ps : List (Nat × Operand)} {groups : List (List Value)} [hx : Ev l x v] [hc : Cs Γ v g] [hl : LenIs g n] [hne : NatEq n k] [hp : PartsL Γ l k (i + 1) ps groups] :
    PartsL Γ l k i ((i, x) :: ps) (g :: groups) := ⟨by simp [hp.idx, List.range'_succ], fun hs j p g' h1 h2 => by
  cases j with
  | zero => simp at h1 h2; subst h1 h2; exact ⟨by rw [hx.eq]; exact (hc.eq hs).1, hl.eq.trans hne.eq, (hc.eq hs).2⟩
  | succ j => exact hp.run hs j p g' (by simpa using h1) (by simpa using h2)⟩

theorem fill_parts {k : Nat} : ∀ (ps : List (Nat × Value)) (groups : List (List Value)) (i : Nat) (done rest : List Value), ps.map (·.1) = List.range' i groups.length → done.length = i * k → groups.length * k ≤ rest.length →
    (∀ (j : Nat) p g, ps[j]? = some p → groups[j]? = some g → p.2.cells = g.toArray ∧ g.length = k) →
    Instr.fill (fun i => some (i * k, k)) (done ++ rest).toArray ps = some (done ++ groups.flatten ++ rest.drop (groups.length * k)).toArray
  | [], [], i, done, rest, _, _, _, _ => by simp [Instr.fill]
  | [], g :: gs, i, done, rest, h, _, _, _ => by simp [List.range'_succ] at h
  | p :: ps, [], i, done, rest, h, _, _, _ => by simp at h
  | (n, v) :: ps, g :: gs, i, done, rest, h, hd, hl, hp => by
    simp only [List.map_cons, List.length_cons, List.range'_succ, List.cons.injEq] at h
    obtain ⟨rfl, hi⟩ := h
    obtain ⟨h1, h2⟩ := hp 0 (n, v) g (by simp) (by simp)
    have hmul : (gs.length + 1) * k = gs.length * k + k := by rw [Nat.add_mul, Nat.one_mul]
    have hl' : gs.length * k + k ≤ rest.length := by rw [← hmul]; simpa using hl
    rw [fill_step (off := n * k) (size := k) rfl h1 h2 (by rw [List.length_append, hd, h2]; omega)]
    have e : (done ++ rest).take (n * k) ++ g ++ (done ++ rest).drop (n * k + g.length) = (done ++ g) ++ rest.drop k := by
      rw [← hd, List.take_left, List.drop_append, List.drop_of_length_le (Nat.le_add_right _ _), Nat.add_sub_cancel_left, h2]; simp
    rw [e, fill_parts ps gs (n + 1) (done ++ g) (rest.drop k) hi (by rw [List.length_append, hd, h2, Nat.add_mul, Nat.one_mul]) (by rw [List.length_drop]; omega) (fun j p g hj hg => hp (j + 1) p g (by simpa using hj) (by simpa using hg))]
    simp only [List.flatten_cons, List.append_assoc, List.drop_drop, List.length_cons, hmul, Nat.add_comm k]

/-- Groups of cells, owned one by one. -/
inductive OwnL {α : Type} [Rep α] : List Atom → List (List Value) → List α → List Atom → Prop
  | nil {Γ : List Atom} : OwnL Γ [] [] Γ
  | cons {Γ Δ Ε : List Atom} {c : List Value} {cs : List (List Value)} {x : α} {xs : List α} : Own Γ c x Δ → OwnL Δ cs xs Ε → OwnL Γ (c :: cs) (x :: xs) Ε

theorem OwnL.sep {α : Type} [Rep α] {ok : Nat → Prop} {w : World} : ∀ {Γ : List Atom} {gs : List (List Value)} {xs : List α} {Δ : List Atom}, OwnL Γ gs xs Δ → ∀ {F : List Nat}, Sep ok w Γ F →
    ∃ f g, (f ++ g).Perm F ∧ OwL ok w f gs.flatten xs ∧ Sep ok w Δ g ∧ gs.length = xs.length
  | _, _, _, _, .nil, F, hs => ⟨[], F, .refl _, ⟨rfl, rfl⟩, hs, rfl⟩
  | _, _, _, _, .cons h h', F, hs => by
    obtain ⟨G, hG, f, g, rfl, h1, h2⟩ := h hs
    obtain ⟨f', g', hp, h3, h4, h5⟩ := OwnL.sep h' h2
    exact ⟨f ++ f', g', by rw [List.append_assoc]; exact (hp.append_left f).trans hG, ⟨f, f', _, _, rfl, rfl, h1, h3⟩, h4, by simp [h5]⟩

theorem run_buildSlice {T e n : Nat} {i : TypeInfo} {z : Value} {parts : Array (Nat × Value)} {cells : List Value} (ht : P.underlying T = some (.slice e)) (hi : P.info? e = some i) (hz : i.zero = some z) (hnk : n * i.size ≤ 16777216)
    (hfill : ∀ zr : List Value, zr.length = n * i.size → Instr.fill (fun j => some (j * i.size, i.size)) zr.toArray parts.toList = some cells.toArray) (w : World) :
    (Instr.buildSlice T n parts).run P w = .ok (.slice (some ⟨w.heap.size, 0, none⟩) n n) (w.alloc (.cells cells.toArray e)) := by
  have hnk' : ¬ (16777216 < n * i.size) := by omega
  have hf : ∀ zr : Array Value, zr.size = n * i.size → Instr.fill (fun j => some (j * i.size, i.size)) zr parts.toList = some cells.toArray := fun zr h => by
    have := hfill zr.toList (by simpa using h)
    simpa using this
  by_cases h0 : n * i.size = 0
  · have := hf ((Array.range 0).map (fun j => (#[] : Array Value)[j % 0]!)) (by simp [h0])
    simp [Instr.buildSlice, run_underlying ht, sizeOf, typeInfo, hi, h0] at this ⊢
    simp [this, newRow]
  · have := hf ((Array.range (n * i.size)).map (fun j => z.cells[j % z.cells.size]!)) (by simp)
    simp only [Instr.buildSlice, sizeOf, zeroValue, typeInfo, Sem.run_bind, run_underlying ht, Result.andThen_ok]
    simp [hi, hz, h0, hnk', this, newRow]

/-- []T{a, b, ..} -/
theorem wl_buildSlice {α : Type} [iα : Rep α] {T k by_ n : Nat} {ps : List (Nat × Operand)} {groups : List (List Value)} {xs : List α} [hT : Sl P T k by_] [hp : PartsL Γ l k 0 ps groups] (ho : OwnL Γ groups xs Δ) (hk : k = Rep.sz α) (hn : n = xs.length) (hnk : n * k ≤ 16777216)
    (h : ∀ sv, WL P ops Q w0 rest (l.set d sv) (.ow [sv] xs :: Δ)) : WL P ops Q w0 (⟨some d, .buildSlice T n ps.toArray, ty, pos, after, none⟩ :: rest) l Γ := by
  intro w hs
  obtain ⟨e, i, z, ht, hi, hik, hib, hz, hzk, hpos⟩ := hT.ex
  obtain ⟨hb, F, hnd, hl, hsep⟩ := hs
  obtain ⟨f, g, hperm, hO, hsep', hlen⟩ := ho.sep hsep
  have hgl : groups.length = n := hlen.trans hn.symm
  have hfl : groups.flatten.length = n * k := by rw [hO.len, hn, hk]
  have hn2 : n ≤ n * k := Nat.le_mul_of_pos_right _ (by rw [hk]; exact Rep.pos)
  have hidx : (ps.map fun p => (p.1, (E l).eval p.2)).map (·.1) = List.range' 0 groups.length := by
    rw [List.map_map]; exact hp.idx
  have hr := run_buildSlice (P := P) (n := n) (parts := ps.toArray.map fun (i, x) => (i, (E l).eval x)) (cells := groups.flatten) ht hi hz (by rw [hik]; exact hnk) (fun zr hzr => by
    have hfill := fill_parts (k := k) (ps.map fun p => (p.1, (E l).eval p.2)) groups 0 [] zr hidx (by simp) (by rw [hgl, hzr, hik]; exact Nat.le_refl _) (fun j p gg hj hg => by
      simp only [List.getElem?_map, Option.map_eq_some_iff] at hj
      obtain ⟨q, hq, rfl⟩ := hj
      have := hp.run hsep j q gg hq hg
      exact ⟨this.1, this.2.1⟩)
    rw [List.drop_of_length_le (by rw [hgl, hzr, hik]; exact Nat.le_refl _)] at hfill
    simpa [hik] using hfill) w
  refine wl_op (v := .slice (some ⟨w.heap.size, 0, none⟩) n n) (w' := w.alloc (.cells groups.flatten.toArray e)) rfl (run_value (f := Next.value) hr) ?_
  rw [E_put]
  refine h _ _ ?_
  have hfn : (f ++ g).Nodup := hperm.symm.nodup hnd
  have hlt : ∀ b ∈ f, b < w.heap.size := hO.lt
  refine Sat.step' (Δ' := [.ow [_] xs]) (Γ := Δ) (f := f) (g := g) hb hfn (fun b hb => hl b (hperm.mem_iff.1 hb)) (hsep'.mono (fun b hb _ => ⟨fun h => hb (hperm.mem_iff.1 h), rfl⟩) (Nat.le_refl _) (fun _ _ => rfl))
    ⟨rfl, rfl, rfl, by simp, (by first | exact Nat.le_refl _ | exact Nat.le_add_right _ _)⟩ (fun b hb _ => Below.heap_alloc _ _ _ hb) (w.heap.size :: f) (List.nodup_cons.2 ⟨fun h => Nat.lt_irrefl _ (hlt _ h), (List.nodup_append.1 hfn).1⟩)
    (fun b hb => by
      rcases List.mem_cons.1 hb with rfl | hb
      · exact .inr (Nat.le_refl _)
      · exact .inl hb) (fun ok' hok' => ⟨w.heap.size :: f, [], by simp, ?_, rfl⟩)
  show Rep.ow _ _ _ _ _
  rw [ow_list]
  refine .inr ⟨w.heap.size, n, _, e, f, groups.flatten, by rw [hn], rfl, heap_alloc_new w _, by omega, by simp only [maxLen]; omega, by omega, by simp [hfl, hk], ?_, ?_⟩
  · rw [List.toList_toArray, ← hn, ← hk, ← hfl, List.take_length]
  · exact hO.mono (fun b hb hlt => ⟨hok' b (fun h => hb (hperm.mem_iff.1 h)) hlt, Below.heap_alloc _ _ _ hlt⟩) (fun b hb => Below.heap_alloc _ _ _ (hlt b hb))

/-- out[i] = x, out the call's own. -/
theorem wl_store_elem {α : Type} {iα : Rep α} {T k kk : Nat} {x y : Operand} {sv : Value} {n : Int} {xs : List α} {vc : List Value} {u : α} [hx : Ev l x (.pointer (some (elemA sv n k)))] [hy : Ev l y v] [hc : Cs Γ v vc] [hT : Sz P T kk] [h1 : PullOw (List α) repList Γ [sv] xs Δ]
    (ho : Own Δ vc u Ε) (hk : k = Rep.sz α) (hkk : kk = Rep.sz α) (hi : 0 ≤ n ∧ n < xs.length) (h : WL P ops Q w0 rest l (.ow [sv] (xs.set n.toNat u) :: Ε)) :
    WL P ops Q w0 (⟨none, .store T x y, ty, pos, after, none⟩ :: rest) l Γ := by
  intro w hs
  obtain ⟨hvc, hone⟩ := hs.cs (hc := hc)
  obtain ⟨hb, F, hnd, hl, f, g, rfl, hf, hΔ⟩ := hs.perm h1.perm
  obtain ⟨g2, hg2, fx, ge, rfl, hx2, hE⟩ := ho hΔ
  have how : Rep.ow (· ∉ f ++ g) w f [sv] xs := hf
  have hux : Rep.ow (· ∉ f ++ g) w fx vc u := hx2
  have hvl : vc.length = Rep.sz α := Rep.rd_len (x := u) (Rep.ow_rd (ok' := fun _ => True) hux (fun _ _ => trivial) (fun _ _ => trivial))
  rw [ow_list] at how
  rcases how with ⟨_, rfl, rfl⟩ | ⟨b, cap, cur, e, G, cells, hov, rfl, hgb, hcap, hcapm, hlen, hcs, htake, hO⟩
  · simp at hi; omega
  simp only [List.cons.injEq, and_true] at hov
  subst hov
  have hin : n.toNat < xs.length := by omega
  obtain ⟨f1, fo, f2, p, c, s, rfl, hcells, hold, hO1, hO2⟩ := hO.get n.toNat hin
  have hpl : p.length = n.toNat * Rep.sz α := by rw [hO1.len, List.length_take]; congr 1; omega
  have hcl : c.length = Rep.sz α := Rep.rd_len (x := xs[n.toNat]) (Rep.ow_rd (ok' := fun _ => True) hold (fun _ _ => trivial) (fun _ _ => trivial))
  have htl : cells.length = xs.length * Rep.sz α := hO.len
  have hcur : cur.toList = p ++ c ++ s ++ cur.toList.drop (xs.length * Rep.sz α) := by rw [← hcells, ← htake]; simp
  have hle : p.length + 0 + vc.length ≤ cur.size := by
    have := congrArg List.length hcur
    simp only [List.length_append, Array.length_toList] at this
    omega
  have hr := run_storeCells_at P b p.length e vc 0 cur w hgb hle hone
  simp only [Nat.add_zero] at hr
  have hnew : cur.toList.take p.length ++ vc ++ cur.toList.drop (p.length + vc.length) = p ++ vc ++ s ++ cur.toList.drop (xs.length * Rep.sz α) := by
    have e1 : cur.toList.take p.length = p := by rw [hcur]; simp
    have e2 : cur.toList.drop (p.length + vc.length) = s ++ cur.toList.drop (xs.length * Rep.sz α) := by
      conv => lhs; rw [hcur]
      rw [show p ++ c ++ s ++ cur.toList.drop (xs.length * Rep.sz α) = (p ++ c) ++ (s ++ cur.toList.drop (xs.length * Rep.sz α)) by simp]
      rw [List.drop_append, List.drop_of_length_le (by rw [List.length_append, hvl, hcl]; exact Nat.le_refl _), List.nil_append, List.length_append, hcl, hvl, Nat.sub_self, List.drop_zero]
    rw [e1, e2]; simp
  rw [hnew] at hr
  have hfn : (b :: (f1 ++ fo ++ f2) ++ (fx ++ ge)).Nodup := (hg2.append_left _).symm.nodup hnd
  refine wpList_plain rfl fun K hK => ?_
  unfold Oper.wp
  have hrun : (execOp (E l).eval ⟨none, .store T x y, ty, pos, after, none⟩).run P w = .ok .skip (w.setRow b (p ++ vc ++ s ++ cur.toList.drop (xs.length * Rep.sz α)).toArray) := by
    show (do Instr.storeAt T ((E l).eval x) ((E l).eval y); pure Next.skip : Sem Next).run P w = _
    have hea : elemA (.slice (some ⟨b, 0, none⟩) xs.length cap) n k = ⟨b, p.length, none⟩ := by
      simp only [elemA, add_lit, Nat.zero_add, hk, hpl]
    simp only [hx.eq, hy.eq, Sem.run_bind, Instr.storeAt, Instr.sureAddr, Sem.run_pure, Result.andThen_ok, storeVar, hT.size, hvc, hea]
    simp only [List.size_toArray, hvl, hkk, ne_eq, not_true_eq_false, if_false, Sem.run_pure, Result.andThen_ok, Sem.run_bind]
    simp only [hr, Result.andThen_ok]
  rw [hrun, Oper.upon_skip, E_put_none]
  refine hK _ _ (h _ ?_)
  have hblt : b < w.heap.size := (Array.getElem?_eq_some_iff.1 hgb).1
  have hsame : ∀ k, k ≠ b → SameB w (w.setRow b (p ++ vc ++ s ++ cur.toList.drop (xs.length * Rep.sz α)).toArray) k := fun k hk => setRow_other w b k _ hk
  have hmem : ∀ k, k ∈ (b :: (f1 ++ fo ++ f2)) ++ (fx ++ ge) ↔ k ∈ (b :: (f1 ++ fo ++ f2)) ++ g := fun k => (hg2.append_left _).mem_iff
  have hnd1 := List.nodup_append.1 hfn
  refine Sat.step' (Δ' := [.ow [_] (xs.set n.toNat u)]) (Γ := Ε) (f := (b :: (f1 ++ fo ++ f2)) ++ fx) (g := ge) (w := w) hb (by rw [List.append_assoc]; exact hfn) (fun k hk => hl k (by rw [← hmem k, ← List.append_assoc]; exact hk)) (hE.mono (fun k hk _ => ⟨fun h => hk (by rw [← hmem k, ← List.append_assoc]; exact h), rfl⟩) (Nat.le_refl _) (fun _ _ => rfl))
    ⟨rfl, rfl, rfl, by simp, (by first | exact Nat.le_refl _ | exact Nat.le_add_right _ _)⟩ (fun k _ hk => hsame k (fun h => hk (by simp [h]))) (b :: (f1 ++ fx ++ f2)) ?_ ?_ (fun ok' hok' => ⟨b :: (f1 ++ fx ++ f2), [], by simp, ?_, rfl⟩)
  · have h2 := hnd1.1
    have h3 := (List.nodup_append.1 hnd1.2.1).1
    have h4 := hnd1.2.2
    simp only [List.nodup_cons, List.nodup_append, List.mem_append, List.mem_cons, not_or] at h2 h4 ⊢
    obtain ⟨⟨⟨hb1, hbo⟩, hb2⟩, ⟨⟨n1, no, d1⟩, n2, d2⟩⟩ := h2
    refine ⟨⟨⟨hb1, fun hm => h4 b (.inl rfl) b (.inl hm) rfl⟩, hb2⟩, ⟨n1, h3, fun a ha c hc => h4 a (.inr (.inl (.inl ha))) c (.inl hc)⟩, n2, ?_⟩
    rintro a (ha | ha) c hc
    · exact d2 a (.inl ha) c hc
    · exact fun e => h4 c (.inr (.inr hc)) a (.inl ha) e.symm
  · intro k hk
    left
    simp only [List.mem_cons, List.mem_append] at hk ⊢
    rcases hk with h | ((h | h) | h)
    · exact .inl (.inl h)
    · exact .inl (.inr (.inl (.inl h)))
    · exact .inr h
    · exact .inl (.inr (.inr h))
  · show Rep.ow _ _ _ _ _
    rw [ow_list]
    have hok2 : ∀ k, k ∉ (b :: (f1 ++ fo ++ f2)) ++ g → k < w.heap.size → ok' k ∧ SameB w (w.setRow b (p ++ vc ++ s ++ cur.toList.drop (xs.length * Rep.sz α)).toArray) k :=
      fun k hk hlt => ⟨hok' k (fun h => hk (by rw [← hmem k, ← List.append_assoc]; exact h)) hlt, hsame k (fun h => hk (by simp [h]))⟩
    have hbG : b ∉ f1 ++ fo ++ f2 := (List.nodup_cons.1 hnd1.1).1
    refine .inr ⟨b, cap, _, e, f1 ++ fx ++ f2, p ++ vc ++ s, by simp, rfl, setRow_heap w b cur _ e _ hgb, by simpa using hcap, hcapm, by simpa using hlen, ?_, ?_, ?_⟩
    · have := congrArg List.length hcur
      simp only [List.length_append, Array.length_toList] at this
      simp only [List.size_toArray, List.length_append]
      omega
    · rw [List.toList_toArray, List.length_set, List.take_append_of_le_length]
      · rw [List.take_of_length_le]
        have := congrArg List.length hcells
        simp only [List.length_append] at this ⊢
        omega
      · have := congrArg List.length hcells
        simp only [List.length_append] at this ⊢
        omega
    · have hset : xs.set n.toNat u = xs.take n.toNat ++ [u] ++ xs.drop (n.toNat + 1) := by
        rw [List.set_eq_take_append_cons_drop, if_pos hin]; simp
      rw [hset]
      have hmid : OwL ok' (w.setRow b (p ++ vc ++ s ++ cur.toList.drop (xs.length * Rep.sz α)).toArray) fx vc [u] :=
        ⟨fx, [], vc, [], by simp, by simp, Rep.ow_mono hux (fun k hk => hsame k (fun h => hnd1.2.2 b (by simp) k (by simp [hk]) h.symm)) hok2, rfl, rfl⟩
      exact OwL.append (hO2.mono hok2 (fun k hk => hsame k (fun h => hbG (by simp [← h, hk])))) (OwL.append hmid (hO1.mono hok2 (fun k hk => hsame k (fun h => hbG (by simp [← h, hk])))))
end ops

end Go.Eng
