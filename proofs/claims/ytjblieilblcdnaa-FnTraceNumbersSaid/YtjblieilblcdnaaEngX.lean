/- Strings: joined, cut, written behind bytes. -/
import Derived.Test.YtjblieilblcdnaaEngW
import Derived.Lib.AppendStr
import Derived.Lib.Builder
import Derived.Lib.UnsafeStr
import Derived.Laws.IdiomStrings
import Derived.Laws.Pointers
namespace Go.Eng
open Go Go.RowKit
set_option linter.unusedVariables false
set_option linter.unusedSimpArgs false
section
variable {P : Program} {ops : Array Oper} {Q : Exit → Act → World → Prop} {w0 : World} {rest : List Oper} {l l' : List Value} {Γ Δ : List Atom} {ty : TypeId} {pos : String} {after : Array Edge} {d : Nat}
variable {T U : TypeId} {x y : Operand} {a b : ByteArray}
theorem pu_add_s [hx : Ev l x (.string a)] [hy : Ev l y (.string b)] (h : a.size + b.size ≤ 9223372036854775807) : Pu P w0 l Γ (.binOp .add T x y U) ty (.string (a ++ b)) :=
  pu_bin eqGuard_str (fun w => by
    simp only [binOp, Op.stringOp]
    rw [if_neg (by have : IntKind.i64.max = 9223372036854775807 := rfl; omega)]; rfl)
instance [hx : Ev l x (.string a)] [hy : Ev l y (.string b)] : PuS P l Γ (.binOp .add T x y U) ty (.string (a ++ b)) (a.size + b.size ≤ 9223372036854775807) := ⟨fun h _ => pu_add_s h⟩
theorem pu_cut_s {i j : Operand} {m n : Int} {k : IntKind} [hT : IsStr P T] [hx : Ev l x (.string a)] [hi : Ev l i (.int k m)] [hj : Ev l j (.int k n)] (h : 0 ≤ m ∧ m ≤ n ∧ n ≤ a.size) : Pu P w0 l Γ (.slice T x (some i) (some j) none) ty (.string (a.extract m.toNat n.toNat)) := by
  obtain ⟨M, rfl⟩ : ∃ M : Nat, m = M := ⟨m.toNat, by omega⟩
  obtain ⟨N, rfl⟩ : ∃ M : Nat, n = M := ⟨n.toNat, by omega⟩
  have h1 : M ≤ N := by omega
  have h2 : N ≤ a.size := by omega
  exact pu_of (s := Instr.sliceAt T (.string a) (some (.int k M)) (some (.int k N)) none) (fun o ho _ => by unfold execOp; rw [ho]; simp only [hx.eq, hi.eq, hj.eq, Option.map]) (fun w _ => by
    simp [Instr.sliceAt, Instr.slice, run_underlying hT.eq, Instr.sliceBounds, Instr.sliceBound, asIntOf, Sem.run_bind, h1, h2])
instance {i j : Operand} {m n : Int} {k : IntKind} [hT : IsStr P T] [hx : Ev l x (.string a)] [hi : Ev l i (.int k m)] [hj : Ev l j (.int k n)] : PuS P l Γ (.slice T x (some i) (some j) none) ty (.string (a.extract m.toNat n.toNat)) (0 ≤ m ∧ m ≤ n ∧ n ≤ a.size) := ⟨fun h _ => pu_cut_s h⟩
end
/-! ### A string behind bytes -/
section
variable {P : Program} {ops : Array Oper} {Q : Exit → Act → World → Prop} {w0 : World} {rest : List Oper} {l l' : List Value} {Γ Δ : List Atom} {ty : TypeId} {pos : String} {after : Array Edge} {d : Nat}
theorem rdl_str (w : World) : ∀ bs : List UInt8, RdL (fun _ => True) w (bs.map fun b => Value.int .u8 b.toNat) bs
  | [] => rfl
  | b :: bs => ⟨[.int .u8 b.toNat], bs.map fun b => Value.int .u8 b.toNat, rfl, rfl, rdl_str w bs⟩
theorem run_append_room_s (w : World) (t u ty e e' : TypeId) (i : TypeInfo) (ht : P.underlying t = some (.slice e)) (hu : P.underlying u = some .string) (hi : P.info? e = some i)
    (g sLen sCap : Nat) (cur : Array Value) (hg : w.heap[g]? = some (.cells cur e' (0, 0)))
    (x : Value) (m : Nat) (news : List Value) (hlen : ∀ w, (Builtin.lenOf x).run P w = .ok m w) (hx : (Builtin.firstCells i.size m x).run P w = .ok news.toArray w) (h1 : ∀ u ∈ news, u.oneCell' = true)
    (hroom : sLen + m ≤ sCap) (hfit : sLen * i.size + news.length ≤ cur.size) :
    (Builtin.append_ #[t, u] ty #[.slice (some ⟨g, 0, none⟩) sLen sCap, x]).run P w =
      .ok (.slice (some ⟨g, 0, none⟩) (sLen + m) sCap) (w.setRow g (cur.toList.take (sLen * i.size) ++ news ++ cur.toList.drop (sLen * i.size + news.length)).toArray) := by
  have hst := run_storeCells_at P g (sLen * i.size) e' news 0 cur w hg (by simpa using hfit) h1
  simp only [Nat.add_zero] at hst
  simp [Builtin.append_, run_underlying ht, run_underlying hu, sizeOf, typeInfo, hi, hlen, hroom, hx, Addr.add_lit, hst]
theorem append_core_str {T U ty k by_ : Nat} [hT : Sl P T k by_] [hU : IsStr P U] (hk : k = Rep.sz UInt8) {w : World} {ok : Nat → Prop} {f : List Nat} {ov : Value} {xs : List UInt8} {s : ByteArray}
    (hf : Rep.ow ok w f [ov] xs) (hnd0 : f.Nodup) (hoky0 : ∀ b ∈ f, ¬ ok b)
    (hbytes0 : (xs.length + s.size) * by_ ≤ 140737488355328) :
    ∃ v' w', (Builtin.append_ #[T, U] ty #[ov, .string s]).run P w = .ok v' w' ∧ (w'.os = w.os ∧ w'.tape = w.tape ∧ w'.output = w.output ∧ w.heap.size ≤ w'.heap.size ∧ w.drawn ≤ w'.drawn) ∧
      (∀ b, b < w.heap.size → b ∉ f → SameB w w' b) ∧ ∃ f', f'.Nodup ∧ (∀ b ∈ f', b ∈ f ∨ w.heap.size ≤ b) ∧ ∀ ok' : Nat → Prop, (∀ b, ok b → b < w.heap.size → ok' b) → Rep.ow ok' w' f' [v'] (xs ++ s.data.toList) := by
  obtain ⟨ys, hys⟩ : ∃ ys : List UInt8, ys = s.data.toList := ⟨_, rfl⟩
  obtain ⟨news, hnews⟩ : ∃ n : List Value, n = Lib.strCells s := ⟨_, rfl⟩
  have hysl : ys.length = s.size := by rw [hys, Array.length_toList]; rfl
  have hbytes : (xs.length + ys.length) * by_ ≤ 140737488355328 := by rw [hysl]; exact hbytes0
  obtain ⟨fy, hfy0⟩ : ∃ fy : List Nat, fy = [] := ⟨_, rfl⟩
  have hnd : (f ++ fy).Nodup := by rw [hfy0, List.append_nil]; exact hnd0
  have hoky : ∀ b ∈ f ++ fy, ¬ ok b := by rw [hfy0, List.append_nil]; exact hoky0
  have hy : OwL ok w fy news ys := by rw [hfy0, hys, hnews]; exact RdL.ow (rdl_str w s.data.toList)
  suffices hres : ∃ v' w', (Builtin.append_ #[T, U] ty #[ov, .string s]).run P w = .ok v' w' ∧ (w'.os = w.os ∧ w'.tape = w.tape ∧ w'.output = w.output ∧ w.heap.size ≤ w'.heap.size ∧ w.drawn ≤ w'.drawn) ∧
      (∀ b, b < w.heap.size → b ∉ f → SameB w w' b) ∧ ∃ f', f'.Nodup ∧ (∀ b ∈ f', b ∈ f ++ fy ∨ w.heap.size ≤ b) ∧ ∀ ok' : Nat → Prop, (∀ b, ok b → b < w.heap.size → ok' b) → Rep.ow ok' w' f' [v'] (xs ++ ys) by
    rw [hfy0, List.append_nil, hys] at hres
    exact hres
  obtain ⟨e, i, z, ht, hi, hik, hib, hz, hzk, hpos⟩ := hT.ex
  have hsz : i.size = Rep.sz UInt8 := hik.trans hk
  have hle : xs.length + ys.length ≤ 140737488355328 := Nat.le_trans (Nat.le_mul_of_pos_right _ hpos) hbytes
  have hnl : news.length = ys.length * i.size := by rw [hsz]; exact hy.len
  have hfy : ∀ b ∈ fy, b < w.heap.size := hy.lt
  have hdis := (List.nodup_append.1 hnd).2.2
  have hcap63 : ∀ old, grownCap w (xs.length + ys.length) old e ≤ maxLen := fun old => grownCap_le_maxLen w _ old e (by simp only [maxLen]; omega)
  have hfc : (Builtin.firstCells i.size s.size (.string s)).run P w = .ok news.toArray w := by rw [hnews]; exact Lib.run_firstCells_string w i.size s
  -- what a new row is good for
  have grown : ∀ (old : Nat) (G : List Nat) (cells : List Value), (∀ b ∈ G, b ∈ f) → G.Nodup → OwL ok w G cells xs → cells.length = xs.length * Rep.sz UInt8 →
      let w' := w.drew.alloc (.cells (cells.toArray ++ news.toArray ++ Builtin.zeroCells z.cells (grownCap w (xs.length + ys.length) old e - (xs.length + ys.length))) e)
      (w'.os = w.os ∧ w'.tape = w.tape ∧ w'.output = w.output ∧ w.heap.size ≤ w'.heap.size ∧ w.drawn ≤ w'.drawn) ∧ (∀ b, b < w.heap.size → b ∉ f → SameB w w' b) ∧
      ∃ f', f'.Nodup ∧ (∀ b ∈ f', b ∈ f ++ fy ∨ w.heap.size ≤ b) ∧ ∀ ok' : Nat → Prop, (∀ b, ok b → b < w.heap.size → ok' b) → Rep.ow ok' w' f' [.slice (some ⟨w.heap.size, 0, none⟩) (xs.length + ys.length) (grownCap w (xs.length + ys.length) old e)] (xs ++ ys) := by
    intro old G cells hG hGn hO hlen w'
    have hsame : ∀ b, b < w.heap.size → SameB w w' b := fun b hb => Below.heap_alloc w.drew _ _ hb
    have hGlt := hO.lt
    have hge := grownCap_ge w (xs.length + ys.length) old e
    refine ⟨⟨rfl, rfl, rfl, by simp [w'], (by first | exact Nat.le_refl _ | exact Nat.le_add_right _ _)⟩, fun b hb _ => hsame b hb, w.heap.size :: (G ++ fy), ?_, ?_, ?_⟩
    · refine List.nodup_cons.2 ⟨fun hm => ?_, ?_⟩
      · rcases List.mem_append.1 hm with h | h
        · exact Nat.lt_irrefl _ (hGlt _ h)
        · exact Nat.lt_irrefl _ (hfy _ h)
      · rw [List.nodup_append]
        exact ⟨hGn, (List.nodup_append.1 hnd).2.1, fun a ha b hb => hdis a (hG a ha) b hb⟩
    · intro b hb
      rcases List.mem_cons.1 hb with rfl | hb
      · exact .inr (Nat.le_refl _)
      · rcases List.mem_append.1 hb with h | h
        · exact .inl (by simp [hG b h])
        · exact .inl (by simp [h])
    · intro ok' hok'
      rw [ow_list]
      refine .inr ⟨w.heap.size, _, _, e, G ++ fy, cells ++ news, by simp, rfl, heap_alloc_new w.drew _, by simpa using hge, hcap63 old, by simp; omega, ?_, ?_, ?_⟩
      · simp only [Array.size_append, List.size_toArray, size_zeroCells, hzk, hlen, hnl, hik, hk]
        rw [← Nat.add_mul, ← Nat.add_mul]
        refine Nat.le_of_eq ?_
        congr 1
        omega
      · simp only [Array.toList_append, List.length_append, List.append_assoc]
        rw [← List.append_assoc, Nat.add_mul, ← hlen, show ys.length * Rep.sz UInt8 = news.length by rw [hnl, hsz], ← List.length_append]
        exact List.take_left
      · exact OwL.append (hy.mono (fun b hb hlt => ⟨hok' b hb hlt, hsame b hlt⟩) (fun b hb => hsame b (hfy b hb))) (hO.mono (fun b hb hlt => ⟨hok' b hb hlt, hsame b hlt⟩) (fun b hb => hsame b (hGlt b hb)))
  rw [ow_list] at hf
  rcases hf with ⟨hov, rfl, rfl⟩ | ⟨g, cap, cur, e', G, cells, hov, rfl, hg, hcap, hcapm, _, hcs, htake, hO⟩
  · simp only [List.cons.injEq, and_true] at hov
    subst hov
    by_cases h0 : ys.length = 0
    · have hy0 : ys = [] := List.eq_nil_of_length_eq_zero h0
      subst hy0
      refine ⟨.slice none 0 0, w, ?_, ⟨rfl, rfl, rfl, Nat.le_refl _, Nat.le_refl _⟩, fun _ _ _ => rfl, [], by simp, by simp, fun ok' _ => ow_list.2 (.inl ⟨rfl, rfl, rfl⟩)⟩
      have hs0 : s.size = 0 := by rw [← hysl]; rfl
      simp only [List.length_nil, hs0] at hfc ⊢
      simp [Builtin.append_, run_underlying ht, run_underlying hU.eq, sizeOf, typeInfo, hi, Builtin.lenOf, hs0, hfc]
    · have hr := run_append_nil_string (P := P) w T U ty e i z ht hU.eq hi hz s (by omega) (by simp at hle; omega) (by rw [hib]; simp at hbytes; rw [← hysl]; omega)
      have hne : s.data.map (fun b => Value.int .u8 b.toNat) = news.toArray := by rw [hnews]; apply Array.ext'; simp [Lib.strCells]
      rw [hne, ← hysl] at hr
      have hgr := grown 0 [] [] (by simp) (by simp) ⟨rfl, rfl⟩ (by simp)
      simp only [List.length_nil, Nat.zero_add, List.nil_append, Array.empty_append, List.append_nil] at hgr ⊢
      exact ⟨_, _, hr, hgr.1, hgr.2.1, hgr.2.2⟩
  · simp only [List.cons.injEq, and_true] at hov
    subst hov
    have hcl : cells.length = xs.length * Rep.sz UInt8 := hO.len
    have hgG : g ∉ G ∧ G.Nodup := List.nodup_cons.1 (List.nodup_append.1 hnd).1
    by_cases hroom : xs.length + ys.length ≤ cap
    · have hfit : xs.length * i.size + news.length ≤ cur.size := by rw [hnl, hsz, ← Nat.add_mul]; exact Nat.le_trans (Nat.mul_le_mul_right _ hroom) hcs
      have hr := run_append_room_s w T U ty e e' i ht hU.eq hi g xs.length cap cur hg (.string s) ys.length news (fun w => by rw [hysl]; rfl) (by rw [hysl]; exact hfc) hy.one hroom hfit
      have hsame : ∀ k, k ≠ g → SameB w (w.setRow g (cur.toList.take (xs.length * i.size) ++ news ++ cur.toList.drop (xs.length * i.size + news.length)).toArray) k := fun k hk => setRow_other w g k _ hk
      have hglt : g < w.heap.size := (Array.getElem?_eq_some_iff.1 hg).1
      refine ⟨_, _, hr, ⟨rfl, rfl, rfl, by simp, (by first | exact Nat.le_refl _ | exact Nat.le_add_right _ _)⟩, fun b _ hb => hsame b (fun h => hb (by simp [h])), (g :: G) ++ fy, hnd, fun b hb => .inl hb, fun ok' hok' => ?_⟩
      rw [ow_list]
      refine .inr ⟨g, cap, _, e', G ++ fy, cells ++ news, by simp, rfl, setRow_heap w g cur _ e' _ hg, by simpa using hroom, hcapm, by simp; omega, ?_, ?_, ?_⟩
      · simp only [List.size_toArray, List.length_append, List.length_take, List.length_drop, Array.length_toList]
        refine Nat.le_trans hcs ?_
        omega
      · simp only [List.toList_toArray, List.length_append]
        rw [hsz, htake, Nat.add_mul, ← hcl, show ys.length * Rep.sz UInt8 = news.length by rw [hnl, hsz], ← List.length_append]
        exact List.take_left
      · refine OwL.append (hy.mono (fun b hb hlt => ⟨hok' b hb hlt, hsame b (fun h => ?_)⟩) (fun b hb => hsame b (fun h => ?_))) (hO.mono (fun b hb hlt => ⟨hok' b hb hlt, hsame b (fun h => ?_)⟩) (fun b hb => hsame b (fun h => hgG.1 (h ▸ hb))))
        · exact hoky g (by simp) (h ▸ hb)
        · exact hdis g (by simp) b hb h.symm
        · exact hoky g (by simp) (h ▸ hb)
    · have hy0 : 0 < ys.length := by omega
      have holds : ∀ j u, cells[j]? = some u → w.cell? ((⟨g, 0, none⟩ : Addr).add j) = some u := fun j u hj => by
        have hjl := (List.getElem?_eq_some_iff.1 hj).1
        rw [add_lit, Nat.zero_add]
        rw [← htake, List.getElem?_take] at hj
        split at hj
        · simpa [World.cell?, hg] using hj
        · cases hj
      have hr := Lib.run_append_grow_string (P := P) w T U ty e i z ht hU.eq hi hz ⟨g, 0, none⟩ xs.length cap cells (by rw [hcl, hsz]) holds s (by omega) (by omega) (by rw [← hysl]; exact growslice_fits (by omega) (by rw [hib]; exact hbytes))
      rw [← hysl, ← hnews] at hr
      have hgr := grown cap G cells (fun b hb => by simp [hb]) hgG.2 hO hcl
      exact ⟨_, _, hr, hgr.1, hgr.2.1, hgr.2.2⟩
theorem wl_append_str {T U k by_ : Nat} {x y : Operand} {ov : Value} {s : ByteArray} {xs : List UInt8} [hx : Ev l x ov] [hy : Ev l y (.string s)] [hT : Sl P T k by_] [hU : IsStr P U] [h1 : PullOw (List UInt8) repList Γ [ov] xs Δ] [hk : SzIs UInt8 k]
    (hbytes : (xs.length + s.size) * by_ ≤ 140737488355328) (h : ∀ sv, WL P ops Q w0 rest (l.set d sv) (.ow [sv] (xs ++ s.data.toList) :: Δ)) :
    WL P ops Q w0 (⟨some d, .call { callee := .builtin .append, args := #[x, y], argTypes := #[T, U] }, ty, pos, after, none⟩ :: rest) l Γ := by
  intro w hs
  have hs1 : Sat w0 w ([.ow [ov] xs] ++ Δ) := hs.perm h1.perm
  obtain ⟨hb, F, hn, hl, f, g, rfl, hf, hrest⟩ := hs1
  obtain ⟨v', w', hr, ho, hsame, fn, hfn, hnew, hrep⟩ := append_core_str (P := P) (T := T) (U := U) (ty := ty) (s := s) hk.eq hf (List.nodup_append.1 hn).1 (fun b hb hok => hok (by simp [hb])) hbytes
  refine wl_op rfl (run_append_op2 hr) ?_
  rw [E_put]
  refine h _ _ ?_
  exact Sat.step' (Δ' := [.ow [v'] (xs ++ s.data.toList)]) (Γ := Δ) hb hn hl hrest ho hsame fn hfn hnew (fun ok' hok' => ⟨fn, [], by simp, hrep ok' hok', rfl⟩)
instance (priority := 1300) {T U k by_ : Nat} {x y : Operand} {ov : Value} {s : ByteArray} {xs : List UInt8} [hx : Ev l x ov] [hy : Ev l y (.string s)] [hT : Sl P T k by_] [hU : IsStr P U] [h1 : PullOw (List UInt8) repList Γ [ov] xs Δ] [hk : SzIs UInt8 k] :
    RedV (WL P ops Q w0 (⟨some d, .call { callee := .builtin .append, args := #[x, y], argTypes := #[T, U] }, ty, pos, after, none⟩ :: rest) l Γ) ((xs.length + s.size) * by_ ≤ 140737488355328) (fun sv => WL P ops Q w0 rest (l.set d sv) (.ow [sv] (xs ++ s.data.toList) :: Δ)) := ⟨fun s h => wl_append_str s h⟩
end
/-! ### A block whose type is known -/
structure TB (T : TypeId) where
  cs : List Value
instance repTB {T : TypeId} : Rep (TB T) where
  sz := 1
  rd _ _ cells x := ∃ b : Nat, cells = [.pointer (some ⟨b, 0, none⟩)]
  ow _ w F cells x := ∃ b : Nat, cells = [.pointer (some ⟨b, 0, none⟩)] ∧ F = [b] ∧ w.heap[b]? = some (.cells x.cs.toArray T (0, 0))
  pos := by decide
  rd_len := by rintro _ _ _ _ ⟨b, rfl⟩; rfl
  rd_one := by rintro _ _ _ _ ⟨b, rfl⟩ x hx; simp at hx; subst hx; rfl
  rd_mono := fun h _ => h
  ow_mono := fun ⟨b, h1, h2, h3⟩ hf _ => ⟨b, h1, h2, (hf b (by simp [h2])).trans h3⟩
  ow_rd := fun ⟨b, h1, _, _⟩ _ _ => ⟨b, h1⟩
  ow_lt := by
    rintro _ _ _ _ _ ⟨b, _, rfl, h3⟩ b' hb
    simp at hb; subst hb
    exact (Array.getElem?_eq_some_iff.1 h3).1
section
variable {P : Program} {ops : Array Oper} {Q : Exit → Act → World → Prop} {w0 : World} {rest : List Oper} {l l' : List Value} {Γ Δ : List Atom} {ty : TypeId} {pos : String} {after : Array Edge} {d : Nat}
instance (priority := 1100) HasBk.tb {Γ : List Atom} {b : Nat} {T : TypeId} {cs : List Value} : HasBk (@Atom.ow (TB T) repTB [.pointer (some ⟨b, 0, none⟩)] (TB.mk cs) :: Γ) b cs := ⟨fun ⟨_, _, _, ⟨b', h1, _, h3⟩, _⟩ => by
  simp only [List.cons.injEq, Value.pointer.injEq, Option.some.injEq, Addr.mk.injEq, and_true] at h1
  subst h1
  exact ⟨T, h3⟩⟩
/-- The typed block is taken out of Γ. -/
class PullTb (Γ : List Atom) (b : Nat) (T : outParam TypeId) (cs : outParam (List Value)) (Δ : outParam (List Atom)) : Prop where
  perm : Γ.Perm (@Atom.ow (TB T) repTB [.pointer (some ⟨b, 0, none⟩)] (TB.mk cs) :: Δ)
instance (priority := 1100) PullTb.here {Γ : List Atom} {b : Nat} {T : TypeId} {cs : List Value} : PullTb (@Atom.ow (TB T) repTB [.pointer (some ⟨b, 0, none⟩)] (TB.mk cs) :: Γ) b T cs Γ := ⟨.refl _⟩
instance (priority := 1000) PullTb.skip {Γ Δ : List Atom} {b : Nat} {T : TypeId} {cs : List Value} {B : Atom} [h : PullTb Γ b T cs Δ] : PullTb (B :: Γ) b T cs (B :: Δ) := ⟨(h.perm.cons B).trans (.swap _ _ _)⟩
theorem sat_tb {w w0 : World} {Γ : List Atom} {b : Nat} {T : TypeId} {cs : List Value} (h : Sat w0 w (@Atom.ow (TB T) repTB [.pointer (some ⟨b, 0, none⟩)] (TB.mk cs) :: Γ)) : w.heap[b]? = some (.cells cs.toArray T (0, 0)) := by
  obtain ⟨_, F, _, _, f, g, _, ⟨b', h1, _, h3⟩, _⟩ := h
  simp only [List.cons.injEq, Value.pointer.injEq, Option.some.injEq, Addr.mk.injEq, and_true] at h1
  subst h1
  exact h3
theorem Sat.storeT {w0 w : World} {Γ : List Atom} {b : Nat} {T : TypeId} {cs : List Value} (h : Sat w0 w (@Atom.ow (TB T) repTB [.pointer (some ⟨b, 0, none⟩)] (TB.mk cs) :: Γ)) (i : Nat) (v : Value) : Sat w0 (w.setCell ⟨b, i, none⟩ v) (@Atom.ow (TB T) repTB [.pointer (some ⟨b, 0, none⟩)] (TB.mk (cs.set i v)) :: Γ) := by
  have hc0 := sat_tb h
  obtain ⟨hb, F, hn, hl, f, g, rfl, ⟨b', h1, rfl, hc⟩, hs⟩ := h
  simp only [List.cons.injEq, Value.pointer.injEq, Option.some.injEq, Addr.mk.injEq, and_true] at h1
  subst h1
  have hlt : b < w.heap.size := (Array.getElem?_eq_some_iff.1 hc).1
  have hg : b ∉ g := by have := hn; simp at this; exact this.1
  have hsame : ∀ k, k ≠ b → SameB w (w.setCell ⟨b, i, none⟩ v) k := fun k hk => Below.heap_setCell _ _ _ _ hk
  refine ⟨hb.setCell (hl b (by simp)) v, [b] ++ g, hn, hl, [b], g, rfl, ⟨b, rfl, rfl, ?_⟩, ?_⟩
  · simp only [World.setCell, Array.getElem?_modify, if_true, hc, Option.map_some]
    simp
  · refine hs.mono (fun k hk _ => ⟨hk, hsame k (fun e => hk (by simp [e]))⟩) (by simp) (fun k hk => hsame k (fun e => hg (e ▸ hk)))
theorem wl_storeT {T U : TypeId} {x y : Operand} {b off : Nat} {cs : List Value} {v : Value} [hx : Ev l x (.pointer (some ⟨b, off, none⟩))] [hy : Ev l y v] [hc : Cs Γ v [v]] [hT : Sz P U 1] [hb : PullTb Γ b T cs Δ] (hlt : off < cs.length)
    (h : WL P ops Q w0 rest l (@Atom.ow (TB T) repTB [.pointer (some ⟨b, 0, none⟩)] (TB.mk (cs.set off v)) :: Δ)) : WL P ops Q w0 (⟨none, .store U x y, ty, pos, after, none⟩ :: rest) l Γ := by
  intro w hs
  obtain ⟨h1, h2⟩ := hs.cs (hc := hc)
  have hs2 := hs.perm hb.perm
  have he := sat_tb hs2
  have hc1 : v.oneCell' = true := h2 v (by simp)
  have hcell : w.cell? ⟨b, off, none⟩ = some (cs[off]'(by omega)) := by simp [World.cell?, he, List.getElem?_eq_getElem (show off < cs.length by omega)]
  have hfr : w.frozen? ⟨b, off, none⟩ = false := by simp [World.frozen?, he]
  have hst : (store ((⟨b, off, none⟩ : Addr).add 0) v).run P w = .ok () (w.setCell ⟨b, off, none⟩ v) := by
    rw [add_lit]
    cases v <;> simp_all [store, Sem.run, Value.oneCell']
  refine wpList_plain rfl fun K hK => ?_
  unfold Oper.wp
  have : (execOp (E l).eval ⟨none, .store U x y, ty, pos, after, none⟩).run P w = .ok .skip (w.setCell ⟨b, off, none⟩ v) := by
    show (do Instr.storeAt U ((E l).eval x) ((E l).eval y); pure Next.skip : Sem Next).run P w = _
    simp only [hx.eq, hy.eq, Sem.run_bind, Instr.storeAt, Instr.sureAddr, Sem.run_pure, Result.andThen_ok, storeVar, hT.size, h1]
    simp [storeCells, Sem.run_bind, hst]
  rw [this, Oper.upon_skip, E_put_none]
  exact hK _ _ (h _ (hs2.storeT off v))
instance (priority := 1500) {T U : TypeId} {x y : Operand} {b off : Nat} {cs cs' : List Value} {v : Value} [hx : Ev l x (.pointer (some ⟨b, off, none⟩))] [hy : Ev l y v] [hc : Cs Γ v [v]] [hT : Sz P U 1] [hb : PullTb Γ b T cs Δ] [hs : Se cs off v cs'] :
    RedS (WL P ops Q w0 (⟨none, .store U x y, ty, pos, after, none⟩ :: rest) l Γ) (off < cs.length) (WL P ops Q w0 rest l (@Atom.ow (TB T) repTB [.pointer (some ⟨b, 0, none⟩)] (TB.mk cs') :: Δ)) := ⟨fun h g => wl_storeT h (hs.eq ▸ g)⟩
/-- Blocks of this type keep their type. -/
class IsTb (P : Program) (T : TypeId) : Prop where
  t : True
theorem Sat.allocT {w0 w : World} {Γ : List Atom} (h : Sat w0 w Γ) (cs : List Value) (T : TypeId) : Sat w0 (w.alloc (.cells cs.toArray T)) (@Atom.ow (TB T) repTB [.pointer (some ⟨w.heap.size, 0, none⟩)] (TB.mk cs) :: Γ) := by
  obtain ⟨hb, F, hn, hl, hs⟩ := h
  have hlt := hs.lt
  refine ⟨hb.alloc hb.size _, w.heap.size :: F, ?_, ?_, [w.heap.size], F, rfl, ⟨w.heap.size, rfl, rfl, heap_alloc_new w _⟩, ?_⟩
  · exact List.nodup_cons.2 ⟨fun hm => Nat.lt_irrefl _ (hlt _ hm), hn⟩
  · intro b hb'
    rcases List.mem_cons.1 hb' with rfl | hb'
    · exact hb.size
    · exact hl b hb'
  · refine hs.mono (fun b hb hlt => ⟨?_, Below.heap_alloc _ _ _ hlt⟩) (by simp) (fun b hb => Below.heap_alloc _ _ _ (hlt b hb))
    intro hm
    rcases List.mem_cons.1 hm with rfl | hm
    · exact Nat.lt_irrefl _ hlt
    · exact hb hm
theorem wl_allocT {T : TypeId} {zs : List Value} [hz : Zr P T zs] (h : ∀ b, WL P ops Q w0 rest (l.set d (.pointer (some ⟨b, 0, none⟩))) (@Atom.ow (TB T) repTB [.pointer (some ⟨b, 0, none⟩)] (TB.mk zs) :: Γ)) :
    WL P ops Q w0 (⟨some d, .alloc T, ty, pos, after, none⟩ :: rest) l Γ := by
  intro w hs
  obtain ⟨z, hz, hc⟩ := hz.zero
  refine wl_op (v := .pointer (some ⟨w.heap.size, 0, none⟩)) (w' := w.alloc (.cells zs.toArray T)) rfl ?_ ?_
  · refine run_value (f := Next.value) (s := Instr.alloc T true (.tuple #[])) ?_
    simp only [Instr.alloc, newVar, newRow, newObj, Sem.run_bind, hz, Result.andThen_ok, hc]
    rfl
  · rw [E_put]; exact h _ _ (hs.allocT zs T)
instance (priority := 2000) {T : TypeId} {zs : List Value} [ht : IsTb P T] [hz : Zr P T zs] : RedN (WL P ops Q w0 (⟨some d, .alloc T, ty, pos, after, none⟩ :: rest) l Γ) (fun b => WL P ops Q w0 rest (l.set d (.pointer (some ⟨b, 0, none⟩))) (@Atom.ow (TB T) repTB [.pointer (some ⟨b, 0, none⟩)] (TB.mk zs) :: Γ)) := ⟨fun h => wl_allocT h⟩
/-! pointers compared -/
theorem eqGuard_ptr {op : BinOp} {T : TypeId} {x y : Operand} {a b : Option Addr} (w : World) : (eqGuard op T x y (.pointer a) (.pointer b)).run P w = .ok () w := by
  unfold eqGuard; split <;> rfl
/-- Pointers of this type are compared by address. -/
class PtrT (P : Program) (T : TypeId) : Prop where
  eq : P.underlying T = some (.pointer (P.pointee T))
  info : ∃ j, P.info? (P.pointee T) = some j ∧ j.size ≠ 0
theorem pu_eql_p {T U : TypeId} {x y : Operand} {a : Option Addr} [hT : PtrT P T] [hx : Ev l x (.pointer a)] [hy : Ev l y (.pointer none)] : Pu P w0 l Γ (.binOp .eql T x y U) ty (.bool a.isNone) :=
  pu_bin eqGuard_ptr (fun w => by
    have := run_equal_pointer_nil (P := P) w T a hT.eq
    cases a <;> simp [binOp, this, Sem.run_bind])
instance {T U : TypeId} {x y : Operand} [hT : PtrT P T] [hx : Ev l x (.pointer none)] [hy : Ev l y (.pointer none)] : PuC P l Γ (.binOp .eql T x y U) ty (.bool true) := ⟨fun _ => pu_eql_p (a := none)⟩
instance {T U : TypeId} {x y : Operand} {a : Addr} [hT : PtrT P T] [hx : Ev l x (.pointer (some a))] [hy : Ev l y (.pointer none)] : PuC P l Γ (.binOp .eql T x y U) ty (.bool false) := ⟨fun _ => pu_eql_p (a := some a)⟩
end
/-! ### Bytes whose row's type is known -/
def byC (bs : List UInt8) : List Value := bs.map fun b => Value.int .u8 b.toNat
theorem byC_one (bs : List UInt8) : ∀ u ∈ byC bs, u.oneCell' = true := by
  intro u hu
  obtain ⟨b, _, rfl⟩ := List.mem_map.1 hu
  rfl
theorem byC_len (bs : List UInt8) : (byC bs).length = bs.length := by simp [byC]
structure TBy (T : TypeId) where
  bs : List UInt8
instance repTBy {T : TypeId} : Rep (TBy T) where
  sz := 1
  rd _ _ cells x := ∃ a cap, cells = [.slice a x.bs.length cap]
  ow _ w F cells x := (cells = [.slice none 0 0] ∧ x.bs = [] ∧ F = []) ∨ ∃ g cap cur, cells = [.slice (some ⟨g, 0, none⟩) x.bs.length cap] ∧ F = [g] ∧ w.heap[g]? = some (.cells cur T (0, 0)) ∧ x.bs.length ≤ cap ∧ cap ≤ maxLen ∧ cap ≤ cur.size ∧ cur.toList.take x.bs.length = byC x.bs
  pos := by decide
  rd_len := by rintro _ _ _ _ ⟨a, c, rfl⟩; rfl
  rd_one := by rintro _ _ _ _ ⟨a, c, rfl⟩ x hx; simp at hx; subst hx; rfl
  rd_mono := fun h _ => h
  ow_mono := by
    rintro _ _ _ _ _ _ _ (h | ⟨g, cap, cur, h1, h2, h3, h4⟩) hf _
    · exact .inl h
    · exact .inr ⟨g, cap, cur, h1, h2, (hf g (by simp [h2])).trans h3, h4⟩
  ow_rd := by
    rintro _ _ _ _ _ x (⟨h1, h2, _⟩ | ⟨g, cap, cur, h1, _⟩) _ _
    · exact ⟨none, 0, by rw [h1, h2]; rfl⟩
    · exact ⟨_, cap, h1⟩
  ow_lt := by
    rintro _ _ _ _ _ (⟨_, _, rfl⟩ | ⟨g, cap, cur, _, rfl, h3, _⟩) b hb
    · cases hb
    · simp at hb; subst hb; exact (Array.getElem?_eq_some_iff.1 h3).1
section
variable {P : Program} {ops : Array Oper} {Q : Exit → Act → World → Prop} {w0 : World} {rest : List Oper} {l l' : List Value} {Γ Δ : List Atom} {ty : TypeId} {pos : String} {after : Array Edge} {d : Nat}
/-- The type is one of slices of bytes, e that of the bytes. -/
class BySl (P : Program) (T : TypeId) (e : outParam TypeId) : Prop where
  eq : P.underlying T = some (.slice e)
  info : ∃ i z, P.info? e = some i ∧ i.size = 1 ∧ i.bytes = 1 ∧ i.zero = some z ∧ z.cells.size = 1
theorem append_str_t {T U ty e : TypeId} [hT : BySl P T e] [hU : IsStr P U] {w : World} {ok : Nat → Prop} {f : List Nat} {ov : Value} {xs : List UInt8} {s : ByteArray}
    (hf : Rep.ow ok w f [ov] (TBy.mk xs : TBy e)) (hnd : f.Nodup) (hoky : ∀ b ∈ f, ¬ ok b) (hbytes : xs.length + s.size ≤ 140737488355328) :
    ∃ v' w', (Builtin.append_ #[T, U] ty #[ov, .string s]).run P w = .ok v' w' ∧ (w'.os = w.os ∧ w'.tape = w.tape ∧ w'.output = w.output ∧ w.heap.size ≤ w'.heap.size ∧ w.drawn ≤ w'.drawn) ∧
      (∀ b, b < w.heap.size → b ∉ f → SameB w w' b) ∧ ∃ f', f'.Nodup ∧ (∀ b ∈ f', b ∈ f ∨ w.heap.size ≤ b) ∧ ∀ ok' : Nat → Prop, (∀ b, ok b → b < w.heap.size → ok' b) → Rep.ow ok' w' f' [v'] (TBy.mk (xs ++ s.data.toList) : TBy e) := by
  obtain ⟨i, z, hi, hs1, hb1, hz, hz1⟩ := hT.info
  have ht := hT.eq
  have hsl : s.data.toList.length = s.size := by rw [Array.length_toList]; rfl
  have hsc : Lib.strCells s = byC s.data.toList := rfl
  have hfc : (Builtin.firstCells i.size s.size (.string s)).run P w = .ok (Lib.strCells s).toArray w := Lib.run_firstCells_string w i.size s
  have grown : ∀ (old : Nat) (cells : List Value), cells = byC xs → 
      let w' := w.drew.alloc (.cells (cells.toArray ++ (Lib.strCells s).toArray ++ Builtin.zeroCells z.cells (grownCap w (xs.length + s.size) old e - (xs.length + s.size))) e)
      (w'.os = w.os ∧ w'.tape = w.tape ∧ w'.output = w.output ∧ w.heap.size ≤ w'.heap.size ∧ w.drawn ≤ w'.drawn) ∧ (∀ b, b < w.heap.size → b ∉ f → SameB w w' b) ∧
      ∃ f', f'.Nodup ∧ (∀ b ∈ f', b ∈ f ∨ w.heap.size ≤ b) ∧ ∀ ok' : Nat → Prop, (∀ b, ok b → b < w.heap.size → ok' b) → Rep.ow ok' w' f' [.slice (some ⟨w.heap.size, 0, none⟩) (xs.length + s.size) (grownCap w (xs.length + s.size) old e)] (TBy.mk (xs ++ s.data.toList) : TBy e) := by
    intro old cells hcells w'
    have hge := grownCap_ge w (xs.length + s.size) old e
    have hcm := grownCap_le_maxLen w (xs.length + s.size) old e (by simp only [maxLen]; omega)
    refine ⟨⟨rfl, rfl, rfl, by simp [w'], (by first | exact Nat.le_refl _ | exact Nat.le_add_right _ _)⟩, fun b hb _ => Below.heap_alloc w.drew _ _ hb, [w.heap.size], by simp, fun b hb => .inr (by simp at hb; omega), fun ok' _ => .inr ⟨w.heap.size, _, _, ?_, rfl, heap_alloc_new w.drew _, ?_, hcm, ?_, ?_⟩⟩
    · simp [hsl]
    · simp [hsl]; exact hge
    · simp only [Array.size_append, List.size_toArray, size_zeroCells, hz1, hcells, byC_len, hsc, hsl]
      omega
    · simp only [Array.toList_append, List.length_append, hsl]
      have e1 : byC (xs ++ s.data.toList) = byC xs ++ byC s.data.toList := by simp [byC]
      rw [hcells, hsc, e1]
      exact List.take_left' (by rw [List.length_append, byC_len, byC_len, hsl])
  rcases hf with ⟨hov, hx0, rfl⟩ | ⟨g, cap, cur, hov, rfl, hg, hcap, hcapm, hcs, htake⟩
  · simp only [List.cons.injEq, and_true] at hov
    subst hov
    have hx0 : xs = [] := hx0
    subst hx0
    by_cases h0 : s.size = 0
    · have hd : s.data.toList = [] := List.eq_nil_of_length_eq_zero (by omega)
      refine ⟨.slice none 0 0, w, ?_, ⟨rfl, rfl, rfl, Nat.le_refl _, Nat.le_refl _⟩, fun _ _ _ => rfl, [], by simp, by simp, fun ok' _ => .inl ⟨rfl, ?_, rfl⟩⟩
      · rw [h0] at hfc
        simp [Builtin.append_, run_underlying ht, run_underlying hU.eq, sizeOf, typeInfo, hi, Builtin.lenOf, h0, hfc]
      · simp [hd]
    · have hr := run_append_nil_string (P := P) w T U ty e i z ht hU.eq hi hz s (by omega) (by omega) (by rw [hb1]; omega)
      have hne : s.data.map (fun b => Value.int .u8 b.toNat) = (Lib.strCells s).toArray := by apply Array.ext'; simp [Lib.strCells]
      rw [hne] at hr
      have hgr := grown 0 [] rfl
      simp only [List.length_nil, Nat.zero_add, List.nil_append, Array.empty_append] at hgr ⊢
      exact ⟨_, _, hr, hgr.1, hgr.2.1, hgr.2.2⟩
  · simp only [List.cons.injEq, and_true] at hov
    subst hov
    have hcap : xs.length ≤ cap := hcap
    have htake : cur.toList.take xs.length = byC xs := htake
    by_cases hroom : xs.length + s.size ≤ cap
    · have hr := Lib.run_append_room_string w T U ty e i ht hU.eq hi hs1 g xs.length cap cur hg s hroom (by omega)
      have hsame : ∀ k, k ≠ g → SameB w (w.setRow g (cur.toList.take xs.length ++ Lib.strCells s ++ cur.toList.drop (xs.length + s.size)).toArray) k := fun k hk => setRow_other w g k _ hk
      refine ⟨_, _, hr, ⟨rfl, rfl, rfl, by simp, (by first | exact Nat.le_refl _ | exact Nat.le_add_right _ _)⟩, fun b _ hb => hsame b (fun h => hb (by simp [h])), [g], by simp, fun b hb => .inl hb, fun ok' _ => .inr ⟨g, cap, _, ?_, rfl, setRow_heap w g cur _ e _ hg, ?_, hcapm, ?_, ?_⟩⟩
      · simp [hsl]
      · simp [hsl]; exact hroom
      · simp only [List.size_toArray, List.length_append, List.length_take, List.length_drop, Array.length_toList, Lib.strCells_length]
        omega
      · have e1 : byC (xs ++ s.data.toList) = byC xs ++ byC s.data.toList := by simp [byC]
        simp only [List.length_append, hsl]
        rw [htake, e1, hsc]
        exact List.take_left' (by rw [List.length_append, byC_len, byC_len, hsl])
    · have holds : ∀ j u, (byC xs)[j]? = some u → w.cell? ((⟨g, 0, none⟩ : Addr).add j) = some u := fun j u hj => by
        rw [add_lit, Nat.zero_add]
        rw [← htake, List.getElem?_take] at hj
        split at hj
        · simpa [World.cell?, hg] using hj
        · cases hj
      have hr := Lib.run_append_grow_string (P := P) w T U ty e i z ht hU.eq hi hz ⟨g, 0, none⟩ xs.length cap (byC xs) (by rw [byC_len, hs1]; omega) holds s (by omega) (by omega) (growslice_fits (by omega) (by rw [hb1]; omega))
      have hgr := grown cap (byC xs) rfl
      exact ⟨_, _, hr, hgr.1, hgr.2.1, hgr.2.2⟩
theorem append_sl_t {T ty e : TypeId} [hT : BySl P T e] {w : World} {ok : Nat → Prop} {f : List Nat} {ov : Value} {xs ys : List UInt8} {a : Addr} {c : Nat}
    (hf : Rep.ow ok w f [ov] (TBy.mk xs : TBy e)) (hnd : f.Nodup) (hoky : ∀ b ∈ f, ¬ ok b) (hnews : ∀ j v, (byC ys)[j]? = some v → w.cell? (a.add j) = some v) (hy0 : 0 < ys.length) (hbytes : xs.length + ys.length ≤ 140737488355328) :
    ∃ v' w', (Builtin.append_ #[T, T] ty #[ov, .slice (some a) ys.length c]).run P w = .ok v' w' ∧ (w'.os = w.os ∧ w'.tape = w.tape ∧ w'.output = w.output ∧ w.heap.size ≤ w'.heap.size ∧ w.drawn ≤ w'.drawn) ∧
      (∀ b, b < w.heap.size → b ∉ f → SameB w w' b) ∧ ∃ f', f'.Nodup ∧ (∀ b ∈ f', b ∈ f ∨ w.heap.size ≤ b) ∧ ∀ ok' : Nat → Prop, (∀ b, ok b → b < w.heap.size → ok' b) → Rep.ow ok' w' f' [v'] (TBy.mk (xs ++ ys) : TBy e) := by
  obtain ⟨i, z, hi, hs1, hb1, hz, hz1⟩ := hT.info
  have ht := hT.eq
  have hyl : (byC ys).length = ys.length * i.size := by rw [byC_len, hs1, Nat.mul_one]
  have hfc : (Builtin.firstCells i.size ys.length (.slice (some a) ys.length c)).run P w = .ok (byC ys).toArray w := run_firstCells_some (P := P) w i.size ys.length a ys.length c (byC ys) hyl hnews
  have grown : ∀ (old : Nat) (cells : List Value), cells = byC xs → 
      let w' := w.drew.alloc (.cells (cells.toArray ++ (byC ys).toArray ++ Builtin.zeroCells z.cells (grownCap w (xs.length + ys.length) old e - (xs.length + ys.length))) e)
      (w'.os = w.os ∧ w'.tape = w.tape ∧ w'.output = w.output ∧ w.heap.size ≤ w'.heap.size ∧ w.drawn ≤ w'.drawn) ∧ (∀ b, b < w.heap.size → b ∉ f → SameB w w' b) ∧
      ∃ f', f'.Nodup ∧ (∀ b ∈ f', b ∈ f ∨ w.heap.size ≤ b) ∧ ∀ ok' : Nat → Prop, (∀ b, ok b → b < w.heap.size → ok' b) → Rep.ow ok' w' f' [.slice (some ⟨w.heap.size, 0, none⟩) (xs.length + ys.length) (grownCap w (xs.length + ys.length) old e)] (TBy.mk (xs ++ ys) : TBy e) := by
    intro old cells hcells w'
    have hge := grownCap_ge w (xs.length + ys.length) old e
    have hcm := grownCap_le_maxLen w (xs.length + ys.length) old e (by simp only [maxLen]; omega)
    refine ⟨⟨rfl, rfl, rfl, by simp [w'], (by first | exact Nat.le_refl _ | exact Nat.le_add_right _ _)⟩, fun b hb _ => Below.heap_alloc w.drew _ _ hb, [w.heap.size], by simp, fun b hb => .inr (by simp at hb; omega), fun ok' _ => .inr ⟨w.heap.size, _, _, ?_, rfl, heap_alloc_new w.drew _, ?_, hcm, ?_, ?_⟩⟩
    · simp
    · simp; exact hge
    · simp only [Array.size_append, List.size_toArray, size_zeroCells, hz1, hcells, byC_len, byC_len]
      omega
    · simp only [Array.toList_append, List.length_append]
      have e1 : byC (xs ++ ys) = byC xs ++ byC ys := by simp [byC]
      rw [hcells, e1]
      exact List.take_left' (by rw [List.length_append, byC_len, byC_len])
  rcases hf with ⟨hov, hx0, rfl⟩ | ⟨g, cap, cur, hov, rfl, hg, hcap, hcapm, hcs, htake⟩
  · simp only [List.cons.injEq, and_true] at hov
    subst hov
    have hx0 : xs = [] := hx0
    subst hx0
    · have hr := run_append_nil (P := P) w T ty e i z ht hi hz a ys.length c (byC ys) hyl hnews hy0 (by omega) (by rw [hb1]; omega)
      have hgr := grown 0 [] rfl
      simp only [List.length_nil, Nat.zero_add, List.nil_append, Array.empty_append] at hgr ⊢
      exact ⟨_, _, hr, hgr.1, hgr.2.1, hgr.2.2⟩
  · simp only [List.cons.injEq, and_true] at hov
    subst hov
    have hcap : xs.length ≤ cap := hcap
    have htake : cur.toList.take xs.length = byC xs := htake
    by_cases hroom : xs.length + ys.length ≤ cap
    · have hr := run_append_room' w T ty e e i ht hi g xs.length cap cur hg (.slice (some a) ys.length c) ys.length (byC ys) (fun w => run_lenOf_slice w) hfc (byC_one ys) hroom (by rw [hyl, hs1]; omega)
      rw [hs1, Nat.mul_one, byC_len] at hr
      have hsame : ∀ k, k ≠ g → SameB w (w.setRow g (cur.toList.take xs.length ++ byC ys ++ cur.toList.drop (xs.length + ys.length)).toArray) k := fun k hk => setRow_other w g k _ hk
      refine ⟨_, _, hr, ⟨rfl, rfl, rfl, by simp, (by first | exact Nat.le_refl _ | exact Nat.le_add_right _ _)⟩, fun b _ hb => hsame b (fun h => hb (by simp [h])), [g], by simp, fun b hb => .inl hb, fun ok' _ => .inr ⟨g, cap, _, ?_, rfl, setRow_heap w g cur _ e _ hg, ?_, hcapm, ?_, ?_⟩⟩
      · simp
      · simp; exact hroom
      · simp only [List.size_toArray, List.length_append, List.length_take, List.length_drop, Array.length_toList, byC_len]
        omega
      · have e1 : byC (xs ++ ys) = byC xs ++ byC ys := by simp [byC]
        simp only [List.length_append]
        rw [htake, e1]
        exact List.take_left' (by rw [List.length_append, byC_len, byC_len])
    · have holds : ∀ j u, (byC xs)[j]? = some u → w.cell? ((⟨g, 0, none⟩ : Addr).add j) = some u := fun j u hj => by
        rw [add_lit, Nat.zero_add]
        rw [← htake, List.getElem?_take] at hj
        split at hj
        · simpa [World.cell?, hg] using hj
        · cases hj
      have hr := run_append_grow (P := P) w T ty e i z ht hi hz ⟨g, 0, none⟩ xs.length cap (byC xs) (by rw [byC_len, hs1]; omega) holds a ys.length c (byC ys) hyl hnews (by omega) (by omega) (growslice_fits (by omega) (by rw [hb1]; omega))
      have hgr := grown cap (byC xs) rfl
      exact ⟨_, _, hr, hgr.1, hgr.2.1, hgr.2.2⟩
theorem wl_append_strT {T U e : TypeId} {x y : Operand} {ov : Value} {s : ByteArray} {xs : List UInt8} [hx : Ev l x ov] [hy : Ev l y (.string s)] [hT : BySl P T e] [hU : IsStr P U] [h1 : PullOw (TBy e) repTBy Γ [ov] (TBy.mk xs) Δ]
    (hbytes : xs.length + s.size ≤ 140737488355328) (h : ∀ sv, WL P ops Q w0 rest (l.set d sv) (@Atom.ow (TBy e) repTBy [sv] (TBy.mk (xs ++ s.data.toList)) :: Δ)) :
    WL P ops Q w0 (⟨some d, .call { callee := .builtin .append, args := #[x, y], argTypes := #[T, U] }, ty, pos, after, none⟩ :: rest) l Γ := by
  intro w hs
  have hs1 : Sat w0 w ([@Atom.ow (TBy e) repTBy [ov] (TBy.mk xs)] ++ Δ) := hs.perm h1.perm
  obtain ⟨hb, F, hn, hl, f, g, rfl, hf, hrest⟩ := hs1
  obtain ⟨v', w', hr, ho, hsame, fn, hfn, hnew, hrep⟩ := append_str_t (P := P) (T := T) (U := U) (ty := ty) (s := s) (e := e) hf (List.nodup_append.1 hn).1 (fun b hb hok => hok (by simp [hb])) hbytes
  refine wl_op rfl (run_append_op2 hr) ?_
  rw [E_put]
  refine h _ _ ?_
  exact Sat.step' (Δ' := [@Atom.ow (TBy e) repTBy [v'] (TBy.mk (xs ++ s.data.toList))]) (Γ := Δ) hb hn hl hrest ho hsame fn hfn hnew (fun ok' hok' => ⟨fn, [], by simp, hrep ok' hok', rfl⟩)
instance (priority := 1400) {T U e : TypeId} {x y : Operand} {ov : Value} {s : ByteArray} {xs : List UInt8} [hx : Ev l x ov] [hy : Ev l y (.string s)] [hT : BySl P T e] [hU : IsStr P U] [h1 : PullOw (TBy e) repTBy Γ [ov] (TBy.mk xs) Δ] :
    RedV (WL P ops Q w0 (⟨some d, .call { callee := .builtin .append, args := #[x, y], argTypes := #[T, U] }, ty, pos, after, none⟩ :: rest) l Γ) (xs.length + s.size ≤ 140737488355328) (fun sv => WL P ops Q w0 rest (l.set d sv) (@Atom.ow (TBy e) repTBy [sv] (TBy.mk (xs ++ s.data.toList)) :: Δ)) := ⟨fun s h => wl_append_strT s h⟩
theorem rdl_byC {ok : Nat → Prop} {w : World} : ∀ {cells : List Value} {ys : List UInt8}, RdL ok w cells ys → cells = byC ys
  | cells, [], h => h
  | cells, y :: ys, ⟨c, d, e, h, h'⟩ => by
    have hc : c = [.int .u8 y.toNat] := h
    rw [e, hc, rdl_byC h']; rfl
theorem wl_append_byT {T e : TypeId} {x y : Operand} {ov tv : Value} {xs ys : List UInt8} [hx : Ev l x ov] [hy : Ev l y tv] [hT : BySl P T e] [h1 : PullOw (TBy e) repTBy Γ [ov] (TBy.mk xs) Δ] [h2 : HasRd (List UInt8) repList Γ [tv] ys]
    (hbytes : 0 < ys.length ∧ xs.length + ys.length ≤ 140737488355328) (h : ∀ sv, WL P ops Q w0 rest (l.set d sv) (@Atom.ow (TBy e) repTBy [sv] (TBy.mk (xs ++ ys)) :: Δ)) :
    WL P ops Q w0 (⟨some d, .call { callee := .builtin .append, args := #[x, y], argTypes := #[T, T] }, ty, pos, after, none⟩ :: rest) l Γ := by
  intro w hs
  obtain ⟨a, c, hc, _, _, _, hrd⟩ := hs.rd (hr := h2)
  simp only [List.cons.injEq, and_true] at hc
  subst hc
  obtain ⟨b0, off, cells, rfl, _, hca, hr0⟩ := hrd hbytes.1
  have hcells := rdl_byC hr0
  have hs1 : Sat w0 w ([@Atom.ow (TBy e) repTBy [ov] (TBy.mk xs)] ++ Δ) := hs.perm h1.perm
  obtain ⟨hb, F, hn, hl, f, g, rfl, hf, hrest⟩ := hs1
  obtain ⟨v', w', hr, ho, hsame, fn, hfn, hnew, hrep⟩ := append_sl_t (P := P) (T := T) (ty := ty) (ys := ys) (a := ⟨b0, off, none⟩) (c := c) (e := e) hf (List.nodup_append.1 hn).1 (fun b hb hok => hok (by simp [hb])) (fun j v hj => by
    rw [add_lit]
    rw [← hcells] at hj
    rw [hca j (List.getElem?_eq_some_iff.1 hj).1, hj]) hbytes.1 hbytes.2
  refine wl_op rfl (run_append_op2 hr) ?_
  rw [E_put]
  refine h _ _ ?_
  exact Sat.step' (Δ' := [@Atom.ow (TBy e) repTBy [v'] (TBy.mk (xs ++ ys))]) (Γ := Δ) hb hn hl hrest ho hsame fn hfn hnew (fun ok' hok' => ⟨fn, [], by simp, hrep ok' hok', rfl⟩)
instance (priority := 1500) {T e : TypeId} {x y : Operand} {ov tv : Value} {xs ys : List UInt8} [hx : Ev l x ov] [hy : Ev l y tv] [hT : BySl P T e] [h1 : PullOw (TBy e) repTBy Γ [ov] (TBy.mk xs) Δ] [h2 : HasRd (List UInt8) repList Γ [tv] ys] :
    RedV (WL P ops Q w0 (⟨some d, .call { callee := .builtin .append, args := #[x, y], argTypes := #[T, T] }, ty, pos, after, none⟩ :: rest) l Γ) (0 < ys.length ∧ xs.length + ys.length ≤ 140737488355328) (fun sv => WL P ops Q w0 rest (l.set d sv) (@Atom.ow (TBy e) repTBy [sv] (TBy.mk (xs ++ ys)) :: Δ)) := ⟨fun s h => wl_append_byT s h⟩
/-! conversions of pointers -/
class CvTo (P : Program) (S D : TypeId) : Prop where
  ex : ∃ t j, P.underlying S = some (.pointer t) ∧ P.underlying D = some .unsafePointer ∧ P.info? t = some j ∧ j.size ≠ 0
class CvFrom (P : Program) (S D T : TypeId) (n : Nat) : Prop where
  ex : ∃ u j, P.underlying S = some .unsafePointer ∧ P.underlying D = some (.pointer u) ∧ P.info? u = some j ∧ liesAt P P.depth T (n / P.cellsOf T) 0 u 1 = true
theorem tb_shape {w : World} {b : Nat} {T : TypeId} {cs : List Value} (h : w.heap[b]? = some (.cells cs.toArray T (0, 0))) : w.shape? b = some (T, cs.length) := by simp [World.shape?, h]
instance (priority := 1500) {S D T : TypeId} {x : Operand} {b : Nat} {cs : List Value} [hx : Ev l x (.pointer (some ⟨b, 0, none⟩))] [hb : PullTb Γ b T cs Δ] [hc : CvTo P S D] : PuS P l Γ (.convert S D x) ty (.pointer (some ⟨b, 0, none⟩)) (0 < cs.length) := ⟨fun h0 w0 => by
  obtain ⟨t, j, h1, h2, h3, h4⟩ := hc.ex
  exact pu_of (s := convert S D (.pointer (some ⟨b, 0, none⟩))) (fun o ho _ => by unfold execOp; rw [ho]; simp only [hx.eq]) (fun w hs => Lib.run_to_unsafe w ⟨b, 0, none⟩ h1 h2 h3 h4 (tb_shape (sat_tb (hs.perm hb.perm))) h0)⟩
instance (priority := 1400) {S D : TypeId} {T : TypeId} {x : Operand} {b : Nat} {c0 c1 : Value} [hx : Ev l x (.pointer (some ⟨b, 0, none⟩))] [hb : PullTb Γ b T [c0, c1] Δ] [hc : CvFrom P S D T 2] : PuC P l Γ (.convert S D x) ty (.pointer (some ⟨b, 0, none⟩)) := ⟨fun w0 => by
  obtain ⟨u, j, h1, h2, h3, h4⟩ := hc.ex
  exact pu_of (s := convert S D (.pointer (some ⟨b, 0, none⟩))) (fun o ho _ => by unfold execOp; rw [ho]; simp only [hx.eq]) (fun w hs => Lib.run_from_unsafe w ⟨b, 0, none⟩ h1 h2 h3 (tb_shape (sat_tb (hs.perm hb.perm))) h4)⟩
instance {c : UInt8} : OwnC UInt8 Γ [.int .u8 ((c.toNat : Nat) : Int)] c Γ True := ⟨fun _ => fun {_ _ F} hs => ⟨F, .refl _, [], F, rfl, ⟨rfl, rfl⟩, hs⟩⟩
/-- A function of the model's own that gives its argument back. -/
class IsId (P : Program) (f : FuncId) : Prop where
  run : ∀ (x : Value) (w : World), (callFunc f #[x]).run P w = .ok (.value x) w
instance (priority := 1500) {f : FuncId} {x : Operand} {v : Value} {ts : Array TypeId} [hx : Ev l x v] [hf : IsId P f] : PuC P l Γ (.call { callee := .value (.func f), args := #[x], argTypes := ts }) ty v := ⟨fun w0 w hs o h1 h2 => by
  have := hf.run v w
  unfold execOp
  rw [h1]
  simp only [resolve, Sem.run_bind]
  show (Sem.run P (Deferred.ofValue (.func (.func f) #[] #[]) _) w).andThen _ = _
  simpa [Deferred.ofValue, invoke, hx.eq] using this⟩
/-! the string of the bytes -/
def baseP : Value → Value
  | .slice a _ _ => .pointer a
  | _ => .pointer none
theorem tby_row {w w0 : World} {Γ : List Atom} {e : TypeId} {v : Value} {xs : List UInt8} (h : Sat w0 w (@Atom.ow (TBy e) repTBy [v] (TBy.mk xs) :: Γ)) (h0 : 0 < xs.length) : ∃ g cap cur, v = .slice (some ⟨g, 0, none⟩) xs.length cap ∧ w.heap[g]? = some (.cells cur e (0, 0)) ∧ xs.length ≤ cap ∧ cap ≤ maxLen ∧ cap ≤ cur.size ∧ cur.toList.take xs.length = byC xs := by
  obtain ⟨_, F, _, _, f, g2, _, hf, _⟩ := h
  rcases (show Rep.ow (α := TBy e) _ w f [v] (TBy.mk xs) from hf) with ⟨_, hx, _⟩ | ⟨g, cap, cur, h1, _, h3, h4, h5, h6, h7⟩
  · have hx : xs = [] := hx
    rw [hx] at h0; simp at h0
  · simp only [List.cons.injEq, and_true] at h1
    exact ⟨g, cap, cur, h1, h3, h4, h5, h6, h7⟩
instance (priority := 1500) {T e : TypeId} {x : Operand} {v : Value} {xs : List UInt8} [h : Ev l x v] [hT : BySl P T e] [hp : PullOw (TBy e) repTBy Γ [v] (TBy.mk xs) Δ] : PuS P l Γ (.call { callee := .builtin .len, args := #[x], argTypes := #[T] }) ty (.int .i64 xs.length) True := ⟨fun _ w0 => by
  refine pu_of (s := Builtin.len_ #[T] ty #[v]) (fun o ho h2 => ?_) (fun w hs => ?_)
  · unfold execOp
    rw [ho]
    simp [resolve, invoke, builtin, h.eq, h2, Pure.pure, Bind.bind, Sem.bind]
  · obtain ⟨_, F, _, _, f, g2, _, hf, _⟩ := hs.perm hp.perm
    have hv : ∃ a c, v = .slice a xs.length c := by
      rcases (show Rep.ow (α := TBy e) _ w f [v] (TBy.mk xs) from hf) with ⟨h1, hx, _⟩ | ⟨g, cap, cur, h1, _⟩
      · have hx : xs = [] := hx
        simp only [List.cons.injEq, and_true] at h1
        exact ⟨none, 0, by rw [h1, hx]; rfl⟩
      · simp only [List.cons.injEq, and_true] at h1
        exact ⟨_, cap, h1⟩
    obtain ⟨a, c, rfl⟩ := hv
    simp [Builtin.len_, run_underlying hT.eq, goInt]⟩
instance (priority := 1500) {ts : Array TypeId} {e : TypeId} {x : Operand} {v : Value} {xs : List UInt8} [h : Ev l x v] [hp : PullOw (TBy e) repTBy Γ [v] (TBy.mk xs) Δ] : PuS P l Γ (.call { callee := .builtin .unsafeSliceData, args := #[x], argTypes := ts }) ty (baseP v) (0 < xs.length) := ⟨fun h0 w0 => by
  refine pu_of (s := Builtin.unsafeSliceData_ ts ty #[v]) (fun o ho h2 => ?_) (fun w hs => ?_)
  · unfold execOp
    rw [ho]
    simp [resolve, invoke, builtin, h.eq, h2, Pure.pure, Bind.bind, Sem.bind]
  · obtain ⟨g, cap, cur, rfl, _, h4, _⟩ := tby_row (hs.perm hp.perm) h0
    exact Lib.run_unsafeSliceData_row _ _ _ _ _ _ (by omega)⟩
/-- The first type is that of pointers to bytes of type e. -/
class ByPt (P : Program) (T e : TypeId) : Prop where
  eq : P.underlying T = some (.pointer e)
  one : P.cellsOf e = 1
theorem wl_unsafeString {T U e : TypeId} {x y : Operand} {v : Value} {n : Int} {xs : List UInt8} [hx : Ev l x (baseP v)] [hy : Ev l y (.int .i64 n)] [hT : ByPt P T e] [hp : PullOw (TBy e) repTBy Γ [v] (TBy.mk xs) Δ]
    (h0 : n = xs.length ∧ 0 < xs.length) (h : WL P ops Q w0 rest (l.set d (.string ⟨xs.toArray⟩)) Δ) :
    WL P ops Q w0 (⟨some d, .call { callee := .builtin .unsafeString, args := #[x, y], argTypes := #[T, U] }, ty, pos, after, none⟩ :: rest) l Γ := by
  intro w hs
  obtain ⟨rfl, hx0⟩ := h0
  have hs2 := hs.perm hp.perm
  obtain ⟨g, cap, cur, rfl, hg, h4, h5, h6, h7⟩ := tby_row hs2 hx0
  have hm : cap ≤ 9223372036854775807 := by simp only [maxLen] at h5; omega
  have hcell : ∀ j b, xs[j]? = some b → w.cell? ((⟨g, 0, none⟩ : Addr).add j) = some (.int .u8 b.toNat) := fun j b hj => by
    rw [add_lit, Nat.zero_add]
    have hb : (byC xs)[j]? = some (.int .u8 b.toNat) := by simp [byC, hj]
    rw [← h7, List.getElem?_take] at hb
    split at hb
    · simpa [World.cell?, hg] using hb
    · cases hb
  have hr := Lib.run_unsafeString_row (P := P) w T U ty e hT.eq hT.one g cur.size (by simp [World.shape?, hg]) xs (by intro hh; rw [hh] at hx0; simp at hx0) (by omega) (by omega) hcell
  have hrun : (execOp (E l).eval (⟨some d, .call { callee := .builtin .unsafeString, args := #[x, y], argTypes := #[T, U] }, ty, pos, after, none⟩ : Oper)).run P w = .ok (.value (.string ⟨xs.toArray⟩)) (w.freeze ⟨g, 0, none⟩ xs.length) := by
    have : execOp (E l).eval (⟨some d, .call { callee := .builtin .unsafeString, args := #[x, y], argTypes := #[T, U] }, ty, pos, after, none⟩ : Oper) = (do pure (.value (← Builtin.unsafeString_ #[T, U] ty #[.pointer (some ⟨g, 0, none⟩), .int .i64 xs.length])) : Sem Next) := by
      unfold execOp
      simp [resolve, invoke, builtin, hx.eq, hy.eq, baseP, Pure.pure, Bind.bind, Sem.bind]
    rw [this]
    exact run_value hr
  refine wl_op rfl hrun ?_
  rw [E_put]
  refine h _ ?_
  obtain ⟨hb, F, hn, hl, f, g2, rfl, hf, hrest⟩ := hs2
  have hgf : g ∈ f := by
    rcases (show Rep.ow (α := TBy e) _ w f [.slice (some ⟨g, 0, none⟩) xs.length cap] (TBy.mk xs) from hf) with ⟨h1, _⟩ | ⟨g', cap', cur', h1, rfl, _⟩
    · simp at h1
    · simp at h1
      simp [h1.1]
  have hother : ∀ b, b ≠ g → SameB w (w.freeze ⟨g, 0, none⟩ xs.length) b := fun b hbg => by
    unfold World.freeze
    split
    · rfl
    · simp [SameB, Array.getElem?_modify, Ne.symm hbg]
  have hsz : (w.freeze ⟨g, 0, none⟩ xs.length).heap.size = w.heap.size := by
    unfold World.freeze
    split <;> simp
  have hsat := Sat.step' (w' := w.freeze ⟨g, 0, none⟩ xs.length) (Δ' := []) (Γ := Δ) hb hn hl hrest ⟨by unfold World.freeze; split <;> rfl, by unfold World.freeze; split <;> rfl, by unfold World.freeze; split <;> rfl, by rw [hsz]; exact Nat.le_refl _, by unfold World.freeze; split <;> exact Nat.le_refl _⟩ (fun b _ hbf => hother b (fun e => hbf (e ▸ hgf))) [] List.nodup_nil (fun b hb => absurd hb List.not_mem_nil) (fun ok' hok' => rfl)
  simpa using hsat
instance (priority := 1500) {T U e : TypeId} {x y : Operand} {v : Value} {n : Int} {xs : List UInt8} [hx : Ev l x (baseP v)] [hy : Ev l y (.int .i64 n)] [hp : PullOw (TBy e) repTBy Γ [v] (TBy.mk xs) Δ] [hT : ByPt P T e] :
    RedS (WL P ops Q w0 (⟨some d, .call { callee := .builtin .unsafeString, args := #[x, y], argTypes := #[T, U] }, ty, pos, after, none⟩ :: rest) l Γ) (n = xs.length ∧ 0 < xs.length) (WL P ops Q w0 rest (l.set d (.string ⟨xs.toArray⟩)) Δ) := ⟨fun s h => wl_unsafeString s h⟩
/-! numbers as bytes, bytes as strings -/
theorem pu_to8 {S T : TypeId} {x : Operand} {n : Int} [hx : Ev l x (.int .i64 n)] [hS : I64T P S] [hT : U8T P T] (h : 0 ≤ n ∧ n < 256) : Pu P w0 l Γ (.convert S T x) ty (.int .u8 (((UInt8.ofNat n.toNat).toNat : Nat) : Int)) :=
  pu_of (s := convert S T (.int .i64 n)) (fun o ho _ => by unfold execOp; rw [ho]; simp only [hx.eq]) (fun w _ => by
    simp only [convert, Sem.run_bind, run_underlying hS.eq, run_underlying hT.eq, Result.andThen_ok, Conv.intToInt, Sem.run_pure]
    have : IntKind.u8.wrap n = (((UInt8.ofNat n.toNat).toNat : Nat) : Int) := by
      rw [UInt8.toNat_ofNat', Nat.mod_eq_of_lt (by omega), Int.toNat_of_nonneg h.1]
      simp [IntKind.wrap, IntKind.signed, IntKind.bits, IntKind.min, IntKind.max]
      omega
    rw [this])
instance {S T : TypeId} {x : Operand} {n : Int} [hx : Ev l x (.int .i64 n)] [hS : I64T P S] [hT : U8T P T] : PuS P l Γ (.convert S T x) ty (.int .u8 (((UInt8.ofNat n.toNat).toNat : Nat) : Int)) (0 ≤ n ∧ n < 256) := ⟨fun h _ => pu_to8 h⟩
/-- T is the type of slices of bytes (with its element's own row). -/
class ByS8 (P : Program) (T : TypeId) : Prop where
  ex : ∃ e, P.underlying T = some (.slice e) ∧ P.underlying e = some (.int .u8)
theorem pu_bytes_str {S T : TypeId} {x : Operand} {v : Value} {ys : List UInt8} [hx : Ev l x v] [hS : ByS8 P S] [hT : IsStr P T] [hr : HasRd (List UInt8) repList Γ [v] ys] (h0 : 0 < ys.length) : Pu P w0 l Γ (.convert S T x) ty (.string ⟨ys.toArray⟩) :=
  pu_of (s := convert S T v) (fun o ho _ => by unfold execOp; rw [ho]; simp only [hx.eq]) (fun w hs => by
    obtain ⟨e, h1, h2⟩ := hS.ex
    obtain ⟨a, c, hc, _, _, _, hrd⟩ := hs.rd (hr := hr)
    simp only [List.cons.injEq, and_true] at hc
    subst hc
    obtain ⟨b0, off, cells, rfl, _, hca, hr0⟩ := hrd h0
    have hcells := rdl_byC hr0
    exact run_convert_bytes_back w S T e ⟨b0, off, none⟩ c ys h1 h2 hT.eq (fun j hj => by
      rw [add_lit, hca j (by rw [hcells, byC_len]; exact hj), hcells]
      simp [byC, List.getElem?_eq_getElem hj]))
instance {S T : TypeId} {x : Operand} {v : Value} {ys : List UInt8} [hx : Ev l x v] [hS : ByS8 P S] [hT : IsStr P T] [hr : HasRd (List UInt8) repList Γ [v] ys] : PuS P l Γ (.convert S T x) ty (.string ⟨ys.toArray⟩) (0 < ys.length) := ⟨fun h _ => pu_bytes_str h⟩
instance {T U : TypeId} {x y : Operand} {a : Addr} [hT : PtrT P T] [hx : Ev l x (.pointer (some a))] [hy : Ev l y (.pointer (some a))] : PuC P l Γ (.binOp .neq T x y U) ty (.bool false) := ⟨fun _ => by
  obtain ⟨j, h1, _⟩ := hT.info
  exact pu_bin eqGuard_ptr (fun w => Lib.run_neq_ptr_same w a hT.eq h1)⟩
end
end Go.Eng
