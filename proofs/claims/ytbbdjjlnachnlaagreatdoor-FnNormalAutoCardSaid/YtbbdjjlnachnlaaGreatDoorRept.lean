/- slices.Repeat of one number. -/
import Derived.Test.YtbbdjjlnachnlaaGreatDoorAuto
import Derived.Test.YtbbdjjlnachnlaaGreatDoorShelfM
import Derived.Laws.CopyRow
import Derived.Laws.IdiomCopy
namespace Go.Proofs.YtbbdjjlnachnlaaGreatDoor
open Go Go.Eng Go.RowKit
set_option linter.unusedVariables false
set_option linter.unusedSimpArgs false
set_option synthInstance.maxHeartbeats 400000
set_option synthInstance.maxSize 1000
set_option maxRecDepth 20000

section
variable {P : Program} {ops : Array Oper} {Q : Exit → Act → World → Prop} {w0 : World} {rest : List Oper} {l l' : List Value} {Γ Δ : List Atom} {ty : TypeId} {pos : String} {after : Array Edge} {d : Nat}
theorem pu_conv_i {S T : TypeId} {x : Operand} {n : Int} [hx : Ev l x (.int .u64 n)] [hS : U64T P S] [hT : I64T P T] (h : 0 ≤ n ∧ n ≤ 9223372036854775807) : Pu P w0 l Γ (.convert S T x) ty (.int .i64 n) :=
  pu_of (s := convert S T (.int .u64 n)) (fun o ho _ => by unfold execOp; rw [ho]; simp only [hx.eq]) (fun w _ => by
    simp only [convert, Sem.run_bind, run_underlying hS.eq, run_underlying hT.eq, Result.andThen_ok, Conv.intToInt, Sem.run_pure]
    rw [IntWalk.i64_in _ (by omega)])
instance {S T : TypeId} {x : Operand} {n : Int} [hx : Ev l x (.int .u64 n)] [hS : U64T P S] [hT : I64T P T] : PuS P l Γ (.convert S T x) ty (.int .i64 n) (0 ≤ n ∧ n ≤ 9223372036854775807) := ⟨fun h _ => pu_conv_i h⟩
end
/-- Of a row of numbers of the call's own. -/
theorem owi_cells {ok : Nat → Prop} {w : World} : ∀ {F : List Nat} {cells : List Value} {xs : List Int}, OwL ok w F cells xs → F = [] ∧ cells = xs.map (Value.int .i64) ∧ ∀ x ∈ xs, In64 x
  | _, _, [], h => ⟨h.1, h.2, fun _ h => absurd h (by simp)⟩
  | _, _, x :: xs, ⟨f, g, c, d, e, e', h, h'⟩ => by
    obtain ⟨h1, h2, h4⟩ := owi_cells h'
    obtain ⟨h5, h6, h7⟩ := h
    refine ⟨by rw [e, h5, h1]; rfl, by rw [e', h6, h2]; rfl, fun y hy => ?_⟩
    rcases List.mem_cons.1 hy with rfl | hy
    · exact h7
    · exact h4 y hy
theorem cells_owi {ok : Nat → Prop} {w : World} : ∀ {xs : List Int}, (∀ x ∈ xs, In64 x) → OwL ok w [] (xs.map (Value.int .i64)) xs
  | [], _ => ⟨rfl, rfl⟩
  | x :: xs, h => ⟨[], [], [Value.int .i64 x], xs.map (Value.int .i64), rfl, rfl, ⟨rfl, rfl, h x (by simp)⟩, cells_owi fun y hy => h y (by simp [hy])⟩
theorem owi_row {ok : Nat → Prop} {w : World} {F : List Nat} {sv : Value} {xs : List Int} (h : Rep.ow ok w F [sv] xs) (hl : 0 < xs.length) :
    ∃ g cap cur e, sv = .slice (some ⟨g, 0, none⟩) xs.length cap ∧ F = [g] ∧ w.heap[g]? = some (.cells cur e (0, 0)) ∧ xs.length ≤ cap ∧ cap ≤ maxLen ∧ xs.length ≤ 9223372036854775807 ∧ cap ≤ cur.size ∧ cur.toList.take xs.length = xs.map (Value.int .i64) ∧ ∀ x ∈ xs, In64 x := by
  rw [ow_list] at h
  rcases h with ⟨_, rfl, _⟩ | ⟨g, cap, cur, e, G, cells, h1, h2, h3, h4, h5, h6, h7, h8, h9⟩
  · simp at hl
  · obtain ⟨hG, hc, hx⟩ := owi_cells h9
    simp only [List.cons.injEq, and_true] at h1
    have e1 : Rep.sz Int = 1 := rfl
    rw [e1, Nat.mul_one] at h7 h8
    exact ⟨g, cap, cur, e, h1, by rw [h2, hG], h3, h4, h5, h6, h7, by rw [h8, hc], hx⟩
theorem row_owi {ok : Nat → Prop} {w : World} {g cap : Nat} {cur : Array Value} {e : TypeId} {xs : List Int} (h3 : w.heap[g]? = some (.cells cur e (0, 0))) (h4 : xs.length ≤ cap) (h5 : cap ≤ maxLen) (h6 : xs.length ≤ 9223372036854775807) (h7 : cap ≤ cur.size) (h8 : cur.toList.take xs.length = xs.map (Value.int .i64)) (hx : ∀ x ∈ xs, In64 x) :
    Rep.ow ok w [g] [Value.slice (some ⟨g, 0, none⟩) xs.length cap] xs := by
  rw [ow_list]
  have e1 : Rep.sz Int = 1 := rfl
  exact .inr ⟨g, cap, cur, e, [], _, rfl, rfl, h3, h4, h5, h6, by rw [e1, Nat.mul_one]; exact h7, by rw [e1, Nat.mul_one]; exact h8, cells_owi hx⟩
def dropV (sv : Value) (n : Nat) : Value := match sv with
  | .slice (some a) len cap => .slice (if cap = n then some a else some ⟨a.block, a.off + n, a.spot⟩) (len - n) (cap - n)
  | x => x
def takeV (sv : Value) (n : Nat) : Value := match sv with
  | .slice a _ cap => .slice a n cap
  | x => x
section
variable {P : Program} {ops : Array Oper} {Q : Exit → Act → World → Prop} {w0 : World} {rest : List Oper} {l l' : List Value} {Γ Δ : List Atom} {ty : TypeId} {pos : String} {after : Array Edge} {d : Nat}
instance {T k by_ : Nat} {x y : Operand} {sv : Value} {kk : IntKind} {n : Int} {m : Nat} {xs : List Int} [hx : Ev l x sv] [hy : Ev l y (.int kk n)] [hm : ToN n m] [hT : Sl P T k by_] [hk : SzIs Int k] [hp : PullOw (List Int) repList Γ [sv] xs Δ] :
    PuS P l Γ (.slice T x (some y) none none) ty (dropV sv m) (0 ≤ n ∧ n < xs.length) := ⟨fun hn w0 => by
  have hmn : n = (m : Int) := by have := hm.eq; omega
  obtain ⟨e, i, z', ht, hi', hik, hib, hz', hzk, hpos⟩ := hT.ex
  refine pu_of (s := Instr.sliceAt T sv (some (.int kk n)) none none) (fun o ho _ => by unfold execOp; rw [ho]; simp only [hx.eq, hy.eq, Option.map]) (fun w hs => ?_)
  obtain ⟨hb, F, hnd, hl, f, g, rfl, hf, hΔ⟩ := hs.perm hp.perm
  obtain ⟨b, cap, cur, e', rfl, rfl, h3, h4, h5, h6, h7, h8, h9⟩ := owi_row (show Rep.ow (α := List Int) _ w f [sv] xs from hf) (by omega)
  have hi1 : i.size = 1 := by have := hk.eq; have e1 : Rep.sz Int = 1 := rfl; omega
  rw [hmn, run_slice (P := P) (T := T) (a := some ⟨b, 0, none⟩) (n := xs.length) (cap := cap) (lo := m) (hi := xs.length) (vlo := some (.int kk m)) (vhi := none) ht hi' (.inr ⟨kk, rfl⟩) (.inl ⟨rfl, rfl⟩) (by omega) (by omega) w]
  simp only [dropV, hi1, Nat.mul_one, Option.map, add_lit]⟩
instance {T k by_ : Nat} {x y : Operand} {sv : Value} {kk : IntKind} {n : Int} {m : Nat} {xs : List Int} [hx : Ev l x sv] [hy : Ev l y (.int kk n)] [hm : ToN n m] [hT : Sl P T k by_] [hk : SzIs Int k] [hp : PullOw (List Int) repList Γ [sv] xs Δ] :
    PuS P l Γ (.slice T x none (some y) none) ty (takeV sv m) (0 ≤ n ∧ n < xs.length) := ⟨fun hn w0 => by
  have hmn : n = (m : Int) := by have := hm.eq; omega
  obtain ⟨e, i, z', ht, hi', hik, hib, hz', hzk, hpos⟩ := hT.ex
  refine pu_of (s := Instr.sliceAt T sv none (some (.int kk n)) none) (fun o ho _ => by unfold execOp; rw [ho]; simp only [hx.eq, hy.eq, Option.map]) (fun w hs => ?_)
  obtain ⟨hb, F, hnd, hl, f, g, rfl, hf, hΔ⟩ := hs.perm hp.perm
  obtain ⟨b, cap, cur, e', rfl, rfl, h3, h4, h5, h6, h7, h8, h9⟩ := owi_row (show Rep.ow (α := List Int) _ w f [sv] xs from hf) (by omega)
  rw [hmn, run_slice (P := P) (T := T) (a := some ⟨b, 0, none⟩) (n := xs.length) (cap := cap) (lo := 0) (hi := m) (vlo := none) (vhi := some (.int kk m)) ht hi' (.inl ⟨rfl, rfl⟩) (.inr ⟨kk, rfl⟩) (by omega) (by omega) w]
  have ez : (if cap = 0 then (some ⟨b, 0, none⟩ : Option Addr) else Option.map (fun x : Addr => x.add (0 * i.size)) (some (⟨b, 0, none⟩ : Addr))) = some (⟨b, 0, none⟩ : Addr) := by
    split
    · rfl
    · simp [add_lit]
  rw [ez]; rfl⟩
theorem copy_row_sat {w : World} {f g2 : List Nat} {sv : Value} {xs : List Int} {T ty : TypeId} {x y : Operand} {k by_ : Nat} {o dLen dCap sLen sCap : Nat} {a : Addr} {ys : List Int} {b cap : Nat}
    (hT : Sl P T k by_) (hk : k = 1) (hs : Sat w0 w Γ) (hp : PullOw (List Int) repList Γ [sv] xs Δ) (hsv : sv = .slice (some ⟨b, 0, none⟩) xs.length cap) (hl : 0 < xs.length)
    (hlen : ys.length = Nat.min sLen dLen) (ho : o + ys.length ≤ xs.length) (hsrc : ∀ j v, (ys.map (Value.int .i64))[j]? = some v → w.cell? (a.add j) = some v) (hy : ∀ x ∈ ys, In64 x) :
    ∃ w', (Builtin.copy_ #[T, T] ty #[.slice (some ⟨b, o, none⟩) dLen dCap, .slice (some a) sLen sCap]).run P w = .ok (.int .i64 ys.length) w' ∧ Sat w0 w' (.ow [sv] (xs.take o ++ ys ++ xs.drop (o + ys.length)) :: Δ) := by
  obtain ⟨e, i, z', ht, hi', hik, hib, hz', hzk, hpos⟩ := hT.ex
  obtain ⟨hb, F, hnd, hl2, f, g, rfl, hf, hΔ⟩ := hs.perm hp.perm
  obtain ⟨b2, cap2, cur, e', h1, rfl, h3, h4, h5, h6, h7, h8, h9⟩ := owi_row (show Rep.ow (α := List Int) _ w f [sv] xs from hf) hl
  obtain ⟨rfl, rfl⟩ : b2 = b ∧ cap2 = cap := by rw [hsv] at h1; simp at h1; exact ⟨h1.1.symm, h1.2.symm⟩
  have hrun := run_copy_row (P := P) w T T ty e b2 o dLen dCap a sLen sCap cur e' (ys.map (Value.int .i64)) ht (by rw [hi']; simp; omega) h3 (by rw [List.length_map]; exact hlen) hsrc (by rw [List.length_map]; omega) (by
    intro v hv
    obtain ⟨n, _, rfl⟩ := List.mem_map.1 hv
    rfl)
  rw [List.length_map] at hrun
  obtain ⟨cur', hcur'⟩ : ∃ c : Array Value, c = (cur.toList.take o ++ ys.map (Value.int .i64) ++ cur.toList.drop (o + ys.length)).toArray := ⟨_, rfl⟩
  rw [← hcur'] at hrun
  refine ⟨_, hrun, ?_⟩
  have hlx : (xs.take o ++ ys ++ xs.drop (o + ys.length)).length = xs.length := by
    simp only [List.length_append, List.length_take, List.length_drop]; omega
  have hcs : cur.toList.length = cur.size := Array.length_toList
  have hsz : cur'.size = cur.size := by
    rw [hcur', List.size_toArray]
    simp only [List.length_append, List.length_take, List.length_drop, List.length_map, hcs]
    omega
  have hpre : ∀ j, j ≤ xs.length → cur.toList.take j = (xs.take j).map (Value.int .i64) := fun j hj => by
    have e1 : cur.toList.take j = (cur.toList.take xs.length).take j := by rw [List.take_take, Nat.min_eq_left hj]
    rw [e1, h8, List.map_take]
  have htk : cur'.toList.take xs.length = (xs.take o ++ ys ++ xs.drop (o + ys.length)).map (Value.int .i64) := by
    rw [hcur', List.toList_toArray, List.map_append, List.map_append, hpre o (by omega)]
    have hA : ((xs.take o).map (Value.int .i64) ++ ys.map (Value.int .i64)).length = o + ys.length := by simp only [List.length_append, List.length_map, List.length_take]; omega
    rw [List.take_append, hA, List.take_of_length_le (by rw [hA]; omega)]
    congr 1
    rw [← List.drop_take, h8, List.map_drop]
  rw [hsv]
  refine Sat.step' (Δ' := [.ow [_] (xs.take o ++ ys ++ xs.drop (o + ys.length))]) (Γ := Δ) (f := [b2]) (g := g) (w := w) hb hnd hl2 hΔ ⟨rfl, rfl, rfl, by simp [World.setRow], (by first | exact Nat.le_refl _ | exact Nat.le_add_right _ _)⟩ (fun c hlt hne => ?_) [b2] (by simp) (by simp) (fun ok' _ => ?_)
  · show (w.heap.modify b2 _)[c]? = w.heap[c]?
    rw [Array.getElem?_modify, if_neg (fun e => hne (by simp [e]))]
  · refine ⟨[b2], [], rfl, ?_, rfl⟩
    show Rep.ow ok' _ [b2] [Value.slice (some ⟨b2, 0, none⟩) xs.length cap2] _
    rw [← hlx]
    refine row_owi (cur := cur') (e := e') ?_ (by rw [hlx]; exact h4) h5 (by rw [hlx]; exact h6) (by rw [hsz]; exact h7) (by rw [hlx]; exact htk) ?_
    · show (w.heap.modify b2 _)[b2]? = _
      rw [Array.getElem?_modify, if_pos rfl, h3]; rfl
    · intro z hz
      simp only [List.mem_append] at hz
      rcases hz with (hz | hz) | hz
      · exact h9 z (List.mem_of_mem_take hz)
      · exact hy z hz
      · exact h9 z (List.mem_of_mem_drop hz)
theorem copy_exec {T : TypeId} {x y : Operand} {sv tv : Value} (hx : (E l).eval x = sv) (hy : (E l).eval y = tv) :
    execOp (E l).eval (⟨some d, .call { callee := .builtin .copy, args := #[x, y], argTypes := #[T, T] }, ty, pos, after, none⟩ : Oper) = (do pure (Next.value (← Builtin.copy_ #[T, T] ty #[sv, tv])) : Sem Next) := by
  unfold execOp
  simp [resolve, invoke, builtin, hx, hy, Pure.pure, Bind.bind, Sem.bind]
/-- copy(s, [x]): the first element. -/
theorem wl_copy_one {T k by_ : Nat} {x y : Operand} {sv tv : Value} {xs : List Int} {z : Int} [hx : Ev l x sv] [hy : Ev l y tv] [hT : Sl P T k by_] [hk : SzIs Int k] [hp : PullOw (List Int) repList Γ [sv] xs Δ] [hr : HasRd (List Int) repList Γ [tv] [z]] (hl : 0 < xs.length)
    (h : WL P ops Q w0 rest (l.set d (.int .i64 1)) (.ow [sv] (z :: xs.drop 1) :: Δ)) : WL P ops Q w0 (⟨some d, .call { callee := .builtin .copy, args := #[x, y], argTypes := #[T, T] }, ty, pos, after, none⟩ :: rest) l Γ := by
  intro w hs
  have hs0 := hs
  obtain ⟨hb, F, hnd, hl2, f, g, rfl, hf, hΔ⟩ := hs.perm hp.perm
  obtain ⟨b, cap, cur, e', h1, rfl, h3, h4, h5, h6, h7, h8, h9⟩ := owi_row (show Rep.ow (α := List Int) _ w f [sv] xs from hf) hl
  obtain ⟨a, scap, htv, _, _, _, hsl⟩ := hs0.rd (hr := hr)
  simp only [List.cons.injEq, and_true] at htv
  obtain ⟨b2, off, cells, ha, _, hat, hrd⟩ := hsl (by simp)
  obtain ⟨c, dd, hcd, hc1, hdd⟩ := hrd
  have hcz : c = [.int .i64 z] := hc1.1
  have hdn : dd = [] := hdd
  subst ha
  obtain ⟨w', hrun, hs'⟩ := copy_row_sat (P := P) (T := T) (ty := ty) (x := x) (y := y) (o := 0) (dLen := xs.length) (dCap := cap) (sLen := 1) (sCap := scap) (a := ⟨b2, off, none⟩) (ys := [z]) (f := []) (g2 := []) (by_ := by_) hT hk.eq hs0 hp h1 hl
    (by simp only [List.length_singleton]; exact (Nat.min_eq_left hl).symm) (by simp only [List.length_singleton]; omega) (fun j v hj => by
      have hat0 := hat 0
      rw [hcd, hcz, hdn] at hat
      cases j with
      | zero =>
        simp at hj
        subst hj
        have := hat 0 (by simp)
        simpa [add_lit] using this
      | succ j => simp at hj) (fun q hq => by rw [List.mem_singleton] at hq; subst hq; exact hc1.2)
  have hexec : (execOp (E l).eval (⟨some d, .call { callee := .builtin .copy, args := #[x, y], argTypes := #[T, T] }, ty, pos, after, none⟩ : Oper)).run P w = .ok (.value (.int .i64 1)) w' := by
    rw [copy_exec hx.eq hy.eq]
    exact run_value (f := Next.value) (by rw [h1, htv]; exact hrun)
  refine wl_op rfl hexec ?_
  rw [E_put]
  exact h w' hs'
/-- copy(s[n:], s[:n]). -/
theorem wl_copy_self {T k by_ : Nat} {x y : Operand} {sv : Value} {xs : List Int} {n : Nat} [hx : Ev l x (dropV sv n)] [hy : Ev l y (takeV sv n)] [hT : Sl P T k by_] [hk : SzIs Int k] [hp : PullOw (List Int) repList Γ [sv] xs Δ] (hl : n < xs.length)
    (h : WL P ops Q w0 rest (l.set d (.int .i64 (min n (xs.length - n) : Nat))) (.ow [sv] (xs.take n ++ xs.take (min n (xs.length - n)) ++ xs.drop (n + min n (xs.length - n))) :: Δ)) : WL P ops Q w0 (⟨some d, .call { callee := .builtin .copy, args := #[x, y], argTypes := #[T, T] }, ty, pos, after, none⟩ :: rest) l Γ := by
  intro w hs
  have hs0 := hs
  obtain ⟨hb, F, hnd, hl2, f, g, rfl, hf, hΔ⟩ := hs.perm hp.perm
  obtain ⟨b, cap, cur, e', h1, rfl, h3, h4, h5, h6, h7, h8, h9⟩ := owi_row (show Rep.ow (α := List Int) _ w f [sv] xs from hf) (by omega)
  have hmn : min n (xs.length - n) ≤ n := Nat.min_le_left _ _
  have hml : min n (xs.length - n) ≤ xs.length - n := Nat.min_le_right _ _
  have hyl : (xs.take (min n (xs.length - n))).length = min n (xs.length - n) := by rw [List.length_take]; omega
  obtain ⟨w', hrun, hs'⟩ := copy_row_sat (P := P) (T := T) (ty := ty) (x := x) (y := y) (o := n) (dLen := xs.length - n) (dCap := cap - n) (sLen := n) (sCap := cap) (a := ⟨b, 0, none⟩) (ys := xs.take (min n (xs.length - n))) (f := []) (g2 := []) (by_ := by_) hT hk.eq hs0 hp h1 (by omega)
    hyl (by rw [hyl]; omega) (fun j v hj => by
      rw [List.getElem?_map, List.getElem?_take] at hj
      split at hj
      · have hjl : j < xs.length := by omega
        have e1 : cur.toList[j]? = (xs.map (Value.int .i64))[j]? := by rw [← h8, List.getElem?_take, if_pos hjl]
        rw [add_lit]
        simp only [World.cell?, h3, Nat.zero_add]
        rw [← Array.getElem?_toList, e1, List.getElem?_map]
        exact hj
      · simp at hj) (fun q hq => h9 q (List.mem_of_mem_take hq))
  rw [hyl] at hrun hs'
  have hd : dropV sv n = .slice (some ⟨b, n, none⟩) (xs.length - n) (cap - n) := by
    rw [h1]; simp only [dropV, Nat.zero_add]; rw [if_neg (by omega)]
  have ht : takeV sv n = .slice (some ⟨b, 0, none⟩) n cap := by rw [h1]; rfl
  have hexec : (execOp (E l).eval (⟨some d, .call { callee := .builtin .copy, args := #[x, y], argTypes := #[T, T] }, ty, pos, after, none⟩ : Oper)).run P w = .ok (.value (.int .i64 (min n (xs.length - n) : Nat))) w' := by
    rw [copy_exec hx.eq hy.eq]
    exact run_value (f := Next.value) (by rw [hd, ht]; exact hrun)
  refine wl_op rfl hexec ?_
  rw [E_put]
  exact h w' hs'
instance {T k by_ : Nat} {x y : Operand} {sv : Value} {xs : List Int} {n : Nat} [hx : Ev l x (dropV sv n)] [hy : Ev l y (takeV sv n)] [hT : Sl P T k by_] [hk : SzIs Int k] [hp : PullOw (List Int) repList Γ [sv] xs Δ] :
    RedS (WL P ops Q w0 (⟨some d, .call { callee := .builtin .copy, args := #[x, y], argTypes := #[T, T] }, ty, pos, after, none⟩ :: rest) l Γ) (n < xs.length)
      (WL P ops Q w0 rest (l.set d (.int .i64 (min n (xs.length - n) : Nat))) (.ow [sv] (xs.take n ++ xs.take (min n (xs.length - n)) ++ xs.drop (n + min n (xs.length - n))) :: Δ)) := ⟨fun s h => wl_copy_self s h⟩
/-- copy(s, t) into an empty row. -/
theorem wl_copy_nix {T k by_ : Nat} {x y : Operand} {sv tv : Value} {xs ys : List Int} [hx : Ev l x sv] [hy : Ev l y tv] [hT : Sl P T k by_] [hk : SzIs Int k] [hp : HasRd (List Int) repList Γ [sv] xs] [hr : HasRd (List Int) repList Γ [tv] ys] (hl : xs.length = 0)
    (h : WL P ops Q w0 rest (l.set d (.int .i64 0)) Γ) : WL P ops Q w0 (⟨some d, .call { callee := .builtin .copy, args := #[x, y], argTypes := #[T, T] }, ty, pos, after, none⟩ :: rest) l Γ := by
  intro w hs
  obtain ⟨e, i, z', ht, hi', hik, hib, hz', hzk, hpos⟩ := hT.ex
  obtain ⟨a, cap, hsv, _⟩ := hs.rd (hr := hp)
  obtain ⟨a2, cap2, htv, _⟩ := hs.rd (hr := hr)
  simp only [List.cons.injEq, and_true] at hsv htv
  have hexec : (execOp (E l).eval (⟨some d, .call { callee := .builtin .copy, args := #[x, y], argTypes := #[T, T] }, ty, pos, after, none⟩ : Oper)).run P w = .ok (.value (.int .i64 0)) w := by
    rw [copy_exec hx.eq hy.eq]
    refine run_value (f := Next.value) ?_
    rw [hsv, htv, hl]
    have hk1 : k = 1 := hk.eq
    exact run_copy_none w T T ty e a a2 0 cap ys.length cap2 ht (by rw [hi']; simp; omega) (by simp)
  refine wl_op rfl hexec ?_
  rw [E_put]
  exact h w hs
end
/-- j times x, then zeros. -/
def rpt (x : Int) (m j : Nat) : List Int := List.replicate j x ++ List.replicate (m - j) 0
theorem rpt_one (x : Int) {m : Nat} (h : 0 < m) : x :: (List.replicate m (0 : Int)).drop 1 = rpt x m 1 := by
  unfold rpt
  rw [List.drop_replicate]; rfl
theorem rpt_len (x : Int) {m j : Nat} (h : j ≤ m) : (rpt x m j).length = m := by
  unfold rpt; rw [List.length_append, List.length_replicate, List.length_replicate]; omega
theorem rpt_copy (x : Int) {m j : Nat} (h : j < m) : (rpt x m j).take j ++ (rpt x m j).take (min j (m - j)) ++ (rpt x m j).drop (j + min j (m - j)) = rpt x m (j + min j (m - j)) := by
  have hm : min j (m - j) ≤ j := Nat.min_le_left _ _
  have hn : min j (m - j) ≤ m - j := Nat.min_le_right _ _
  generalize min j (m - j) = i at hm hn ⊢
  unfold rpt
  rw [List.take_append_of_le_length (by rw [List.length_replicate]; exact Nat.le_refl _), List.take_append_of_le_length (by rw [List.length_replicate]; exact hm), List.take_replicate, List.take_replicate, Nat.min_self, Nat.min_eq_left hm,
    List.drop_append, List.length_replicate, List.drop_eq_nil_of_le (by rw [List.length_replicate]; omega), List.nil_append, List.drop_replicate, List.replicate_append_replicate]
  congr 2
  omega
theorem bitsMul_spec {w0 : World} {Γ : List Atom} {m n : Int} (hn : m = 1 ∧ 0 ≤ n ∧ n < 1000) : CJ Tryz.prog 196 [.int .u64 m, .int .u64 n] w0 Γ (fun _ : Unit => .tuple #[.int .u64 0, .int .u64 n]) (fun _ => Γ) := by
  obtain ⟨rfl, hn⟩ := hn
  exact fun w hs => (Tryz.bits_Mul 1 n.toNat (by decide) (by omega) w |> fun h => by
    rw [show ((n.toNat : Nat) : Int) = n by omega] at h
    refine h.mono fun e w' ⟨he, hw⟩ => ⟨(), ?_, by rw [hw]; exact hs⟩
    rw [he, Nat.one_mul, Nat.div_eq_of_lt (by omega), Nat.mod_eq_of_lt (by omega), show ((n.toNat : Nat) : Int) = n by omega]; rfl)
instance bitsMul_ctr {Γ : List Atom} {m n : Int} :
    CtrC Tryz.prog 196 [.int .u64 m, .int .u64 n] Γ (m = 1 ∧ 0 ≤ n ∧ n < 1000) (Unit) (fun _ : Unit => .tuple #[.int .u64 0, .int .u64 n]) (fun _ => Γ) := ⟨fun s w0 => bitsMul_spec s⟩

theorem Repeat_spec {w0 : World} {Γ : List Atom} {v : Value} {x n : Int} [h : HasRd (List Int) repList Γ [v] [x]] (hn : 0 ≤ n ∧ n ≤ 3) :
    CJ Tryz.prog 186 [v, .int .i64 n] w0 Γ (fun q : Value => q) (fun q => .ow [q] (List.replicate n.toNat x) :: Γ) := by
  refine cj_enter Tryz.func186 Tryz.ntmps186 ?_
  repeat' (first | refine red ?_ | refine reds ?_ | refine redc fun r => ?_ | refine redv fun sv => ?_ | (refine redi (fun hc => ?_) (fun hc => ?_) <;> try first | (exfalso; omega) | with_reducible first | exact absurd rfl hc | exact absurd hc Bool.false_ne_true | exact absurd hc Bool.false_ne_true.symm) | fail)
  by_cases h0 : n = 0
  · subst h0
    refine wl_copy_nix (by simp) ?_
    repeat' (first | refine red ?_ | fail)
    refine wc_loop_c [8] [34, 35, 36, 37, 38, 39, 40, 41, 42, 43, 44, 45, 46] (ι := Unit) (fun _ => [.int .i64 0]) (fun _ => True) (fun _ => 0) () (by kernel_rfl) trivial ?_
    intro k u l' hl' _
    simp only [patch, List.map_cons, List.map_nil, List.set_cons_zero, List.set_cons_succ] at hl'
    subst hl'
    have hr0 : (List.replicate (Int.toNat 0) (0 : Int)).length = 0 := rfl
    repeat' (first | refine red ?_ | (refine redi (fun hc => ?_) (fun hc => ?_) <;> try first | (exfalso; omega) | with_reducible first | exact absurd rfl hc | exact absurd hc Bool.false_ne_true | exact absurd hc Bool.false_ne_true.symm) | fail)
    exact ⟨sv, rfl, by show Ent _ (.ow [sv] ([] : List Int) :: _) (.ow [sv] ([] : List Int) :: _); exact ent_e⟩
  · obtain ⟨m, hm⟩ : ∃ m : Nat, n = (m : Int) := ⟨n.toNat, by omega⟩
    subst hm
    refine wl_copy_one (z := x) (by rw [List.length_replicate]; omega) ?_
    have hstart : x :: (List.replicate ((m : Nat) : Int).toNat (0 : Int)).drop 1 = rpt x m 1 := by rw [Int.toNat_natCast]; exact rpt_one x (by omega)
    rw [hstart]
    repeat' (first | refine red ?_ | fail)
    refine wc_loop_p [8] [34, 35, 36, 37, 38, 39, 40, 41, 42, 43, 44, 45, 46] (ι := Nat) (fun k => [.int .i64 k]) (fun k => [.ow [sv] (rpt x m k)]) (fun k => 1 ≤ k ∧ k ≤ m) (fun k => m - k) 1 [.ow [sv] (rpt x m 1)] (by kernel_rfl) ⟨Nat.le_refl _, by omega⟩ rfl ?_
    intro k u l' hl' ⟨hk1, hk⟩
    simp only [patch, List.map_cons, List.map_nil, List.set_cons_zero, List.set_cons_succ] at hl'
    subst hl'
    simp only [List.cons_append, List.nil_append]
    have hrl := rpt_len x hk
    have hm1 : min k (m - k) ≤ m - k := Nat.min_le_right _ _
    have hm2 : min k ((rpt x m k).length - k) ≤ (rpt x m k).length - k := Nat.min_le_right _ _
    repeat' (first | refine red ?_ | (refine redi (fun hc => ?_) (fun hc => ?_) <;> try first | (exfalso; omega) | with_reducible first | exact absurd rfl hc | exact absurd hc Bool.false_ne_true | exact absurd hc Bool.false_ne_true.symm) | ((refine wa_begin 9 [false, false, false, false, false, false, false, false, false, false] [7] ?_ <;> refine wa_p0 0 ?_ <;> refine wa_p 1 ?_ <;> refine wa_p 2 ?_ <;> (first | refine wa_p 3 ?_ | fail) <;> refine wa_p 4 ?_ <;> refine wa_p 5 ?_ <;> (first | refine wa_p 6 ?_ | fail) <;> (refine wa_do 7 ?_ <;> (repeat' (first | refine red ?_ | refine reds ?_ | fail))) <;> (first | refine wa_p0 8 ?_ | fail) <;> refine wa_p0 9 ?_) <;> (refine wa_end ?_)) | fail)
    · rw [hrl, rpt_copy x (by omega), show ((k : Int) + ((min k (m - k) : Nat) : Int)) = ((k + min k (m - k) : Nat) : Int) by omega]
      have hpos : 1 ≤ min k (m - k) := by omega
      exact wq_next (k + min k (m - k)) ⟨by omega, by omega⟩ (by omega) (by kernel_rfl) ent_e
    · rw [show rpt x m k = List.replicate ((m : Nat) : Int).toNat x by
        rw [show k = m by omega, rpt, Nat.sub_self, List.replicate_zero, List.append_nil, Int.toNat_natCast]]
      exact ⟨sv, rfl, ent_e⟩
instance Repeat_ctr {Γ : List Atom} {v : Value} {x n : Int} [h : HasRd (List Int) repList Γ [v] [x]] :
    CtrC Tryz.prog 186 [v, .int .i64 n] Γ (0 ≤ n ∧ n ≤ 3) (Value) (fun q : Value => q) (fun q => .ow [q] (List.replicate n.toNat x) :: Γ) := ⟨fun s w0 => Repeat_spec s⟩

end Go.Proofs.YtbbdjjlnachnlaaGreatDoor
