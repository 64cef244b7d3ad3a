/- Elements are moved out of a row of the call's own. -/
import Derived.Test.YtcaljjkmaffedaaDoorEngY
namespace Go.Eng
open Go Go.RowKit
set_option linter.unusedVariables false
set_option linter.unusedSimpArgs false
/-- An element that may have gone: its cells stay, and nothing behind them is owned. -/
instance repOpt {α : Type} [Rep α] : Rep (Option α) where
  sz := Rep.sz α
  rd ok w cs x := match x with
    | some y => Rep.rd ok w cs y
    | none => cs.length = Rep.sz α ∧ ∀ c ∈ cs, c.oneCell' = true
  ow ok w F cs x := match x with
    | some y => Rep.ow ok w F cs y
    | none => F = [] ∧ cs.length = Rep.sz α ∧ ∀ c ∈ cs, c.oneCell' = true
  pos := Rep.pos (α := α)
  rd_len := by
    intro ok w cs x h
    cases x with
    | some y => exact Rep.rd_len (x := y) h
    | none => exact h.1
  rd_one := by
    intro ok w cs x h
    cases x with
    | some y => exact Rep.rd_one (x := y) h
    | none => exact h.2
  rd_mono := by
    intro ok ok' w w' cs x h hm
    cases x with
    | some y => exact Rep.rd_mono (x := y) h hm
    | none => exact h
  ow_mono := by
    intro ok ok' w w' F cs x h hf hm
    cases x with
    | some y => exact Rep.ow_mono (x := y) h hf hm
    | none => exact h
  ow_rd := by
    intro ok ok' w F cs x h ho hf
    cases x with
    | some y => exact Rep.ow_rd (x := y) h ho hf
    | none => exact h.2
  ow_lt := by
    intro ok w F cs x h b hb
    cases x with
    | some y => exact Rep.ow_lt (x := y) h b hb
    | none => rw [h.1] at hb; cases hb
instance {α : Type} [Rep α] {k : Nat} [h : SzIs α k] : SzIs (Option α) k := ⟨h.eq⟩
theorem owl_some {α : Type} [Rep α] {ok : Nat → Prop} {w : World} : ∀ {F : List Nat} {cells : List Value} {xs : List α}, OwL ok w F cells xs → OwL ok w F cells (xs.map some)
  | _, _, [], h => h
  | _, _, x :: xs, ⟨f, g, c, d, e, e', h, h'⟩ => ⟨f, g, c, d, e, e', h, owl_some h'⟩
theorem ow_some {α : Type} [Rep α] {ok : Nat → Prop} {w : World} {F : List Nat} {cs : List Value} {xs : List α} (h : Rep.ow ok w F cs xs) : Rep.ow ok w F cs (xs.map some) := by
  rw [ow_list] at h ⊢
  rcases h with ⟨h1, rfl, h2⟩ | ⟨g, cap, cur, e, G, cells, h1, h2, h3, h4, h5, h6, h7, h8, h9⟩
  · exact .inl ⟨h1, rfl, h2⟩
  · exact .inr ⟨g, cap, cur, e, G, cells, by rw [List.length_map]; exact h1, h2, h3, by rw [List.length_map]; exact h4, h5, by rw [List.length_map]; exact h6, h7, by rw [List.length_map]; exact h8, owl_some h9⟩
theorem owl_take {α : Type} [Rep α] {ok : Nat → Prop} {w : World} : ∀ {F : List Nat} {cells : List Value} {xs : List α} (m : Nat), OwL ok w F cells xs → ∃ f g c d, F = f ++ g ∧ cells = c ++ d ∧ OwL ok w f c (xs.take m)
  | F, cells, xs, 0, _ => ⟨[], F, [], cells, rfl, rfl, rfl, rfl⟩
  | F, cells, [], m + 1, h => ⟨[], F, [], cells, rfl, rfl, rfl, rfl⟩
  | _, _, x :: xs, m + 1, ⟨f, g, c, d, e, e', h, h'⟩ => by
    obtain ⟨f1, g1, c1, d1, rfl, rfl, h1⟩ := owl_take m h'
    exact ⟨f ++ f1, g1, c ++ c1, d1, by rw [e, List.append_assoc], by rw [e', List.append_assoc], f, f1, c, c1, rfl, rfl, h, h1⟩
section
variable {P : Program} {ops : Array Oper} {Q : Exit → Act → World → Prop} {w0 : World} {rest : List Oper} {l l' : List Value} {Γ Δ Ε : List Atom} {ty : TypeId} {pos : String} {after : Array Edge} {d : Nat}
theorem wc_some {α : Type} {iα : Rep α} (sv : Value) {xs : List α} {c : Code} [hp : PullOw (List α) repList Γ [sv] xs Δ] (h : WC P Q w0 c l (.ow [sv] (xs.map some) :: Δ)) : WC P Q w0 c l Γ := fun w hs => by
  obtain ⟨hb, F, hn, hl, f, g, rfl, hf, hΔ⟩ := hs.perm hp.perm
  exact h w ⟨hb, f ++ g, hn, hl, f, g, rfl, ow_some hf, hΔ⟩
/-- xs[:n] of a row of the call's own: the rest of it is let go. -/
theorem wl_slice_hi_own {α : Type} {iα : Rep α} {T k by_ : Nat} {x y : Operand} {sv : Value} {kk : IntKind} {n : Int} {m : Nat} {xs : List α} [hx : Ev l x sv] [hy : Ev l y (.int kk n)] [hm : ToN n m] [hT : Sl P T k by_] [hp : PullOw (List α) repList Γ [sv] xs Δ] (hn : 0 ≤ n ∧ n ≤ xs.length)
    (h : ∀ sv', WL P ops Q w0 rest (l.set d sv') (.ow [sv'] (xs.take m) :: Δ)) : WL P ops Q w0 (⟨some d, .slice T x none (some y) none, ty, pos, after, none⟩ :: rest) l Γ := by
  intro w hs
  have hmn : n = (m : Int) := by have := hm.eq; omega
  obtain ⟨e, i, z', ht, hi', hik, hib, hz', hzk, hpos⟩ := hT.ex
  obtain ⟨hb, F, hnd, hl, f, g, rfl, hf, hΔ⟩ := hs.perm hp.perm
  have how := (show Rep.ow (α := List α) _ w f [sv] xs from hf)
  rw [ow_list] at how
  rcases how with ⟨h1, rfl, rfl⟩ | ⟨b, cap, cur, e', G, cells, h1, rfl, h3, h4, h5, h6, h7, h8, h9⟩
  · simp only [List.cons.injEq, and_true] at h1
    subst h1
    have hm0 : m = 0 := by simp at hn; omega
    have hrun := run_slice (P := P) (T := T) (a := none) (n := 0) (cap := 0) (lo := 0) (hi := m) (vlo := none) (vhi := some (.int kk m)) ht hi' (.inl ⟨rfl, rfl⟩) (.inr ⟨kk, rfl⟩) (by omega) (by omega) w
    refine wl_op (v := .slice none 0 0) (w' := w) rfl ?_ ?_
    · refine run_value (f := Next.value) (s := Instr.sliceAt T ((E l).eval x) none (some ((E l).eval y)) none) ?_
      rw [hx.eq, hy.eq, hmn, hrun, hm0]; rfl
    · rw [E_put]
      exact h _ w ⟨hb, [] ++ g, hnd, hl, [], g, rfl, .inl ⟨rfl, by simp, rfl⟩, hΔ⟩
  · simp only [List.cons.injEq, and_true] at h1
    subst h1
    have hrun := run_slice (P := P) (T := T) (a := some ⟨b, 0, none⟩) (n := xs.length) (cap := cap) (lo := 0) (hi := m) (vlo := none) (vhi := some (.int kk m)) ht hi' (.inl ⟨rfl, rfl⟩) (.inr ⟨kk, rfl⟩) (by omega) (by omega) w
    refine wl_op (v := .slice (some ⟨b, 0, none⟩) m cap) (w' := w) rfl ?_ ?_
    · refine run_value (f := Next.value) (s := Instr.sliceAt T ((E l).eval x) none (some ((E l).eval y)) none) ?_
      have ez : (if cap = 0 then (some ⟨b, 0, none⟩ : Option Addr) else Option.map (fun x : Addr => x.add (0 * i.size)) (some (⟨b, 0, none⟩ : Addr))) = some (⟨b, 0, none⟩ : Addr) := by
        split
        · rfl
        · simp [add_lit]
      rw [hx.eq, hy.eq, hmn, hrun, ez]; rfl
    · rw [E_put]
      refine h _ w ?_
      obtain ⟨f1, g1, c1, d1, rfl, rfl, ht1⟩ := owl_take m h9
      have hsub : ((b :: f1) ++ g).Sublist ((b :: (f1 ++ g1)) ++ g) := by
        simp only [List.cons_append, List.append_assoc]
        exact (List.Sublist.append_left (List.sublist_append_right g1 g) f1).cons_cons b
      have hlen : (xs.take m).length = m := by rw [List.length_take]; omega
      have hc1 : c1.length = m * Rep.sz α := by rw [ht1.len, hlen]
      have ht2 : cur.toList.take (m * Rep.sz α) = c1 := by
        have e1 : cur.toList.take (m * Rep.sz α) = (cur.toList.take (xs.length * Rep.sz α)).take (m * Rep.sz α) := by
          rw [List.take_take, Nat.min_eq_left (Nat.mul_le_mul_right _ (by omega))]
        rw [e1, h8, ← hc1, List.take_left]
      have hok : ∀ c, c ∉ (b :: (f1 ++ g1)) ++ g → c ∉ (b :: f1) ++ g := fun c hc hc' => hc (hsub.subset hc')
      refine ⟨hb, (b :: f1) ++ g, hnd.sublist hsub, fun c hc => hl c (hsub.subset hc), b :: f1, g, rfl, ?_, hΔ.mono (fun c hc hlt => ⟨hok c hc, rfl⟩) (Nat.le_refl _) (fun c hc => rfl)⟩
      show Rep.ow (α := List α) _ w (b :: f1) [_] (xs.take m)
      rw [ow_list]
      refine .inr ⟨b, cap, cur, e', f1, c1, by rw [hlen], rfl, h3, by rw [hlen]; omega, h5, by rw [hlen]; omega, h7, by rw [hlen]; exact ht2, ht1.mono (fun c hc hlt => ⟨hok c hc, rfl⟩) (fun c hc => rfl)⟩
instance (priority := 900) {α : Type} {iα : Rep α} {T k by_ : Nat} {x y : Operand} {sv : Value} {kk : IntKind} {n : Int} {m : Nat} {xs : List α} [hx : Ev l x sv] [hy : Ev l y (.int kk n)] [hm : ToN n m] [hT : Sl P T k by_] [hp : PullOw (List α) repList Γ [sv] xs Δ] :
    RedV (WL P ops Q w0 (⟨some d, .slice T x none (some y) none, ty, pos, after, none⟩ :: rest) l Γ) (0 ≤ n ∧ n ≤ xs.length) (fun sv' => WL P ops Q w0 rest (l.set d sv') (.ow [sv'] (xs.take m) :: Δ)) := ⟨fun s h => wl_slice_hi_own s h⟩
/-- An element is taken out. -/
theorem sep_takeO {α : Type} [Rep α] [un : UnO α] {ok : Nat → Prop} {w : World} {sv : Value} {ys : List (Option α)} {i : Nat} {y : α} (hi : ys[i]? = some (some y)) {F : List Nat} (h : Rep.ow ok w F [sv] ys) :
    ∃ (p : un.Pr) (G : List Nat), G.Perm F ∧ un.fact y ∧ ((un.cells p y).length = Rep.sz α ∧ ∀ c ∈ un.cells p y, c.oneCell' = true) ∧ Sep ok w (.ow [sv] (Hole.mk ys i (un.cells p y)) :: un.atoms p y) G := by
  obtain ⟨hlt, hy⟩ := List.getElem?_eq_some_iff.1 hi
  rw [ow_list] at h
  rcases h with ⟨_, rfl, rfl⟩ | ⟨b, cap, cur, e, G, cells, hov, rfl, hgb, hcap, hcapm, hlen, hcs, htake, hO⟩
  · simp at hlt
  obtain ⟨f1, fo, f2, p, c, s, rfl, hcells, hold0, hO1, hO2⟩ := hO.get i hlt
  rw [hy] at hold0
  have hold : Rep.ow (α := α) ok w fo c y := hold0
  have hrd : Rep.rd (α := α) (fun _ => True) w c y := Rep.ow_rd (ok' := fun _ => True) hold (fun _ _ => trivial) (fun _ _ => trivial)
  have hcl : c.length = Rep.sz α := Rep.rd_len (x := y) hrd
  have hone := Rep.rd_one (x := y) hrd
  obtain ⟨q, rfl, hat, hf⟩ := un.law hold
  refine ⟨q, (b :: (f1 ++ f2)) ++ fo, ?_, hf, ⟨hcl, hone⟩, b :: (f1 ++ f2), fo, rfl, ⟨b, cap, cur, e, p, s, cur.toList.drop (ys.length * Rep.sz (Option α)), f1, f2, hov, rfl, hgb, ?_, hcap, hcapm, hlen, hcs, hcl, hlt, hO1, hO2⟩, hat⟩
  · rw [List.cons_append]
    refine List.Perm.cons b ?_
    rw [List.append_assoc, List.append_assoc]
    exact List.perm_append_comm.append_left f1
  · rw [← hcells, ← htake]; simp
theorem wc_takeO {α : Type} {iα : Rep α} [un : UnO α] {c : Code} (sv : Value) (i : Nat) {ys : List (Option α)} {y : α} [hp : PullOw (List (Option α)) repList Γ [sv] ys Δ] (hi : ys[i]? = some (some y))
    (h : ∀ p : un.Pr, un.fact y → ((un.cells p y).length = Rep.sz α ∧ ∀ c ∈ un.cells p y, c.oneCell' = true) → WC P Q w0 c l (.ow [sv] (Hole.mk ys i (un.cells p y)) :: (un.atoms p y ++ Δ))) : WC P Q w0 c l Γ := fun w hs => by
  obtain ⟨hb, F, hn, hl, f, g, rfl, hf, hΔ⟩ := hs.perm hp.perm
  obtain ⟨p, G, hG, hfact, hone, hsep⟩ := sep_takeO (un := un) hi (show Rep.ow (α := List (Option α)) _ _ _ _ _ from hf)
  have hperm : (G ++ g).Perm (f ++ g) := hG.append_right g
  refine h p hfact hone w ⟨hb, G ++ g, hperm.symm.nodup hn, fun b hb' => hl b (hperm.mem_iff.1 hb'), ?_⟩
  have := Sep.append hΔ hsep
  exact Sep.notin hperm (by simpa using this)
theorem wc_takeP {c : Code} (sv : Value) (i : Nat) {ys : List (Option (List Int × List Int))} {y : List Int × List Int} [hp : PullOw (List (Option (List Int × List Int))) repList Γ [sv] ys Δ] (hi : ys[i]? = some (some y))
    (h : ∀ lv rv : Value, ([lv, rv].length = Rep.sz (List Int × List Int) ∧ ∀ c ∈ [lv, rv], c.oneCell' = true) → WC P Q w0 c l (.ow [sv] (Hole.mk ys i [lv, rv]) :: .ow [lv] y.1 :: .ow [rv] y.2 :: Δ)) : WC P Q w0 c l Γ :=
  wc_takeO (un := unoProd) sv i hi (fun (p : Value × Value) _ ho => h p.1 p.2 ho)
theorem pu_len_hole {x : Operand} {T k b : Nat} {sv : Value} {α : Type} {iα : Rep α} {xs : List α} {i : Nat} {ec : List Value} [h : Ev l x sv] [ht : Sl P T k b] [hr : HasRd (Hole α) repHole Γ [sv] (Hole.mk xs i ec)] :
    Pu P w0 l Γ (.call { callee := .builtin .len, args := #[x], argTypes := #[T] }) ty (.int .i64 xs.length) := by
  obtain ⟨e, j, z, ht, _⟩ := ht.ex
  refine pu_of (s := Builtin.len_ #[T] ty #[sv]) (fun o ho h2 => ?_) (fun w hs => ?_)
  · unfold execOp
    rw [ho]
    simp [resolve, invoke, builtin, h.eq, h2, Pure.pure, Bind.bind, Sem.bind]
  · obtain ⟨a, cap, hc, _⟩ := hs.rd (hr := hr)
    simp only [List.cons.injEq, and_true] at hc
    subst hc
    simp [Builtin.len_, run_underlying ht, goInt]
instance {x : Operand} {T k b : Nat} {sv : Value} {α : Type} {iα : Rep α} {xs : List α} {i : Nat} {ec : List Value} [h : Ev l x sv] [ht : Sl P T k b] [hr : HasRd (Hole α) repHole Γ [sv] (Hole.mk xs i ec)] :
    PuC P l Γ (.call { callee := .builtin .len, args := #[x], argTypes := #[T] }) ty (.int .i64 xs.length) := ⟨fun _ => pu_len_hole⟩
theorem own_gone {α : Type} [Rep α] {cs : List Value} (h : cs.length = Rep.sz α ∧ ∀ c ∈ cs, c.oneCell' = true) : Own Γ cs (none : Option α) Γ := fun {_ _ F} hs => ⟨F, .refl _, [], F, rfl, ⟨rfl, h⟩, hs⟩
end
instance (priority := 2000) {Γ Δ : List Atom} {cs : List Value} {xs : List (List Int × List Int)} [h : KeepI Γ Δ] : KeepI (.ow cs xs :: Γ) Δ := ⟨sub_skip h.sub⟩
/-- A row of which the first j have gone. -/
def gone {α : Type} (ys : List α) (j : Nat) : List (Option α) := List.replicate j none ++ (ys.drop j).map some
theorem gone_zero {α : Type} (ys : List α) : gone ys 0 = ys.map some := rfl
theorem gone_len {α : Type} (ys : List α) {j : Nat} (h : j ≤ ys.length) : (gone ys j).length = ys.length := by
  unfold gone; rw [List.length_append, List.length_replicate, List.length_map, List.length_drop]; omega
theorem gone_at {α : Type} [Inhabited α] (ys : List α) {j : Nat} (h : j < ys.length) : (gone ys j)[j]? = some (some (ys.getD j default)) := by
  unfold gone
  rw [List.getElem?_append_right (by rw [List.length_replicate]; exact Nat.le_refl _), List.length_replicate, Nat.sub_self, List.getElem?_map, List.getElem?_drop, Nat.add_zero, List.getElem?_eq_getElem h, List.getD_eq_getElem?_getD, List.getElem?_eq_getElem h]; rfl
theorem gone_set {α : Type} (ys : List α) {j : Nat} (h : j < ys.length) : (gone ys j).set j none = gone ys (j + 1) := by
  unfold gone
  rw [List.drop_eq_getElem_cons h, List.map_cons, List.set_append_right _ _ (by rw [List.length_replicate]; exact Nat.le_refl _), List.length_replicate, Nat.sub_self, List.set_cons_zero, List.replicate_succ', List.append_assoc]; rfl
theorem take_more {α : Type} [Inhabited α] (ys : List α) {j : Nat} (h : j < ys.length) : ys.take j ++ [ys.getD j default] = ys.take (j + 1) := by
  rw [List.take_succ_eq_append_getElem h, List.getD_eq_getElem?_getD, List.getElem?_eq_getElem h]; rfl
end Go.Eng
