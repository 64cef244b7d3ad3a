/- What the laws' own helpers compute, on plain data: sizes, marks. -/
import Derived.Test.YtjblieilblcdnaaEngK
namespace Go.Eng
open Go Go.RowKit
set_option linter.unusedVariables false
set_option linter.unusedSimpArgs false

class Siz (α : Type) where
  size : α → Nat
instance : Siz Int := ⟨fun _ => 0⟩
instance : Siz Bool := ⟨fun _ => 0⟩
instance {α β : Type} [Siz α] [Siz β] : Siz (α × β) := ⟨fun x => Siz.size x.1 + Siz.size x.2⟩
def sumL {α : Type} [Siz α] : List α → Nat
  | [] => 0
  | x :: xs => Siz.size x + sumL xs
instance sizList {α : Type} [Siz α] : Siz (List α) := ⟨fun xs => xs.length + sumL xs⟩
theorem siz_list {α : Type} [Siz α] (xs : List α) : Siz.size xs = xs.length + sumL xs := rfl
theorem siz_pair {α β : Type} [Siz α] [Siz β] (x : α × β) : Siz.size x = Siz.size x.1 + Siz.size x.2 := rfl
theorem siz_int (x : Int) : Siz.size x = 0 := rfl
theorem sumL_int (xs : List Int) : sumL xs = 0 := by
  induction xs with
  | nil => rfl
  | cons x xs ih => simp only [sumL, siz_int, ih]
theorem siz_ints (xs : List Int) : Siz.size xs = xs.length := by rw [siz_list, sumL_int, Nat.add_zero]
theorem sumL_take_succ {α : Type} [Siz α] {xs : List α} {k : Nat} {y : α} (h : xs[k]? = some y) : sumL (xs.take (k + 1)) = sumL (xs.take k) + Siz.size y := by
  induction xs generalizing k with
  | nil => simp at h
  | cons x xs ih =>
    cases k with
    | zero =>
      simp only [List.getElem?_cons_zero, Option.some.injEq] at h
      subst h
      simp [sumL]
    | succ k =>
      simp only [List.getElem?_cons_succ] at h
      simp only [List.take_succ_cons, sumL, ih h]
      omega
theorem sumL_take_le {α : Type} [Siz α] (xs : List α) (k : Nat) : sumL (xs.take k) ≤ sumL xs := by
  induction xs generalizing k with
  | nil => simp [sumL]
  | cons x xs ih =>
    cases k with
    | zero => simp [sumL]
    | succ k =>
      simp only [List.take_succ_cons, sumL]
      have := ih k
      omega
theorem siz_get {α : Type} [Siz α] {xs : List α} {k : Nat} {y : α} (h : xs[k]? = some y) : Siz.size y ≤ sumL xs := by
  have := sumL_take_succ h
  have := sumL_take_le xs (k + 1)
  omega

/-- The marks: how many cells are marked, and what they are then. -/
class Mk (α : Type) where
  cnt : α → Nat
  by_ : α → Int → α
instance : Mk Int := ⟨fun _ => 1, fun _ k => k⟩
instance : Mk Bool := ⟨fun _ => 1, fun _ k => decide (k.tmod 3 = 0)⟩
instance {α β : Type} [Mk α] [Mk β] : Mk (α × β) := ⟨fun x => Mk.cnt x.1 + Mk.cnt x.2, fun x k => (Mk.by_ x.1 k, Mk.by_ x.2 (k + Mk.cnt x.1))⟩
def cntL {α : Type} [Mk α] : List α → Nat
  | [] => 0
  | x :: xs => Mk.cnt x + cntL xs
def mkL {α : Type} [Mk α] : List α → Int → List α
  | [], _ => []
  | x :: xs, k => Mk.by_ x k :: mkL xs (k + Mk.cnt x)
instance mkList {α : Type} [Mk α] : Mk (List α) := ⟨cntL, mkL⟩
theorem get_lt {α : Type} [Inhabited α] {xs : List α} {k : Nat} (h : k < xs.length) : xs[k]? = some (xs.getD k default) := by
  rw [List.getD_eq_getElem?_getD, List.getElem?_eq_getElem h]; rfl
theorem take_next {α : Type} [Inhabited α] {xs ys : List α} {k : Nat} (h : xs.take k = ys.take k) (h1 : k < xs.length) (h2 : k < ys.length) (he : xs.getD k default = ys.getD k default) : xs.take (k + 1) = ys.take (k + 1) := by
  rw [List.getD_eq_getElem?_getD, List.getD_eq_getElem?_getD, List.getElem?_eq_getElem h1, List.getElem?_eq_getElem h2] at he
  simp only [Option.getD_some] at he
  rw [List.take_succ_eq_append_getElem h1, List.take_succ_eq_append_getElem h2, h, he]
theorem take_end {α : Type} {xs ys : List α} {k : Nat} (h : xs.take k = ys.take k) (h1 : xs.length ≤ k) (h2 : xs.length = ys.length) : xs = ys := by
  rw [List.take_of_length_le h1, List.take_of_length_le (by omega)] at h
  exact h
theorem ne_getD {α : Type} [Inhabited α] {xs ys : List α} {k : Nat} (h : ¬ xs.getD k default = ys.getD k default) : xs ≠ ys := fun e => h (by rw [e])
instance : Siz ByteArray := ⟨fun _ => 0⟩
end Go.Eng
namespace Go.Eng
open Go Go.RowKit
set_option linter.unusedVariables false
set_option linter.unusedSimpArgs false

section auto
variable {P : Program} {ops : Array Oper} {Q : Exit → Act → World → Prop} {w0 : World} {rest : List Oper} {l l' : List Value} {Γ Γb Δ Ε : List Atom} {ty : TypeId} {v : Value} {pos : String} {after : Array Edge} {d : Nat} {fuel : Nat} {bl bl' : List Bool} {op : Op} {lt : List Nat}

theorem wl_make_a {T k by_ : Nat} {x y : Operand} {kx ky : IntKind} {n m : Int} {α : Type} {iα : Rep α} {zs : List Value} {z : α} [ho : Op_ P T (List α) repList] [hx : Ev l x (.int kx n)] [hy : Ev l y (.int ky m)] [hT : Sl P T k by_] [hzs : SlZ P T zs] [hz : Zo α zs z]
    (hn : 0 ≤ n ∧ n ≤ m) (hm : m * by_ ≤ 140737488355328) (h : ∀ sv, WL P ops Q w0 rest (l.set d sv) (.ow [sv] (List.replicate n.toNat z) :: Γ)) :
    WL P ops Q w0 (⟨some d, .makeSlice T x y, ty, pos, after, none⟩ :: rest) l Γ := wl_make α hn hm h
theorem wl_append_a {T k by_ : Nat} {x y : Operand} {ov tv : Value} {α : Type} {iα : Rep α} {xs ys : List α} [hx : Ev l x ov] [hy : Ev l y tv] [hT : Sl P T k by_] [h1 : PullOw (List α) repList Γ [ov] xs Δ] [h2 : PullOw (List α) repList Δ [tv] ys Ε] [hk : SzIs α k]
    (hbytes : (xs.length + ys.length) * by_ ≤ 140737488355328) (h : ∀ sv, WL P ops Q w0 rest (l.set d sv) (.ow [sv] (xs ++ ys) :: Ε)) :
    WL P ops Q w0 (⟨some d, .call { callee := .builtin .append, args := #[x, y], argTypes := #[T, T] }, ty, pos, after, none⟩ :: rest) l Γ := wl_append hk.eq hbytes h
theorem wl_append_cp_a {T k by_ : Nat} {x y : Operand} {ov tv : Value} {α : Type} {iα : Rep α} {xs ys : List α} [hx : Ev l x ov] [hy : Ev l y tv] [hT : Sl P T k by_] [h1 : PullOw (List α) repList Γ [ov] xs Δ] [h2 : HasRd (List α) repList Δ [tv] ys] [hcp : Cp α] [hk : SzIs α k]
    (hbytes : (xs.length + ys.length) * by_ ≤ 140737488355328) (h : ∀ sv, WL P ops Q w0 rest (l.set d sv) (.ow [sv] (xs ++ ys) :: Δ)) :
    WL P ops Q w0 (⟨some d, .call { callee := .builtin .append, args := #[x, y], argTypes := #[T, T] }, ty, pos, after, none⟩ :: rest) l Γ := wl_append_cp hk.eq hbytes h
theorem wl_buildSlice_a {T k by_ n : Nat} {ps : List (Nat × Operand)} {groups : List (List Value)} {α : Type} {iα : Rep α} {xs : List α} [hO : Op_ P T (List α) repList] [hT : Sl P T k by_] [hp : PartsL Γ l k 0 ps groups] [hk : SzIs α k] (ho : OwnL Γ groups xs Δ) (hn : n = xs.length) (hnk : n * k ≤ 16777216)
    (h : ∀ sv, WL P ops Q w0 rest (l.set d sv) (.ow [sv] xs :: Δ)) : WL P ops Q w0 (⟨some d, .buildSlice T n ps.toArray, ty, pos, after, none⟩ :: rest) l Γ := wl_buildSlice ho hk.eq hn hnk h
theorem wl_store_elem_a {α : Type} {iα : Rep α} {T k kk : Nat} {x y : Operand} {sv : Value} {n : Int} {xs : List α} {vc : List Value} {u : α} [hx : Ev l x (.pointer (some (elemA sv n k)))] [hy : Ev l y v] [hc : Cs Γ v vc] [hT : Sz P T kk] [h1 : PullOw (List α) repList Γ [sv] xs Δ]
    [hk : SzIs α k] [hkk : SzIs α kk] (ho : Own Δ vc u Ε) (hi : 0 ≤ n ∧ n < xs.length) (h : WL P ops Q w0 rest l (.ow [sv] (xs.set n.toNat u) :: Ε)) :
    WL P ops Q w0 (⟨none, .store T x y, ty, pos, after, none⟩ :: rest) l Γ := wl_store_elem ho hk.eq hkk.eq hi h
/-- A slice of the function's own, nil so far. -/
theorem wl_nil_ow {α : Type} {iα : Rep α} (h : WL P ops Q w0 rest l (.ow [.slice none 0 0] ([] : List α) :: Γ)) : WL P ops Q w0 rest l Γ := wl_ent own_nil h
/-- append(nil, ..): what stands first is owned, too. -/
theorem wl_append_nil {T k by_ : Nat} {x y : Operand} {tv : Value} {α : Type} {iα : Rep α} {ys : List α} [hx : Ev l x (.slice none 0 0)] [hO : Op_ P T (List α) repList] [hy : Ev l y tv] [hT : Sl P T k by_] [h2 : PullOw (List α) repList Γ [tv] ys Ε] [hk : SzIs α k]
    (hbytes : ys.length * by_ ≤ 140737488355328) (h : ∀ sv, WL P ops Q w0 rest (l.set d sv) (.ow [sv] ys :: Ε)) :
    WL P ops Q w0 (⟨some d, .call { callee := .builtin .append, args := #[x, y], argTypes := #[T, T] }, ty, pos, after, none⟩ :: rest) l Γ :=
  wl_nil_ow (α := α) (wl_append (h1 := PullOw.here) (h2 := h2) hk.eq (by simpa using hbytes) (by simpa using h))

/-! ### The base is made stronger on the way -/
theorem sat_addsep_perm {w : World} {Ε : List Atom} (hp : Γ.Perm (Γb ++ Ε)) (hs : Sat w0 w Γ) (hd : ∀ F : List Nat, (∀ G : List Nat, Sep (· ∉ F) w Γb G → Sep (· ∉ F) w Δ []))
    : Sat w0 w (Δ ++ Γ) ∧ Sat w0 w (Δ ++ Γb) := by
  have h1 : Sat w0 w (Δ ++ (Γb ++ Ε)) := (hs.perm hp).addSep fun F hF => by
    obtain ⟨f, g, rfl, h, _⟩ := hF.split
    exact hd _ f h
  refine ⟨h1.perm (hp.symm.append_left Δ), ?_⟩
  have h2 : Sat w0 w (Ε ++ (Δ ++ Γb)) := h1.perm (by rw [← List.append_assoc]; exact List.perm_append_comm)
  exact h2.dropN

theorem wa_peek {α : Type} {iα : Rep α} [inh : Inhabited α] [un : Un α] [hsub : Sub Γ Γb] (sv : Value) (n : Int) {xs : List α} [hr : HasIm (List α) repList Γb [sv] xs] (hnl : noLate lt bl.toArray) (hi : 0 ≤ n ∧ n < xs.length)
    (h : ∀ p : Un.Pr α, Un.fact (xs.getD n.toNat default) → WA P ops Q w0 lt (.pt (elemA sv n (Rep.sz α)) (Un.cells p (xs.getD n.toNat default)) :: (Un.atoms p (xs.getD n.toNat default) ++ Γb)) fuel bl l (.pt (elemA sv n (Rep.sz α)) (Un.cells p (xs.getD n.toNat default)) :: (Un.atoms p (xs.getD n.toNat default) ++ Γ))) :
    WA P ops Q w0 lt Γb fuel bl l Γ := fun w hs hsb => by
  obtain ⟨Ε, hE⟩ := hsub.get
  have hin : n.toNat < xs.length := by omega
  have hget : xs.getD n.toNat default = xs[n.toNat] := by rw [List.getD_eq_getElem?_getD, List.getElem?_eq_getElem hin, Option.getD_some]
  -- the cells do not depend on what is owned
  obtain ⟨_, Fb, _, _, hsepb⟩ := hsb hnl
  obtain ⟨a, cap, b, off, pc, c, s, rfl, ha, hok, hca, hp, hea, hrd⟩ := elem_cells (hr.get hsepb) hi.1 hi.2
  rw [← hget] at hrd
  obtain ⟨q, rfl, _, hf⟩ := un.law hrd
  have key := sat_addsep_perm (Δ := .pt (elemA (.slice (some ⟨b, off, none⟩) xs.length cap) n (Rep.sz α)) (Un.cells q (xs.getD n.toNat default)) :: Un.atoms q (xs.getD n.toNat default)) hE hs (fun F G hG => by
    obtain ⟨a', cap', b', off', pc', c', s', hsv, ha', hok', hca', hp', hea', hrd'⟩ := elem_cells (hr.get hG) hi.1 hi.2
    simp only [Value.slice.injEq, Option.some.injEq, Addr.mk.injEq, and_true] at hsv
    obtain ⟨⟨rfl, rfl⟩, _, rfl⟩ := hsv
    rw [← hget] at hrd'
    have hlen := Rep.rd_len hrd
    have hlen' := Rep.rd_len hrd'
    have hcc : c' = Un.cells q (xs.getD n.toNat default) := by
      apply List.ext_getElem?
      intro j
      by_cases hj : j < Rep.sz α
      · have e1 := hca.part j (by omega)
        have e2 := hca'.part j (by omega)
        rw [hp] at e1
        rw [hp'] at e2
        rw [← e1, ← e2]
      · rw [List.getElem?_eq_none (by omega), List.getElem?_eq_none (by omega)]
    subst hcc
    refine ⟨[], [], rfl, ⟨rfl, ?_⟩, ?_⟩
    · rw [hea]
      refine ⟨hok', hca.lt (by have := Rep.pos (α := α); simp only [List.length_append]; omega), fun j hj => ?_⟩
      rw [add_lit]
      exact hca.part j hj
    · exact un.ext hrd')
  exact wpAnyG_mono (fun L w hw hn => Sat.dropN (Δ := _ :: Un.atoms q _) (hw hn)) (h q hf w key.1 (fun _ => key.2))
/-- xs[n] of which nothing is laid open yet, while the order is open. -/
theorem wa_index_deep {ol : List Oper} (i : Nat) {α : Type} {iα : Rep α} [inh : Inhabited α] [un : Un α] [dp : Deep_ α] {T k by_ : Nat} {x y : Operand} {sv : Value} {n : Int} {kk : IntKind} {xs : List α} [hi : Ge ol i ⟨some d, .indexAddr T x y, ty, pos, after, none⟩] [hx : Ev l x sv] [hy : Ev l y (.int kk n)]
    [hT : Sl P T k by_] [hr : HasIm (List α) repList Γb [sv] xs] [hsub : Sub Γ Γb] [hk : SzIs α k] [hd : Se l d (.pointer (some (elemA sv n k))) l'] [hb : Se bl i true bl'] (hck : ckTake lt ol.toArray bl i = true)
    (hQ : ∀ c a w v, Q (.panic c) (a.put (some d) v) w → Q (.panic c) a w) (hin : 0 ≤ n ∧ n < xs.length)
    (h : ∀ (p : Un.Pr α) (cs : List Value) (as asb : List Atom), Un.cells p (xs.getD n.toNat default) = cs → Un.atoms p (xs.getD n.toNat default) ++ Γ = as → Un.atoms p (xs.getD n.toNat default) ++ Γb = asb → Un.fact (xs.getD n.toNat default) →
      WA P ol.toArray Q w0 lt (.pt (elemA sv n k) cs :: asb) fuel bl' l' (.pt (elemA sv n k) cs :: as)) : WA P ol.toArray Q w0 lt Γb (fuel + 1) bl l Γ := by
  refine wa_peek sv n (ck6 hck) hin fun p hf => ?_
  rw [← hk.eq]
  refine wa_pure i (v := .pointer (some (elemA sv n k))) (hd := hd) (by simpa using hi.eq) hck hQ ?_ (h p _ _ _ rfl rfl rfl hf)
  intro w hw
  exact pu_index (hr := HasRd.im) hin w (Sat.dropN (Δ := .pt _ _ :: Un.atoms p _) hw)

/-! ### Numbers read: they fit -/
theorem wl_load_int_f {T : TypeId} {x : Operand} {sv : Value} {n : Int} {xs : List Int} [h : Ev l x (.pointer (some (elemA sv n 1)))] [hT : Sc P T] [hr : HasRd (List Int) repList Γ [sv] xs]
    (hi : 0 ≤ n ∧ n < xs.length) [hd : Se l d (.int .i64 (xs.getD n.toNat 0)) l'] (hw : -9223372036854775808 ≤ xs.getD n.toNat 0 ∧ xs.getD n.toNat 0 ≤ 9223372036854775807 → WL P ops Q w0 rest l' Γ) : WL P ops Q w0 (⟨some d, .load T x, ty, pos, after, none⟩ :: rest) l Γ := by
  intro w hs
  have hin := hs.rd (hr := hr)
  obtain ⟨a, cap, _, _, _, _, h2⟩ := hin
  obtain ⟨b, off, cells, rfl, _, _, hrd⟩ := h2 (by omega)
  have := RdL.in64 hrd (xs.getD n.toNat 0) (by rw [List.getD_eq_getElem?_getD, List.getElem?_eq_getElem (by omega)]; simp)
  exact wl_pure (pu_load_int hi) (hw this) w hs

/-! ### What one list of atoms shows of another; a nil slice is anybody's -/
class SubE (Γ Δ : List Atom) : Prop where
  get : ∀ {ok : Nat → Prop} {w : World} {F : List Nat}, Sep ok w Γ F → ∃ G H : List Nat, (G ++ H).Perm F ∧ Sep ok w Δ G
instance SubE.nil : SubE Γ [] := ⟨fun {_ _ F} _ => ⟨[], F, .refl _, rfl⟩⟩
instance (priority := 2000) SubE.refl : SubE Γ Γ := ⟨fun {_ _ F} h => ⟨F, [], by simp, h⟩⟩
instance SubE.cons {Γ' : List Atom} {A : Atom} [h : Pull Γ A Γ'] [h' : SubE Γ' Δ] : SubE Γ (A :: Δ) := ⟨fun hs => by
  obtain ⟨F', hp, f, g, rfl, hA, hr⟩ := Sep.perm h.perm hs
  obtain ⟨G, H, hGH, hD⟩ := h'.get hr
  exact ⟨f ++ G, H, by rw [List.append_assoc]; exact (hGH.append_left f).trans hp, f, G, rfl, hA, hD⟩⟩
instance (priority := 1500) SubE.nils {α : Type} {iα : Rep α} [h : SubE Γ Δ] : SubE Γ (@Atom.ow (List α) repList [.slice none 0 0] [] :: Δ) := ⟨fun hs => by
  obtain ⟨G, H, hGH, hD⟩ := h.get hs
  exact ⟨G, H, hGH, [], G, rfl, .inl ⟨rfl, rfl, rfl⟩, hD⟩⟩
instance (priority := 500) SubE.skip {A : Atom} [h : SubE Γ Δ] : SubE (A :: Γ) Δ := ⟨fun ⟨f, g, e, _, hs⟩ => by
  obtain ⟨G, H, hGH, hD⟩ := h.get hs
  exact ⟨G, H ++ f, by rw [e, ← List.append_assoc]; exact (hGH.append_right f).trans List.perm_append_comm, hD⟩⟩
theorem ent_e [h : SubE Γ Δ] : Ent w0 Γ Δ := by
  rintro w ⟨hb, F, hn, hl, hs⟩
  obtain ⟨G, H, hGH, hD⟩ := h.get hs
  have hm : ∀ b ∈ G, b ∈ F := fun b hb => hGH.mem_iff.1 (by simp [hb])
  exact ⟨hb, G, (List.nodup_append.1 (hGH.symm.nodup hn)).1, fun b hb => hl b (hm b hb), hD.mono (fun b hb _ => ⟨fun h => hb (hm b h), rfl⟩) (Nat.le_refl _) (fun _ _ => rfl)⟩

/-- What no operation of a region uses up: not what is owned. -/
class Keep1 (Γ : List Atom) (Δ : outParam (List Atom)) : Prop where
  sub : Sub Γ Δ
theorem sub_skip {A : Atom} (h : Sub Γ Δ) : Sub (A :: Γ) Δ := Sub.skip
theorem sub_keep {A : Atom} (h : Sub Γ Δ) : Sub (A :: Γ) (A :: Δ) := Sub.cons
instance : Keep1 [] [] := ⟨Sub.nil⟩
instance {α : Type} {iα : Rep α} {cs : List Value} {x : α} [h : Keep1 Γ Δ] : Keep1 (@Atom.ow α iα cs x :: Γ) Δ := ⟨sub_skip h.sub⟩
instance {α : Type} {iα : Rep α} {cs : List Value} {x : α} [h : Keep1 Γ Δ] : Keep1 (@Atom.rd α iα cs x :: Γ) (@Atom.rd α iα cs x :: Δ) := ⟨sub_keep h.sub⟩
instance {p : Addr} {cs : List Value} [h : Keep1 Γ Δ] : Keep1 (.pt p cs :: Γ) (.pt p cs :: Δ) := ⟨sub_keep h.sub⟩
instance {b : Nat} {cs : List Value} [h : Keep1 Γ Δ] : Keep1 (.bk b cs :: Γ) (.bk b cs :: Δ) := ⟨sub_keep h.sub⟩
instance (priority := 50) : Keep1 Γ Γ := ⟨Sub.refl⟩
/-- .. nor the blocks of variables. -/
class Keep2 (Γ : List Atom) (Δ : outParam (List Atom)) : Prop where
  sub : Sub Γ Δ
instance : Keep2 [] [] := ⟨Sub.nil⟩
instance {α : Type} {iα : Rep α} {cs : List Value} {x : α} [h : Keep2 Γ Δ] : Keep2 (@Atom.ow α iα cs x :: Γ) Δ := ⟨sub_skip h.sub⟩
instance {α : Type} {iα : Rep α} {cs : List Value} {x : α} [h : Keep2 Γ Δ] : Keep2 (@Atom.rd α iα cs x :: Γ) (@Atom.rd α iα cs x :: Δ) := ⟨sub_keep h.sub⟩
instance {p : Addr} {cs : List Value} [h : Keep2 Γ Δ] : Keep2 (.pt p cs :: Γ) (.pt p cs :: Δ) := ⟨sub_keep h.sub⟩
instance {b : Nat} {cs : List Value} [h : Keep2 Γ Δ] : Keep2 (.bk b cs :: Γ) Δ := ⟨sub_skip h.sub⟩
instance (priority := 50) : Keep2 Γ Γ := ⟨Sub.refl⟩
theorem wl_slice_lo_a {α : Type} {iα : Rep α} {T k by_ : Nat} {x y : Operand} {sv : Value} {kk : IntKind} {n : Int} {xs : List α} [hx : Ev l x sv] [hy : Ev l y (.int kk n)] [hT : Sl P T k by_] [hr : HasIm (List α) repList Γ [sv] xs] [hk : SzIs α k] (hn : 0 ≤ n ∧ n ≤ xs.length)
    (h : ∀ sv', WL P ops Q w0 rest (l.set d sv') (.rd [sv'] (xs.drop n.toNat) :: Γ)) : WL P ops Q w0 (⟨some d, .slice T x (some y) none none, ty, pos, after, none⟩ :: rest) l Γ := wl_slice_lo hk.eq hn h
theorem wl_slice_hi_a {α : Type} {iα : Rep α} {T k by_ : Nat} {x y : Operand} {sv : Value} {kk : IntKind} {n : Int} {xs : List α} [hx : Ev l x sv] [hy : Ev l y (.int kk n)] [hT : Sl P T k by_] [hr : HasIm (List α) repList Γ [sv] xs] [hk : SzIs α k] (hn : 0 ≤ n ∧ n ≤ xs.length)
    (h : ∀ sv', WL P ops Q w0 rest (l.set d sv') (.rd [sv'] (xs.take n.toNat) :: Γ)) : WL P ops Q w0 (⟨some d, .slice T x none (some y) none, ty, pos, after, none⟩ :: rest) l Γ := wl_slice_hi hk.eq hn h
theorem wl_slice_lh_a {α : Type} {iα : Rep α} {T k by_ : Nat} {x y z : Operand} {sv : Value} {kk kk' : IntKind} {n m : Int} {xs : List α} [hx : Ev l x sv] [hy : Ev l y (.int kk n)] [hz : Ev l z (.int kk' m)] [hT : Sl P T k by_] [hr : HasIm (List α) repList Γ [sv] xs] [hk : SzIs α k] (hn : 0 ≤ n ∧ n ≤ m ∧ m ≤ xs.length)
    (h : ∀ sv', WL P ops Q w0 rest (l.set d sv') (.rd [sv'] ((xs.take m.toNat).drop n.toNat) :: Γ)) : WL P ops Q w0 (⟨some d, .slice T x (some y) (some z) none, ty, pos, after, none⟩ :: rest) l Γ := wl_slice_lh hk.eq hn h

theorem pu_rem {T U : TypeId} {x y : Operand} {a b : Int} {k : IntKind} [hx : Ev l x (.int k a)] [hy : Ev l y (.int k b)] (h : b ≠ 0) : Pu P w0 l Γ (.binOp .rem T x y U) ty (.int k (a.tmod b)) :=
  pu_bin eqGuard_int (fun w => by simp only [binOp, Op.intDiv, ne_eq, not_true_eq_false, if_false, h]; rfl)
theorem pu_quo {T U : TypeId} {x y : Operand} {a b : Int} [hx : Ev l x (.int .i64 a)] [hy : Ev l y (.int .i64 b)] (h : b ≠ 0) (h' : -9223372036854775808 ≤ a.tdiv b ∧ a.tdiv b ≤ 9223372036854775807) : Pu P w0 l Γ (.binOp .quo T x y U) ty (.int .i64 (a.tdiv b)) :=
  pu_bin eqGuard_int (fun w => by simp only [binOp, Op.intDiv, ne_eq, not_true_eq_false, if_false, h]; rw [IntWalk.i64_in _ (by omega)]; rfl)
theorem pu_max {x y : Operand} {ts : Array TypeId} {a b : Int} {k : IntKind} [hx : Ev l x (.int k a)] [hy : Ev l y (.int k b)] : Pu P w0 l Γ (.call { callee := .builtin .max, args := #[x, y], argTypes := ts }) ty (.int k (max a b)) := by
  refine pu_of (s := Builtin.max_ ts ty #[.int k a, .int k b]) (fun o ho h2 => ?_) (fun w hs => ?_)
  · unfold execOp
    rw [ho]
    simp [resolve, invoke, builtin, hx.eq, hy.eq, h2, Pure.pure, Bind.bind, Sem.bind]
  · have : max a b = if b > a then b else a := by split <;> omega
    rw [this]
    simp [Builtin.max_, Builtin.max2]
theorem pu_min {x y : Operand} {ts : Array TypeId} {a b : Int} {k : IntKind} [hx : Ev l x (.int k a)] [hy : Ev l y (.int k b)] : Pu P w0 l Γ (.call { callee := .builtin .min, args := #[x, y], argTypes := ts }) ty (.int k (min a b)) := by
  refine pu_of (s := Builtin.min_ ts ty #[.int k a, .int k b]) (fun o ho h2 => ?_) (fun w hs => ?_)
  · unfold execOp
    rw [ho]
    simp [resolve, invoke, builtin, hx.eq, hy.eq, h2, Pure.pure, Bind.bind, Sem.bind]
  · have : min a b = if b < a then b else a := by split <;> omega
    rw [this]
    simp [Builtin.min_, Builtin.min2]
instance {x y : Operand} {ts : Array TypeId} {a b : Int} {k : IntKind} [hx : Ev l x (.int k a)] [hy : Ev l y (.int k b)] : PuC P l Γ (.call { callee := .builtin .max, args := #[x, y], argTypes := ts }) ty (.int k (max a b)) := ⟨fun _ => pu_max⟩
instance {x y : Operand} {ts : Array TypeId} {a b : Int} {k : IntKind} [hx : Ev l x (.int k a)] [hy : Ev l y (.int k b)] : PuC P l Γ (.call { callee := .builtin .min, args := #[x, y], argTypes := ts }) ty (.int k (min a b)) := ⟨fun _ => pu_min⟩

theorem ret_bool {a b : Bool} (h : a = b) : Value.bool a = Value.bool b := by rw [h]
theorem ret_int {k : IntKind} {a b : Int} (h : a = b) : Value.int k a = Value.int k b := by rw [h]
end auto
end Go.Eng
