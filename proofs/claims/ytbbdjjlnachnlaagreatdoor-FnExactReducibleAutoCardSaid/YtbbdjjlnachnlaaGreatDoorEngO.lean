/- Contracts that are shown for bare readings serve any context; an owned list laid open at one element. -/
import Derived.Test.YtbbdjjlnachnlaaGreatDoorEngJ
namespace Go.Eng
open Go Go.RowKit
set_option linter.unusedVariables false
set_option linter.unusedSimpArgs false

/-! ### From readings to any context -/

/-- What is owned holds no shared part. -/
class NoSh (α : Type) [i : Rep α] : Prop where
  ok : ∀ {ok ok' : Nat → Prop} {w : World} {F : List Nat} {cs : List Value} {x : α}, Rep.ow ok w F cs x → Rep.ow ok' w F cs x
instance : NoSh Int := ⟨fun h => h⟩
instance : NoSh Bool := ⟨fun h => h⟩
instance : NoSh ByteArray := ⟨fun h => h⟩
instance : NoSh UInt8 := ⟨fun h => h⟩
instance {α β : Type} [Rep α] [Rep β] [ha : NoSh α] [hb : NoSh β] : NoSh (α × β) := ⟨fun ⟨f, g, c, d, e, e', h, h'⟩ => ⟨f, g, c, d, e, e', ha.ok h, hb.ok h'⟩⟩
theorem OwL.ok {α : Type} [Rep α] [ha : NoSh α] {ok ok' : Nat → Prop} {w : World} : ∀ {F : List Nat} {cells : List Value} {xs : List α}, OwL ok w F cells xs → OwL ok' w F cells xs
  | _, _, [], h => h
  | _, _, _ :: _, ⟨f, g, c, d, e, e', h, h'⟩ => ⟨f, g, c, d, e, e', ha.ok h, OwL.ok h'⟩
instance {α : Type} [Rep α] [ha : NoSh α] : NoSh (List α) := ⟨fun h => by
  rcases h with h | ⟨g, cap, cur, e, G, cells, h1, h2, h3, h4, h5, h6, h7, h8, h9⟩
  · exact .inl h
  · exact .inr ⟨g, cap, cur, e, G, cells, h1, h2, h3, h4, h5, h6, h7, h8, h9.ok⟩⟩

/-- The atoms of this list do not mind what is shared. -/
class NoShL (A : List Atom) : Prop where
  ok : ∀ {ok ok' : Nat → Prop} {w : World} {F : List Nat}, Sep ok w A F → Sep ok' w A F
instance : NoShL [] := ⟨fun h => h⟩
instance {α : Type} {i : Rep α} [ha : @NoSh α i] {cs : List Value} {x : α} {A : List Atom} [h : NoShL A] : NoShL (@Atom.ow α i cs x :: A) :=
  ⟨fun ⟨f, g, e, h1, h2⟩ => ⟨f, g, e, ha.ok (show @Rep.ow α i _ _ _ _ _ from h1), h.ok h2⟩⟩

/-- Γ shows these readings. -/
class Reads (Γ R : List Atom) : Prop where
  get : ∀ {ok w F}, Sep ok w Γ F → Sep (fun _ => True) w R []
instance {Γ : List Atom} : Reads Γ [] := ⟨fun _ => rfl⟩
theorem reads_cons {Γ : List Atom} {α : Type} {i : Rep α} {cs : List Value} {x : α} {R : List Atom} (hr : HasRd α i Γ cs x) (h : Reads Γ R) : Reads Γ (@Atom.rd α i cs x :: R) :=
  ⟨fun hs => ⟨[], [], rfl, ⟨rfl, hr.get hs⟩, h.get hs⟩⟩

theorem cj_lift {P : Program} {f : FuncId} {vs : List Value} {w0 : World} {Γ R : List Atom} {ρ : Type} {r : ρ → Value} {A : ρ → List Atom} (h : ∀ w1, CJ P f vs w1 R r (fun p => A p ++ R)) (hr : Reads Γ R) (hA : ∀ p, NoShL (A p)) :
    CJ P f vs w0 Γ r (fun p => A p ++ Γ) := by
  rintro w ⟨hb, F, hn, hl, hs⟩
  have hR : Sat w w R := ⟨BelD.refl _ _, [], by simp, by simp, (hr.get hs).mono (fun b _ _ => ⟨by simp, rfl⟩) (Nat.le_refl _) (fun b hb => by cases hb)⟩
  refine (h w w hR).mono fun e w' ⟨p, he, hs'⟩ => ⟨p, he, ?_⟩
  obtain ⟨hb', F', hn', hl', hs''⟩ := hs'
  obtain ⟨f', g, rfl, h1, _⟩ := hs''.split
  have hlt := hs.lt
  have hf' : ∀ b ∈ f', w.heap.size ≤ b := fun b hb => hl' b (by simp [hb])
  refine ⟨hb.trans (hb'.mono hb.size), f' ++ F, ?_, ?_, Sep.append (hs.mono (fun b hb hlt' => ⟨fun hm => ?_, hb'.block b hlt'⟩) hb'.size (fun b hb => hb'.block b (hlt b hb))) ((hA p).ok h1)⟩
  · rw [List.nodup_append]
    exact ⟨(List.nodup_append.1 hn').1, hn, fun a ha b hb' e => by have := hf' a ha; have := hlt b hb'; omega⟩
  · intro b hb'
    rcases List.mem_append.1 hb' with hm | hm
    · exact Nat.le_trans hb.size (hf' b hm)
    · exact hl b hm
  · rcases List.mem_append.1 hm with hm | hm
    · exact Nat.lt_irrefl _ (Nat.lt_of_lt_of_le hlt' (hf' b hm))
    · exact hb hm

theorem cj_perm {P : Program} {f : FuncId} {vs : List Value} {w0 : World} {Γ Γ' : List Atom} {ρ : Type} {r : ρ → Value} {A : ρ → List Atom} (hp : Γ.Perm Γ') (h : CJ P f vs w0 Γ' r A) : CJ P f vs w0 Γ r A := fun w hs => h w (hs.perm hp)

/-! ### An owned value laid open -/
class UnO (α : Type) [Rep α] where
  Pr : Type
  cells : Pr → α → List Value
  atoms : Pr → α → List Atom
  fact : α → Prop
  law : ∀ {ok : Nat → Prop} {w : World} {F : List Nat} {cs : List Value} {x : α}, Rep.ow ok w F cs x → ∃ p, cs = cells p x ∧ Sep ok w (atoms p x) F ∧ fact x
instance unoInt : UnO Int := ⟨Unit, fun _ n => [.int .i64 n], fun _ _ => [], fun n => -9223372036854775808 ≤ n ∧ n ≤ 9223372036854775807, fun h => ⟨(), h.2.1, h.1, h.2.2⟩⟩
instance unoBool : UnO Bool := ⟨Unit, fun _ b => [.bool b], fun _ _ => [], fun _ => True, fun h => ⟨(), h.2, h.1, trivial⟩⟩
instance unoStr : UnO ByteArray := ⟨Unit, fun _ s => [.string s], fun _ _ => [], fun s => s.size ≤ 9223372036854775807, fun h => ⟨(), h.2.1, h.1, h.2.2⟩⟩
instance unoList {α : Type} [Rep α] : UnO (List α) := ⟨Value, fun c _ => [c], fun c xs => [.ow [c] xs], fun _ => True, fun {ok w F cs xs} h => by
  have hl := Rep.rd_len (x := xs) (Rep.ow_rd (ok' := fun _ => True) h (fun _ _ => trivial) (fun _ _ => trivial))
  match cs, hl with
  | [c], _ => exact ⟨c, rfl, ⟨F, [], by simp, h, rfl⟩, trivial⟩⟩
instance unoProd {α β : Type} [Rep α] [Rep β] [ua : UnO α] [ub : UnO β] : UnO (α × β) := ⟨ua.Pr × ub.Pr, fun p x => ua.cells p.1 x.1 ++ ub.cells p.2 x.2, fun p x => ua.atoms p.1 x.1 ++ ub.atoms p.2 x.2, fun x => ua.fact x.1 ∧ ub.fact x.2, fun h => by
  obtain ⟨f, g, c, d, rfl, rfl, h1, h2⟩ := h
  obtain ⟨p, rfl, hp, hf⟩ := ua.law h1
  obtain ⟨q, rfl, hq, hg⟩ := ub.law h2
  exact ⟨(p, q), rfl, Sep.append hq hp, hf, hg⟩⟩

/-! ### An owned list, one element taken out of it -/
structure Hole (α : Type) where
  xs : List α
  i : Nat
  ec : List Value

instance repHole {α : Type} [Rep α] : Rep (Hole α) where
  sz := 1
  rd ok w cs h := ∃ b cap, cs = [.slice (some ⟨b, 0, none⟩) h.xs.length cap] ∧ h.i < h.xs.length ∧ ok b ∧ b < w.heap.size ∧ CellsAt w b (h.i * Rep.sz α) h.ec
  ow ok w F cs h := ∃ b cap cur e p s t f1 f2, cs = [.slice (some ⟨b, 0, none⟩) h.xs.length cap] ∧ F = b :: (f1 ++ f2) ∧ w.heap[b]? = some (.cells cur e (0, 0)) ∧ cur.toList = p ++ h.ec ++ s ++ t ∧
    h.xs.length ≤ cap ∧ cap ≤ maxLen ∧ h.xs.length ≤ 9223372036854775807 ∧ cap * Rep.sz α ≤ cur.size ∧ h.ec.length = Rep.sz α ∧ h.i < h.xs.length ∧
    OwL ok w f1 p (h.xs.take h.i) ∧ OwL ok w f2 s (h.xs.drop (h.i + 1))
  pos := by decide
  rd_len := by rintro _ _ _ _ ⟨_, _, rfl, _⟩; rfl
  rd_one := by rintro _ _ _ _ ⟨_, _, rfl, _⟩; simp [Value.oneCell']
  rd_mono := by
    rintro ok ok' w w' _ x ⟨b, cap, rfl, h1, h2, h3, h4⟩ hm
    have hlt : b < w'.heap.size := by
      have := (hm b h2 h3).2
      unfold SameB at this
      rw [Array.getElem?_eq_getElem h3] at this
      exact (Array.getElem?_eq_some_iff.1 this).1
    exact ⟨b, cap, rfl, h1, (hm b h2 h3).1, hlt, h4.mono (hm b h2 h3).2⟩
  ow_mono := by
    rintro ok ok' w w' F _ x ⟨b, cap, cur, e, p, s, t, f1, f2, rfl, rfl, h1, h2, h3, h4, h5, h6, h7, h8, h9, h10⟩ hf hm
    exact ⟨b, cap, cur, e, p, s, t, f1, f2, rfl, rfl, (hf b (by simp)).trans h1, h2, h3, h4, h5, h6, h7, h8, h9.mono hm (fun k hk => hf k (by simp [hk])), h10.mono hm (fun k hk => hf k (by simp [hk]))⟩
  ow_rd := by
    rintro ok ok' w F _ x ⟨b, cap, cur, e, p, s, t, f1, f2, rfl, rfl, h1, h2, h3, h4, h5, h6, h7, h8, h9, h10⟩ ho hf
    refine ⟨b, cap, rfl, h8, hf b (by simp), (Array.getElem?_eq_some_iff.1 h1).1, fun j hj => ?_⟩
    have hp : p.length = x.i * Rep.sz α := by rw [h9.len, List.length_take]; congr 1; omega
    simp only [World.cell?, h1]
    rw [← hp, ← Array.getElem?_toList, h2]
    simp only [List.append_assoc]
    rw [List.getElem?_append_right (by omega), Nat.add_sub_cancel_left, List.getElem?_append_left hj]
    rfl
  ow_lt := by
    rintro ok w F _ x ⟨b, cap, cur, e, p, s, t, f1, f2, rfl, rfl, h1, h2, h3, h4, h5, h6, h7, h8, h9, h10⟩ k hk
    simp only [List.mem_cons, List.mem_append] at hk
    rcases hk with rfl | hk | hk
    · exact (Array.getElem?_eq_some_iff.1 h1).1
    · exact h9.lt k hk
    · exact h10.lt k hk

theorem sep_focus {α : Type} [Rep α] [un : UnO α] {ok : Nat → Prop} {w : World} {sv : Value} {xs : List α} {i : Nat} {y : α} (hi : xs[i]? = some y) {F : List Nat} (h : Rep.ow ok w F [sv] xs) :
    ∃ (p : un.Pr) (G : List Nat), G.Perm F ∧ un.fact y ∧ Sep ok w (.ow [sv] (Hole.mk xs i (un.cells p y)) :: un.atoms p y) G := by
  obtain ⟨hlt, hy⟩ := List.getElem?_eq_some_iff.1 hi
  rw [ow_list] at h
  rcases h with ⟨_, rfl, rfl⟩ | ⟨b, cap, cur, e, G, cells, hov, rfl, hgb, hcap, hcapm, hlen, hcs, htake, hO⟩
  · simp at hlt
  obtain ⟨f1, fo, f2, p, c, s, rfl, hcells, hold, hO1, hO2⟩ := hO.get i hlt
  rw [hy] at hold
  have hcl : c.length = Rep.sz α := Rep.rd_len (x := y) (Rep.ow_rd (ok' := fun _ => True) hold (fun _ _ => trivial) (fun _ _ => trivial))
  obtain ⟨q, rfl, hat, hf⟩ := un.law hold
  refine ⟨q, (b :: (f1 ++ f2)) ++ fo, ?_, hf, b :: (f1 ++ f2), fo, rfl, ⟨b, cap, cur, e, p, s, cur.toList.drop (xs.length * Rep.sz α), f1, f2, hov, rfl, hgb, ?_, hcap, hcapm, hlen, hcs, hcl, hlt, hO1, hO2⟩, hat⟩
  · rw [List.cons_append]
    refine List.Perm.cons b ?_
    rw [List.append_assoc, List.append_assoc]
    exact List.perm_append_comm.append_left f1
  · rw [← hcells, ← htake]; simp

theorem sep_unfocus {α : Type} [Rep α] {ok : Nat → Prop} {w : World} {sv : Value} {xs : List α} {i : Nat} {ec : List Value} {y : α} {F G : List Nat} (h : Rep.ow ok w F [sv] (Hole.mk xs i ec)) (hy : Rep.ow ok w G ec y) :
    ∃ H : List Nat, H.Perm (F ++ G) ∧ Rep.ow ok w H [sv] (xs.set i y) := by
  obtain ⟨b, cap, cur, e, p, s, t, f1, f2, h0, rfl, h1, h2, h3, h4, h5, h6, h7, h8, h9, h10⟩ := h
  simp only at h0 h2 h3 h5 h8 h9 h10 h7
  refine ⟨b :: (f1 ++ G ++ f2), ?_, ?_⟩
  · rw [List.cons_append]
    refine List.Perm.cons b ?_
    rw [List.append_assoc, List.append_assoc]
    exact List.perm_append_comm.append_left f1
  · rw [ow_list]
    have hset : xs.set i y = xs.take i ++ [y] ++ xs.drop (i + 1) := by
      rw [List.set_eq_take_append_cons_drop, if_pos h8]; simp
    have hO : OwL ok w (f1 ++ G ++ f2) (p ++ ec ++ s) (xs.set i y) := by
      rw [hset]
      exact OwL.append h10 (OwL.append (show OwL ok w G ec [y] from ⟨G, [], ec, [], by simp, by simp, hy, rfl, rfl⟩) h9)
    refine .inr ⟨b, cap, cur, e, f1 ++ G ++ f2, p ++ ec ++ s, by rw [List.length_set]; exact h0, rfl, h1, by simpa using h3, h4, by simpa using h5, h6, ?_, hO⟩
    rw [h2, ← hO.len]
    exact List.take_left ..

section walk
variable {P : Program} {ops : Array Oper} {Q : Exit → Act → World → Prop} {w0 : World} {rest : List Oper} {l l' : List Value} {Γ Δ Ε : List Atom} {ty : TypeId} {v : Value} {pos : String} {after : Array Edge} {d : Nat}

theorem sat_focus {α : Type} {iα : Rep α} [un : UnO α] {sv : Value} {xs : List α} {i : Nat} {y : α} [hp : PullOw (List α) repList Γ [sv] xs Δ] (hi : xs[i]? = some y) {w : World} (hs : Sat w0 w Γ) :
    ∃ p : un.Pr, un.fact y ∧ Sat w0 w (.ow [sv] (Hole.mk xs i (un.cells p y)) :: (un.atoms p y ++ Δ)) := by
  obtain ⟨hb, F, hn, hl, f, g, rfl, hf, hΔ⟩ := hs.perm hp.perm
  obtain ⟨p, G, hG, hfact, hsep⟩ := sep_focus (un := un) hi (show Rep.ow _ _ _ _ _ from hf)
  have hperm : (G ++ g).Perm (f ++ g) := hG.append_right g
  refine ⟨p, hfact, hb, G ++ g, hperm.symm.nodup hn, fun b hb' => hl b (hperm.mem_iff.1 hb'), ?_⟩
  have := Sep.append hΔ hsep
  exact Sep.notin hperm (by simpa using this)

theorem wl_focus {α : Type} {iα : Rep α} [un : UnO α] (sv : Value) (i : Nat) {xs : List α} {y : α} [hp : PullOw (List α) repList Γ [sv] xs Δ] (hi : xs[i]? = some y)
    (h : ∀ p : un.Pr, un.fact y → WL P ops Q w0 rest l (.ow [sv] (Hole.mk xs i (un.cells p y)) :: (un.atoms p y ++ Δ))) : WL P ops Q w0 rest l Γ := fun w hs => by
  obtain ⟨p, hf, hs'⟩ := sat_focus (un := un) (hp := hp) hi hs
  exact h p hf w hs'
theorem wc_focus {α : Type} {iα : Rep α} [un : UnO α] {c : Code} (sv : Value) (i : Nat) {xs : List α} {y : α} [hp : PullOw (List α) repList Γ [sv] xs Δ] (hi : xs[i]? = some y)
    (h : ∀ p : un.Pr, un.fact y → WC P Q w0 c l (.ow [sv] (Hole.mk xs i (un.cells p y)) :: (un.atoms p y ++ Δ))) : WC P Q w0 c l Γ := fun w hs => by
  obtain ⟨p, hf, hs'⟩ := sat_focus (un := un) (hp := hp) hi hs
  exact h p hf w hs'

theorem sat_unfocus {α : Type} {iα : Rep α} {sv : Value} {xs : List α} {i : Nat} {ec : List Value} {y : α} [hp : PullOw (Hole α) repHole Γ [sv] (Hole.mk xs i ec) Δ] (ho : Own Δ ec y Ε) {w : World} (hs : Sat w0 w Γ) : Sat w0 w (.ow [sv] (xs.set i y) :: Ε) := by
  obtain ⟨hb, F, hn, hl, f, g, rfl, hf, hΔ⟩ := hs.perm hp.perm
  obtain ⟨g2, hg2, fx, ge, rfl, hx2, hE⟩ := ho hΔ
  obtain ⟨H, hH, how⟩ := sep_unfocus (show Rep.ow _ _ _ _ _ from hf) (show Rep.ow _ _ _ _ _ from hx2)
  have hperm : (H ++ ge).Perm (f ++ g) := (hH.append_right ge).trans (by rw [List.append_assoc]; exact hg2.append_left f)
  refine ⟨hb, H ++ ge, hperm.symm.nodup hn, fun b hb' => hl b (hperm.mem_iff.1 hb'), ?_⟩
  exact Sep.notin hperm ⟨H, ge, rfl, how, hE⟩
theorem wl_unfocus {α : Type} {iα : Rep α} (sv : Value) {xs : List α} {i : Nat} {ec : List Value} (y : α) [hp : PullOw (Hole α) repHole Γ [sv] (Hole.mk xs i ec) Δ] (ho : Own Δ ec y Ε)
    (h : WL P ops Q w0 rest l (.ow [sv] (xs.set i y) :: Ε)) : WL P ops Q w0 rest l Γ := fun w hs => h w (sat_unfocus (hp := hp) ho hs)
theorem wq_unfocus {α : Type} {iα : Rep α} {e : Exit} (sv : Value) {xs : List α} {i : Nat} {ec : List Value} (y : α) [hp : PullOw (Hole α) repHole Γ [sv] (Hole.mk xs i ec) Δ] (ho : Own Δ ec y Ε)
    (h : WQ Q w0 e l (.ow [sv] (xs.set i y) :: Ε)) : WQ Q w0 e l Γ := fun w hs => h w (sat_unfocus (hp := hp) ho hs)
theorem wc_unfocus {α : Type} {iα : Rep α} {c : Code} (sv : Value) {xs : List α} {i : Nat} {ec : List Value} (y : α) [hp : PullOw (Hole α) repHole Γ [sv] (Hole.mk xs i ec) Δ] (ho : Own Δ ec y Ε)
    (h : WC P Q w0 c l (.ow [sv] (xs.set i y) :: Ε)) : WC P Q w0 c l Γ := fun w hs => h w (sat_unfocus (hp := hp) ho hs)

/-- An element of an owned list, where it lies. -/
theorem wl_index_ow {α : Type} {iα : Rep α} {T k by_ : Nat} {x y : Operand} {sv : Value} {n : Int} {kk : IntKind} {xs : List α} [hx : Ev l x sv] [hy : Ev l y (.int kk n)] [hT : Sl P T k by_] [hp : PullOw (List α) repList Γ [sv] xs Δ] [hr : HasRd (List α) repList Γ [sv] xs]
    (hi : 0 ≤ n ∧ n < xs.length) [hd : Se l d (.pointer (some (elemA sv n k))) l'] (h : WL P ops Q w0 rest l' Γ) : WL P ops Q w0 (⟨some d, .indexAddr T x y, ty, pos, after, none⟩ :: rest) l Γ :=
  wl_pure (pu_index hi) h

/-! ### Operations at the hole -/
theorem wl_index_hole {T k by_ : Nat} {x y : Operand} {sv : Value} {i : Nat} {α : Type} {iα : Rep α} {xs : List α} {ec : List Value} {kk : IntKind} [h : Ev l x sv] [hn : Ev l y (.int kk (i : Int))] [hT : Sl P T k by_] [hr : HasRd (Hole α) repHole Γ [sv] (Hole.mk xs i ec)]
    [hd : Se l d (.pointer (some (elemA sv (i : Int) k))) l'] (hw : WL P ops Q w0 rest l' Γ) : WL P ops Q w0 (⟨some d, .indexAddr T x y, ty, pos, after, none⟩ :: rest) l Γ := by
  refine wl_pure (v := .pointer (some (elemA sv (i : Int) k))) (hd := hd) ?_ hw
  obtain ⟨e, inf, z, ht, hinf, hk, _⟩ := hT.ex
  refine pu_of (s := Instr.indexAt T sv (.int kk (i : Int))) (fun o ho _ => by unfold execOp; rw [ho]; simp only [h.eq, hn.eq]) (fun w hs => ?_)
  obtain ⟨b, cap, hsv, hi, _⟩ := hs.rd (hr := hr)
  obtain rfl : sv = _ := by simpa using hsv
  simp only at hi
  have h1 : (i : Int) < (xs.length : Int) := by omega
  simp [Instr.indexAt, asIntOf, run_underlying ht, sizeOf, typeInfo, hinf, hk, hi, elemA]

theorem hole_cells {α : Type} {iα : Rep α} {sv : Value} {xs : List α} {i k : Nat} {ec : List Value} {w : World} (hr : Rep.rd (fun _ => True) w [sv] (Hole.mk xs i ec)) (hk : k = Rep.sz α) :
    CellsP w (elemA sv (i : Int) k) ec := by
  obtain ⟨b, cap, hsv, hi, _, _, hc⟩ := hr
  obtain rfl : sv = _ := by simpa using hsv
  intro j hj
  simp only [elemA, add_lit, Nat.zero_add, Int.toNat_natCast, hk]
  exact hc j hj

/-- The size of a reading in cells, found by looking. -/
class SzIs (α : Type) [Rep α] (k : outParam Nat) : Prop where
  eq : k = Rep.sz α
instance : SzIs Int 1 := ⟨rfl⟩
instance : SzIs Bool 1 := ⟨rfl⟩
instance : SzIs ByteArray 1 := ⟨rfl⟩
instance : SzIs UInt8 1 := ⟨rfl⟩
instance {α : Type} [Rep α] : SzIs (List α) 1 := ⟨rfl⟩
instance {α β : Type} [Rep α] [Rep β] {a b k : Nat} [ha : SzIs α a] [hb : SzIs β b] [h : NatAdd a b k] : SzIs (α × β) k := ⟨by rw [← h.eq, ha.eq, hb.eq]; rfl⟩

theorem wc_look {α : Type} {iα : Rep α} [inh : Inhabited α] [un : Un α] {c : Code} {k : Nat} (sv : Value) (n : Nat) {xs : List α} [hr : HasIm (List α) repList Γ [sv] xs] [hk : SzIs α k] (hi : n < xs.length)
    (h : ∀ p : Un.Pr α, Un.fact (xs.getD n default) → WC P Q w0 c l (.pt (elemA sv (n : Int) k) (Un.cells p (xs.getD n default)) :: (Un.atoms p (xs.getD n default) ++ Γ))) : WC P Q w0 c l Γ := by
  refine wc_peek sv (n : Int) ⟨by omega, by omega⟩ fun p hf => ?_
  rw [← hk.eq]
  simp only [Int.toNat_natCast] at hf ⊢
  exact h p hf

instance (priority := 1095) HasPt.hole {α : Type} {iα : Rep α} {sv : Value} {xs : List α} {i k : Nat} {ec : List Value} [hk : SzIs α k] : HasPt (.ow [sv] (Hole.mk xs i ec) :: Γ) (elemA sv (i : Int) k) ec :=
  ⟨fun ⟨_, _, _, h, _⟩ => hole_cells (Rep.ow_rd (ok' := fun _ => True) (show Rep.ow _ _ _ [sv] (Hole.mk xs i ec) from h) (fun _ _ => trivial) (fun _ _ => trivial)) hk.eq⟩

theorem wl_store_hole {α : Type} {iα : Rep α} {T k kk m : Nat} {x y : Operand} {sv : Value} {xs : List α} {i : Nat} {ec vc ec' : List Value} [hx : Ev l x (.pointer (some ((elemA sv (i : Int) k).add m)))] [hy : Ev l y v] [hc : Cs Γ v vc] [hT : Sz P T kk]
    [hb : PullOw (Hole α) repHole Γ [sv] (Hole.mk xs i ec) Δ] [hsz : SzIs α k] [hsp : Sp ec m vc ec'] (hkk : vc.length = kk) (h : WL P ops Q w0 rest l (.ow [sv] (Hole.mk xs i ec') :: Δ)) :
    WL P ops Q w0 (⟨none, .store T x y, ty, pos, after, none⟩ :: rest) l Γ := by
  intro w hs
  obtain ⟨hvc, hone⟩ := hs.cs (hc := hc)
  obtain ⟨he', hle'⟩ := hsp.eq
  obtain ⟨hbelow, F, hnd, hl, f, g, rfl, hf, hΔ⟩ := hs.perm hb.perm
  obtain ⟨b, cap, cur, e, p, s, t, f1, f2, h0, rfl, h1, h2, h3, h4, h5, h6, h7, h8, h9, h10⟩ := (show Rep.ow (· ∉ f ++ g) w f [sv] (Hole.mk xs i ec) from hf)
  simp only at h0 h2 h3 h5 h8 h9 h10 h7
  obtain rfl : sv = _ := by simpa using h0
  have hpl : p.length = i * Rep.sz α := by rw [h9.len, List.length_take]; congr 1; omega
  have hle : p.length + m + 0 + vc.length ≤ cur.size := by
    have := congrArg List.length h2
    simp only [List.length_append, Array.length_toList] at this
    omega
  have hr := run_storeCells_at P b (p.length + m) e vc 0 cur w h1 hle hone
  simp only [Nat.add_zero] at hr
  have hnew : cur.toList.take (p.length + m) ++ vc ++ cur.toList.drop (p.length + m + vc.length) = p ++ ec' ++ s ++ t := by
    rw [h2, he', show p ++ ec ++ s ++ t = p ++ (ec ++ (s ++ t)) by simp, List.take_length_add_append, show p.length + m + vc.length = p.length + (m + vc.length) by omega, List.drop_length_add_append,
      List.take_append_of_le_length (by omega), List.drop_append_of_le_length (by omega)]
    simp
  rw [hnew] at hr
  have hrun : (execOp (E l).eval ⟨none, .store T x y, ty, pos, after, none⟩).run P w = .ok .skip (w.setRow b (p ++ ec' ++ s ++ t).toArray) := by
    show (do Instr.storeAt T ((E l).eval x) ((E l).eval y); pure Next.skip : Sem Next).run P w = _
    have hea : (elemA (.slice (some ⟨b, 0, none⟩) xs.length cap) (i : Int) k).add m = ⟨b, p.length + m, none⟩ := by
      simp only [elemA, add_lit, Nat.zero_add, Int.toNat_natCast, hpl, hsz.eq]
    simp only [hx.eq, hy.eq, Sem.run_bind, Instr.storeAt, Instr.sureAddr, Sem.run_pure, Result.andThen_ok, storeVar, hT.size, hvc, hea]
    simp only [List.size_toArray, hkk, ne_eq, not_true_eq_false, if_false, Sem.run_pure, Result.andThen_ok, Sem.run_bind]
    simp only [hr, Result.andThen_ok]
  refine wpList_plain rfl fun K hK => ?_
  unfold Oper.wp
  rw [hrun, Oper.upon_skip, E_put_none]
  refine hK _ _ (h _ ?_)
  have hblt : b < w.heap.size := (Array.getElem?_eq_some_iff.1 h1).1
  have hsame : ∀ k, k ≠ b → SameB w (w.setRow b (p ++ ec' ++ s ++ t).toArray) k := fun k hk => setRow_other w b k _ hk
  have hnd1 := List.nodup_append.1 hnd
  have hbf : b ∉ f1 ++ f2 := (List.nodup_cons.1 hnd1.1).1
  refine Sat.step' (Δ' := [.ow [_] (Hole.mk xs i ec')]) (Γ := Δ) (f := b :: (f1 ++ f2)) (g := g) (w := w) hbelow hnd hl hΔ
    ⟨rfl, rfl, rfl, by simp, (by first | exact Nat.le_refl _ | exact Nat.le_add_right _ _)⟩ (fun k _ hk => hsame k (fun h => hk (by simp [h]))) (b :: (f1 ++ f2)) hnd1.1 (fun k hk => .inl hk) (fun ok' hok' => ⟨b :: (f1 ++ f2), [], by simp, ?_, rfl⟩)
  have hok2 : ∀ k, k ∉ (b :: (f1 ++ f2)) ++ g → k < w.heap.size → ok' k ∧ SameB w (w.setRow b (p ++ ec' ++ s ++ t).toArray) k :=
    fun k hk hlt => ⟨hok' k hk hlt, hsame k (fun h => hk (by simp [h]))⟩
  have hel : ec'.length = ec.length := by
    have := congrArg List.length he'
    simp only [List.length_append, List.length_take, List.length_drop] at this
    omega
  refine ⟨b, cap, (p ++ ec' ++ s ++ t).toArray, e, p, s, t, f1, f2, rfl, rfl, setRow_heap w b cur _ e _ h1, by simp, h3, h4, h5, ?_, by simpa [hel] using h7, h8, ?_, ?_⟩
  · have := congrArg List.length h2
    simp only [List.length_append, Array.length_toList] at this
    simp only [List.size_toArray, List.length_append]
    omega
  · exact h9.mono hok2 (fun k hk => hsame k (fun h => hbf (by simp [← h, hk])))
  · exact h10.mono hok2 (fun k hk => hsame k (fun h => hbf (by simp [← h, hk])))
theorem ent_own {α : Type} [Rep α] {c : List Value} {x : α} (h : Own Γ c x Δ) : Ent w0 Γ (.ow c x :: Δ) := fun _ hs => SepEnt.sat h hs
/-! ### A slice compared with nil -/
theorem run_equal_nil {T e : TypeId} {a : Option Addr} {n c : Nat} (ht : P.underlying T = some (.slice e)) (m : Nat) (w : World) : (Op.equalIn (m + 1) T (.slice a n c) (.slice none 0 0)).run P w = .ok a.isNone w := by
  cases a <;> simp only [Op.equalIn, Sem.run_bind, run_underlying ht, Result.andThen_ok, Sem.run_pure, Option.isNone_none, Option.isNone_some]
theorem eqGuard_slice {op : BinOp} {T : TypeId} {x y : Operand} {a b : Option Addr} {n c n' c' : Nat} (w : World) : (eqGuard op T x y (.slice a n c) (.slice b n' c')).run P w = .ok () w := by
  unfold eqGuard; split <;> rfl
theorem wl_eql_nil {T U k by_ : TypeId} {x y : Operand} {sv : Value} {α : Type} {iα : Rep α} {xs : List α} [hx : Ev l x sv] [hy : Ev l y (.slice none 0 0)] [hT : Sl P T k by_] [hr : HasRd (List α) repList Γ [sv] xs]
    (h : ∀ bq : Bool, (bq = true → xs = []) → (bq = false → sv ≠ .slice none 0 0) → WL P ops Q w0 rest (l.set d (.bool bq)) Γ) : WL P ops Q w0 (⟨some d, .binOp .eql T x y U, ty, pos, after, none⟩ :: rest) l Γ := by
  intro w hs
  obtain ⟨e, inf, z, ht, _⟩ := hT.ex
  obtain ⟨a, cap, hsv, _, _, _, h2⟩ := hs.rd (hr := hr)
  obtain rfl : sv = _ := by simpa using hsv
  refine wl_pure (v := .bool a.isNone) (hd := ⟨rfl⟩) ?_ (h a.isNone ?_ ?_) w hs
  · refine pu_bin (hx := hx) (hy := hy) eqGuard_slice (fun w => ?_)
    exact run_value (f := Value.bool) (run_equal_nil ht 9999 w)
  · intro hn
    by_cases hp : 0 < xs.length
    · obtain ⟨b, off, cells, rfl, _⟩ := h2 hp
      simp at hn
    · exact List.length_eq_zero_iff.1 (by omega)
  · intro hn he
    injection he with he1
    subst he1
    simp at hn
end walk
end Go.Eng
namespace Go.Eng
open Go Go.RowKit
set_option linter.unusedVariables false
set_option linter.unusedSimpArgs false

class Siz (α : Type) where
  size : α → Nat
instance : Siz Int := ⟨fun _ => 0⟩
instance : Siz Bool := ⟨fun _ => 0⟩
instance {α β : Type} [Siz α] [Siz β] : Siz (α × β) := ⟨fun x => Siz.size x.1 + Siz.size x.2⟩
def sumL {α : Type} [Siz α] : List α → Nat
  | [] => 0
  | x :: xs => Siz.size x + sumL xs
instance sizList {α : Type} [Siz α] : Siz (List α) := ⟨fun xs => xs.length + sumL xs⟩
theorem siz_list {α : Type} [Siz α] (xs : List α) : Siz.size xs = xs.length + sumL xs := rfl
theorem siz_pair {α β : Type} [Siz α] [Siz β] (x : α × β) : Siz.size x = Siz.size x.1 + Siz.size x.2 := rfl
theorem siz_int (x : Int) : Siz.size x = 0 := rfl
theorem siz_bool (x : Bool) : Siz.size x = 0 := rfl
theorem sumL_int (xs : List Int) : sumL xs = 0 := by
  induction xs with
  | nil => rfl
  | cons x xs ih => simp only [sumL, siz_int, ih]
theorem siz_ints (xs : List Int) : Siz.size xs = xs.length := by rw [siz_list, sumL_int, Nat.add_zero]
theorem sumL_take_succ {α : Type} [Siz α] {xs : List α} {k : Nat} {y : α} (h : xs[k]? = some y) : sumL (xs.take (k + 1)) = sumL (xs.take k) + Siz.size y := by
  induction xs generalizing k with
  | nil => simp at h
  | cons x xs ih =>
    cases k with
    | zero =>
      simp only [List.getElem?_cons_zero, Option.some.injEq] at h
      subst h
      simp [sumL]
    | succ k =>
      simp only [List.getElem?_cons_succ] at h
      simp only [List.take_succ_cons, sumL, ih h]
      omega
theorem sumL_take_le {α : Type} [Siz α] (xs : List α) (k : Nat) : sumL (xs.take k) ≤ sumL xs := by
  induction xs generalizing k with
  | nil => simp [sumL]
  | cons x xs ih =>
    cases k with
    | zero => simp [sumL]
    | succ k =>
      simp only [List.take_succ_cons, sumL]
      have := ih k
      omega
theorem siz_get {α : Type} [Siz α] {xs : List α} {k : Nat} {y : α} (h : xs[k]? = some y) : Siz.size y ≤ sumL xs := by
  have := sumL_take_succ h
  have := sumL_take_le xs (k + 1)
  omega

/-- The marks: how many cells are marked, and what they are then. -/
class Mk (α : Type) where
  cnt : α → Nat
  by_ : α → Int → α
instance : Mk Int := ⟨fun _ => 1, fun _ k => k⟩
instance : Mk Bool := ⟨fun _ => 1, fun _ k => decide (k.tmod 3 = 0)⟩
instance {α β : Type} [Mk α] [Mk β] : Mk (α × β) := ⟨fun x => Mk.cnt x.1 + Mk.cnt x.2, fun x k => (Mk.by_ x.1 k, Mk.by_ x.2 (k + Mk.cnt x.1))⟩
def cntL {α : Type} [Mk α] : List α → Nat
  | [] => 0
  | x :: xs => Mk.cnt x + cntL xs
def mkL {α : Type} [Mk α] : List α → Int → List α
  | [], _ => []
  | x :: xs, k => Mk.by_ x k :: mkL xs (k + Mk.cnt x)
instance mkList {α : Type} [Mk α] : Mk (List α) := ⟨cntL, mkL⟩
theorem mk_list {α : Type} [Mk α] (xs : List α) (k : Int) : Mk.by_ xs k = mkL xs k := rfl
theorem cnt_list {α : Type} [Mk α] (xs : List α) : Mk.cnt xs = cntL xs := rfl
theorem cnt_int (n : Int) : Mk.cnt n = 1 := rfl
theorem cnt_pair {α β : Type} [Mk α] [Mk β] (x : α × β) : Mk.cnt x = Mk.cnt x.1 + Mk.cnt x.2 := rfl
theorem mkL_length {α : Type} [Mk α] (xs : List α) (k : Int) : (mkL xs k).length = xs.length := by
  induction xs generalizing k with
  | nil => rfl
  | cons x xs ih => simp [mkL, ih]
theorem cntL_take_succ {α : Type} [Mk α] {xs : List α} {k : Nat} {y : α} (h : xs[k]? = some y) : cntL (xs.take (k + 1)) = cntL (xs.take k) + Mk.cnt y := by
  induction xs generalizing k with
  | nil => simp at h
  | cons x xs ih =>
    cases k with
    | zero =>
      simp only [List.getElem?_cons_zero, Option.some.injEq] at h
      subst h
      simp [cntL]
    | succ k =>
      simp only [List.getElem?_cons_succ] at h
      simp only [List.take_succ_cons, cntL, ih h]
      omega
theorem cntL_take_le {α : Type} [Mk α] (xs : List α) (k : Nat) : cntL (xs.take k) ≤ cntL xs := by
  induction xs generalizing k with
  | nil => simp [cntL]
  | cons x xs ih =>
    cases k with
    | zero => simp [cntL]
    | succ k =>
      simp only [List.take_succ_cons, cntL]
      have := ih k
      omega
/-- What stands in memory when the first j are marked. -/
def mkTo {α : Type} [Mk α] (xs : List α) (m : Int) (j : Nat) : List α := mkL (xs.take j) m ++ xs.drop j
theorem mkTo_zero {α : Type} [Mk α] (xs : List α) (m : Int) : mkTo xs m 0 = xs := by simp [mkTo, mkL]
theorem mkTo_all {α : Type} [Mk α] (xs : List α) (m : Int) : mkTo xs m xs.length = mkL xs m := by simp [mkTo]
theorem mkTo_length {α : Type} [Mk α] (xs : List α) (m : Int) (j : Nat) : (mkTo xs m j).length = xs.length := by
  simp only [mkTo, List.length_append, mkL_length, List.length_take, List.length_drop]
  omega
theorem mkTo_get {α : Type} [Mk α] {xs : List α} {m : Int} {j : Nat} {y : α} (h : xs[j]? = some y) : (mkTo xs m j)[j]? = some y := by
  obtain ⟨hl, _⟩ := List.getElem?_eq_some_iff.1 h
  have h1 : (mkL (xs.take j) m).length = j := by rw [mkL_length, List.length_take]; omega
  unfold mkTo
  rw [List.getElem?_append_right (by omega), h1, Nat.sub_self, List.getElem?_drop]
  exact h
theorem mkTo_set {α : Type} [Mk α] {xs : List α} {m : Int} {j : Nat} {y : α} (h : xs[j]? = some y) : (mkTo xs m j).set j (Mk.by_ y (m + cntL (xs.take j))) = mkTo xs m (j + 1) := by
  unfold mkTo
  induction xs generalizing j m with
  | nil => simp at h
  | cons x xs ih =>
    cases j with
    | zero =>
      simp only [List.getElem?_cons_zero, Option.some.injEq] at h
      subst h
      simp [mkL, cntL]
    | succ j =>
      simp only [List.getElem?_cons_succ] at h
      have := ih (m := m + Mk.cnt x) h
      simp only [List.take_succ_cons, mkL, cntL, List.drop_succ_cons, List.cons_append, List.set_cons_succ]
      rw [← this, show m + ((Mk.cnt x + cntL (xs.take j) : Nat) : Int) = m + Mk.cnt x + cntL (xs.take j) by omega]
theorem get_lt {α : Type} [Inhabited α] {xs : List α} {k : Nat} (h : k < xs.length) : xs[k]? = some (xs.getD k default) := by
  rw [List.getD_eq_getElem?_getD, List.getElem?_eq_getElem h]; rfl
theorem cntL_ints (xs : List Int) : cntL xs = xs.length := by
  induction xs with
  | nil => rfl
  | cons x xs ih => simp only [cntL, cnt_int, ih, List.length_cons]; omega
theorem mkTo_set_int {xs : List Int} {m : Int} {k : Nat} (h : k < xs.length) : (mkTo xs m k).set k (m + k) = mkTo xs m (k + 1) := by
  have := mkTo_set (m := m) (get_lt h)
  rw [cntL_ints, List.length_take, Nat.min_eq_left (by omega)] at this
  exact this
theorem mkTo_end {α : Type} [Mk α] {xs : List α} {m : Int} {k : Nat} (h : xs.length ≤ k) : mkTo xs m k = mkL xs m := by
  unfold mkTo
  rw [List.take_of_length_le h, List.drop_of_length_le h, List.append_nil]
theorem mkL_get {α : Type} [Mk α] [Inhabited α] {xs : List α} {m : Int} {k : Nat} (h : k < xs.length) : (mkL xs m).getD k default = Mk.by_ (xs.getD k default) (m + cntL (xs.take k)) := by
  induction xs generalizing m k with
  | nil => simp at h
  | cons x xs ih =>
    cases k with
    | zero => simp [mkL, cntL]
    | succ k =>
      have := ih (m := m + Mk.cnt x) (k := k) (by simpa using h)
      simp only [mkL, List.getD_cons_succ, this, List.take_succ_cons, cntL]
      congr 1
      omega
theorem mkL_get_int {xs : List Int} {m : Int} {k : Nat} (h : k < xs.length) : (mkL xs m).getD k 0 = m + k := by
  have := mkL_get (m := m) h
  rw [cntL_ints, List.length_take, Nat.min_eq_left (by omega)] at this
  exact this
theorem rep_set {α : Type} {xs : List α} {k : Nat} {y z : α} (h : xs[k]? = some y) : (xs.take k ++ List.replicate (xs.length - k) z).set k y = xs.take (k + 1) ++ List.replicate (xs.length - (k + 1)) z := by
  obtain ⟨hk, hy⟩ := List.getElem?_eq_some_iff.1 h
  rw [List.set_append_right _ _ (by simp; omega), List.length_take, Nat.min_eq_left (by omega), Nat.sub_self, show xs.length - k = (xs.length - (k + 1)) + 1 by omega, List.replicate_succ, List.set_cons_zero,
    List.take_succ_eq_append_getElem hk, hy, List.append_assoc]
  rfl
theorem rep_set_int {xs : List Int} {k : Nat} {z : Int} (h : k < xs.length) : (xs.take k ++ List.replicate (xs.length - k) z).set k (xs.getD k 0) = xs.take (k + 1) ++ List.replicate (xs.length - (k + 1)) z := rep_set (by rw [List.getD_eq_getElem?_getD, List.getElem?_eq_getElem h]; rfl)
theorem mk_eta {α β : Type} {p : α × β} : (p.1, p.2) = p := rfl
theorem rep_end {α : Type} {xs : List α} {k : Nat} {z : α} (h : xs.length ≤ k) : xs.take k ++ List.replicate (xs.length - k) z = xs := by
  rw [List.take_of_length_le h, show xs.length - k = 0 by omega, List.replicate_zero, List.append_nil]
theorem take_next {α : Type} [Inhabited α] {xs ys : List α} {k : Nat} (h : xs.take k = ys.take k) (h1 : k < xs.length) (h2 : k < ys.length) (he : xs.getD k default = ys.getD k default) : xs.take (k + 1) = ys.take (k + 1) := by
  rw [List.getD_eq_getElem?_getD, List.getD_eq_getElem?_getD, List.getElem?_eq_getElem h1, List.getElem?_eq_getElem h2] at he
  simp only [Option.getD_some] at he
  rw [List.take_succ_eq_append_getElem h1, List.take_succ_eq_append_getElem h2, h, he]
theorem take_end {α : Type} {xs ys : List α} {k : Nat} (h : xs.take k = ys.take k) (h1 : xs.length ≤ k) (h2 : xs.length = ys.length) : xs = ys := by
  rw [List.take_of_length_le h1, List.take_of_length_le (by omega)] at h
  exact h
theorem ne_getD {α : Type} [Inhabited α] {xs ys : List α} {k : Nat} (h : ¬ xs.getD k default = ys.getD k default) : xs ≠ ys := fun e => h (by rw [e])
/-- What is left of a bound behind k more; -1 where nothing is. -/
def lft (n : Int) (k : Nat) : Int := if n - k < 0 then -1 else n - k
theorem lft_spec (n : Int) (k : Nat) : (n < k ∧ lft n k = -1) ∨ (k ≤ n ∧ lft n k = n - k) := by
  unfold lft
  split <;> omega
instance : Siz ByteArray := ⟨fun _ => 0⟩
theorem siz_str (x : ByteArray) : Siz.size x = 0 := rfl
end Go.Eng
namespace Go.Eng
open Go Go.RowKit
set_option linter.unusedVariables false
set_option linter.unusedSimpArgs false

section auto
variable {P : Program} {ops : Array Oper} {Q : Exit → Act → World → Prop} {w0 : World} {rest : List Oper} {l l' : List Value} {Γ Γb Δ Ε : List Atom} {ty : TypeId} {v : Value} {pos : String} {after : Array Edge} {d : Nat} {fuel : Nat} {bl bl' : List Bool} {op : Op} {lt : List Nat}

theorem wl_make_a {T k by_ : Nat} {x y : Operand} {kx ky : IntKind} {n m : Int} {α : Type} {iα : Rep α} {zs : List Value} {z : α} [ho : Op_ P T (List α) repList] [hx : Ev l x (.int kx n)] [hy : Ev l y (.int ky m)] [hT : Sl P T k by_] [hzs : SlZ P T zs] [hz : Zo α zs z]
    (hn : 0 ≤ n ∧ n ≤ m) (hm : m * by_ ≤ 140737488355328) (h : ∀ sv, WL P ops Q w0 rest (l.set d sv) (.ow [sv] (List.replicate n.toNat z) :: Γ)) :
    WL P ops Q w0 (⟨some d, .makeSlice T x y, ty, pos, after, none⟩ :: rest) l Γ := wl_make α hn hm h
theorem wl_append_a {T k by_ : Nat} {x y : Operand} {ov tv : Value} {α : Type} {iα : Rep α} {xs ys : List α} [hx : Ev l x ov] [hy : Ev l y tv] [hT : Sl P T k by_] [h1 : PullOw (List α) repList Γ [ov] xs Δ] [h2 : PullOw (List α) repList Δ [tv] ys Ε] [hk : SzIs α k]
    (hbytes : (xs.length + ys.length) * by_ ≤ 140737488355328) (h : ∀ sv, WL P ops Q w0 rest (l.set d sv) (.ow [sv] (xs ++ ys) :: Ε)) :
    WL P ops Q w0 (⟨some d, .call { callee := .builtin .append, args := #[x, y], argTypes := #[T, T] }, ty, pos, after, none⟩ :: rest) l Γ := wl_append hk.eq hbytes h
theorem wl_append_cp_a {T k by_ : Nat} {x y : Operand} {ov tv : Value} {α : Type} {iα : Rep α} {xs ys : List α} [hx : Ev l x ov] [hy : Ev l y tv] [hT : Sl P T k by_] [h1 : PullOw (List α) repList Γ [ov] xs Δ] [h2 : HasRd (List α) repList Δ [tv] ys] [hcp : Cp α] [hk : SzIs α k]
    (hbytes : (xs.length + ys.length) * by_ ≤ 140737488355328) (h : ∀ sv, WL P ops Q w0 rest (l.set d sv) (.ow [sv] (xs ++ ys) :: Δ)) :
    WL P ops Q w0 (⟨some d, .call { callee := .builtin .append, args := #[x, y], argTypes := #[T, T] }, ty, pos, after, none⟩ :: rest) l Γ := wl_append_cp hk.eq hbytes h
theorem wl_buildSlice_a {T k by_ n : Nat} {ps : List (Nat × Operand)} {groups : List (List Value)} {α : Type} {iα : Rep α} {xs : List α} [hO : Op_ P T (List α) repList] [hT : Sl P T k by_] [hp : PartsL Γ l k 0 ps groups] [hk : SzIs α k] (ho : OwnL Γ groups xs Δ) (hn : n = xs.length) (hnk : n * k ≤ 16777216)
    (h : ∀ sv, WL P ops Q w0 rest (l.set d sv) (.ow [sv] xs :: Δ)) : WL P ops Q w0 (⟨some d, .buildSlice T n ps.toArray, ty, pos, after, none⟩ :: rest) l Γ := wl_buildSlice ho hk.eq hn hnk h
theorem wl_store_elem_a {α : Type} {iα : Rep α} {T k kk : Nat} {x y : Operand} {sv : Value} {n : Int} {xs : List α} {vc : List Value} {u : α} [hx : Ev l x (.pointer (some (elemA sv n k)))] [hy : Ev l y v] [hc : Cs Γ v vc] [hT : Sz P T kk] [h1 : PullOw (List α) repList Γ [sv] xs Δ]
    [hk : SzIs α k] [hkk : SzIs α kk] (ho : Own Δ vc u Ε) (hi : 0 ≤ n ∧ n < xs.length) (h : WL P ops Q w0 rest l (.ow [sv] (xs.set n.toNat u) :: Ε)) :
    WL P ops Q w0 (⟨none, .store T x y, ty, pos, after, none⟩ :: rest) l Γ := wl_store_elem ho hk.eq hkk.eq hi h
/-- A slice of the function's own, nil so far. -/
theorem wl_nil_ow {α : Type} {iα : Rep α} (h : WL P ops Q w0 rest l (.ow [.slice none 0 0] ([] : List α) :: Γ)) : WL P ops Q w0 rest l Γ := wl_ent own_nil h
theorem wc_nil_ow {α : Type} {iα : Rep α} {c : Code} (h : WC P Q w0 c l (.ow [.slice none 0 0] ([] : List α) :: Γ)) : WC P Q w0 c l Γ := wc_ent own_nil h
/-- append(nil, ..): what stands first is owned, too. -/
theorem wl_append_nil {T k by_ : Nat} {x y : Operand} {tv : Value} {α : Type} {iα : Rep α} {ys : List α} [hx : Ev l x (.slice none 0 0)] [hO : Op_ P T (List α) repList] [hy : Ev l y tv] [hT : Sl P T k by_] [h2 : PullOw (List α) repList Γ [tv] ys Ε] [hk : SzIs α k]
    (hbytes : ys.length * by_ ≤ 140737488355328) (h : ∀ sv, WL P ops Q w0 rest (l.set d sv) (.ow [sv] ys :: Ε)) :
    WL P ops Q w0 (⟨some d, .call { callee := .builtin .append, args := #[x, y], argTypes := #[T, T] }, ty, pos, after, none⟩ :: rest) l Γ :=
  wl_nil_ow (α := α) (wl_append (h1 := PullOw.here) (h2 := h2) hk.eq (by simpa using hbytes) (by simpa using h))

/-! ### The base is made stronger on the way -/
theorem sat_addsep_perm {w : World} {Ε : List Atom} (hp : Γ.Perm (Γb ++ Ε)) (hs : Sat w0 w Γ) (hd : ∀ F : List Nat, (∀ G : List Nat, Sep (· ∉ F) w Γb G → Sep (· ∉ F) w Δ []))
    : Sat w0 w (Δ ++ Γ) ∧ Sat w0 w (Δ ++ Γb) := by
  have h1 : Sat w0 w (Δ ++ (Γb ++ Ε)) := (hs.perm hp).addSep fun F hF => by
    obtain ⟨f, g, rfl, h, _⟩ := hF.split
    exact hd _ f h
  refine ⟨h1.perm (hp.symm.append_left Δ), ?_⟩
  have h2 : Sat w0 w (Ε ++ (Δ ++ Γb)) := h1.perm (by rw [← List.append_assoc]; exact List.perm_append_comm)
  exact h2.dropN

theorem wa_peek {α : Type} {iα : Rep α} [inh : Inhabited α] [un : Un α] [hsub : Sub Γ Γb] (sv : Value) (n : Int) {xs : List α} [hr : HasIm (List α) repList Γb [sv] xs] (hnl : noLate lt bl.toArray) (hi : 0 ≤ n ∧ n < xs.length)
    (h : ∀ p : Un.Pr α, Un.fact (xs.getD n.toNat default) → WA P ops Q w0 lt (.pt (elemA sv n (Rep.sz α)) (Un.cells p (xs.getD n.toNat default)) :: (Un.atoms p (xs.getD n.toNat default) ++ Γb)) fuel bl l (.pt (elemA sv n (Rep.sz α)) (Un.cells p (xs.getD n.toNat default)) :: (Un.atoms p (xs.getD n.toNat default) ++ Γ))) :
    WA P ops Q w0 lt Γb fuel bl l Γ := fun w hs hsb => by
  obtain ⟨Ε, hE⟩ := hsub.get
  have hin : n.toNat < xs.length := by omega
  have hget : xs.getD n.toNat default = xs[n.toNat] := by rw [List.getD_eq_getElem?_getD, List.getElem?_eq_getElem hin, Option.getD_some]
  -- the cells do not depend on what is owned
  obtain ⟨_, Fb, _, _, hsepb⟩ := hsb hnl
  obtain ⟨a, cap, b, off, pc, c, s, rfl, ha, hok, hca, hp, hea, hrd⟩ := elem_cells (hr.get hsepb) hi.1 hi.2
  rw [← hget] at hrd
  obtain ⟨q, rfl, _, hf⟩ := un.law hrd
  have key := sat_addsep_perm (Δ := .pt (elemA (.slice (some ⟨b, off, none⟩) xs.length cap) n (Rep.sz α)) (Un.cells q (xs.getD n.toNat default)) :: Un.atoms q (xs.getD n.toNat default)) hE hs (fun F G hG => by
    obtain ⟨a', cap', b', off', pc', c', s', hsv, ha', hok', hca', hp', hea', hrd'⟩ := elem_cells (hr.get hG) hi.1 hi.2
    simp only [Value.slice.injEq, Option.some.injEq, Addr.mk.injEq, and_true] at hsv
    obtain ⟨⟨rfl, rfl⟩, _, rfl⟩ := hsv
    rw [← hget] at hrd'
    have hlen := Rep.rd_len hrd
    have hlen' := Rep.rd_len hrd'
    have hcc : c' = Un.cells q (xs.getD n.toNat default) := by
      apply List.ext_getElem?
      intro j
      by_cases hj : j < Rep.sz α
      · have e1 := hca.part j (by omega)
        have e2 := hca'.part j (by omega)
        rw [hp] at e1
        rw [hp'] at e2
        rw [← e1, ← e2]
      · rw [List.getElem?_eq_none (by omega), List.getElem?_eq_none (by omega)]
    subst hcc
    refine ⟨[], [], rfl, ⟨rfl, ?_⟩, ?_⟩
    · rw [hea]
      refine ⟨hok', hca.lt (by have := Rep.pos (α := α); simp only [List.length_append]; omega), fun j hj => ?_⟩
      rw [add_lit]
      exact hca.part j hj
    · exact un.ext hrd')
  exact wpAnyG_mono (fun L w hw hn => Sat.dropN (Δ := _ :: Un.atoms q _) (hw hn)) (h q hf w key.1 (fun _ => key.2))
/-- xs[n] of which nothing is laid open yet, while the order is open. -/
theorem wa_index_deep {ol : List Oper} (i : Nat) {α : Type} {iα : Rep α} [inh : Inhabited α] [un : Un α] [dp : Deep_ α] {T k by_ : Nat} {x y : Operand} {sv : Value} {n : Int} {kk : IntKind} {xs : List α} [hi : Ge ol i ⟨some d, .indexAddr T x y, ty, pos, after, none⟩] [hx : Ev l x sv] [hy : Ev l y (.int kk n)]
    [hT : Sl P T k by_] [hr : HasIm (List α) repList Γb [sv] xs] [hsub : Sub Γ Γb] [hk : SzIs α k] [hd : Se l d (.pointer (some (elemA sv n k))) l'] [hb : Se bl i true bl'] (hck : ckTake lt ol.toArray bl i = true)
    (hQ : ∀ c a w v, Q (.panic c) (a.put (some d) v) w → Q (.panic c) a w) (hin : 0 ≤ n ∧ n < xs.length)
    (h : ∀ (p : Un.Pr α) (cs : List Value) (as asb : List Atom), Un.cells p (xs.getD n.toNat default) = cs → Un.atoms p (xs.getD n.toNat default) ++ Γ = as → Un.atoms p (xs.getD n.toNat default) ++ Γb = asb → Un.fact (xs.getD n.toNat default) →
      WA P ol.toArray Q w0 lt (.pt (elemA sv n k) cs :: asb) fuel bl' l' (.pt (elemA sv n k) cs :: as)) : WA P ol.toArray Q w0 lt Γb (fuel + 1) bl l Γ := by
  refine wa_peek sv n (ck6 hck) hin fun p hf => ?_
  rw [← hk.eq]
  refine wa_pure i (v := .pointer (some (elemA sv n k))) (hd := hd) (by simpa using hi.eq) hck hQ ?_ (h p _ _ _ rfl rfl rfl hf)
  intro w hw
  exact pu_index (hr := HasRd.im) hin w (Sat.dropN (Δ := .pt _ _ :: Un.atoms p _) hw)

/-! ### Numbers read: they fit -/
theorem wl_load_int_f {T : TypeId} {x : Operand} {sv : Value} {n : Int} {xs : List Int} [h : Ev l x (.pointer (some (elemA sv n 1)))] [hT : Sc P T] [hr : HasRd (List Int) repList Γ [sv] xs]
    (hi : 0 ≤ n ∧ n < xs.length) [hd : Se l d (.int .i64 (xs.getD n.toNat 0)) l'] (hw : -9223372036854775808 ≤ xs.getD n.toNat 0 ∧ xs.getD n.toNat 0 ≤ 9223372036854775807 → WL P ops Q w0 rest l' Γ) : WL P ops Q w0 (⟨some d, .load T x, ty, pos, after, none⟩ :: rest) l Γ := by
  intro w hs
  have hin := hs.rd (hr := hr)
  obtain ⟨a, cap, _, _, _, _, h2⟩ := hin
  obtain ⟨b, off, cells, rfl, _, _, hrd⟩ := h2 (by omega)
  have := RdL.in64 hrd (xs.getD n.toNat 0) (by rw [List.getD_eq_getElem?_getD, List.getElem?_eq_getElem (by omega)]; simp)
  exact wl_pure (pu_load_int hi) (hw this) w hs

/-! ### What one list of atoms shows of another; a nil slice is anybody's -/
class SubE (Γ Δ : List Atom) : Prop where
  get : ∀ {ok : Nat → Prop} {w : World} {F : List Nat}, Sep ok w Γ F → ∃ G H : List Nat, (G ++ H).Perm F ∧ Sep ok w Δ G
instance SubE.nil : SubE Γ [] := ⟨fun {_ _ F} _ => ⟨[], F, .refl _, rfl⟩⟩
instance (priority := 2000) SubE.refl : SubE Γ Γ := ⟨fun {_ _ F} h => ⟨F, [], by simp, h⟩⟩
instance SubE.cons {Γ' : List Atom} {A : Atom} [h : Pull Γ A Γ'] [h' : SubE Γ' Δ] : SubE Γ (A :: Δ) := ⟨fun hs => by
  obtain ⟨F', hp, f, g, rfl, hA, hr⟩ := Sep.perm h.perm hs
  obtain ⟨G, H, hGH, hD⟩ := h'.get hr
  exact ⟨f ++ G, H, by rw [List.append_assoc]; exact (hGH.append_left f).trans hp, f, G, rfl, hA, hD⟩⟩
instance (priority := 1500) SubE.nils {α : Type} {iα : Rep α} [h : SubE Γ Δ] : SubE Γ (@Atom.ow (List α) repList [.slice none 0 0] [] :: Δ) := ⟨fun hs => by
  obtain ⟨G, H, hGH, hD⟩ := h.get hs
  exact ⟨G, H, hGH, [], G, rfl, .inl ⟨rfl, rfl, rfl⟩, hD⟩⟩
instance (priority := 500) SubE.skip {A : Atom} [h : SubE Γ Δ] : SubE (A :: Γ) Δ := ⟨fun ⟨f, g, e, _, hs⟩ => by
  obtain ⟨G, H, hGH, hD⟩ := h.get hs
  exact ⟨G, H ++ f, by rw [e, ← List.append_assoc]; exact (hGH.append_right f).trans List.perm_append_comm, hD⟩⟩
theorem ent_e [h : SubE Γ Δ] : Ent w0 Γ Δ := by
  rintro w ⟨hb, F, hn, hl, hs⟩
  obtain ⟨G, H, hGH, hD⟩ := h.get hs
  have hm : ∀ b ∈ G, b ∈ F := fun b hb => hGH.mem_iff.1 (by simp [hb])
  exact ⟨hb, G, (List.nodup_append.1 (hGH.symm.nodup hn)).1, fun b hb => hl b (hm b hb), hD.mono (fun b hb _ => ⟨fun h => hb (hm b h), rfl⟩) (Nat.le_refl _) (fun _ _ => rfl)⟩

theorem pu_index_flat {T k by_ : Nat} {x y : Operand} {sv : Value} {n : Int} {α : Type} {i : Rep α} {xs : List α} {kk : IntKind} [fl : Flat α] [h : Ev l x sv] [hn : Ev l y (.int kk n)] [hT : Sl P T k by_] [hr : HasRd (List α) repList Γ [sv] xs]
    (hi : 0 ≤ n ∧ n < xs.length) : Pu P w0 l Γ (.indexAddr T x y) ty (.pointer (some (elemA sv n k))) := pu_index hi
theorem pu_index_pt {T k by_ : Nat} {x y : Operand} {sv : Value} {n : Int} {α : Type} {i : Rep α} {xs : List α} {kk : IntKind} {cs : List Value} [h : Ev l x sv] [hn : Ev l y (.int kk n)] [hT : Sl P T k by_] [hr : HasRd (List α) repList Γ [sv] xs] [hp : HasPt Γ (elemA sv n k) cs]
    (hi : 0 ≤ n ∧ n < xs.length) : Pu P w0 l Γ (.indexAddr T x y) ty (.pointer (some (elemA sv n k))) := pu_index hi

/-- What no operation of a region uses up: not what is owned. -/
class Keep1 (Γ : List Atom) (Δ : outParam (List Atom)) : Prop where
  sub : Sub Γ Δ
theorem sub_skip {A : Atom} (h : Sub Γ Δ) : Sub (A :: Γ) Δ := Sub.skip
theorem sub_keep {A : Atom} (h : Sub Γ Δ) : Sub (A :: Γ) (A :: Δ) := Sub.cons
instance : Keep1 [] [] := ⟨Sub.nil⟩
instance {α : Type} {iα : Rep α} {cs : List Value} {x : α} [h : Keep1 Γ Δ] : Keep1 (@Atom.ow α iα cs x :: Γ) Δ := ⟨sub_skip h.sub⟩
instance {α : Type} {iα : Rep α} {cs : List Value} {x : α} [h : Keep1 Γ Δ] : Keep1 (@Atom.rd α iα cs x :: Γ) (@Atom.rd α iα cs x :: Δ) := ⟨sub_keep h.sub⟩
instance {p : Addr} {cs : List Value} [h : Keep1 Γ Δ] : Keep1 (.pt p cs :: Γ) (.pt p cs :: Δ) := ⟨sub_keep h.sub⟩
instance {b : Nat} {cs : List Value} [h : Keep1 Γ Δ] : Keep1 (.bk b cs :: Γ) (.bk b cs :: Δ) := ⟨sub_keep h.sub⟩
instance (priority := 50) : Keep1 Γ Γ := ⟨Sub.refl⟩
/-- .. nor the blocks of variables. -/
class Keep2 (Γ : List Atom) (Δ : outParam (List Atom)) : Prop where
  sub : Sub Γ Δ
instance : Keep2 [] [] := ⟨Sub.nil⟩
instance {α : Type} {iα : Rep α} {cs : List Value} {x : α} [h : Keep2 Γ Δ] : Keep2 (@Atom.ow α iα cs x :: Γ) Δ := ⟨sub_skip h.sub⟩
instance {α : Type} {iα : Rep α} {cs : List Value} {x : α} [h : Keep2 Γ Δ] : Keep2 (@Atom.rd α iα cs x :: Γ) (@Atom.rd α iα cs x :: Δ) := ⟨sub_keep h.sub⟩
instance {p : Addr} {cs : List Value} [h : Keep2 Γ Δ] : Keep2 (.pt p cs :: Γ) (.pt p cs :: Δ) := ⟨sub_keep h.sub⟩
instance {b : Nat} {cs : List Value} [h : Keep2 Γ Δ] : Keep2 (.bk b cs :: Γ) Δ := ⟨sub_skip h.sub⟩
instance (priority := 50) : Keep2 Γ Γ := ⟨Sub.refl⟩
theorem wl_slice_lo_a {α : Type} {iα : Rep α} {T k by_ : Nat} {x y : Operand} {sv : Value} {kk : IntKind} {n : Int} {xs : List α} [hx : Ev l x sv] [hy : Ev l y (.int kk n)] [hT : Sl P T k by_] [hr : HasIm (List α) repList Γ [sv] xs] [hk : SzIs α k] (hn : 0 ≤ n ∧ n ≤ xs.length)
    (h : ∀ sv', WL P ops Q w0 rest (l.set d sv') (.rd [sv'] (xs.drop n.toNat) :: Γ)) : WL P ops Q w0 (⟨some d, .slice T x (some y) none none, ty, pos, after, none⟩ :: rest) l Γ := wl_slice_lo hk.eq hn h
theorem wl_slice_hi_a {α : Type} {iα : Rep α} {T k by_ : Nat} {x y : Operand} {sv : Value} {kk : IntKind} {n : Int} {xs : List α} [hx : Ev l x sv] [hy : Ev l y (.int kk n)] [hT : Sl P T k by_] [hr : HasIm (List α) repList Γ [sv] xs] [hk : SzIs α k] (hn : 0 ≤ n ∧ n ≤ xs.length)
    (h : ∀ sv', WL P ops Q w0 rest (l.set d sv') (.rd [sv'] (xs.take n.toNat) :: Γ)) : WL P ops Q w0 (⟨some d, .slice T x none (some y) none, ty, pos, after, none⟩ :: rest) l Γ := wl_slice_hi hk.eq hn h
theorem wl_slice_lh_a {α : Type} {iα : Rep α} {T k by_ : Nat} {x y z : Operand} {sv : Value} {kk kk' : IntKind} {n m : Int} {xs : List α} [hx : Ev l x sv] [hy : Ev l y (.int kk n)] [hz : Ev l z (.int kk' m)] [hT : Sl P T k by_] [hr : HasIm (List α) repList Γ [sv] xs] [hk : SzIs α k] (hn : 0 ≤ n ∧ n ≤ m ∧ m ≤ xs.length)
    (h : ∀ sv', WL P ops Q w0 rest (l.set d sv') (.rd [sv'] ((xs.take m.toNat).drop n.toNat) :: Γ)) : WL P ops Q w0 (⟨some d, .slice T x (some y) (some z) none, ty, pos, after, none⟩ :: rest) l Γ := wl_slice_lh hk.eq hn h

theorem pu_rem {T U : TypeId} {x y : Operand} {a b : Int} {k : IntKind} [hx : Ev l x (.int k a)] [hy : Ev l y (.int k b)] (h : b ≠ 0) : Pu P w0 l Γ (.binOp .rem T x y U) ty (.int k (a.tmod b)) :=
  pu_bin eqGuard_int (fun w => by simp only [binOp, Op.intDiv, ne_eq, not_true_eq_false, if_false, h]; rfl)
theorem pu_quo {T U : TypeId} {x y : Operand} {a b : Int} [hx : Ev l x (.int .i64 a)] [hy : Ev l y (.int .i64 b)] (h : b ≠ 0) (h' : -9223372036854775808 ≤ a.tdiv b ∧ a.tdiv b ≤ 9223372036854775807) : Pu P w0 l Γ (.binOp .quo T x y U) ty (.int .i64 (a.tdiv b)) :=
  pu_bin eqGuard_int (fun w => by simp only [binOp, Op.intDiv, ne_eq, not_true_eq_false, if_false, h]; rw [IntWalk.i64_in _ (by omega)]; rfl)
theorem pu_max {x y : Operand} {ts : Array TypeId} {a b : Int} {k : IntKind} [hx : Ev l x (.int k a)] [hy : Ev l y (.int k b)] : Pu P w0 l Γ (.call { callee := .builtin .max, args := #[x, y], argTypes := ts }) ty (.int k (max a b)) := by
  refine pu_of (s := Builtin.max_ ts ty #[.int k a, .int k b]) (fun o ho h2 => ?_) (fun w hs => ?_)
  · unfold execOp
    rw [ho]
    simp [resolve, invoke, builtin, hx.eq, hy.eq, h2, Pure.pure, Bind.bind, Sem.bind]
  · have : max a b = if b > a then b else a := by split <;> omega
    rw [this]
    simp [Builtin.max_, Builtin.max2]
theorem pu_min {x y : Operand} {ts : Array TypeId} {a b : Int} {k : IntKind} [hx : Ev l x (.int k a)] [hy : Ev l y (.int k b)] : Pu P w0 l Γ (.call { callee := .builtin .min, args := #[x, y], argTypes := ts }) ty (.int k (min a b)) := by
  refine pu_of (s := Builtin.min_ ts ty #[.int k a, .int k b]) (fun o ho h2 => ?_) (fun w hs => ?_)
  · unfold execOp
    rw [ho]
    simp [resolve, invoke, builtin, hx.eq, hy.eq, h2, Pure.pure, Bind.bind, Sem.bind]
  · have : min a b = if b < a then b else a := by split <;> omega
    rw [this]
    simp [Builtin.min_, Builtin.min2]
instance {x y : Operand} {ts : Array TypeId} {a b : Int} {k : IntKind} [hx : Ev l x (.int k a)] [hy : Ev l y (.int k b)] : PuC P l Γ (.call { callee := .builtin .max, args := #[x, y], argTypes := ts }) ty (.int k (max a b)) := ⟨fun _ => pu_max⟩
instance {x y : Operand} {ts : Array TypeId} {a b : Int} {k : IntKind} [hx : Ev l x (.int k a)] [hy : Ev l y (.int k b)] : PuC P l Γ (.call { callee := .builtin .min, args := #[x, y], argTypes := ts }) ty (.int k (min a b)) := ⟨fun _ => pu_min⟩

theorem ret_bool {a b : Bool} (h : a = b) : Value.bool a = Value.bool b := by rw [h]
theorem ret_int {k : IntKind} {a b : Int} (h : a = b) : Value.int k a = Value.int k b := by rw [h]
end auto
end Go.Eng
namespace Go.Eng
open Go Go.RowKit
set_option linter.unusedVariables false
set_option linter.unusedSimpArgs false

/-! ### How many marks there are -/
class CntB (α : Type) [Siz α] [Mk α] (c : outParam Nat) : Prop where
  le : ∀ x : α, Mk.cnt x ≤ c * (1 + Siz.size x)
instance : CntB Int 1 := ⟨fun x => by show 1 ≤ 1 * (1 + 0); omega⟩
instance : CntB Bool 1 := ⟨fun x => by show 1 ≤ 1 * (1 + 0); omega⟩
instance {α β : Type} [Siz α] [Mk α] [Siz β] [Mk β] {a b c : Nat} [ha : CntB α a] [hb : CntB β b] [h : NatAdd a b c] : CntB (α × β) c := ⟨fun x => by
  have h1 := ha.le x.1
  have h2 := hb.le x.2
  have e : Mk.cnt x = Mk.cnt x.1 + Mk.cnt x.2 := rfl
  have e2 : Siz.size x = Siz.size x.1 + Siz.size x.2 := rfl
  have h3 : a * (1 + Siz.size x.1) ≤ a * (1 + Siz.size x) := Nat.mul_le_mul_left _ (by omega)
  have h4 : b * (1 + Siz.size x.2) ≤ b * (1 + Siz.size x) := Nat.mul_le_mul_left _ (by omega)
  rw [← h.eq, Nat.add_mul]
  omega⟩
theorem cntL_le {α : Type} [Siz α] [Mk α] {c : Nat} [hc : CntB α c] (xs : List α) : cntL xs ≤ c * Siz.size xs := by
  rw [siz_list]
  induction xs with
  | nil => simp [cntL]
  | cons x xs ih =>
    have h1 := hc.le x
    simp only [cntL, sumL, List.length_cons]
    have e : c * (xs.length + 1 + (Siz.size x + sumL xs)) = c * (1 + Siz.size x) + c * (xs.length + sumL xs) := by rw [← Nat.mul_add]; congr 1; omega
    omega
instance {α : Type} [Siz α] [Mk α] {c : Nat} [hc : CntB α c] : CntB (List α) c := ⟨fun xs => Nat.le_trans (cntL_le xs) (Nat.mul_le_mul_left _ (by omega))⟩

/-! ### Small readings -/
class ToN (n : Int) (k : outParam Nat) : Prop where
  eq : n.toNat = k
instance (priority := 100) {n : Int} : ToN n n.toNat := ⟨rfl⟩
instance {k : Nat} : ToN (k : Int) k := ⟨Int.toNat_natCast k⟩
instance {k : Nat} : ToN ((k : Int) + 1) (k + 1) := ⟨by omega⟩
instance {k : Nat} : ToN ((k : Int) + 2) (k + 2) := ⟨by omega⟩
instance {k j : Nat} : ToN ((k : Int) + (j : Int)) (k + j) := ⟨by omega⟩
instance {k : Nat} : ToN ((k : Int) + 1 - 1) k := ⟨by omega⟩
instance {k : Nat} : ToN ((k : Int) - 1) (k - 1) := ⟨by omega⟩
instance : ToN 0 0 := ⟨rfl⟩
instance : ToN 1 1 := ⟨rfl⟩
instance : ToN 2 2 := ⟨rfl⟩
instance : ToN 3 3 := ⟨rfl⟩
instance : ToN 4 4 := ⟨rfl⟩
instance : ToN 5 5 := ⟨rfl⟩
instance : ToN 6 6 := ⟨rfl⟩
instance : ToN 7 7 := ⟨rfl⟩
instance : ToN 8 8 := ⟨rfl⟩
instance : ToN 9 9 := ⟨rfl⟩
instance : ToN 10 10 := ⟨rfl⟩
instance : ToN 11 11 := ⟨rfl⟩
instance : ToN 12 12 := ⟨rfl⟩
instance : ToN 13 13 := ⟨rfl⟩
instance : ToN 14 14 := ⟨rfl⟩
instance : ToN 15 15 := ⟨rfl⟩
instance : ToN 16 16 := ⟨rfl⟩
instance : ToN 17 17 := ⟨rfl⟩
instance : ToN 18 18 := ⟨rfl⟩
instance : ToN 19 19 := ⟨rfl⟩
instance : ToN 20 20 := ⟨rfl⟩
instance : ToN 21 21 := ⟨rfl⟩
instance : ToN 22 22 := ⟨rfl⟩
instance : ToN 23 23 := ⟨rfl⟩
instance : ToN 24 24 := ⟨rfl⟩
instance : ToN 48 48 := ⟨rfl⟩
instance : ToN 60 60 := ⟨rfl⟩

/-- A truth value, read: when it is true. -/
class BoolP (b : Bool) (p : outParam Prop) : Prop where
  iff : b = true ↔ p
/-- .. when it is not. -/
class BoolN (b : Bool) (p : outParam Prop) : Prop where
  iff : b = false ↔ p
instance (priority := 10) {b : Bool} : BoolP b (b = true) := ⟨Iff.rfl⟩
instance (priority := 10) {b : Bool} : BoolN b (b = false) := ⟨Iff.rfl⟩
instance (priority := 100) {p : Prop} [Decidable p] : BoolP (decide p) p := ⟨decide_eq_true_iff⟩
instance (priority := 100) {p : Prop} [Decidable p] : BoolN (decide p) (¬ p) := ⟨decide_eq_false_iff_not⟩
instance {p : Prop} [Decidable p] [Decidable (¬ p)] : BoolN (decide (¬ p)) p := ⟨by rw [decide_eq_false_iff_not, Decidable.not_not]⟩
instance {α : Type} {a b : α} [Decidable (a ≠ b)] : BoolP (decide (a ≠ b)) (¬ a = b) := ⟨decide_eq_true_iff⟩
instance {α : Type} {a b : α} [Decidable (a ≠ b)] : BoolN (decide (a ≠ b)) (a = b) := ⟨by rw [decide_eq_false_iff_not]; exact Classical.not_not⟩
instance {a b : Int} : BoolN (decide (a < b)) (b ≤ a) := ⟨by rw [decide_eq_false_iff_not, Int.not_lt]⟩
instance {a b : Int} : BoolN (decide (a ≤ b)) (b < a) := ⟨by rw [decide_eq_false_iff_not, Int.not_le]⟩
instance {a b : Bool} : BoolP (a == b) (a = b) := ⟨beq_iff_eq⟩
instance {a b : Bool} : BoolN (a == b) (¬ a = b) := ⟨by rw [beq_eq_false_iff_ne]⟩
instance {b : Bool} {p : Prop} [h : BoolN b p] : BoolP (!b) p := ⟨by rw [← h.iff]; simp⟩
instance {b : Bool} {p : Prop} [h : BoolP b p] : BoolN (!b) p := ⟨by rw [← h.iff]; simp⟩

instance {a b : Bool} {p q : Prop} [h : BoolP a p] [h' : BoolP b q] : BoolP (a && b) (p ∧ q) := ⟨by rw [Bool.and_eq_true, h.iff, h'.iff]⟩
instance {a b : Bool} {p q : Prop} [h : BoolP a p] [h' : BoolP b q] : BoolN (a && b) (¬ (p ∧ q)) := ⟨by rw [← h.iff, ← h'.iff, ← Bool.and_eq_true]; simp⟩

/-! ### Steps -/
class Red (G : Prop) (G' : outParam Prop) : Prop where
  run : G' → G
theorem red {G G' : Prop} [h : Red G G'] (g : G') : G := h.run g
class RedS (G : Prop) (S : outParam Prop) (G' : outParam Prop) : Prop where
  run : S → G' → G
theorem reds {G S G' : Prop} [h : RedS G S G'] (g : G') (s : S := by first | exact True.intro | omega | assumption | ((repeat' apply And.intro) <;> first | assumption | omega) | (simp only [true_and, and_true, List.length_append, List.length_cons, List.length_nil, List.length_replicate, List.length_set, List.length_drop, List.length_take]; omega)) : G := h.run s g
class RedV (G : Prop) (S : outParam Prop) (G' : outParam (Value → Prop)) : Prop where
  run : S → (∀ v, G' v) → G
theorem redv {G S : Prop} {G' : Value → Prop} [h : RedV G S G'] (g : ∀ v, G' v) (s : S := by first | exact True.intro | omega | assumption | ((repeat' apply And.intro) <;> first | assumption | omega) | (simp only [true_and, and_true, List.length_append, List.length_cons, List.length_nil, List.length_replicate, List.length_set, List.length_drop, List.length_take]; omega)) : G := h.run s g
class RedN (G : Prop) (G' : outParam (Nat → Prop)) : Prop where
  run : (∀ v, G' v) → G
theorem redn {G : Prop} {G' : Nat → Prop} [h : RedN G G'] (g : ∀ v, G' v) : G := h.run g

class RedF (G : Prop) (S F : outParam Prop) (G' : outParam Prop) : Prop where
  run : S → (F → G') → G
theorem redf {G S F G' : Prop} [h : RedF G S F G'] (g : F → G') (s : S := by first | exact True.intro | omega | assumption | ((repeat' apply And.intro) <;> first | assumption | omega) | (simp only [true_and, and_true, List.length_append, List.length_cons, List.length_nil, List.length_replicate, List.length_set, List.length_drop, List.length_take]; omega)) : G := h.run s g
class RedC (G : Prop) (S : outParam Prop) (ρ : outParam Type) (G' : outParam (ρ → Prop)) : Prop where
  run : S → (∀ p, G' p) → G
theorem redc {G S : Prop} {ρ : Type} {G' : ρ → Prop} [h : RedC G S ρ G'] (g : ∀ p, G' p) (s : S := by first | exact True.intro | omega | assumption | ((repeat' apply And.intro) <;> first | assumption | omega) | (simp only [true_and, and_true, List.length_append, List.length_cons, List.length_nil, List.length_replicate, List.length_set, List.length_drop, List.length_take]; omega)) : G := h.run s g
class RedI (G : Prop) (p q : outParam Prop) (G1 G2 : outParam Prop) : Prop where
  run : (p → G1) → (q → G2) → G
theorem redi {G p q G1 G2 : Prop} [h : RedI G p q G1 G2] (g1 : p → G1) (g2 : q → G2) : G := h.run g1 g2
class RedQ (G : Prop) (F F' : outParam Prop) (G1 G2 : outParam Prop) : Prop where
  run : (F → G1) → (F' → G2) → G
theorem redq {G F F' G1 G2 : Prop} [h : RedQ G F F' G1 G2] (g1 : F → G1) (g2 : F' → G2) : G := h.run g1 g2
class RedD (G : Prop) (S : outParam Prop) (α : outParam Type) (iα : outParam (Rep α)) (un : outParam (Un α)) (x : outParam α) (Γ : outParam (List Atom)) (G' : outParam (List Value → List Atom → Prop)) : Prop where
  run : S → (∀ (p : un.Pr) (cs : List Value) (as : List Atom), un.cells p x = cs → un.atoms p x ++ Γ = as → un.fact x → G' cs as) → G
theorem redd {G S : Prop} {α : Type} {iα : Rep α} {un : Un α} {x : α} {Γ : List Atom} {G' : List Value → List Atom → Prop} [h : RedD G S α iα un x Γ G']
    (g : ∀ (p : un.Pr) (cs : List Value) (as : List Atom), un.cells p x = cs → un.atoms p x ++ Γ = as → un.fact x → G' cs as) (s : S := by first | exact True.intro | omega | assumption | ((repeat' apply And.intro) <;> first | assumption | omega) | (simp only [true_and, and_true, List.length_append, List.length_cons, List.length_nil, List.length_replicate, List.length_set, List.length_drop, List.length_take]; omega)) : G := h.run s g

/-- An operation that only computes, under a condition. -/
class PuS (P : Program) (l : List Value) (Γ : List Atom) (op : Op) (ty : TypeId) (v : outParam Value) (S : outParam Prop) : Prop where
  run : S → ∀ w0, Pu P w0 l Γ op ty v
/-- What function f does, under a condition. -/
class CtrC (P : Program) (f : FuncId) (vs : List Value) (Γ : List Atom) (S : outParam Prop) (ρ : outParam Type) (r : outParam (ρ → Value)) (Γ' : outParam (ρ → List Atom)) : Prop where
  run : S → ∀ w0, CJ P f vs w0 Γ r Γ'
/-- How these cells come to be owned, under a condition. -/
class OwnC (α : Type) [Rep α] (Γ : List Atom) (c : List Value) (x : outParam α) (Δ : outParam (List Atom)) (S : outParam Prop) : Prop where
  run : S → Own Γ c x Δ
class OwnLC (α : Type) [Rep α] (Γ : List Atom) (c : List (List Value)) (x : outParam (List α)) (Δ : outParam (List Atom)) (S : outParam Prop) : Prop where
  run : S → OwnL Γ c x Δ

section inst
variable {P : Program} {ops : Array Oper} {Q : Exit → Act → World → Prop} {w0 : World} {rest : List Oper} {l l' : List Value} {Γ Γb Δ Ε : List Atom} {ty : TypeId} {v : Value} {pos : String} {after : Array Edge} {d : Nat} {fuel : Nat} {bl bl' : List Bool} {op : Op} {x y : Code} {next : Act → World → Prop} {id : Nat} {lt : List Nat}

/-! owned -/
instance {n : Int} : OwnC Int Γ [.int .i64 n] n Γ (-9223372036854775808 ≤ n ∧ n ≤ 9223372036854775807) := ⟨fun h => own_int h⟩
instance {b : Bool} : OwnC Bool Γ [.bool b] b Γ True := ⟨fun _ => own_bool⟩
instance {s : ByteArray} : OwnC ByteArray Γ [.string s] s Γ (s.size ≤ 9223372036854775807) := ⟨fun h => own_str h⟩
instance {α : Type} [Rep α] : OwnC (List α) Γ [.slice none 0 0] [] Γ True := ⟨fun _ => own_nil⟩
instance (priority := 500) {α : Type} {iα : Rep α} {c : Value} {xs : List α} [h : PullOw (List α) repList Γ [c] xs Δ] : OwnC (List α) Γ [c] xs Δ True := ⟨fun _ => own_pull⟩
instance {α : Type} {iα : Rep α} {c : List Value} {xs : α} [h : HasIm α iα Γ c xs] : OwnC (Sh α) Γ c (Sh.mk xs) Γ True := ⟨fun _ => own_sh⟩
class AndC (S T : Prop) (U : outParam Prop) : Prop where
  run : U → S ∧ T
instance (priority := 10) {S T : Prop} : AndC S T (S ∧ T) := ⟨fun h => h⟩
instance {T : Prop} : AndC True T T := ⟨fun h => ⟨trivial, h⟩⟩
instance {S : Prop} : AndC S True S := ⟨fun h => ⟨h, trivial⟩⟩
/-- Types of one cell. -/
class One (α : Type) : Prop where
  t : True
instance : One Int := ⟨trivial⟩
instance : One Bool := ⟨trivial⟩
instance : One ByteArray := ⟨trivial⟩
instance {α : Type} : One (List α) := ⟨trivial⟩
instance {α β : Type} [Rep α] [Rep β] [One α] {c : Value} {d : List Value} {x : α} {y : β} {S T U : Prop} [h : OwnC α Γ [c] x Δ S] [h' : OwnC β Δ d y Ε T] [hu : AndC S T U] : OwnC (α × β) Γ (c :: d) (x, y) Ε U :=
  ⟨fun u => own_cons (h.run (hu.run u).1) (h'.run (hu.run u).2)⟩
instance {α : Type} [Rep α] : OwnLC α Γ [] [] Γ True := ⟨fun _ => OwnL.nil⟩
instance {α : Type} [Rep α] {c : List Value} {cs : List (List Value)} {x : α} {xs : List α} {S T U : Prop} [h : OwnC α Γ c x Δ S] [h' : OwnLC α Δ cs xs Ε T] [hu : AndC S T U] : OwnLC α Γ (c :: cs) (x :: xs) Ε U :=
  ⟨fun u => .cons (h.run (hu.run u).1) (h'.run (hu.run u).2)⟩

/-- A late one has come up. -/
class IsLate (lt : List Nat) (bl : List Bool) : Prop where
  no : ¬ noLate lt bl.toArray
instance {i : Nat} {lt : List Nat} {bl : List Bool} [h : Ge bl i true] : IsLate (i :: lt) bl := ⟨fun hn => by
  have := hn i (by simp)
  have h2 := h.eq
  obtain ⟨hlt, h3⟩ := List.getElem?_eq_some_iff.1 h2
  simp [hlt, h3] at this⟩
instance (priority := 500) {i : Nat} {lt : List Nat} {bl : List Bool} [h : IsLate lt bl] : IsLate (i :: lt) bl := ⟨fun hn => h.no (fun j hj => hn j (by simp [hj]))⟩
/-! steps without a condition -/
instance [hy : PuC P l Γ op ty v] [hd : Se l d v l'] : Red (WL P ops Q w0 (⟨some d, op, ty, pos, after, none⟩ :: rest) l Γ) (WL P ops Q w0 rest l' Γ) := ⟨fun h => wl_auto h⟩
instance (priority := 2000) [hd : Se l d v l'] : Red (WL P ops Q w0 rest (l.set d v) Γ) (WL P ops Q w0 rest l' Γ) := ⟨fun h => wl_set h⟩
instance (priority := 2000) [hd : Se l d v l'] : Red (WA P ops Q w0 lt Γb fuel bl (l.set d v) Γ) (WA P ops Q w0 lt Γb fuel bl l' Γ) := ⟨fun h => wa_set h⟩
instance : Red (WL P ops Q w0 [] l Γ) (WQ Q w0 .normal l Γ) := ⟨fun h => wl_nil h⟩
instance : Red (WC P Q w0 (.seq x y) l Γ) (WC P (Exit.then (y.wp P Q) Q) w0 x l Γ) := ⟨fun h => wc_seq h⟩
instance : Red (WC P Q w0 .skip l Γ) (WQ Q w0 .normal l Γ) := ⟨fun h => wc_skip h⟩
instance : Red (WC P Q w0 .ret l Γ) (WQ Q w0 .ret l Γ) := ⟨fun h => wc_ret h⟩
instance : Red (WC P Q w0 (.exit id) l Γ) (WQ Q w0 (.exit id) l Γ) := ⟨fun h => wc_exit h⟩
instance : Red (WC P Q w0 (.block id x) l Γ) (WC P (Exit.inBlock id Q) w0 x l Γ) := ⟨fun h => wc_block h⟩
instance {ol : List Oper} : Red (WC P Q w0 (.region id ol.toArray false) l Γ) (WL P ol.toArray Q w0 ol l Γ) := ⟨fun h => wc_region h⟩
instance {c : Operand} [hc : Ev l c (.bool true)] : Red (WC P Q w0 (.cond c x y) l Γ) (WC P Q w0 x l Γ) := ⟨fun h => wc_cond_t h⟩
instance {c : Operand} [hc : Ev l c (.bool false)] : Red (WC P Q w0 (.cond c x y) l Γ) (WC P Q w0 y l Γ) := ⟨fun h => wc_cond_f h⟩
instance : Red (WQ (Exit.then (y.wp P Q) Q) w0 .normal l Γ) (WC P Q w0 y l Γ) := ⟨fun h => wq_then_n h⟩
instance : Red (WQ (Exit.then next Q) w0 .ret l Γ) (WQ Q w0 .ret l Γ) := ⟨fun h => wq_then_r h⟩
instance : Red (WQ (Exit.then next Q) w0 (.exit id) l Γ) (WQ Q w0 (.exit id) l Γ) := ⟨fun h => wq_then_x h⟩
instance : Red (WQ (Exit.inBlock id Q) w0 .normal l Γ) (WQ Q w0 .normal l Γ) := ⟨fun h => wq_blk_n h⟩
instance : Red (WQ (Exit.inBlock id Q) w0 .ret l Γ) (WQ Q w0 .ret l Γ) := ⟨fun h => wq_blk_r h⟩
instance : Red (WQ (Exit.inBlock id Q) w0 (.exit id) l Γ) (WQ Q w0 .normal l Γ) := ⟨fun h => wq_blk_s h⟩
instance (priority := 1100) [h : IsLate lt bl] : Red (WQ (Exit.then (AnyNext P ops Q w0 lt Γb fuel bl) Q) w0 .normal l Γ) (WA P ops Q w0 lt Γb fuel bl l Γ) := ⟨fun h' => wq_any_late h.no h'⟩
instance [h : SubE Γ Γb] : Red (WQ (Exit.then (AnyNext P ops Q w0 lt Γb fuel bl) Q) w0 .normal l Γ) (WA P ops Q w0 lt Γb fuel bl l Γ) := ⟨fun h => wq_any ent_e h⟩
instance {ol : List Oper} {j dj : Nat} {oj : Oper} {b : Bool} {dst : Option Tmp} [hj : Ge ol j oj] [hdj : Dst oj dj] [hb : Ge l dj v] [he : EqB v b] :
    Red (WL P ol.toArray Q w0 (⟨dst, op, ty, pos, after, some (j, b)⟩ :: rest) l Γ) (WL P ol.toArray Q w0 (⟨dst, op, ty, pos, after, none⟩ :: rest) l Γ) := ⟨fun h => wl_on h⟩
instance {ol : List Oper} {j dj : Nat} {oj : Oper} {b : Bool} {d : Nat} [hj : Ge ol j oj] [hdj : Dst oj dj] [hb : Ge l dj v] [he : NeB v b] [hd : Se l d undef l'] :
    Red (WL P ol.toArray Q w0 (⟨some d, op, ty, pos, after, some (j, b)⟩ :: rest) l Γ) (WL P ol.toArray Q w0 rest l' Γ) := ⟨fun h => wl_off h⟩
instance {T k : Nat} {x y : Operand} {b off : Nat} {cs vc cs' : List Value} {n : Nat} [hx : Ev l x (.pointer (some ⟨b, off, none⟩))] [hy : Ev l y v] [hc : Cs Γ v vc] [hT : Sz P T k] [hb : PullBk Γ b cs Δ] [hl : LenIs vc n] [hk : NatEq n k] [hsp : Sp cs off vc cs'] :
    Red (WL P ops Q w0 (⟨none, .store T x y, ty, pos, after, none⟩ :: rest) l Γ) (WL P ops Q w0 rest l (.bk b cs' :: Δ)) := ⟨fun h => wl_store (hl.eq.trans hk.eq) h⟩
instance {α : Type} {iα : Rep α} {T k kk m n : Nat} {x y : Operand} {sv : Value} {xs : List α} {i : Nat} {ec vc ec' : List Value} [hx : Ev l x (.pointer (some ((elemA sv (i : Int) k).add m)))] [hy : Ev l y v] [hc : Cs Γ v vc] [hT : Sz P T kk]
    [hb : PullOw (Hole α) repHole Γ [sv] (Hole.mk xs i ec) Δ] [hsz : SzIs α k] [hsp : Sp ec m vc ec'] [hl : LenIs vc n] [hk : NatEq n kk] :
    Red (WL P ops Q w0 (⟨none, .store T x y, ty, pos, after, none⟩ :: rest) l Γ) (WL P ops Q w0 rest l (.ow [sv] (Hole.mk xs i ec') :: Δ)) := ⟨fun h => wl_store_hole (hl.eq.trans hk.eq) h⟩
instance (priority := 1100) {T k by_ : Nat} {x y : Operand} {sv : Value} {i : Nat} {α : Type} {iα : Rep α} {xs : List α} {ec : List Value} {kk : IntKind} [h : Ev l x sv] [hn : Ev l y (.int kk (i : Int))] [hT : Sl P T k by_] [hr : HasRd (Hole α) repHole Γ [sv] (Hole.mk xs i ec)]
    [hd : Se l d (.pointer (some (elemA sv (i : Int) k))) l'] : Red (WL P ops Q w0 (⟨some d, .indexAddr T x y, ty, pos, after, none⟩ :: rest) l Γ) (WL P ops Q w0 rest l' Γ) := ⟨fun h => wl_index_hole h⟩
instance {T k n : Nat} {x : Operand} {p : Addr} {cs : List Value} [h : Ev l x (.pointer (some p))] [hT : Ag P T k] [hp : HasPt Γ p cs] [hl : LenIs cs n] [hk : NatEq n k] : PuC P l Γ (.load T x) ty (.agg cs.toArray) := ⟨fun _ => pu_load_pt_agg (hl.eq.trans hk.eq)⟩

theorem elem_n {sv : Value} {n : Int} {m k : Nat} (h : n.toNat = m) : elemA sv n k = elemA sv (m : Int) k := by
  subst h
  unfold elemA
  split
  · simp only [Int.toNat_natCast]
  · rfl
/-! .. with one -/
instance (priority := 10) [h : PuC P l Γ op ty v] : PuS P l Γ op ty v True := ⟨fun _ => h.run⟩
instance {S : Prop} [hy : PuS P l Γ op ty v S] [hd : Se l d v l'] : RedS (WL P ops Q w0 (⟨some d, op, ty, pos, after, none⟩ :: rest) l Γ) S (WL P ops Q w0 rest l' Γ) := ⟨fun s h => wl_pure (hy.run s w0) h⟩
section arith
variable {T U : TypeId} {x y : Operand} {a b : Int}
instance [hx : Ev l x (.int .i64 a)] [hy : Ev l y (.int .i64 b)] : PuS P l Γ (.binOp .add T x y U) ty (.int .i64 (a + b)) (-9223372036854775808 ≤ a + b ∧ a + b ≤ 9223372036854775807) := ⟨fun h _ => pu_add h⟩
instance [hx : Ev l x (.int .i64 a)] [hy : Ev l y (.int .i64 b)] : PuS P l Γ (.binOp .sub T x y U) ty (.int .i64 (a - b)) (-9223372036854775808 ≤ a - b ∧ a - b ≤ 9223372036854775807) := ⟨fun h _ => pu_sub h⟩
instance [hx : Ev l x (.int .i64 a)] [hy : Ev l y (.int .i64 b)] : PuS P l Γ (.binOp .mul T x y U) ty (.int .i64 (a * b)) (-9223372036854775808 ≤ a * b ∧ a * b ≤ 9223372036854775807) := ⟨fun h _ => pu_mul h⟩
instance {k : IntKind} [hx : Ev l x (.int k a)] [hy : Ev l y (.int k b)] : PuS P l Γ (.binOp .rem T x y U) ty (.int k (a.tmod b)) (b ≠ 0) := ⟨fun h _ => pu_rem h⟩
instance [hx : Ev l x (.int .i64 a)] [hy : Ev l y (.int .i64 b)] : PuS P l Γ (.binOp .quo T x y U) ty (.int .i64 (a.tdiv b)) (b ≠ 0 ∧ -9223372036854775808 ≤ a.tdiv b ∧ a.tdiv b ≤ 9223372036854775807) := ⟨fun h _ => pu_quo h.1 h.2⟩
instance {S T : TypeId} [hx : Ev l x (.int .i64 a)] [hS : I64T P S] [hT : I64T P T] : PuS P l Γ (.convert S T x) ty (.int .i64 a) (-9223372036854775808 ≤ a ∧ a ≤ 9223372036854775807) := ⟨fun h _ => pu_conv h⟩
instance [h : Ev l x (.int .i64 a)] : PuS P l Γ (.unOp .neg T x) ty (.int .i64 (-a)) (-9223372036854775808 < a ∧ a ≤ 9223372036854775807) := ⟨fun h _ => pu_un_neg h⟩
end arith
section mem
variable {T k by_ : Nat} {x y : Operand} {sv : Value} {n : Int} {α : Type} {iα : Rep α} {xs : List α} {kk : IntKind} {cs : List Value} {m : Nat}
instance [fl : Flat α] [h : Ev l x sv] [hn : Ev l y (.int kk n)] [hm : ToN n m] [hT : Sl P T k by_] [hr : HasRd (List α) repList Γ [sv] xs] : PuS P l Γ (.indexAddr T x y) ty (.pointer (some (elemA sv (m : Int) k))) (0 ≤ n ∧ n < xs.length) := ⟨fun h _ => elem_n (sv := sv) (k := k) hm.eq ▸ pu_index h⟩
instance (priority := 900) [h : Ev l x sv] [hn : Ev l y (.int kk n)] [hm : ToN n m] [hT : Sl P T k by_] [hp : HasPt Γ (elemA sv (m : Int) k) cs] [hr : HasRd (List α) repList Γ [sv] xs] : PuS P l Γ (.indexAddr T x y) ty (.pointer (some (elemA sv (m : Int) k))) (0 ≤ n ∧ n < xs.length) := ⟨fun h _ => elem_n (sv := sv) (k := k) hm.eq ▸ pu_index h⟩
instance (priority := 800) [h : Ev l x sv] [hn : Ev l y (.int kk n)] [hm : ToN n m] [hT : Sl P T k by_] [hp : PullOw (List α) repList Γ [sv] xs Δ] [hr : HasRd (List α) repList Γ [sv] xs] : PuS P l Γ (.indexAddr T x y) ty (.pointer (some (elemA sv (m : Int) k))) (0 ≤ n ∧ n < xs.length) := ⟨fun h _ => elem_n (sv := sv) (k := k) hm.eq ▸ pu_index h⟩
instance {xs : List Int} [h : Ev l x (.pointer (some (elemA sv n 1)))] [hm : ToN n m] [hT : Sc P T] [hr : HasRd (List Int) repList Γ [sv] xs] : PuS P l Γ (.load T x) ty (.int .i64 (xs.getD m 0)) (0 ≤ n ∧ n < xs.length) := ⟨fun h _ => hm.eq ▸ pu_load_int h⟩
instance {xs : List Bool} [h : Ev l x (.pointer (some (elemA sv n 1)))] [hm : ToN n m] [hT : Sc P T] [hr : HasRd (List Bool) repList Γ [sv] xs] : PuS P l Γ (.load T x) ty (.bool (xs.getD m false)) (0 ≤ n ∧ n < xs.length) := ⟨fun h _ => hm.eq ▸ pu_load_bool h⟩
instance {xs : List ByteArray} [h : Ev l x (.pointer (some (elemA sv n 1)))] [hm : ToN n m] [hT : Sc P T] [hr : HasRd (List ByteArray) repList Γ [sv] xs] : PuS P l Γ (.load T x) ty (.string (xs.getD m ByteArray.empty)) (0 ≤ n ∧ n < xs.length) := ⟨fun h _ => hm.eq ▸ pu_load_str h⟩
/-- A number read from a list fits. -/
instance (priority := 1100) {xs : List Int} [h : Ev l x (.pointer (some (elemA sv n 1)))] [hm : ToN n m] [hT : Sc P T] [hr : HasRd (List Int) repList Γ [sv] xs] [hd : Se l d (.int .i64 (xs.getD m 0)) l'] :
    RedF (WL P ops Q w0 (⟨some d, .load T x, ty, pos, after, none⟩ :: rest) l Γ) (0 ≤ n ∧ n < xs.length) (-9223372036854775808 ≤ xs.getD m 0 ∧ xs.getD m 0 ≤ 9223372036854775807) (WL P ops Q w0 rest l' Γ) :=
  ⟨fun s h => by have e := hm.eq; subst e; exact wl_load_int_f s h⟩
instance {vc : List Value} {u : α} {kk : Nat} {S U : Prop} [hx : Ev l x (.pointer (some (elemA sv n k)))] [hy : Ev l y v] [hm : ToN n m] [hc : Cs Γ v vc] [hT : Sz P T kk] [h1 : PullOw (List α) repList Γ [sv] xs Δ]
    [hk : SzIs α k] [hkk : SzIs α kk] [ho : OwnC α Δ vc u Ε S] [hu : AndC S (0 ≤ n ∧ n < xs.length) U] : RedS (WL P ops Q w0 (⟨none, .store T x y, ty, pos, after, none⟩ :: rest) l Γ) U (WL P ops Q w0 rest l (.ow [sv] (xs.set m u) :: Ε)) :=
  ⟨fun s h => wl_store_elem_a (α := α) (iα := iα) (k := k) (kk := kk) (u := u) (hk := hk) (hkk := hkk) (hT := hT) (h1 := h1) (ho.run (hu.run s).1) (hu.run s).2 (hm.eq ▸ h)⟩
/-! .. and a new slice -/
instance {ky : IntKind} {m' : Int} {zs : List Value} {z : α} [ho : Op_ P T (List α) repList] [hx : Ev l x (.int kk n)] [hy : Ev l y (.int ky m')] [hm : ToN n m] [hT : Sl P T k by_] [hzs : SlZ P T zs] [hz : Zo α zs z] :
    RedV (WL P ops Q w0 (⟨some d, .makeSlice T x y, ty, pos, after, none⟩ :: rest) l Γ) ((0 ≤ n ∧ n ≤ m') ∧ m' * by_ ≤ 140737488355328) (fun sv => WL P ops Q w0 rest (l.set d sv) (.ow [sv] (List.replicate m z) :: Γ)) := ⟨fun s h => wl_make_a s.1 s.2 (hm.eq ▸ h)⟩
class AppL (xs ys : List α) (zs : outParam (List α)) : Prop where
  eq : xs ++ ys = zs
instance {xs : List α} : AppL [] xs xs := ⟨rfl⟩
instance (priority := 500) {xs ys : List α} : AppL xs ys (xs ++ ys) := ⟨rfl⟩
instance (priority := 1100) {ov tv : Value} {xs ys zs : List α} [hx : Ev l x ov] [hy : Ev l y tv] [hT : Sl P T k by_] [h1 : PullOw (List α) repList Γ [ov] xs Δ] [h2 : HasRd (List α) repList Δ [tv] ys] [hcp : Cp α] [hk : SzIs α k] [hz : AppL xs ys zs] :
    RedV (WL P ops Q w0 (⟨some d, .call { callee := .builtin .append, args := #[x, y], argTypes := #[T, T] }, ty, pos, after, none⟩ :: rest) l Γ) ((xs.length + ys.length) * by_ ≤ 140737488355328) (fun sv => WL P ops Q w0 rest (l.set d sv) (.ow [sv] zs :: Δ)) := ⟨fun s h => wl_append_cp_a s (hz.eq ▸ h)⟩
instance {ov tv : Value} {xs ys zs : List α} [hx : Ev l x ov] [hy : Ev l y tv] [hT : Sl P T k by_] [h1 : PullOw (List α) repList Γ [ov] xs Δ] [h2 : PullOw (List α) repList Δ [tv] ys Ε] [hk : SzIs α k] [hz : AppL xs ys zs] :
    RedV (WL P ops Q w0 (⟨some d, .call { callee := .builtin .append, args := #[x, y], argTypes := #[T, T] }, ty, pos, after, none⟩ :: rest) l Γ) ((xs.length + ys.length) * by_ ≤ 140737488355328) (fun sv => WL P ops Q w0 rest (l.set d sv) (.ow [sv] zs :: Ε)) := ⟨fun s h => wl_append_a s (hz.eq ▸ h)⟩
instance (priority := 900) {tv : Value} {ys : List α} [hx : Ev l x (.slice none 0 0)] [hO : Op_ P T (List α) repList] [hy : Ev l y tv] [hT : Sl P T k by_] [h2 : PullOw (List α) repList Γ [tv] ys Ε] [hk : SzIs α k] :
    RedV (WL P ops Q w0 (⟨some d, .call { callee := .builtin .append, args := #[x, y], argTypes := #[T, T] }, ty, pos, after, none⟩ :: rest) l Γ) (ys.length * by_ ≤ 140737488355328) (fun sv => WL P ops Q w0 rest (l.set d sv) (.ow [sv] ys :: Ε)) := ⟨fun s h => wl_append_nil s h⟩
instance {N : Nat} {ps : List (Nat × Operand)} {groups : List (List Value)} {xs : List α} {S : Prop} {len : Nat} [hO : Op_ P T (List α) repList] [hT : Sl P T k by_] [hp : PartsL Γ l k 0 ps groups] [hk : SzIs α k] [ho : OwnLC α Γ groups xs Δ S] [hl : LenIs xs len] [hn : NatEq len N] :
    RedV (WL P ops Q w0 (⟨some d, .buildSlice T N ps.toArray, ty, pos, after, none⟩ :: rest) l Γ) (S ∧ N * k ≤ 16777216) (fun sv => WL P ops Q w0 rest (l.set d sv) (.ow [sv] xs :: Δ)) := ⟨fun s h => wl_buildSlice_a (hk := hk) (hT := hT) (hO := hO) (ho.run s.1) (hn.eq ▸ hl.eq.symm) s.2 h⟩
instance [hx : Ev l x sv] [hy : Ev l y (.int kk n)] [hm : ToN n m] [hT : Sl P T k by_] [hr : HasIm (List α) repList Γ [sv] xs] [hk : SzIs α k] :
    RedV (WL P ops Q w0 (⟨some d, .slice T x (some y) none none, ty, pos, after, none⟩ :: rest) l Γ) (0 ≤ n ∧ n ≤ xs.length) (fun sv' => WL P ops Q w0 rest (l.set d sv') (.rd [sv'] (xs.drop m) :: Γ)) := ⟨fun s h => wl_slice_lo_a s (hm.eq ▸ h)⟩
instance [hx : Ev l x sv] [hy : Ev l y (.int kk n)] [hm : ToN n m] [hT : Sl P T k by_] [hr : HasIm (List α) repList Γ [sv] xs] [hk : SzIs α k] :
    RedV (WL P ops Q w0 (⟨some d, .slice T x none (some y) none, ty, pos, after, none⟩ :: rest) l Γ) (0 ≤ n ∧ n ≤ xs.length) (fun sv' => WL P ops Q w0 rest (l.set d sv') (.rd [sv'] (xs.take m) :: Γ)) := ⟨fun s h => wl_slice_hi_a s (hm.eq ▸ h)⟩
instance {z : Operand} {kk' : IntKind} {n' : Int} {m' : Nat} [hx : Ev l x sv] [hy : Ev l y (.int kk n)] [hz : Ev l z (.int kk' n')] [hm : ToN n m] [hm' : ToN n' m'] [hT : Sl P T k by_] [hr : HasIm (List α) repList Γ [sv] xs] [hk : SzIs α k] :
    RedV (WL P ops Q w0 (⟨some d, .slice T x (some y) (some z) none, ty, pos, after, none⟩ :: rest) l Γ) (0 ≤ n ∧ n ≤ n' ∧ n' ≤ xs.length) (fun sv' => WL P ops Q w0 rest (l.set d sv') (.rd [sv'] ((xs.take m').drop m) :: Γ)) := ⟨fun s h => wl_slice_lh_a s (hm.eq ▸ hm'.eq ▸ h)⟩
end mem
/-! .. and a new block -/
instance {T : TypeId} {zs : List Value} [hz : Zr P T zs] : RedN (WL P ops Q w0 (⟨some d, .alloc T, ty, pos, after, none⟩ :: rest) l Γ) (fun b => WL P ops Q w0 rest (l.set d (.pointer (some ⟨b, 0, none⟩))) (.bk b zs :: Γ)) := ⟨fun h => wl_alloc h⟩
instance {T : TypeId} {x : Operand} {cs : List Value} [hx : Ev l x v] [hc : Cs Γ v cs] : RedN (WL P ops Q w0 (⟨some d, .box T x, ty, pos, after, none⟩ :: rest) l Γ) (fun b => WL P ops Q w0 rest (l.set d (.pointer (some ⟨b, 0, none⟩))) (.bk b cs :: Γ)) := ⟨fun h => wl_box h⟩

/-! calls -/
theorem wl_ctr {f : FuncId} {xs : List Operand} {vs : List Value} {ts : Array TypeId} {S : Prop} {ρ : Type} {r : ρ → Value} {Γ' : ρ → List Atom} [hx : EvL l xs vs] [hc : CtrC P f vs Γ S ρ r Γ'] [hf : IsFn P f]
    (h : ∀ p, WL P ops Q w0 rest (l.set d (r p)) (Γ' p))
    (s : S := by first | exact True.intro | omega | assumption | ((repeat' apply And.intro) <;> first | assumption | omega) | (simp only [true_and, and_true, List.length_append, List.length_cons, List.length_nil, List.length_replicate, List.length_set, List.length_drop, List.length_take]; omega)) :
    WL P ops Q w0 (⟨some d, .call { callee := .value (.func f), args := xs.toArray, argTypes := ts }, ty, pos, after, none⟩ :: rest) l Γ := wl_call (hc.run s w0) h
theorem wl_ctr0 {f : FuncId} {xs : List Operand} {vs : List Value} {ts : Array TypeId} {S : Prop} {ρ : Type} {r : ρ → Value} {Γ' : ρ → List Atom} [hx : EvL l xs vs] [hc : CtrC P f vs Γ S ρ r Γ'] [hf : IsFn P f]
    (h : ∀ p, WL P ops Q w0 rest l (Γ' p))
    (s : S := by first | exact True.intro | omega | assumption | ((repeat' apply And.intro) <;> first | assumption | omega) | (simp only [true_and, and_true, List.length_append, List.length_cons, List.length_nil, List.length_replicate, List.length_set, List.length_drop, List.length_take]; omega)) :
    WL P ops Q w0 (⟨none, .call { callee := .value (.func f), args := xs.toArray, argTypes := ts }, ty, pos, after, none⟩ :: rest) l Γ := wl_call0 (hc.run s w0) h

/-! two ways -/
theorem wc_if {c : Operand} {b : Bool} {p q : Prop} [hc : Ev l c (.bool b)] [hp : BoolP b p] [hn : BoolN b q] (ht : p → WC P Q w0 x l Γ) (hf : q → WC P Q w0 y l Γ) : WC P Q w0 (.cond c x y) l Γ :=
  wc_cond (fun h => ht (hp.iff.1 h)) (fun h => hf (hn.iff.1 h))
theorem wl_if {ol : List Oper} {j dj : Nat} {oj : Oper} {b b' : Bool} {dst : Option Tmp} {l1 l2 : List Value} {p q : Prop} [hj : Ge ol j oj] [hdj : Dst oj dj] [hb : Ge l dj v] [he : IsB v b'] [hp : BoolP b' p] [hn : BoolN b' q] [h1 : Se l dj (.bool true) l1] [h2 : Se l dj (.bool false) l2]
    (ht : p → WL P ol.toArray Q w0 (⟨dst, op, ty, pos, after, some (j, b)⟩ :: rest) l1 Γ) (hf : q → WL P ol.toArray Q w0 (⟨dst, op, ty, pos, after, some (j, b)⟩ :: rest) l2 Γ) :
    WL P ol.toArray Q w0 (⟨dst, op, ty, pos, after, some (j, b)⟩ :: rest) l Γ := wl_split (fun h => ht (hp.iff.1 h)) (fun h => hf (hn.iff.1 h))

/-! while the order is open -/
theorem wa_p {ol : List Oper} (i : Nat) {S : Prop} [hi : Ge ol i ⟨some d, op, ty, pos, after, none⟩] [hy : PuS P l Γb op ty v S] [hd : Se l d v l'] [hb : Se bl i true bl'] (h : WA P ol.toArray Q w0 lt Γb fuel bl' l' Γ)
    (s : S := by first | exact True.intro | omega | assumption | ((repeat' apply And.intro) <;> first | assumption | omega) | (simp only [true_and, and_true, List.length_append, List.length_cons, List.length_nil, List.length_replicate, List.length_set, List.length_drop, List.length_take]; omega))
    (hck : ckTake lt ol.toArray bl i = true := by decide +kernel) (hQ : ∀ c a w v, Q (.panic c) (a.put (some d) v) w → Q (.panic c) a w := by exact fun _ _ _ _ h => h) : WA P ol.toArray Q w0 lt Γb (fuel + 1) bl l Γ :=
  wa_pure i (by simpa using hi.eq) hck hQ (hy.run s w0) h
theorem wa_p0 {ol : List Oper} (i : Nat) {S : Prop} [hi : Ge ol i ⟨some d, op, ty, pos, after, none⟩] [hy : PuS P l [] op ty v S] [hd : Se l d v l'] [hb : Se bl i true bl'] (h : WA P ol.toArray Q w0 lt Γb fuel bl' l' Γ)
    (s : S := by first | exact True.intro | omega | assumption | ((repeat' apply And.intro) <;> first | assumption | omega))
    (hck : ckTake0 lt ol.toArray bl i = true := by decide +kernel) (hQ : ∀ c a w v, Q (.panic c) (a.put (some d) v) w → Q (.panic c) a w := by exact fun _ _ _ _ h => h) : WA P ol.toArray Q w0 lt Γb (fuel + 1) bl l Γ :=
  wa_pure0 i (by simpa using hi.eq) hck hQ (hy.run s) h
theorem wa_pg {ol : List Oper} (i : Nat) {S : Prop} {j dj : Nat} {oj : Oper} {b : Bool} {vg : Value} [hi : Ge ol i ⟨some d, op, ty, pos, after, some (j, b)⟩] [hj : Ge ol j oj] [hdj : Dst oj dj] [hg : Ge l dj vg] [he : EqB vg b] [hy : PuS P l Γb op ty v S] [hd : Se l d v l'] [hb : Se bl i true bl'] (h : WA P ol.toArray Q w0 lt Γb fuel bl' l' Γ)
    (s : S := by first | exact True.intro | omega | assumption | ((repeat' apply And.intro) <;> first | assumption | omega) | (simp only [true_and, and_true, List.length_append, List.length_cons, List.length_nil, List.length_replicate, List.length_set, List.length_drop, List.length_take]; omega))
    (hck : ckTake lt ol.toArray bl i = true := by decide +kernel) (hQ : ∀ c a w v, Q (.panic c) (a.put (some d) v) w → Q (.panic c) a w := by exact fun _ _ _ _ h => h) : WA P ol.toArray Q w0 lt Γb (fuel + 1) bl l Γ := wa_pure_on i hck hQ (hy.run s w0) h
theorem wa_no {ol : List Oper} (i : Nat) {j dj : Nat} {oj : Oper} {b : Bool} {vg : Value} [hi : Ge ol i ⟨some d, op, ty, pos, after, some (j, b)⟩] [hj : Ge ol j oj] [hdj : Dst oj dj] [hg : Ge l dj vg] [he : NeB vg b] [hd : Se l d undef l'] [hb : Se bl i true bl'] (h : WA P ol.toArray Q w0 lt Γb fuel bl' l' Γ)
    (hck : ckTake lt ol.toArray bl i = true := by decide +kernel) (hQ : ∀ c a w v, Q (.panic c) (a.put (some d) v) w → Q (.panic c) a w := by exact fun _ _ _ _ h => h) : WA P ol.toArray Q w0 lt Γb (fuel + 1) bl l Γ := wa_off i hck hQ h
theorem wa_if (dj : Nat) {b' : Bool} {l1 l2 : List Value} {p q : Prop} [hb : Ge l dj (.bool b')] [hp : BoolP b' p] [hn : BoolN b' q] [h1 : Se l dj (.bool true) l1] [h2 : Se l dj (.bool false) l2] (ht : p → WA P ops Q w0 lt Γb fuel bl l1 Γ) (hf : q → WA P ops Q w0 lt Γb fuel bl l2 Γ) : WA P ops Q w0 lt Γb fuel bl l Γ :=
  wa_split dj (fun h => ht (hp.iff.1 h)) (fun h => hf (hn.iff.1 h))
theorem wa_do {ol : List Oper} (i : Nat) {o : Oper} [hi : Ge ol i o] [hb : Se bl i true bl'] (h : WL P ol.toArray (Exit.then (AnyNext P ol.toArray Q w0 lt Γb fuel bl') Q) w0 [o] l Γ) (hr : Region.ready .any ol.toArray bl.toArray = [i] := by decide +kernel) : WA P ol.toArray Q w0 lt Γb (fuel + 1) bl l Γ :=
  wa_one i hr (by simpa using hi.eq) h
theorem wa_two {ol : List Oper} (i j : Nat) {bi bj : List Bool} {oi oj : Oper} [hi : Ge ol i oi] [hj : Ge ol j oj] [hb : Se bl i true bi] [hb' : Se bl j true bj]
    (h : WL P ol.toArray (Exit.then (AnyNext P ol.toArray Q w0 lt Γb fuel bi) Q) w0 [oi] l Γ) (h' : WL P ol.toArray (Exit.then (AnyNext P ol.toArray Q w0 lt Γb fuel bj) Q) w0 [oj] l Γ) (hr : Region.ready .any ol.toArray bl.toArray = [i, j] := by decide +kernel) : WA P ol.toArray Q w0 lt Γb (fuel + 1) bl l Γ :=
  wa_two_ i j hr (by simpa using hi.eq) (by simpa using hj.eq) h h'
theorem wa_three {ol : List Oper} (i j k : Nat) {bi bj bk : List Bool} {oi oj ok : Oper} [hi : Ge ol i oi] [hj : Ge ol j oj] [hk : Ge ol k ok] [hb : Se bl i true bi] [hb' : Se bl j true bj] [hb'' : Se bl k true bk]
    (h : WL P ol.toArray (Exit.then (AnyNext P ol.toArray Q w0 lt Γb fuel bi) Q) w0 [oi] l Γ) (h' : WL P ol.toArray (Exit.then (AnyNext P ol.toArray Q w0 lt Γb fuel bj) Q) w0 [oj] l Γ) (h'' : WL P ol.toArray (Exit.then (AnyNext P ol.toArray Q w0 lt Γb fuel bk) Q) w0 [ok] l Γ) (hr : Region.ready .any ol.toArray bl.toArray = [i, j, k] := by decide +kernel) : WA P ol.toArray Q w0 lt Γb (fuel + 1) bl l Γ :=
  wa_three_ i j k hr (by simpa using hi.eq) (by simpa using hj.eq) (by simpa using hk.eq) h h' h''
theorem wa_deep {ol : List Oper} (i : Nat) {α : Type} {iα : Rep α} [inh : Inhabited α] [un : Un α] [dp : Deep_ α] {T k by_ : Nat} {x y : Operand} {sv : Value} {n : Int} {m : Nat} {kk : IntKind} {xs : List α} [hi : Ge ol i ⟨some d, .indexAddr T x y, ty, pos, after, none⟩] [hx : Ev l x sv] [hy : Ev l y (.int kk n)] [hm : ToN n m]
    [hT : Sl P T k by_] [hr : HasIm (List α) repList Γb [sv] xs] [hsub : Sub Γ Γb] [hk : SzIs α k] [hd : Se l d (.pointer (some (elemA sv (m : Int) k))) l'] [hb : Se bl i true bl']
    (h : ∀ (p : Un.Pr α) (cs : List Value) (as asb : List Atom), Un.cells p (xs.getD m default) = cs → Un.atoms p (xs.getD m default) ++ Γ = as → Un.atoms p (xs.getD m default) ++ Γb = asb → Un.fact (xs.getD m default) →
      WA P ol.toArray Q w0 lt (.pt (elemA sv (m : Int) k) cs :: asb) fuel bl' l' (.pt (elemA sv (m : Int) k) cs :: as))
    (hin : 0 ≤ n ∧ n < xs.length := by first | omega | (simp only [List.length_append, List.length_cons, List.length_nil, List.length_replicate, List.length_set, List.length_drop, List.length_take]; omega))
    (hck : ckTake lt ol.toArray bl i = true := by decide +kernel) (hQ : ∀ c a w v, Q (.panic c) (a.put (some d) v) w → Q (.panic c) a w := by exact fun _ _ _ _ h => h) : WA P ol.toArray Q w0 lt Γb (fuel + 1) bl l Γ :=
  wa_index_deep i (hd := elem_n (sv := sv) (k := k) hm.eq ▸ hd) hck hQ hin (by have e := hm.eq; subst e; rw [elem_n (sv := sv) (n := n) (k := k) rfl]; exact h)
theorem wl_deep {α : Type} {iα : Rep α} [inh : Inhabited α] [un : Un α] [dp : Deep_ α] {T k by_ : Nat} {x y : Operand} {sv : Value} {n : Int} {m : Nat} {kk : IntKind} {xs : List α} [hx : Ev l x sv] [hy : Ev l y (.int kk n)] [hm : ToN n m] [hT : Sl P T k by_] [hr : HasIm (List α) repList Γ [sv] xs] [hk : SzIs α k]
    [hd : Se l d (.pointer (some (elemA sv (m : Int) k))) l']
    (h : ∀ (p : Un.Pr α) (cs : List Value) (as : List Atom), Un.cells p (xs.getD m default) = cs → Un.atoms p (xs.getD m default) ++ Γ = as → Un.fact (xs.getD m default) → WL P ops Q w0 rest l' (.pt (elemA sv (m : Int) k) cs :: as))
    (hi : 0 ≤ n ∧ n < xs.length := by first | omega | (simp only [List.length_append, List.length_cons, List.length_nil, List.length_replicate, List.length_set, List.length_drop, List.length_take]; omega)) :
    WL P ops Q w0 (⟨some d, .indexAddr T x y, ty, pos, after, none⟩ :: rest) l Γ := wl_index_deep (hd := elem_n (sv := sv) (k := k) hm.eq ▸ hd) hk.eq hi (by have e := hm.eq; subst e; rw [elem_n (sv := sv) (n := n) (k := k) rfl]; exact h)
class MemB (b : Nat) (bs : List Nat) : Prop where
  t : True
instance {b : Nat} {bs : List Nat} : MemB b (b :: bs) := ⟨trivial⟩
instance (priority := 500) {b c : Nat} {bs : List Nat} [MemB b bs] : MemB b (c :: bs) := ⟨trivial⟩
theorem wa_begin [hm : Mixed P] {n : Nat} {ol : List Oper} (id : Nat) (bl : List Bool) (lt : List Nat) (h : WA P ol.toArray Q w0 lt Γ n bl l Γ) (hn : ol.length = n := by rfl) (hbl : List.replicate n false = bl := by rfl) : WC P Q w0 (.region id ol.toArray true) l Γ := wa_start_on lt Γ (fun _ h => h) hn hbl h
theorem wa_begin1 [hm : Mixed P] {n : Nat} {ol : List Oper} (id : Nat) (bl : List Bool) (lt : List Nat) [hk : Keep1 Γ Γb] (h : WA P ol.toArray Q w0 lt Γb n bl l Γ) (hn : ol.length = n := by rfl) (hbl : List.replicate n false = bl := by rfl) : WC P Q w0 (.region id ol.toArray true) l Γ :=
  wa_start_on lt Γb (fun _ hs => hs.sub hk.sub) hn hbl h
theorem wa_end (h : WQ Q w0 .normal l Γ) (hr : Region.ready .any ops bl.toArray = [] := by decide +kernel) : WA P ops Q w0 lt Γb fuel bl l Γ := wa_done hr h
theorem wa_f {ol : List Oper} (i : Nat) {T : TypeId} {x : Operand} {sv : Value} {n : Int} {m : Nat} {xs : List Int} [hi : Ge ol i ⟨some d, .load T x, ty, pos, after, none⟩] [h : Ev l x (.pointer (some (elemA sv n 1)))] [hm : ToN n m] [hT : Sc P T] [hr : HasRd (List Int) repList Γb [sv] xs]
    [hd : Se l d (.int .i64 (xs.getD m 0)) l'] [hb : Se bl i true bl'] (hw : -9223372036854775808 ≤ xs.getD m 0 ∧ xs.getD m 0 ≤ 9223372036854775807 → WA P ol.toArray Q w0 lt Γb fuel bl' l' Γ)
    (hin : 0 ≤ n ∧ n < xs.length := by first | omega | (simp only [List.length_append, List.length_cons, List.length_nil, List.length_replicate, List.length_set, List.length_drop, List.length_take]; omega))
    (hck : ckTake lt ol.toArray bl i = true := by decide +kernel) (hQ : ∀ c a w v, Q (.panic c) (a.put (some d) v) w → Q (.panic c) a w := by exact fun _ _ _ _ h => h) : WA P ol.toArray Q w0 lt Γb (fuel + 1) bl l Γ := fun w hs hsb => by
  have e := hm.eq
  subst e
  have h3 := (hsb (ck6 hck)).rd (hr := hr)
  obtain ⟨a, cap, _, _, _, _, h2⟩ := h3
  obtain ⟨b, off, cells, rfl, _, _, hrd⟩ := h2 (by omega)
  have hb := RdL.in64 hrd (xs.getD n.toNat 0) (by rw [List.getD_eq_getElem?_getD, List.getElem?_eq_getElem (by omega)]; simp)
  exact wa_pure i (by simpa using hi.eq) hck hQ (pu_load_int hin) (hw hb) w hs hsb

class ResC (fn : Func) (rs : outParam (List ResultVar)) : Prop where
  eq : fn.results = rs.toArray
class TupC (vs : List Value) (v : outParam Value) : Prop where
  eq : tupOf vs = v
instance {v : Value} : TupC [v] v := ⟨rfl⟩
instance : TupC [] (.tuple #[]) := ⟨rfl⟩
instance {a b : Value} {vs : List Value} : TupC (a :: b :: vs) (.tuple (a :: b :: vs).toArray) := ⟨rfl⟩
instance {fn : Func} {rs : List ResultVar} {vs : List Value} {v : Value} {ρ : Type} {r : ρ → Value} {Γ' : ρ → List Atom} [hf : ResC fn rs] [hr : Rs P Γ l rs vs] [ht : TupC vs v] :
    Red (WQ (bodyPost P fn (RetP w0 r Γ')) w0 .ret l Γ) (∃ p, r p = v ∧ Ent w0 Γ (Γ' p)) := ⟨fun ⟨p, h1, h2⟩ => wq_ret hf.eq p (by rw [h1, ht.eq]) h2⟩
instance {fn : Func} {rs : List ResultVar} {vs : List Value} {v : Value} {ρ : Type} {r : ρ → Value} {Γ' : ρ → List Atom} [hf : ResC fn rs] [hr : Rs P Γ l rs vs] [ht : TupC vs v] :
    Red (WQ (bodyPost P fn (RetP w0 r Γ')) w0 .normal l Γ) (∃ p, r p = v ∧ Ent w0 Γ (Γ' p)) := ⟨fun ⟨p, h1, h2⟩ => wq_end hf.eq p (by rw [h1, ht.eq]) h2⟩

/-! the same, found by looking -/
instance {f : FuncId} {xs : List Operand} {vs : List Value} {ts : Array TypeId} {S : Prop} {ρ : Type} {r : ρ → Value} {Γ' : ρ → List Atom} [hx : EvL l xs vs] [hc : CtrC P f vs Γ S ρ r Γ'] [hf : IsFn P f] :
    RedC (WL P ops Q w0 (⟨some d, .call { callee := .value (.func f), args := xs.toArray, argTypes := ts }, ty, pos, after, none⟩ :: rest) l Γ) S ρ (fun p => WL P ops Q w0 rest (l.set d (r p)) (Γ' p)) := ⟨fun s h => wl_call (hc.run s w0) h⟩
instance {f : FuncId} {xs : List Operand} {vs : List Value} {ts : Array TypeId} {S : Prop} {ρ : Type} {r : ρ → Value} {Γ' : ρ → List Atom} [hx : EvL l xs vs] [hc : CtrC P f vs Γ S ρ r Γ'] [hf : IsFn P f] :
    RedC (WL P ops Q w0 (⟨none, .call { callee := .value (.func f), args := xs.toArray, argTypes := ts }, ty, pos, after, none⟩ :: rest) l Γ) S ρ (fun p => WL P ops Q w0 rest l (Γ' p)) := ⟨fun s h => wl_call0 (hc.run s w0) h⟩
instance {c : Operand} {b : Bool} {p q : Prop} [hc : Ev l c (.bool b)] [hp : BoolP b p] [hn : BoolN b q] : RedI (WC P Q w0 (.cond c x y) l Γ) p q (WC P Q w0 x l Γ) (WC P Q w0 y l Γ) := ⟨fun h1 h2 => wc_if h1 h2⟩
instance {ol : List Oper} {j dj : Nat} {oj : Oper} {b b' : Bool} {dst : Option Tmp} {l1 l2 : List Value} {p q : Prop} [hj : Ge ol j oj] [hdj : Dst oj dj] [hb : Ge l dj v] [he : IsB v b'] [hp : BoolP b' p] [hn : BoolN b' q] [h1 : Se l dj (.bool true) l1] [h2 : Se l dj (.bool false) l2] :
    RedI (WL P ol.toArray Q w0 (⟨dst, op, ty, pos, after, some (j, b)⟩ :: rest) l Γ) p q (WL P ol.toArray Q w0 (⟨dst, op, ty, pos, after, some (j, b)⟩ :: rest) l1 Γ) (WL P ol.toArray Q w0 (⟨dst, op, ty, pos, after, some (j, b)⟩ :: rest) l2 Γ) := ⟨fun h1 h2 => wl_if h1 h2⟩
instance {T U k by_ : TypeId} {x y : Operand} {sv : Value} {α : Type} {iα : Rep α} {xs : List α} {l1 l2 : List Value} [hx : Ev l x sv] [hy : Ev l y (.slice none 0 0)] [hT : Sl P T k by_] [hr : HasRd (List α) repList Γ [sv] xs] [h1 : Se l d (.bool true) l1] [h2 : Se l d (.bool false) l2] :
    RedQ (WL P ops Q w0 (⟨some d, .binOp .eql T x y U, ty, pos, after, none⟩ :: rest) l Γ) (xs = []) (sv ≠ .slice none 0 0) (WL P ops Q w0 rest l1 Γ) (WL P ops Q w0 rest l2 Γ) :=
  ⟨fun g1 g2 => wl_eql_nil fun bq hq hq2 => by
    cases bq
    · rw [h2.eq]; exact g2 (hq2 rfl)
    · rw [h1.eq]; exact g1 (hq rfl)⟩
instance {α : Type} {iα : Rep α} [inh : Inhabited α] [un : Un α] [dp : Deep_ α] {T k by_ : Nat} {x y : Operand} {sv : Value} {n : Int} {m : Nat} {kk : IntKind} {xs : List α} [hx : Ev l x sv] [hy : Ev l y (.int kk n)] [hm : ToN n m] [hT : Sl P T k by_] [hr : HasIm (List α) repList Γ [sv] xs] [hk : SzIs α k]
    [hd : Se l d (.pointer (some (elemA sv (m : Int) k))) l'] : RedD (WL P ops Q w0 (⟨some d, .indexAddr T x y, ty, pos, after, none⟩ :: rest) l Γ) (0 ≤ n ∧ n < xs.length) α iα un (xs.getD m default) Γ (fun cs as => WL P ops Q w0 rest l' (.pt (elemA sv (m : Int) k) cs :: as)) :=
  ⟨fun s h => wl_deep h s⟩
theorem cj_enter {f : FuncId} {fn : Func} {c : Code} {vs : List Value} {n : Nat} {ρ : Type} {r : ρ → Value} {Γ' : ρ → List Atom} (hf : P.funcs[f]? = some fn) (hn : fn.ntmps = n) (h : WC P (bodyPost P fn (RetP w0 r Γ')) w0 c l Γ)
    (hl : vs ++ List.replicate (n - vs.length) undef = l := by simp only [List.length_cons, List.length_nil, Nat.reduceAdd, Nat.reduceSub, List.replicate_succ, List.replicate_zero, List.cons_append, List.nil_append]; rfl) (hb : fn.body = some c := by rfl) : CJ P f vs w0 Γ r Γ' := cj_intro hf hb hn hl h
/-! ### Loops -/
/-- A loop that leaves the context as it is. -/
theorem wc_loop_c (K JJ : List Nat) {ι : Type} (vals : ι → List Value) (pre : ι → Prop) (μ : ι → Nat) {c : Code} (i0 : ι)
    (h0 : patch (patch l K (vals i0)) JJ (JJ.map fun j => l.getD j undef) = l) (hp : pre i0)
    (round : ∀ i u l', patch (patch l K (vals i)) JJ (JJ.map u) = l' → pre i → WC P (Exit.then (Next_ w0 l K JJ vals (fun _ => Γ) pre μ i) Q) w0 c l' Γ) : WC P Q w0 (.loop c) l Γ :=
  wc_loop K JJ vals (fun _ => Γ) pre μ i0 h0 hp (fun _ h => h) round
/-- What is taken out of Γ; the rest. -/
class TakeL (Γ A : List Atom) (Δ : outParam (List Atom)) : Prop where
  ent : SepEnt Γ (A ++ Δ)
instance : TakeL Γ [] Γ := ⟨SepEnt.refl Γ⟩
instance {A : Atom} {B : List Atom} [h : Pull Γ A Δ] [h' : TakeL Δ B Ε] : TakeL Γ (A :: B) Ε := ⟨SepEnt.trans (SepEnt.perm h.perm) (SepEnt.cons A h'.ent)⟩
instance (priority := 1500) {α : Type} {iα : Rep α} {B : List Atom} [h : TakeL Γ B Ε] : TakeL Γ (@Atom.ow (List α) repList [.slice none 0 0] [] :: B) Ε := ⟨fun hs => by
  obtain ⟨G, hG, h1⟩ := h.ent hs
  exact ⟨G, hG, [], G, rfl, .inl ⟨rfl, rfl, rfl⟩, h1⟩⟩
/-- A loop that turns these atoms and leaves the rest as it is. -/
theorem wc_loop_p (K JJ : List Nat) {ι : Type} (vals : ι → List Value) (A : ι → List Atom) (pre : ι → Prop) (μ : ι → Nat) {c : Code} (i0 : ι) (A0 : List Atom) [ht : TakeL Γ A0 Δ]
    (h0 : patch (patch l K (vals i0)) JJ (JJ.map fun j => l.getD j undef) = l) (hp : pre i0) (hA : A i0 = A0)
    (round : ∀ i u l', patch (patch l K (vals i)) JJ (JJ.map u) = l' → pre i → WC P (Exit.then (Next_ w0 l K JJ vals (fun i => A i ++ Δ) pre μ i) Q) w0 c l' (A i ++ Δ)) : WC P Q w0 (.loop c) l Γ :=
  wc_loop K JJ vals (fun i => A i ++ Δ) pre μ i0 h0 hp (fun w hs => by rw [hA]; exact SepEnt.sat ht.ent hs) round
instance (priority := 2100) [h : SubE Γ Δ] : SubE Γ ([] ++ Δ) := h
instance (priority := 2100) {A : Atom} {B : List Atom} [h : SubE Γ (A :: (B ++ Δ))] : SubE Γ ((A :: B) ++ Δ) := h
end inst
end Go.Eng
namespace Go.Eng
open Go Go.RowKit
set_option linter.unusedVariables false
set_option linter.unusedSimpArgs false

/-- A list of n. -/
structure Ar (n : Nat) (α : Type) where
  xs : List α
class PosN (n : Nat) : Prop where
  pos : 0 < n
instance : PosN 24 := ⟨by decide⟩
instance : PosN 48 := ⟨by decide⟩
instance repAr {n : Nat} {α : Type} [Rep α] [hn : PosN n] : Rep (Ar n α) where
  sz := n * Rep.sz α
  rd ok w cs x := x.xs.length = n ∧ RdL ok w cs x.xs
  ow ok w F cs x := F = [] ∧ x.xs.length = n ∧ RdL ok w cs x.xs
  pos := Nat.mul_pos hn.pos Rep.pos
  rd_len := by rintro _ _ _ _ ⟨h, h'⟩; rw [h'.len, h]
  rd_one := by rintro _ _ _ _ ⟨h, h'⟩; exact h'.one
  rd_mono := fun h hm => ⟨h.1, h.2.mono hm⟩
  ow_mono := fun h _ hm => ⟨h.1, h.2.1, h.2.2.mono hm⟩
  ow_rd := fun h ho _ => ⟨h.2.1, h.2.2.mono (fun b hb _ => ⟨ho b hb, rfl⟩)⟩
  ow_lt := by rintro _ _ _ _ _ ⟨rfl, _⟩ b hb; cases hb

/-- A list that is nil if it is empty. -/
structure NE (α : Type) where
  xs : List α
instance {α : Type} : Inhabited (NE α) := ⟨⟨[]⟩⟩
def NERd {α : Type} [Rep α] (ok : Nat → Prop) (w : World) (cs : List Value) (x : List α) : Prop := (cs = [.slice none 0 0] ∧ x = []) ∨ (x ≠ [] ∧ Rep.rd ok w cs x)
theorem NERd.list {α : Type} [Rep α] {ok : Nat → Prop} {w : World} {cs : List Value} {x : List α} (h : NERd ok w cs x) : Rep.rd ok w cs x := by
  rcases h with ⟨rfl, rfl⟩ | h
  · exact ⟨none, 0, rfl, by simp, by simp [maxLen], by simp, by simp⟩
  · exact h.2
instance repNE {α : Type} [Rep α] : Rep (NE α) where
  sz := 1
  rd ok w cs x := NERd ok w cs x.xs
  ow ok w F cs x := F = [] ∧ NERd ok w cs x.xs
  pos := by decide
  rd_len := fun h => Rep.rd_len h.list
  rd_one := fun h => Rep.rd_one h.list
  rd_mono := fun h hm => h.imp id (fun h => ⟨h.1, Rep.rd_mono h.2 hm⟩)
  ow_mono := fun h _ hm => ⟨h.1, h.2.imp id (fun h => ⟨h.1, Rep.rd_mono h.2 hm⟩)⟩
  ow_rd := fun h ho _ => h.2.imp id (fun h => ⟨h.1, Rep.rd_mono h.2 (fun b hb _ => ⟨ho b hb, rfl⟩)⟩)
  ow_lt := by rintro _ _ _ _ _ ⟨rfl, _⟩ b hb; cases hb

/-- T is an array type of n elements of one cell each. -/
class ArT (P : Program) (T : TypeId) (n : outParam Nat) : Prop where
  ex : ∃ e i, P.underlying T = some (.array n e) ∧ P.info? e = some i ∧ i.size = 1 ∧ 2 ≤ n

class RedO (G : Prop) (S : outParam Prop) (G' : outParam (Value → Prop)) : Prop where
  run : S → (∀ v, G' v) → G
theorem redo {G S : Prop} {G' : Value → Prop} [h : RedO G S G'] (g : ∀ v, G' v) (s : S := by first | omega | assumption | (simp only [List.length_append, List.length_cons, List.length_nil, List.length_replicate, List.length_set, List.length_drop, List.length_take]; omega)) : G := h.run s g
class RedL (G : Prop) (S : outParam Prop) (G' : outParam (Option Addr → Nat → Prop)) : Prop where
  run : S → (∀ a c, G' a c) → G
theorem redl {G S : Prop} {G' : Option Addr → Nat → Prop} [h : RedL G S G'] (g : ∀ a c, G' a c) (s : S := by first | omega | assumption | (simp only [List.length_append, List.length_cons, List.length_nil, List.length_replicate, List.length_set, List.length_drop, List.length_take]; omega)) : G := h.run s g
/-- T is an array type of n slices of α: all nil at first. -/
class ArN (P : Program) (T : TypeId) (n : outParam Nat) (α : outParam Type) (i : outParam (Rep α)) : Prop where
  run : ∀ w, (Instr.build T #[]).run P w = .ok (.agg (List.replicate n (.slice none 0 0)).toArray) w
class ArB (P : Program) (T : TypeId) (n : outParam Nat) : Prop where
  run : ∀ w, (Instr.build T #[]).run P w = .ok (.agg (List.replicate n (.bool false)).toArray) w
class RedZ (G : Prop) (G' : outParam (List Value → Prop)) : Prop where
  run : (∀ cs, G' cs) → G
theorem redz {G : Prop} {G' : List Value → Prop} [h : RedZ G G'] (g : ∀ cs, G' cs) : G := h.run g
section inst
variable {P : Program} {ops : Array Oper} {Q : Exit → Act → World → Prop} {w0 : World} {rest : List Oper} {l l' : List Value} {Γ Γb Δ Ε : List Atom} {ty : TypeId} {v : Value} {pos : String} {after : Array Edge} {d : Nat} {x y : Operand}

instance (priority := 100) {α : Type} {i : Rep α} {cs : List Value} {z : α} [h : HasRd α i Γ cs z] : OneCs Γ cs := ⟨fun hs => Rep.rd_one (h.get hs)⟩

theorem pu_index_arr {T n b : Nat} {m : Nat} {k : Int} {kk : IntKind} [h : Ev l x (.pointer (some ⟨b, 0, none⟩))] [hy : Ev l y (.int kk k)] [hm : ToN k m] [hT : ArT P T n] (hk : 0 ≤ k ∧ k < n) : Pu P w0 l Γ (.indexAddr T x y) ty (.pointer (some ⟨b, m, none⟩)) := by
  obtain ⟨e, i, ht, hi, hs, hn⟩ := hT.ex
  refine pu_of (s := Instr.indexAt T (.pointer (some ⟨b, 0, none⟩)) (.int kk k)) (fun o ho _ => by unfold execOp; rw [ho]; simp only [h.eq, hy.eq]) (fun w hs' => ?_)
  have e1 := hm.eq
  simp [Instr.indexAt, asIntOf, run_underlying ht, sizeOf, typeInfo, hi, hs, hk.1, hk.2, Instr.sureAddr, e1, add_lit]
instance {T n b m : Nat} {k : Int} {kk : IntKind} [h : Ev l x (.pointer (some ⟨b, 0, none⟩))] [hy : Ev l y (.int kk k)] [hm : ToN k m] [hT : ArT P T n] : PuS P l Γ (.indexAddr T x y) ty (.pointer (some ⟨b, m, none⟩)) (0 ≤ k ∧ k < n) := ⟨fun h _ => pu_index_arr h⟩

theorem ar_get {n : Nat} {α : Type} [Rep α] [Inhabited α] [hn : PosN n] {ok : Nat → Prop} {w : World} {cs : List Value} {xs : List α} (hsz : Rep.sz α = 1) (h : Rep.rd ok w cs (Ar.mk xs : Ar n α)) {m : Nat} (hm : m < n) :
    ∃ v, cs[m]? = some v ∧ Rep.rd ok w [v] (xs.getD m default) := by
  obtain ⟨hl, hr⟩ := h
  simp only at hl hr
  obtain ⟨p, c, s, e, hp, hc⟩ := hr.get m (by omega)
  have hcl := Rep.rd_len hc
  rw [hsz] at hcl hp
  obtain ⟨v, rfl⟩ : ∃ v, c = [v] := by
    match c, hcl with
    | [v], _ => exact ⟨v, rfl⟩
  refine ⟨v, ?_, ?_⟩
  · rw [e, List.append_assoc, List.getElem?_append_right (by omega), hp]; simp
  · rw [List.getD_eq_getElem?_getD, List.getElem?_eq_getElem (by omega)]; exact hc

/-- An element of an array, read. -/
instance {T n b m : Nat} {α : Type} {iα : Rep α} [inh : Inhabited α] [hn : PosN n] {cs : List Value} {xs : List α} [h : Ev l x (.pointer (some ⟨b, m, none⟩))] [hT : Sc P T] [hb : HasBk Γ b cs] [hr : HasIm (Ar n α) repAr Γ cs (Ar.mk xs)] [hsz : SzIs α 1] :
    RedV (WL P ops Q w0 (⟨some d, .load T x, ty, pos, after, none⟩ :: rest) l Γ) (m < n) (fun v => WL P ops Q w0 rest (l.set d v) (.rd [v] (xs.getD m default) :: Γ)) := ⟨fun s hw w hs => by
  obtain ⟨hbel, F, hnd, hl, hsep⟩ := hs
  obtain ⟨e, he⟩ := hb.get hsep
  obtain ⟨v, hv, hrd⟩ := ar_get hsz.eq.symm (hr.get hsep) s
  have hc : w.cell? ⟨b, m, none⟩ = some v := by simp [World.cell?, he, hv]
  refine wl_op (v := v) (w' := w) rfl (run_value (f := Next.value) (s := Instr.loadAt T ((E l).eval x)) ?_) ?_
  · rw [h.eq]; simp [Instr.loadAt, Instr.sureAddr, loadVar, Sem.run_bind, hT.agg, load, Sem.run, hc]
  · rw [E_put]
    exact hw v _ ⟨hbel, F, hnd, hl, [], F, rfl, ⟨rfl, hrd⟩, hsep⟩⟩

/-- .. of an array of lists that are nil if empty. -/
instance (priority := 1100) {T n b m : Nat} {α : Type} {iα : Rep α} [hn : PosN n] {cs : List Value} {xs : List (NE α)} [h : Ev l x (.pointer (some ⟨b, m, none⟩))] [hT : Sc P T] [hb : HasBk Γ b cs] [hr : HasIm (Ar n (NE α)) repAr Γ cs (Ar.mk xs)] :
    RedV (WL P ops Q w0 (⟨some d, .load T x, ty, pos, after, none⟩ :: rest) l Γ) (m < n) (fun v => WL P ops Q w0 rest (l.set d v) (.rd [v] (xs.getD m default).xs :: .rd [v] (xs.getD m default) :: Γ)) := ⟨fun s hw w hs => by
  obtain ⟨hbel, F, hnd, hl, hsep⟩ := hs
  obtain ⟨e, he⟩ := hb.get hsep
  obtain ⟨v, hv, hrd⟩ := ar_get rfl (hr.get hsep) s
  have hc : w.cell? ⟨b, m, none⟩ = some v := by simp [World.cell?, he, hv]
  refine wl_op (v := v) (w' := w) rfl (run_value (f := Next.value) (s := Instr.loadAt T ((E l).eval x)) ?_) ?_
  · rw [h.eq]; simp [Instr.loadAt, Instr.sureAddr, loadVar, Sem.run_bind, hT.agg, load, Sem.run, hc]
  · rw [E_put]
    exact hw v _ ⟨hbel, F, hnd, hl, [], F, rfl, ⟨rfl, NERd.list hrd⟩, [], F, rfl, ⟨rfl, hrd⟩, hsep⟩⟩
/-- Something in Γ is such a list. -/
class HasNe (α : outParam Type) (i : outParam (Rep α)) (Γ : List Atom) (cs : List Value) (z : outParam (NE α)) : Prop where
  get : ∀ {ok w F}, Sep ok w Γ F → NERd ok w cs z.xs
instance (priority := 1100) {α : Type} {i : Rep α} {cs : List Value} {z : NE α} : HasNe α i (.rd cs z :: Γ) cs z := ⟨fun ⟨_, _, _, h, _⟩ => h.2⟩
instance (priority := 1000) {α : Type} {i : Rep α} {cs : List Value} {z : NE α} {A : Atom} [h : HasNe α i Γ cs z] : HasNe α i (A :: Γ) cs z := ⟨fun ⟨_, _, _, _, h'⟩ => h.get h'⟩

theorem RdL.set {α : Type} [Rep α] {ok : Nat → Prop} {w : World} (hsz : Rep.sz α = 1) : ∀ {cs : List Value} {xs : List α} {v : Value} {y : α} {m : Nat}, RdL ok w cs xs → Rep.rd ok w [v] y → RdL ok w (cs.set m v) (xs.set m y)
  | cs, [], v, y, m, h, hy => by simp [RdL] at h ⊢; simp [h]
  | cs, x :: xs, v, y, 0, ⟨c, d, e, h, h'⟩, hy => by
    have hcl := Rep.rd_len h
    rw [hsz] at hcl
    match c, hcl with
    | [u], _ => subst e; exact ⟨[v], d, rfl, hy, h'⟩
  | cs, x :: xs, v, y, m + 1, ⟨c, d, e, h, h'⟩, hy => by
    have hcl := Rep.rd_len h
    rw [hsz] at hcl
    match c, hcl with
    | [u], _ => subst e; exact ⟨[u], d.set m v, rfl, h, RdL.set hsz h' hy⟩

theorem wl_store_arr {T n b m : Nat} {α : Type} {iα : Rep α} [hn : PosN n] {cs : List Value} {xs : List α} {u : α} [hx : Ev l x (.pointer (some ⟨b, m, none⟩))] [hy : Ev l y v] [ho : OneC Γ v] [hT : Sc P T] [hb : PullBk Γ b cs Δ] [hr : HasIm (Ar n α) repAr Δ cs (Ar.mk xs)] [hsz : SzIs α 1] (hm : m < n)
    (hu : ∀ {ok w F}, Sep ok w Δ F → Rep.rd ok w [v] u) (h : WL P ops Q w0 rest l (.bk b (cs.set m v) :: .rd (cs.set m v) (Ar.mk (xs.set m u) : Ar n α) :: Δ)) :
    WL P ops Q w0 (⟨none, .store T x y, ty, pos, after, none⟩ :: rest) l Γ := by
  intro w hs
  have h1 : v.oneCell' = true := by
    obtain ⟨_, F, _, _, hs⟩ := hs
    exact ho.one hs
  have hs1 := hs.perm hb.perm
  obtain ⟨e, he⟩ := hs1.bk (hr := HasBk.here)
  have hlen : cs.length = n := by
    obtain ⟨_, F, _, _, hs⟩ := hs1
    obtain ⟨f, g, _, _, hsep⟩ := hs
    have h2 := hr.get hsep
    have := Rep.rd_len h2
    rw [this]; show n * Rep.sz α = n; rw [← hsz.eq, Nat.mul_one]
  have hs2 := hs1.store m v
  have hcell : w.cell? ⟨b, m, none⟩ = some (cs[m]'(by omega)) := by simp [World.cell?, he, List.getElem?_eq_getElem (show m < cs.length by omega)]
  have hfr : w.frozen? ⟨b, m, none⟩ = false := by simp [World.frozen?, he]
  have hst : (store (⟨b, m, none⟩ : Addr) v).run P w = .ok () (w.setCell ⟨b, m, none⟩ v) := by
    cases v <;> simp_all [store, Sem.run, Value.oneCell']
  refine wpList_plain rfl fun K hK => ?_
  unfold Oper.wp
  have hrun : (execOp (E l).eval ⟨none, .store T x y, ty, pos, after, none⟩).run P w = .ok .skip (w.setCell ⟨b, m, none⟩ v) := by
    show (do Instr.storeAt T ((E l).eval x) ((E l).eval y); pure Next.skip : Sem Next).run P w = _
    simp only [hx.eq, hy.eq, Sem.run_bind, Instr.storeAt, Instr.sureAddr, Sem.run_pure, Result.andThen_ok, storeVar, hT.size, cells_one h1]
    simp only [List.size_toArray, List.length_cons, List.length_nil, Nat.zero_add, ne_eq, not_true_eq_false, if_false, Sem.run_pure, Result.andThen_ok, Sem.run_bind, storeCells]
    have : (⟨b, m, none⟩ : Addr).add 0 = ⟨b, m, none⟩ := by simp [Addr.add]
    rw [this]
    simp only [hst, Result.andThen_ok, Sem.run_pure]
  rw [hrun, Oper.upon_skip, E_put_none]
  refine hK _ _ (h _ ?_)
  obtain ⟨hbel, F, hnd, hl, f, g, rfl, hA, hsep⟩ := hs2
  exact ⟨hbel, f ++ g, hnd, hl, f, g, rfl, hA, [], g, rfl, ⟨rfl, by have := hr.get hsep; exact ⟨by simpa using this.1, this.2.set hsz.eq.symm (hu hsep)⟩⟩, hsep⟩
/-- A list that is not empty, written into an array. -/
instance {T n b m : Nat} {α : Type} {iα : Rep α} [hn : PosN n] {cs : List Value} {xs : List (NE α)} {ys : List α} [hx : Ev l x (.pointer (some ⟨b, m, none⟩))] [hy : Ev l y v] [ho : OneC Γ v] [hT : Sc P T] [hb : PullBk Γ b cs Δ] [hr : HasIm (Ar n (NE α)) repAr Δ cs (Ar.mk xs)] [hu : HasIm (List α) repList Δ [v] ys] :
    RedS (WL P ops Q w0 (⟨none, .store T x y, ty, pos, after, none⟩ :: rest) l Γ) (m < n ∧ 0 < ys.length) (WL P ops Q w0 rest l (.bk b (cs.set m v) :: .rd (cs.set m v) (Ar.mk (xs.set m ⟨ys⟩) : Ar n (NE α)) :: Δ)) :=
  ⟨fun s h => wl_store_arr (u := (⟨ys⟩ : NE α)) (hsz := ⟨rfl⟩) s.1 (fun {ok w F} hsep => show NERd ok w [v] ys from .inr ⟨fun e => by have := s.2; rw [e] at this; simp at this, hu.get hsep⟩) h⟩
instance {T n b m : Nat} {t : Bool} [hn : PosN n] {cs : List Value} {xs : List Bool} [hx : Ev l x (.pointer (some ⟨b, m, none⟩))] [hy : Ev l y (.bool t)] [hT : Sc P T] [hb : PullBk Γ b cs Δ] [hr : HasIm (Ar n Bool) repAr Δ cs (Ar.mk xs)] :
    RedS (WL P ops Q w0 (⟨none, .store T x y, ty, pos, after, none⟩ :: rest) l Γ) (m < n) (WL P ops Q w0 rest l (.bk b (cs.set m (.bool t)) :: .rd (cs.set m (.bool t)) (Ar.mk (xs.set m t) : Ar n Bool) :: Δ)) :=
  ⟨fun s h => wl_store_arr (u := t) (hsz := ⟨rfl⟩) s (fun hsep => rfl) h⟩

/-- The whole array. -/
instance {T n b k : Nat} {α : Type} {iα : Rep α} [hn : PosN n] {cs : List Value} {xs : List α} [h : Ev l x (.pointer (some ⟨b, 0, none⟩))] [hT : Ag P T k] [hb : HasBk Γ b cs] [hr : HasRd (Ar n α) repAr Γ cs (Ar.mk xs)] [hsz : SzIs (Ar n α) k] : PuC P l Γ (.load T x) ty (.agg cs.toArray) := ⟨fun w0 =>
  pu_of (s := Instr.loadAt T (.pointer (some ⟨b, 0, none⟩))) (fun o ho _ => by unfold execOp; rw [ho]; simp only [h.eq]) (fun w hs => by
    obtain ⟨e, he⟩ := hs.bk (hr := hb)
    have hk : cs.length = k := by rw [hsz.eq]; exact Rep.rd_len (hs.rd (hr := hr))
    have hc := run_loadCells (P := P) (w := w) (p := ⟨b, 0, none⟩) (cs := cs) 0 #[] (fun j hj => by
      rw [add_lit, Nat.zero_add, Nat.zero_add]
      simp [World.cell?, he])
    rw [hk] at hc
    simp only [Instr.loadAt, Instr.sureAddr, loadVar, Sem.run_bind, Sem.run_pure, Result.andThen_ok, hT.agg, if_true, hT.size, loadCells, hc]
    simp)⟩
instance {α : Type} {iα : Rep α} {n : Nat} [h : SzIs α 1] [hn : PosN n] : SzIs (Ar n α) n := ⟨by show n = n * Rep.sz α; rw [← h.eq, Nat.mul_one]⟩
instance {α : Type} [Rep α] : SzIs (NE α) 1 := ⟨rfl⟩
/-- The length of a variable's cells is known. -/
class LenB (Γ : List Atom) (cs : List Value) (n : outParam Nat) : Prop where
  eq : ∀ {ok w F}, Sep ok w Γ F → cs.length = n
instance {cs : List Value} {n : Nat} [h : LenIs cs n] : LenB Γ cs n := ⟨fun _ => h.eq⟩
instance (priority := 500) {α : Type} {iα : Rep α} {n k : Nat} [hn : PosN n] {cs : List Value} {xs : List α} [hr : HasRd (Ar n α) repAr Γ cs (Ar.mk xs)] [hsz : SzIs (Ar n α) k] : LenB Γ cs k := ⟨fun hs => by rw [hsz.eq]; exact Rep.rd_len (hr.get hs)⟩
instance {T n n' b k : Nat} {α : Type} {iα : Rep α} [hn : PosN n] {cs vc : List Value} {xs : List α} [hx : Ev l x (.pointer (some ⟨b, 0, none⟩))] [hy : Ev l y (.agg vc.toArray)] [hT : Ag P T k] [hb : PullBk Γ b cs Δ] [hl : LenB Δ cs n'] [hr : HasRd (Ar n α) repAr Δ vc (Ar.mk xs)] [hsz : SzIs (Ar n α) k] [he : NatEq n' k] :
    Red (WL P ops Q w0 (⟨none, .store T x y, ty, pos, after, none⟩ :: rest) l Γ) (WL P ops Q w0 rest l (.bk b vc :: Δ)) := ⟨fun h w hs => by
  have hs1 := hs.perm hb.perm
  obtain ⟨_, F, _, _, f, g, _, _, hsep⟩ := (id hs1 : Sat w0 w (.bk b cs :: Δ))
  have hlc := hl.eq hsep
  have hlv : vc.length = k := by rw [hsz.eq]; exact Rep.rd_len (hr.get hsep)
  have h1 : ∀ c ∈ vc, c.oneCell' = true := Rep.rd_one (hr.get hsep)
  obtain ⟨w', hrun, hs'⟩ := run_storeCells (P := P) hs1 h1 (off := 0) (by rw [hlc, hlv, he.eq]; omega) 0 0 rfl
  refine wpList_plain rfl fun K hK => ?_
  unfold Oper.wp
  have : (execOp (E l).eval ⟨none, .store T x y, ty, pos, after, none⟩).run P w = .ok .skip w' := by
    show (do Instr.storeAt T ((E l).eval x) ((E l).eval y); pure Next.skip : Sem Next).run P w = _
    simp only [hx.eq, hy.eq, Sem.run_bind, Instr.storeAt, Instr.sureAddr, Sem.run_pure, Result.andThen_ok, storeVar, hT.size, show (Value.agg vc.toArray).cells = vc.toArray from rfl]
    simp only [List.size_toArray, hlv, ne_eq, not_true_eq_false, if_false, Sem.run_pure, Result.andThen_ok, Sem.run_bind]
    simp only [hrun, Result.andThen_ok]
  rw [this, Oper.upon_skip, E_put_none]
  refine hK _ _ (h w' ?_)
  have e : cs.take 0 ++ vc ++ cs.drop (0 + vc.length) = vc := by
    rw [List.take_zero, List.nil_append, List.drop_of_length_le (by rw [hlc, hlv, he.eq]; omega), List.append_nil]
  rw [e] at hs'
  exact hs'⟩

/-- A slice of the whole array: the variable is given up. -/
theorem RdL.ne {α : Type} [Rep α] {ok : Nat → Prop} {w : World} : ∀ {cs : List Value} {xs : List (NE α)}, RdL ok w cs xs → RdL ok w cs (xs.map NE.xs)
  | _, [], h => h
  | _, x :: xs, ⟨c, d, e, h, h'⟩ => ⟨c, d, e, h.list, RdL.ne h'⟩
theorem wl_slice_arr {T n b : Nat} {α : Type} {iα : Rep α} [hn : PosN n] {cs : List Value} {xs : List α} [hx : Ev l x (.pointer (some ⟨b, 0, none⟩))] [hT : ArT P T n] [hb : PullBk Γ b cs Δ] {β : Type} {iβ : Rep β} {ys : List β} (hlen : ys.length = n) (hsz : Rep.sz β = 1) (hle : n ≤ 1000)
    (hy : ∀ {ok w F}, Sep ok w Δ F → RdL ok w cs ys) (h : ∀ sv, WL P ops Q w0 rest (l.set d sv) (.rd [sv] ys :: Δ)) : WL P ops Q w0 (⟨some d, .slice T x none none none, ty, pos, after, none⟩ :: rest) l Γ := by
  intro w hs
  obtain ⟨e, i, ht, hi, hs1, hn2⟩ := hT.ex
  have hrun : (Instr.sliceAt T (.pointer (some ⟨b, 0, none⟩)) none none none).run P w = .ok (.slice (some ⟨b, 0, none⟩) n n) w := by
    have : ¬ n = 0 := by omega
    simp [Instr.sliceAt, Instr.sliceBounds, Instr.sureAddr, run_underlying ht, sizeOf, typeInfo, hi, this, Addr.add]
  refine wl_op (v := .slice (some ⟨b, 0, none⟩) n n) (w' := w) rfl (run_value (f := Next.value) (s := Instr.sliceAt T ((E l).eval x) (Option.map (E l).eval none) (Option.map (E l).eval none) (Option.map (E l).eval none)) ?_) ?_
  · rw [hx.eq]; exact hrun
  · rw [E_put]
    obtain ⟨hbel, F, hnd, hl, f, g, rfl, ⟨rfl, ee, he⟩, hsep⟩ := hs.perm hb.perm
    have hb : b ∉ g := by have := hnd; simp at this; exact this.1
    have hmono : ∀ k, k ∉ [b] ++ g → k < w.heap.size → k ∉ g ∧ SameB w w k := fun k hk _ => ⟨fun hm => hk (by simp [hm]), rfl⟩
    have hsep' := hsep.mono (ok' := (· ∉ g)) hmono (Nat.le_refl _) (fun _ _ => rfl)
    refine h _ _ ⟨hbel, g, (List.nodup_append.1 hnd).2.1, fun k hk => hl k (by simp [hk]), [], g, rfl, ⟨rfl, ?_⟩, hsep'⟩
    refine ⟨some ⟨b, 0, none⟩, n, by rw [hlen], by omega, by simp only [maxLen]; omega, by omega, fun _ => ⟨b, 0, cs, rfl, hb, fun j hj => ?_, hy hsep'⟩⟩
    simp [World.cell?, he]
instance {T n b : Nat} {α : Type} {iα : Rep α} [hn : PosN n] {cs : List Value} {xs : List (NE α)} [hx : Ev l x (.pointer (some ⟨b, 0, none⟩))] [hT : ArT P T n] [hb : PullBk Γ b cs Δ] [hr : HasIm (Ar n (NE α)) repAr Δ cs (Ar.mk xs)] :
    RedV (WL P ops Q w0 (⟨some d, .slice T x none none none, ty, pos, after, none⟩ :: rest) l Γ) (xs.length = n ∧ n ≤ 1000) (fun sv => WL P ops Q w0 rest (l.set d sv) (.rd [sv] (xs.map NE.xs) :: Δ)) :=
  ⟨fun s h => wl_slice_arr (iα := iα) (xs := ([] : List α)) (by rw [List.length_map]; exact s.1) rfl s.2 (fun hsep => (hr.get hsep).2.ne) h⟩

/-- The beginning of a list of the call's own. -/
theorem OwL.take {α : Type} [Rep α] {ok : Nat → Prop} {w : World} : ∀ {F : List Nat} {cells : List Value} {xs : List α} (m : Nat), OwL ok w F cells xs → ∃ f g, F = f ++ g ∧ OwL ok w f (cells.take (m * Rep.sz α)) (xs.take m)
  | F, cells, [], m, h => ⟨[], F, rfl, by obtain ⟨rfl, rfl⟩ := h; rw [List.take_nil, List.take_nil]; exact ⟨rfl, rfl⟩⟩
  | F, cells, x :: xs, 0, h => ⟨[], F, rfl, by rw [Nat.zero_mul, List.take_zero, List.take_zero]; exact ⟨rfl, rfl⟩⟩
  | F, cells, x :: xs, m + 1, h0 => by
    obtain ⟨f, g, c, d, rfl, rfl, h, h'⟩ := h0
    obtain ⟨f', g', rfl, h2⟩ := OwL.take m h'
    have hl : c.length = Rep.sz α := Rep.rd_len (x := x) (Rep.ow_rd (ok' := fun _ => True) h (fun _ _ => trivial) (fun _ _ => trivial))
    refine ⟨f ++ f', g', by simp, ?_⟩
    rw [Nat.add_mul, Nat.one_mul, Nat.add_comm, ← hl, List.take_length_add_append, hl]
    exact ⟨f, f', c, _, rfl, rfl, h, h2⟩
theorem wl_slice_ow {α : Type} {iα : Rep α} {T k by_ : Nat} {sv : Value} {kk : IntKind} {n : Int} {m : Nat} {xs : List α} [hx : Ev l x sv] [hy : Ev l y (.int kk n)] [hm : ToN n m] [hT : Sl P T k by_] [hp : PullOw (List α) repList Γ [sv] xs Δ] (hn : 0 ≤ n ∧ n ≤ xs.length)
    (h : ∀ sv', WL P ops Q w0 rest (l.set d sv') (.ow [sv'] (xs.take m) :: Δ)) : WL P ops Q w0 (⟨some d, .slice T x none (some y) none, ty, pos, after, none⟩ :: rest) l Γ := by
  intro w hs
  obtain ⟨e, i, z, ht, hi', hik, hib, hz, hzk, hpos⟩ := hT.ex
  obtain ⟨hb, F, hnd, hl, f, g, rfl, hA, hsep⟩ := hs.perm hp.perm
  have how : Rep.ow (· ∉ f ++ g) w f [sv] xs := hA
  have hm' := hm.eq
  have hml : m ≤ xs.length := by omega
  have hlt : (xs.take m).length = m := by rw [List.length_take]; omega
  rw [ow_list] at how
  have key : ∃ (a : Option Addr) (cap : Nat) (f1 f2 : List Nat), sv = .slice a xs.length cap ∧ m ≤ cap ∧ (f1 ++ f2).Perm f ∧ (∀ sv', sv' = Value.slice a m cap → Rep.ow (· ∉ f ++ g) w f1 [sv'] (xs.take m)) ∧ a.map (·.add 0) = a := by
    rcases how with ⟨h0, rfl, rfl⟩ | ⟨b, cap, cur, ee, G, cells, h0, rfl, h1, h2, h3, h4, h5, h6, h7⟩
    · have : m = 0 := by simpa using hml
      subst this
      exact ⟨none, 0, [], [], by simpa using h0, Nat.le_refl _, by simp, fun sv' h => by rw [ow_list]; exact .inl ⟨by rw [h], by simp, rfl⟩, rfl⟩
    · obtain ⟨g1, g2, rfl, h8⟩ := OwL.take m h7
      refine ⟨some ⟨b, 0, none⟩, cap, b :: g1, g2, by simpa using h0, by omega, by simp, fun sv' h => ?_, by simp [add_lit]⟩
      rw [ow_list]
      refine .inr ⟨b, cap, cur, ee, g1, cells.take (m * Rep.sz α), by rw [h, hlt], rfl, h1, by omega, h3, by omega, h5, ?_, h8⟩
      rw [hlt, ← h6, List.take_take]
      congr 1
      have := Nat.mul_le_mul_right (Rep.sz α) hml
      omega
  obtain ⟨a, cap, f1, f2, rfl, hcap, hperm, hnew, hadd⟩ := key
  have hrun := run_slice (P := P) (T := T) (a := a) (n := xs.length) (cap := cap) (lo := 0) (hi := m) (vlo := none) (vhi := some (.int kk n)) ht hi' (.inl ⟨rfl, rfl⟩) (.inr ⟨kk, by rw [show n = (m : Int) by omega]⟩) (by omega) hcap w
  have hres : (Value.slice (if cap = 0 then a else a.map (·.add (0 * i.size))) (m - 0) (cap - 0)) = .slice a m cap := by
    rw [Nat.zero_mul, hadd]; split <;> simp
  rw [hres] at hrun
  refine wl_op rfl (v := .slice a m cap) (w' := w) ?_ ?_
  · refine run_value (f := Next.value) (s := Instr.sliceAt T ((E l).eval x) (Option.map (E l).eval none) (Option.map (E l).eval (some y)) (Option.map (E l).eval none)) ?_
    rw [hx.eq]; simp only [Option.map_none, Option.map_some, hy.eq]; exact hrun
  · rw [E_put]
    have hp2 : (f1 ++ (f2 ++ g)).Perm (f ++ g) := by rw [← List.append_assoc]; exact hperm.append_right g
    have hmem : ∀ b, b ∈ f1 ++ g → b ∈ f ++ g := fun b hb => hp2.mem_iff.1 (by rcases List.mem_append.1 hb with h | h <;> simp [h])
    have hn2 : (f1 ++ g).Nodup := by
      have := hp2.symm.nodup hnd
      rw [List.nodup_append] at this ⊢
      exact ⟨this.1, (List.nodup_append.1 this.2.1).2.1, fun a ha b hb => this.2.2 a ha b (by simp [hb])⟩
    refine h _ _ ⟨hb, f1 ++ g, hn2, fun b hb => hl b (hmem b hb), f1, g, rfl, ?_, hsep.mono (fun b hb _ => ⟨fun hm => hb (hmem b hm), rfl⟩) (Nat.le_refl _) (fun _ _ => rfl)⟩
    exact Rep.ow_mono (hnew _ rfl) (fun _ _ => rfl) (fun b hb _ => ⟨fun hm => hb (hmem b hm), rfl⟩)
instance {α : Type} {iα : Rep α} {T k by_ : Nat} {sv : Value} {kk : IntKind} {n : Int} {m : Nat} {xs : List α} [hx : Ev l x sv] [hy : Ev l y (.int kk n)] [hm : ToN n m] [hT : Sl P T k by_] [hp : PullOw (List α) repList Γ [sv] xs Δ] :
    RedV (WL P ops Q w0 (⟨some d, .slice T x none (some y) none, ty, pos, after, none⟩ :: rest) l Γ) (0 ≤ n ∧ n ≤ xs.length) (fun sv' => WL P ops Q w0 rest (l.set d sv') (.ow [sv'] (xs.take m) :: Δ)) := ⟨fun s h => wl_slice_ow s h⟩

/-! ### An element of an owned list of lists: laid open when it is read -/
instance (priority := 900) {β : Type} {iβ : Rep β} {T m : Nat} {sv : Value} {xs : List (List β)} [h : Ev l x (.pointer (some (elemA sv (m : Int) 1)))] [hT : Sc P T] [hp : PullOw (List (List β)) repList Γ [sv] xs Δ] :
    RedO (WL P ops Q w0 (⟨some d, .load T x, ty, pos, after, none⟩ :: rest) l Γ) (m < xs.length) (fun v => WL P ops Q w0 rest (l.set d v) (.ow [sv] (Hole.mk xs m [v]) :: .ow [v] (xs.getD m default) :: Δ)) := ⟨fun s hw =>
  wl_focus (un := unoList) sv m (get_lt s) fun v _ => by
    refine wl_pure (v := v) (hd := ⟨rfl⟩) ?_ (hw v)
    have : HasPt (.ow [sv] (Hole.mk xs m [v]) :: .ow [v] (xs.getD m default) :: Δ) (elemA sv (m : Int) 1) [v] := HasPt.hole (hk := (⟨rfl⟩ : SzIs (List β) 1))
    exact pu_load_pt (hp := this)⟩
instance {α : Type} {iα : Rep α} {T k by_ : Nat} {j : Int} {m : Nat} {sv : Value} {xs : List α} {ec : List Value} {kk : IntKind} [h : Ev l x sv] [hn : Ev l y (.int kk j)] [hm : ToN j m] [hT : Sl P T k by_] [hr : HasRd (Hole α) repHole Γ [sv] (Hole.mk xs m ec)] :
    PuS P l Γ (.indexAddr T x y) ty (.pointer (some (elemA sv (m : Int) k))) (0 ≤ j) := ⟨fun s w0 => by
  have e : j = (m : Int) := by have := hm.eq; omega
  obtain ⟨el, inf, z, ht, hinf, hk, _⟩ := hT.ex
  refine pu_of (s := Instr.indexAt T sv (.int kk (m : Int))) (fun o ho _ => by unfold execOp; rw [ho]; simp only [h.eq, hn.eq, e]) (fun w hs => ?_)
  obtain ⟨b, cap, hsv, hi, _⟩ := hs.rd (hr := hr)
  obtain rfl : sv = _ := by simpa using hsv
  simp only at hi
  have h1 : (m : Int) < (xs.length : Int) := by omega
  simp [Instr.indexAt, asIntOf, run_underlying ht, sizeOf, typeInfo, hinf, hk, hi, elemA]⟩
instance {α : Type} {iα : Rep α} {T k kk n : Nat} {sv : Value} {xs : List α} {i : Nat} {ec vc : List Value} [hx : Ev l x (.pointer (some (elemA sv (i : Int) k)))] [hy : Ev l y v] [hc : Cs Γ v vc] [hT : Sz P T kk]
    [hb : PullOw (Hole α) repHole Γ [sv] (Hole.mk xs i ec) Δ] [hsz : SzIs α k] [hsp : Sp ec 0 vc vc] [hl : LenIs vc n] [hk : NatEq n kk] :
    Red (WL P ops Q w0 (⟨none, .store T x y, ty, pos, after, none⟩ :: rest) l Γ) (WL P ops Q w0 rest l (.ow [sv] (Hole.mk xs i vc) :: Δ)) := ⟨fun h =>
  wl_store_hole (m := 0) (hx := ⟨by rw [hx.eq]; simp [Addr.add]⟩) (hl.eq.trans hk.eq) h⟩

/-- Of an element of an owned list of lists: only how long it is. -/
instance {β : Type} {iβ : Rep β} {T m : Nat} {sv : Value} {xs : List (List β)} [h : Ev l x (.pointer (some (elemA sv (m : Int) 1)))] [hT : Sc P T] [hp : HasRd (List (List β)) repList Γ [sv] xs] :
    RedL (WL P ops Q w0 (⟨some d, .load T x, ty, pos, after, none⟩ :: rest) l Γ) (m < xs.length) (fun a c => WL P ops Q w0 rest (l.set d (.slice a (xs.getD m default).length c)) Γ) := ⟨fun s hw w hs => by
  obtain ⟨a, cap, b, off, p, c, s', rfl, _, _, hca, hpl, he, hrd⟩ := elem_cells (hs.rd (hr := hp)) (n := (m : Int)) (by omega) (by omega)
  obtain ⟨a', cap', rfl, _⟩ := hrd
  have hget : xs[(m : Int).toNat]'(by omega) = xs.getD m default := by
    simp only [Int.toNat_natCast]; rw [List.getD_eq_getElem?_getD, List.getElem?_eq_getElem s]; rfl
  rw [hget] at hca
  have h0 := hca.part 0 (by simp)
  simp only [Nat.add_zero, List.getElem?_cons_zero] at h0
  have he' : elemA (.slice (some ⟨b, off, none⟩) xs.length cap) (m : Int) 1 = ⟨b, off + p.length, none⟩ := he
  refine wl_op (v := .slice a' (xs.getD m default).length cap') (w' := w) rfl (run_value (f := Next.value) (s := Instr.loadAt T ((E l).eval x)) ?_) ?_
  · rw [h.eq, he']; simp [Instr.loadAt, Instr.sureAddr, loadVar, Sem.run_bind, hT.agg, load, Sem.run, h0]
  · rw [E_put]; exact hw _ _ w hs⟩
instance {T k b n c : Nat} {a : Option Addr} [h : Ev l x (.slice a n c)] [ht : Sl P T k b] : PuC P l Γ (.call { callee := .builtin .len, args := #[x], argTypes := #[T] }) ty (.int .i64 n) := ⟨fun w0 => by
  obtain ⟨e, i, z, ht, _⟩ := ht.ex
  refine pu_of (s := Builtin.len_ #[T] ty #[.slice a n c]) (fun o ho h2 => ?_) (fun w hs => ?_)
  · unfold execOp
    rw [ho]
    simp [resolve, invoke, builtin, h.eq, h2, Pure.pure, Bind.bind, Sem.bind]
  · simp [Builtin.len_, run_underlying ht, goInt]⟩

/-- A list that is nil if empty, compared with nil. -/
instance (priority := 1100) {T U k by_ : TypeId} {α : Type} {iα : Rep α} {z : NE α} {l1 l2 : List Value} [hx : Ev l x v] [hy : Ev l y (.slice none 0 0)] [hT : Sl P T k by_] [hr : HasNe α iα Γ [v] z] [h1 : Se l d (.bool true) l1] [h2 : Se l d (.bool false) l2] :
    RedQ (WL P ops Q w0 (⟨some d, .binOp .eql T x y U, ty, pos, after, none⟩ :: rest) l Γ) (z.xs = []) (¬ z.xs = []) (WL P ops Q w0 rest l1 Γ) (WL P ops Q w0 rest l2 Γ) := ⟨fun g1 g2 w hs => by
  obtain ⟨e, inf, zz, ht, _⟩ := hT.ex
  obtain ⟨hbel, F, hnd, hl, hsep⟩ := id hs
  have key : ∀ {a : Option Addr} {len cap : Nat}, v = .slice a len cap → Pu P w0 l Γ (.binOp .eql T x y U) ty (.bool a.isNone) := fun {a len cap} hv => by
    subst hv
    refine pu_bin (hx := hx) (hy := hy) eqGuard_slice (fun w => ?_)
    exact run_value (f := Value.bool) (run_equal_nil ht 9999 w)
  rcases hr.get hsep with ⟨hv, hz⟩ | ⟨hz, hrd⟩
  · have hv' : v = .slice none 0 0 := by simpa using hv
    exact wl_pure (v := .bool true) (hd := h1) (key hv') (g1 hz) w hs
  · obtain ⟨a, cap, hv, hc1, hc2, hc3, hc4⟩ := (id hrd : Rep.rd _ _ _ _)
    have hv' : v = .slice a z.xs.length cap := by simpa using hv
    have hpos : 0 < z.xs.length := by
      rcases Nat.eq_zero_or_pos z.xs.length with h | h
      · exact absurd (List.eq_nil_of_length_eq_zero h) hz
      · exact h
    obtain ⟨b, off, cells, rfl, _⟩ := hc4 hpos
    exact wl_pure (v := .bool false) (hd := h2) (by have := key hv'; simpa using this) (g2 hz) w hs⟩

theorem wl_nils {α : Type} {iα : Rep α} {n : Nat} [hn : PosN n] (cs : List Value) (hc : cs = List.replicate n (.slice none 0 0)) (h : WL P ops Q w0 rest l (.rd cs (Ar.mk (List.replicate n ⟨[]⟩) : Ar n (NE α)) :: Γ)) : WL P ops Q w0 rest l Γ := fun w hs => by
  obtain ⟨hbel, F, hnd, hl, hsep⟩ := hs
  refine h w ⟨hbel, F, hnd, hl, [], F, rfl, ⟨rfl, by simp, ?_⟩, hsep⟩
  subst hc
  have : ∀ k, RdL (· ∉ F) w (List.replicate k (.slice none 0 0)) (List.replicate k (⟨[]⟩ : NE α)) := fun k => by
    induction k with
    | zero => rfl
    | succ k ih => exact ⟨[.slice none 0 0], List.replicate k (.slice none 0 0), rfl, .inl ⟨rfl, rfl⟩, ih⟩
  exact this n
instance {T n : Nat} {α : Type} {iα : Rep α} [hT : ArN P T n α iα] [hn : PosN n] : RedZ (WL P ops Q w0 (⟨some d, .build T #[], ty, pos, after, none⟩ :: rest) l Γ) (fun cs => WL P ops Q w0 rest (l.set d (.agg cs.toArray)) (.rd cs (Ar.mk (List.replicate n ⟨[]⟩) : Ar n (NE α)) :: Γ)) := ⟨fun h =>
  wl_pure (v := .agg (List.replicate n (.slice none 0 0)).toArray) (hd := ⟨rfl⟩) (pu_of (s := Instr.build T #[]) (fun o ho _ => by unfold execOp; rw [ho]; simp) (fun w _ => hT.run w)) (wl_nils (α := α) (n := n) (List.replicate n (.slice none 0 0)) rfl (h _))⟩
instance {T n : Nat} [hT : ArB P T n] [hn : PosN n] : RedZ (WL P ops Q w0 (⟨some d, .build T #[], ty, pos, after, none⟩ :: rest) l Γ) (fun cs => WL P ops Q w0 rest (l.set d (.agg cs.toArray)) (.rd cs (Ar.mk (List.replicate n false) : Ar n Bool) :: Γ)) := ⟨fun h =>
  wl_pure (v := .agg (List.replicate n (.bool false)).toArray) (hd := ⟨rfl⟩) (pu_of (s := Instr.build T #[]) (fun o ho _ => by unfold execOp; rw [ho]; simp) (fun w _ => hT.run w)) (fun w hs => by
    obtain ⟨hbel, F, hnd, hl, hsep⟩ := hs
    refine h (List.replicate n (.bool false)) w ⟨hbel, F, hnd, hl, [], F, rfl, ⟨rfl, by simp, ?_⟩, hsep⟩
    have : ∀ k, RdL (· ∉ F) w (List.replicate k (.bool false)) (List.replicate k false) := fun k => by
      induction k with
      | zero => rfl
      | succ k ih => exact ⟨[.bool false], List.replicate k (.bool false), rfl, rfl, ih⟩
    exact this n)⟩
/-- The whole array as a result. -/
instance {t T b k n : Nat} {α : Type} {iα : Rep α} [hn : PosN n] {cs : List Value} {xs : List α} {rs : List ResultVar} {vs : List Value} [h : Ge l t (.pointer (some ⟨b, 0, none⟩))] [hT : Ag P T k] [hb : HasBk Γ b cs] [hr : HasRd (Ar n α) repAr Γ cs (Ar.mk xs)] [hsz : SzIs (Ar n α) k] [h' : Rs P Γ l rs vs] : Rs P Γ l (.cell t T :: rs) (.agg cs.toArray :: vs) :=
  rs_cons (fun {w0 w} hs => by
    obtain ⟨e, he⟩ := hs.bk (hr := hb)
    have hk : cs.length = k := by rw [hsz.eq]; exact Rep.rd_len (hs.rd (hr := hr))
    have hc := run_loadCells (P := P) (w := w) (p := ⟨b, 0, none⟩) (cs := cs) 0 #[] (fun j hj => by
      rw [add_lit, Nat.zero_add, Nat.zero_add]
      simp [World.cell?, he])
    rw [hk] at hc
    simp only [resOf, E_getD (h := h), asAddr, loadVar, Sem.run_bind, Sem.run_pure, Result.andThen_ok, hT.agg, if_true, hT.size, loadCells, hc]
    simp) h'
/-- What is read here is kept at hand. -/
theorem wc_dup {α : Type} {iα : Rep α} {c : Code} (cs : List Value) {z : α} [h : HasIm α iα Γ cs z] (hw : WC P Q w0 c l (.rd cs z :: Γ)) : WC P Q w0 c l Γ := fun w hs => hw w (by
  obtain ⟨hbel, F, hnd, hl, hsep⟩ := hs
  exact ⟨hbel, F, hnd, hl, [], F, rfl, ⟨rfl, h.get hsep⟩, hsep⟩)
end inst
end Go.Eng
