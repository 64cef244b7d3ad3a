/- Contracts that are shown for bare readings serve any context; an owned list laid open at one element. -/
import Derived.Test.YtjblieilblcdnaaEngJ
namespace Go.Eng
open Go Go.RowKit
set_option linter.unusedVariables false
set_option linter.unusedSimpArgs false

/-! ### From readings to any context -/

/-- What is owned holds no shared part. -/
class NoSh (α : Type) [i : Rep α] : Prop where
  ok : ∀ {ok ok' : Nat → Prop} {w : World} {F : List Nat} {cs : List Value} {x : α}, Rep.ow ok w F cs x → Rep.ow ok' w F cs x
instance : NoSh Int := ⟨fun h => h⟩
instance : NoSh Bool := ⟨fun h => h⟩
instance : NoSh ByteArray := ⟨fun h => h⟩
instance : NoSh UInt8 := ⟨fun h => h⟩
instance {α β : Type} [Rep α] [Rep β] [ha : NoSh α] [hb : NoSh β] : NoSh (α × β) := ⟨fun ⟨f, g, c, d, e, e', h, h'⟩ => ⟨f, g, c, d, e, e', ha.ok h, hb.ok h'⟩⟩
theorem OwL.ok {α : Type} [Rep α] [ha : NoSh α] {ok ok' : Nat → Prop} {w : World} : ∀ {F : List Nat} {cells : List Value} {xs : List α}, OwL ok w F cells xs → OwL ok' w F cells xs
  | _, _, [], h => h
  | _, _, _ :: _, ⟨f, g, c, d, e, e', h, h'⟩ => ⟨f, g, c, d, e, e', ha.ok h, OwL.ok h'⟩
instance {α : Type} [Rep α] [ha : NoSh α] : NoSh (List α) := ⟨fun h => by
  rcases h with h | ⟨g, cap, cur, e, G, cells, h1, h2, h3, h4, h5, h6, h7, h8, h9⟩
  · exact .inl h
  · exact .inr ⟨g, cap, cur, e, G, cells, h1, h2, h3, h4, h5, h6, h7, h8, h9.ok⟩⟩

/-- The atoms of this list do not mind what is shared. -/
class NoShL (A : List Atom) : Prop where
  ok : ∀ {ok ok' : Nat → Prop} {w : World} {F : List Nat}, Sep ok w A F → Sep ok' w A F
instance : NoShL [] := ⟨fun h => h⟩
instance {α : Type} {i : Rep α} [ha : @NoSh α i] {cs : List Value} {x : α} {A : List Atom} [h : NoShL A] : NoShL (@Atom.ow α i cs x :: A) :=
  ⟨fun ⟨f, g, e, h1, h2⟩ => ⟨f, g, e, ha.ok (show @Rep.ow α i _ _ _ _ _ from h1), h.ok h2⟩⟩

/-- Γ shows these readings. -/
class Reads (Γ R : List Atom) : Prop where
  get : ∀ {ok w F}, Sep ok w Γ F → Sep (fun _ => True) w R []
instance {Γ : List Atom} : Reads Γ [] := ⟨fun _ => rfl⟩
theorem reads_cons {Γ : List Atom} {α : Type} {i : Rep α} {cs : List Value} {x : α} {R : List Atom} (hr : HasRd α i Γ cs x) (h : Reads Γ R) : Reads Γ (@Atom.rd α i cs x :: R) :=
  ⟨fun hs => ⟨[], [], rfl, ⟨rfl, hr.get hs⟩, h.get hs⟩⟩

theorem cj_lift {P : Program} {f : FuncId} {vs : List Value} {w0 : World} {Γ R : List Atom} {ρ : Type} {r : ρ → Value} {A : ρ → List Atom} (h : ∀ w1, CJ P f vs w1 R r (fun p => A p ++ R)) (hr : Reads Γ R) (hA : ∀ p, NoShL (A p)) :
    CJ P f vs w0 Γ r (fun p => A p ++ Γ) := by
  rintro w ⟨hb, F, hn, hl, hs⟩
  have hR : Sat w w R := ⟨BelD.refl _ _, [], by simp, by simp, (hr.get hs).mono (fun b _ _ => ⟨by simp, rfl⟩) (Nat.le_refl _) (fun b hb => by cases hb)⟩
  refine (h w w hR).mono fun e w' ⟨p, he, hs'⟩ => ⟨p, he, ?_⟩
  obtain ⟨hb', F', hn', hl', hs''⟩ := hs'
  obtain ⟨f', g, rfl, h1, _⟩ := hs''.split
  have hlt := hs.lt
  have hf' : ∀ b ∈ f', w.heap.size ≤ b := fun b hb => hl' b (by simp [hb])
  refine ⟨hb.trans (hb'.mono hb.size), f' ++ F, ?_, ?_, Sep.append (hs.mono (fun b hb hlt' => ⟨fun hm => ?_, hb'.block b hlt'⟩) hb'.size (fun b hb => hb'.block b (hlt b hb))) ((hA p).ok h1)⟩
  · rw [List.nodup_append]
    exact ⟨(List.nodup_append.1 hn').1, hn, fun a ha b hb' e => by have := hf' a ha; have := hlt b hb'; omega⟩
  · intro b hb'
    rcases List.mem_append.1 hb' with hm | hm
    · exact Nat.le_trans hb.size (hf' b hm)
    · exact hl b hm
  · rcases List.mem_append.1 hm with hm | hm
    · exact Nat.lt_irrefl _ (Nat.lt_of_lt_of_le hlt' (hf' b hm))
    · exact hb hm

theorem cj_perm {P : Program} {f : FuncId} {vs : List Value} {w0 : World} {Γ Γ' : List Atom} {ρ : Type} {r : ρ → Value} {A : ρ → List Atom} (hp : Γ.Perm Γ') (h : CJ P f vs w0 Γ' r A) : CJ P f vs w0 Γ r A := fun w hs => h w (hs.perm hp)

/-! ### An owned value laid open -/
class UnO (α : Type) [Rep α] where
  Pr : Type
  cells : Pr → α → List Value
  atoms : Pr → α → List Atom
  fact : α → Prop
  law : ∀ {ok : Nat → Prop} {w : World} {F : List Nat} {cs : List Value} {x : α}, Rep.ow ok w F cs x → ∃ p, cs = cells p x ∧ Sep ok w (atoms p x) F ∧ fact x
instance unoInt : UnO Int := ⟨Unit, fun _ n => [.int .i64 n], fun _ _ => [], fun n => -9223372036854775808 ≤ n ∧ n ≤ 9223372036854775807, fun h => ⟨(), h.2.1, h.1, h.2.2⟩⟩
instance unoBool : UnO Bool := ⟨Unit, fun _ b => [.bool b], fun _ _ => [], fun _ => True, fun h => ⟨(), h.2, h.1, trivial⟩⟩
instance unoStr : UnO ByteArray := ⟨Unit, fun _ s => [.string s], fun _ _ => [], fun s => s.size ≤ 9223372036854775807, fun h => ⟨(), h.2.1, h.1, h.2.2⟩⟩
instance unoList {α : Type} [Rep α] : UnO (List α) := ⟨Value, fun c _ => [c], fun c xs => [.ow [c] xs], fun _ => True, fun {ok w F cs xs} h => by
  have hl := Rep.rd_len (x := xs) (Rep.ow_rd (ok' := fun _ => True) h (fun _ _ => trivial) (fun _ _ => trivial))
  match cs, hl with
  | [c], _ => exact ⟨c, rfl, ⟨F, [], by simp, h, rfl⟩, trivial⟩⟩
instance unoProd {α β : Type} [Rep α] [Rep β] [ua : UnO α] [ub : UnO β] : UnO (α × β) := ⟨ua.Pr × ub.Pr, fun p x => ua.cells p.1 x.1 ++ ub.cells p.2 x.2, fun p x => ua.atoms p.1 x.1 ++ ub.atoms p.2 x.2, fun x => ua.fact x.1 ∧ ub.fact x.2, fun h => by
  obtain ⟨f, g, c, d, rfl, rfl, h1, h2⟩ := h
  obtain ⟨p, rfl, hp, hf⟩ := ua.law h1
  obtain ⟨q, rfl, hq, hg⟩ := ub.law h2
  exact ⟨(p, q), rfl, Sep.append hq hp, hf, hg⟩⟩

/-! ### An owned list, one element taken out of it -/
structure Hole (α : Type) where
  xs : List α
  i : Nat
  ec : List Value

instance repHole {α : Type} [Rep α] : Rep (Hole α) where
  sz := 1
  rd ok w cs h := ∃ b cap, cs = [.slice (some ⟨b, 0, none⟩) h.xs.length cap] ∧ h.i < h.xs.length ∧ ok b ∧ b < w.heap.size ∧ CellsAt w b (h.i * Rep.sz α) h.ec
  ow ok w F cs h := ∃ b cap cur e p s t f1 f2, cs = [.slice (some ⟨b, 0, none⟩) h.xs.length cap] ∧ F = b :: (f1 ++ f2) ∧ w.heap[b]? = some (.cells cur e (0, 0)) ∧ cur.toList = p ++ h.ec ++ s ++ t ∧
    h.xs.length ≤ cap ∧ cap ≤ maxLen ∧ h.xs.length ≤ 9223372036854775807 ∧ cap * Rep.sz α ≤ cur.size ∧ h.ec.length = Rep.sz α ∧ h.i < h.xs.length ∧
    OwL ok w f1 p (h.xs.take h.i) ∧ OwL ok w f2 s (h.xs.drop (h.i + 1))
  pos := by decide
  rd_len := by rintro _ _ _ _ ⟨_, _, rfl, _⟩; rfl
  rd_one := by rintro _ _ _ _ ⟨_, _, rfl, _⟩; simp [Value.oneCell']
  rd_mono := by
    rintro ok ok' w w' _ x ⟨b, cap, rfl, h1, h2, h3, h4⟩ hm
    have hlt : b < w'.heap.size := by
      have := (hm b h2 h3).2
      unfold SameB at this
      rw [Array.getElem?_eq_getElem h3] at this
      exact (Array.getElem?_eq_some_iff.1 this).1
    exact ⟨b, cap, rfl, h1, (hm b h2 h3).1, hlt, h4.mono (hm b h2 h3).2⟩
  ow_mono := by
    rintro ok ok' w w' F _ x ⟨b, cap, cur, e, p, s, t, f1, f2, rfl, rfl, h1, h2, h3, h4, h5, h6, h7, h8, h9, h10⟩ hf hm
    exact ⟨b, cap, cur, e, p, s, t, f1, f2, rfl, rfl, (hf b (by simp)).trans h1, h2, h3, h4, h5, h6, h7, h8, h9.mono hm (fun k hk => hf k (by simp [hk])), h10.mono hm (fun k hk => hf k (by simp [hk]))⟩
  ow_rd := by
    rintro ok ok' w F _ x ⟨b, cap, cur, e, p, s, t, f1, f2, rfl, rfl, h1, h2, h3, h4, h5, h6, h7, h8, h9, h10⟩ ho hf
    refine ⟨b, cap, rfl, h8, hf b (by simp), (Array.getElem?_eq_some_iff.1 h1).1, fun j hj => ?_⟩
    have hp : p.length = x.i * Rep.sz α := by rw [h9.len, List.length_take]; congr 1; omega
    simp only [World.cell?, h1]
    rw [← hp, ← Array.getElem?_toList, h2]
    simp only [List.append_assoc]
    rw [List.getElem?_append_right (by omega), Nat.add_sub_cancel_left, List.getElem?_append_left hj]
    rfl
  ow_lt := by
    rintro ok w F _ x ⟨b, cap, cur, e, p, s, t, f1, f2, rfl, rfl, h1, h2, h3, h4, h5, h6, h7, h8, h9, h10⟩ k hk
    simp only [List.mem_cons, List.mem_append] at hk
    rcases hk with rfl | hk | hk
    · exact (Array.getElem?_eq_some_iff.1 h1).1
    · exact h9.lt k hk
    · exact h10.lt k hk

theorem sep_focus {α : Type} [Rep α] [un : UnO α] {ok : Nat → Prop} {w : World} {sv : Value} {xs : List α} {i : Nat} {y : α} (hi : xs[i]? = some y) {F : List Nat} (h : Rep.ow ok w F [sv] xs) :
    ∃ (p : un.Pr) (G : List Nat), G.Perm F ∧ un.fact y ∧ Sep ok w (.ow [sv] (Hole.mk xs i (un.cells p y)) :: un.atoms p y) G := by
  obtain ⟨hlt, hy⟩ := List.getElem?_eq_some_iff.1 hi
  rw [ow_list] at h
  rcases h with ⟨_, rfl, rfl⟩ | ⟨b, cap, cur, e, G, cells, hov, rfl, hgb, hcap, hcapm, hlen, hcs, htake, hO⟩
  · simp at hlt
  obtain ⟨f1, fo, f2, p, c, s, rfl, hcells, hold, hO1, hO2⟩ := hO.get i hlt
  rw [hy] at hold
  have hcl : c.length = Rep.sz α := Rep.rd_len (x := y) (Rep.ow_rd (ok' := fun _ => True) hold (fun _ _ => trivial) (fun _ _ => trivial))
  obtain ⟨q, rfl, hat, hf⟩ := un.law hold
  refine ⟨q, (b :: (f1 ++ f2)) ++ fo, ?_, hf, b :: (f1 ++ f2), fo, rfl, ⟨b, cap, cur, e, p, s, cur.toList.drop (xs.length * Rep.sz α), f1, f2, hov, rfl, hgb, ?_, hcap, hcapm, hlen, hcs, hcl, hlt, hO1, hO2⟩, hat⟩
  · rw [List.cons_append]
    refine List.Perm.cons b ?_
    rw [List.append_assoc, List.append_assoc]
    exact List.perm_append_comm.append_left f1
  · rw [← hcells, ← htake]; simp

theorem sep_unfocus {α : Type} [Rep α] {ok : Nat → Prop} {w : World} {sv : Value} {xs : List α} {i : Nat} {ec : List Value} {y : α} {F G : List Nat} (h : Rep.ow ok w F [sv] (Hole.mk xs i ec)) (hy : Rep.ow ok w G ec y) :
    ∃ H : List Nat, H.Perm (F ++ G) ∧ Rep.ow ok w H [sv] (xs.set i y) := by
  obtain ⟨b, cap, cur, e, p, s, t, f1, f2, h0, rfl, h1, h2, h3, h4, h5, h6, h7, h8, h9, h10⟩ := h
  simp only at h0 h2 h3 h5 h8 h9 h10 h7
  refine ⟨b :: (f1 ++ G ++ f2), ?_, ?_⟩
  · rw [List.cons_append]
    refine List.Perm.cons b ?_
    rw [List.append_assoc, List.append_assoc]
    exact List.perm_append_comm.append_left f1
  · rw [ow_list]
    have hset : xs.set i y = xs.take i ++ [y] ++ xs.drop (i + 1) := by
      rw [List.set_eq_take_append_cons_drop, if_pos h8]; simp
    have hO : OwL ok w (f1 ++ G ++ f2) (p ++ ec ++ s) (xs.set i y) := by
      rw [hset]
      exact OwL.append h10 (OwL.append (show OwL ok w G ec [y] from ⟨G, [], ec, [], by simp, by simp, hy, rfl, rfl⟩) h9)
    refine .inr ⟨b, cap, cur, e, f1 ++ G ++ f2, p ++ ec ++ s, by rw [List.length_set]; exact h0, rfl, h1, by simpa using h3, h4, by simpa using h5, h6, ?_, hO⟩
    rw [h2, ← hO.len]
    exact List.take_left ..

section walk
variable {P : Program} {ops : Array Oper} {Q : Exit → Act → World → Prop} {w0 : World} {rest : List Oper} {l l' : List Value} {Γ Δ Ε : List Atom} {ty : TypeId} {v : Value} {pos : String} {after : Array Edge} {d : Nat}

theorem sat_focus {α : Type} {iα : Rep α} [un : UnO α] {sv : Value} {xs : List α} {i : Nat} {y : α} [hp : PullOw (List α) repList Γ [sv] xs Δ] (hi : xs[i]? = some y) {w : World} (hs : Sat w0 w Γ) :
    ∃ p : un.Pr, un.fact y ∧ Sat w0 w (.ow [sv] (Hole.mk xs i (un.cells p y)) :: (un.atoms p y ++ Δ)) := by
  obtain ⟨hb, F, hn, hl, f, g, rfl, hf, hΔ⟩ := hs.perm hp.perm
  obtain ⟨p, G, hG, hfact, hsep⟩ := sep_focus (un := un) hi (show Rep.ow _ _ _ _ _ from hf)
  have hperm : (G ++ g).Perm (f ++ g) := hG.append_right g
  refine ⟨p, hfact, hb, G ++ g, hperm.symm.nodup hn, fun b hb' => hl b (hperm.mem_iff.1 hb'), ?_⟩
  have := Sep.append hΔ hsep
  exact Sep.notin hperm (by simpa using this)

theorem wl_focus {α : Type} {iα : Rep α} [un : UnO α] (sv : Value) (i : Nat) {xs : List α} {y : α} [hp : PullOw (List α) repList Γ [sv] xs Δ] (hi : xs[i]? = some y)
    (h : ∀ p : un.Pr, un.fact y → WL P ops Q w0 rest l (.ow [sv] (Hole.mk xs i (un.cells p y)) :: (un.atoms p y ++ Δ))) : WL P ops Q w0 rest l Γ := fun w hs => by
  obtain ⟨p, hf, hs'⟩ := sat_focus (un := un) (hp := hp) hi hs
  exact h p hf w hs'
theorem sat_unfocus {α : Type} {iα : Rep α} {sv : Value} {xs : List α} {i : Nat} {ec : List Value} {y : α} [hp : PullOw (Hole α) repHole Γ [sv] (Hole.mk xs i ec) Δ] (ho : Own Δ ec y Ε) {w : World} (hs : Sat w0 w Γ) : Sat w0 w (.ow [sv] (xs.set i y) :: Ε) := by
  obtain ⟨hb, F, hn, hl, f, g, rfl, hf, hΔ⟩ := hs.perm hp.perm
  obtain ⟨g2, hg2, fx, ge, rfl, hx2, hE⟩ := ho hΔ
  obtain ⟨H, hH, how⟩ := sep_unfocus (show Rep.ow _ _ _ _ _ from hf) (show Rep.ow _ _ _ _ _ from hx2)
  have hperm : (H ++ ge).Perm (f ++ g) := (hH.append_right ge).trans (by rw [List.append_assoc]; exact hg2.append_left f)
  refine ⟨hb, H ++ ge, hperm.symm.nodup hn, fun b hb' => hl b (hperm.mem_iff.1 hb'), ?_⟩
  exact Sep.notin hperm ⟨H, ge, rfl, how, hE⟩
theorem wl_unfocus {α : Type} {iα : Rep α} (sv : Value) {xs : List α} {i : Nat} {ec : List Value} (y : α) [hp : PullOw (Hole α) repHole Γ [sv] (Hole.mk xs i ec) Δ] (ho : Own Δ ec y Ε)
    (h : WL P ops Q w0 rest l (.ow [sv] (xs.set i y) :: Ε)) : WL P ops Q w0 rest l Γ := fun w hs => h w (sat_unfocus (hp := hp) ho hs)
/-! ### Operations at the hole -/
theorem wl_index_hole {T k by_ : Nat} {x y : Operand} {sv : Value} {i : Nat} {α : Type} {iα : Rep α} {xs : List α} {ec : List Value} {kk : IntKind} [h : Ev l x sv] [hn : Ev l y (.int kk (i : Int))] [hT : Sl P T k by_] [hr : HasRd (Hole α) repHole Γ [sv] (Hole.mk xs i ec)]
    [hd : Se l d (.pointer (some (elemA sv (i : Int) k))) l'] (hw : WL P ops Q w0 rest l' Γ) : WL P ops Q w0 (⟨some d, .indexAddr T x y, ty, pos, after, none⟩ :: rest) l Γ := by
  refine wl_pure (v := .pointer (some (elemA sv (i : Int) k))) (hd := hd) ?_ hw
  obtain ⟨e, inf, z, ht, hinf, hk, _⟩ := hT.ex
  refine pu_of (s := Instr.indexAt T sv (.int kk (i : Int))) (fun o ho _ => by unfold execOp; rw [ho]; simp only [h.eq, hn.eq]) (fun w hs => ?_)
  obtain ⟨b, cap, hsv, hi, _⟩ := hs.rd (hr := hr)
  obtain rfl : sv = _ := by simpa using hsv
  simp only at hi
  have h1 : (i : Int) < (xs.length : Int) := by omega
  simp [Instr.indexAt, asIntOf, run_underlying ht, sizeOf, typeInfo, hinf, hk, hi, elemA]

theorem hole_cells {α : Type} {iα : Rep α} {sv : Value} {xs : List α} {i k : Nat} {ec : List Value} {w : World} (hr : Rep.rd (fun _ => True) w [sv] (Hole.mk xs i ec)) (hk : k = Rep.sz α) :
    CellsP w (elemA sv (i : Int) k) ec := by
  obtain ⟨b, cap, hsv, hi, _, _, hc⟩ := hr
  obtain rfl : sv = _ := by simpa using hsv
  intro j hj
  simp only [elemA, add_lit, Nat.zero_add, Int.toNat_natCast, hk]
  exact hc j hj

/-- The size of a reading in cells, found by looking. -/
class SzIs (α : Type) [Rep α] (k : outParam Nat) : Prop where
  eq : k = Rep.sz α
instance : SzIs Int 1 := ⟨rfl⟩
instance : SzIs Bool 1 := ⟨rfl⟩
instance : SzIs ByteArray 1 := ⟨rfl⟩
instance : SzIs UInt8 1 := ⟨rfl⟩
instance {α : Type} [Rep α] : SzIs (List α) 1 := ⟨rfl⟩
instance {α β : Type} [Rep α] [Rep β] {a b k : Nat} [ha : SzIs α a] [hb : SzIs β b] [h : NatAdd a b k] : SzIs (α × β) k := ⟨by rw [← h.eq, ha.eq, hb.eq]; rfl⟩

theorem wc_look {α : Type} {iα : Rep α} [inh : Inhabited α] [un : Un α] {c : Code} {k : Nat} (sv : Value) (n : Nat) {xs : List α} [hr : HasIm (List α) repList Γ [sv] xs] [hk : SzIs α k] (hi : n < xs.length)
    (h : ∀ p : Un.Pr α, Un.fact (xs.getD n default) → WC P Q w0 c l (.pt (elemA sv (n : Int) k) (Un.cells p (xs.getD n default)) :: (Un.atoms p (xs.getD n default) ++ Γ))) : WC P Q w0 c l Γ := by
  refine wc_peek sv (n : Int) ⟨by omega, by omega⟩ fun p hf => ?_
  rw [← hk.eq]
  simp only [Int.toNat_natCast] at hf ⊢
  exact h p hf

instance (priority := 1095) HasPt.hole {α : Type} {iα : Rep α} {sv : Value} {xs : List α} {i k : Nat} {ec : List Value} [hk : SzIs α k] : HasPt (.ow [sv] (Hole.mk xs i ec) :: Γ) (elemA sv (i : Int) k) ec :=
  ⟨fun ⟨_, _, _, h, _⟩ => hole_cells (Rep.ow_rd (ok' := fun _ => True) (show Rep.ow _ _ _ [sv] (Hole.mk xs i ec) from h) (fun _ _ => trivial) (fun _ _ => trivial)) hk.eq⟩

theorem wl_store_hole {α : Type} {iα : Rep α} {T k kk m : Nat} {x y : Operand} {sv : Value} {xs : List α} {i : Nat} {ec vc ec' : List Value} [hx : Ev l x (.pointer (some ((elemA sv (i : Int) k).add m)))] [hy : Ev l y v] [hc : Cs Γ v vc] [hT : Sz P T kk]
    [hb : PullOw (Hole α) repHole Γ [sv] (Hole.mk xs i ec) Δ] [hsz : SzIs α k] [hsp : Sp ec m vc ec'] (hkk : vc.length = kk) (h : WL P ops Q w0 rest l (.ow [sv] (Hole.mk xs i ec') :: Δ)) :
    WL P ops Q w0 (⟨none, .store T x y, ty, pos, after, none⟩ :: rest) l Γ := by
  intro w hs
  obtain ⟨hvc, hone⟩ := hs.cs (hc := hc)
  obtain ⟨he', hle'⟩ := hsp.eq
  obtain ⟨hbelow, F, hnd, hl, f, g, rfl, hf, hΔ⟩ := hs.perm hb.perm
  obtain ⟨b, cap, cur, e, p, s, t, f1, f2, h0, rfl, h1, h2, h3, h4, h5, h6, h7, h8, h9, h10⟩ := (show Rep.ow (· ∉ f ++ g) w f [sv] (Hole.mk xs i ec) from hf)
  simp only at h0 h2 h3 h5 h8 h9 h10 h7
  obtain rfl : sv = _ := by simpa using h0
  have hpl : p.length = i * Rep.sz α := by rw [h9.len, List.length_take]; congr 1; omega
  have hle : p.length + m + 0 + vc.length ≤ cur.size := by
    have := congrArg List.length h2
    simp only [List.length_append, Array.length_toList] at this
    omega
  have hr := run_storeCells_at P b (p.length + m) e vc 0 cur w h1 hle hone
  simp only [Nat.add_zero] at hr
  have hnew : cur.toList.take (p.length + m) ++ vc ++ cur.toList.drop (p.length + m + vc.length) = p ++ ec' ++ s ++ t := by
    rw [h2, he', show p ++ ec ++ s ++ t = p ++ (ec ++ (s ++ t)) by simp, List.take_length_add_append, show p.length + m + vc.length = p.length + (m + vc.length) by omega, List.drop_length_add_append,
      List.take_append_of_le_length (by omega), List.drop_append_of_le_length (by omega)]
    simp
  rw [hnew] at hr
  have hrun : (execOp (E l).eval ⟨none, .store T x y, ty, pos, after, none⟩).run P w = .ok .skip (w.setRow b (p ++ ec' ++ s ++ t).toArray) := by
    show (do Instr.storeAt T ((E l).eval x) ((E l).eval y); pure Next.skip : Sem Next).run P w = _
    have hea : (elemA (.slice (some ⟨b, 0, none⟩) xs.length cap) (i : Int) k).add m = ⟨b, p.length + m, none⟩ := by
      simp only [elemA, add_lit, Nat.zero_add, Int.toNat_natCast, hpl, hsz.eq]
    simp only [hx.eq, hy.eq, Sem.run_bind, Instr.storeAt, Instr.sureAddr, Sem.run_pure, Result.andThen_ok, storeVar, hT.size, hvc, hea]
    simp only [List.size_toArray, hkk, ne_eq, not_true_eq_false, if_false, Sem.run_pure, Result.andThen_ok, Sem.run_bind]
    simp only [hr, Result.andThen_ok]
  refine wpList_plain rfl fun K hK => ?_
  unfold Oper.wp
  rw [hrun, Oper.upon_skip, E_put_none]
  refine hK _ _ (h _ ?_)
  have hblt : b < w.heap.size := (Array.getElem?_eq_some_iff.1 h1).1
  have hsame : ∀ k, k ≠ b → SameB w (w.setRow b (p ++ ec' ++ s ++ t).toArray) k := fun k hk => setRow_other w b k _ hk
  have hnd1 := List.nodup_append.1 hnd
  have hbf : b ∉ f1 ++ f2 := (List.nodup_cons.1 hnd1.1).1
  refine Sat.step' (Δ' := [.ow [_] (Hole.mk xs i ec')]) (Γ := Δ) (f := b :: (f1 ++ f2)) (g := g) (w := w) hbelow hnd hl hΔ
    ⟨rfl, rfl, rfl, by simp, (by first | exact Nat.le_refl _ | exact Nat.le_add_right _ _)⟩ (fun k _ hk => hsame k (fun h => hk (by simp [h]))) (b :: (f1 ++ f2)) hnd1.1 (fun k hk => .inl hk) (fun ok' hok' => ⟨b :: (f1 ++ f2), [], by simp, ?_, rfl⟩)
  have hok2 : ∀ k, k ∉ (b :: (f1 ++ f2)) ++ g → k < w.heap.size → ok' k ∧ SameB w (w.setRow b (p ++ ec' ++ s ++ t).toArray) k :=
    fun k hk hlt => ⟨hok' k hk hlt, hsame k (fun h => hk (by simp [h]))⟩
  have hel : ec'.length = ec.length := by
    have := congrArg List.length he'
    simp only [List.length_append, List.length_take, List.length_drop] at this
    omega
  refine ⟨b, cap, (p ++ ec' ++ s ++ t).toArray, e, p, s, t, f1, f2, rfl, rfl, setRow_heap w b cur _ e _ h1, by simp, h3, h4, h5, ?_, by simpa [hel] using h7, h8, ?_, ?_⟩
  · have := congrArg List.length h2
    simp only [List.length_append, Array.length_toList] at this
    simp only [List.size_toArray, List.length_append]
    omega
  · exact h9.mono hok2 (fun k hk => hsame k (fun h => hbf (by simp [← h, hk])))
  · exact h10.mono hok2 (fun k hk => hsame k (fun h => hbf (by simp [← h, hk])))
/-! ### A slice compared with nil -/
theorem run_equal_nil {T e : TypeId} {a : Option Addr} {n c : Nat} (ht : P.underlying T = some (.slice e)) (m : Nat) (w : World) : (Op.equalIn (m + 1) T (.slice a n c) (.slice none 0 0)).run P w = .ok a.isNone w := by
  cases a <;> simp only [Op.equalIn, Sem.run_bind, run_underlying ht, Result.andThen_ok, Sem.run_pure, Option.isNone_none, Option.isNone_some]
theorem eqGuard_slice {op : BinOp} {T : TypeId} {x y : Operand} {a b : Option Addr} {n c n' c' : Nat} (w : World) : (eqGuard op T x y (.slice a n c) (.slice b n' c')).run P w = .ok () w := by
  unfold eqGuard; split <;> rfl
theorem wl_eql_nil {T U k by_ : TypeId} {x y : Operand} {sv : Value} {α : Type} {iα : Rep α} {xs : List α} [hx : Ev l x sv] [hy : Ev l y (.slice none 0 0)] [hT : Sl P T k by_] [hr : HasRd (List α) repList Γ [sv] xs]
    (h : ∀ bq : Bool, (bq = true → xs = []) → (bq = false → sv ≠ .slice none 0 0) → WL P ops Q w0 rest (l.set d (.bool bq)) Γ) : WL P ops Q w0 (⟨some d, .binOp .eql T x y U, ty, pos, after, none⟩ :: rest) l Γ := by
  intro w hs
  obtain ⟨e, inf, z, ht, _⟩ := hT.ex
  obtain ⟨a, cap, hsv, _, _, _, h2⟩ := hs.rd (hr := hr)
  obtain rfl : sv = _ := by simpa using hsv
  refine wl_pure (v := .bool a.isNone) (hd := ⟨rfl⟩) ?_ (h a.isNone ?_ ?_) w hs
  · refine pu_bin (hx := hx) (hy := hy) eqGuard_slice (fun w => ?_)
    exact run_value (f := Value.bool) (run_equal_nil ht 9999 w)
  · intro hn
    by_cases hp : 0 < xs.length
    · obtain ⟨b, off, cells, rfl, _⟩ := h2 hp
      simp at hn
    · exact List.length_eq_zero_iff.1 (by omega)
  · intro hn he
    injection he with he1
    subst he1
    simp at hn
end walk
end Go.Eng
