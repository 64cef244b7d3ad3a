/- What a walk knows of memory: a list of atoms, each a reading that may be shared or a part that is owned; how it stands changes. -/
import Derived.Test.YtjblieilblcdnaaEngA
namespace Go.Eng
open Go Go.RowKit
set_option linter.unusedVariables false

inductive Atom : Type 1
  | rd {α : Type} [Rep α] (cs : List Value) (x : α)
  | ow {α : Type} [Rep α] (cs : List Value) (x : α)
  | bk (b : Nat) (cs : List Value)
  | pt (p : Addr) (cs : List Value)

/-- Cells at an address that need not be written out. -/
def CellsP (w : World) (p : Addr) (cs : List Value) : Prop := ∀ j, j < cs.length → w.cell? (p.add j) = cs[j]?

theorem add_block (p : Addr) (j : Nat) : (p.add j).block = p.block := by unfold Addr.add; split <;> rfl

def Atom.holds (ok : Nat → Prop) (w : World) : Atom → List Nat → Prop
  | @Atom.rd α i cs x, F => F = [] ∧ @Rep.rd α i ok w cs x
  | @Atom.ow α i cs x, F => @Rep.ow α i ok w F cs x
  | .bk b cs, F => F = [b] ∧ ∃ e, w.heap[b]? = some (.cells cs.toArray e (0, 0))
  | .pt p cs, F => F = [] ∧ ok p.block ∧ p.block < w.heap.size ∧ CellsP w p cs

def Sep (ok : Nat → Prop) (w : World) : List Atom → List Nat → Prop
  | [], F => F = []
  | A :: Γ, F => ∃ f g, F = f ++ g ∧ A.holds ok w f ∧ Sep ok w Γ g

/-- What is below B is as it was; no draw is undone. -/
structure BelD (B : Nat) (w w' : World) : Prop where
  os : w'.os = w.os
  tape : w'.tape = w.tape
  output : w'.output = w.output
  size : w.heap.size ≤ w'.heap.size
  drawn : w.drawn ≤ w'.drawn
  block : ∀ k, k < B → w'.heap[k]? = w.heap[k]?
theorem BelD.low {B : Nat} {w w' : World} (h : BelD B w w') : Below B w w' := ⟨h.os, h.tape, h.output, h.size, h.block⟩
theorem BelD.of {B : Nat} {w w' : World} (h : Below B w w') (hd : w.drawn ≤ w'.drawn) : BelD B w w' := ⟨h.os, h.tape, h.output, h.size, hd, h.block⟩
theorem BelD.refl (B : Nat) (w : World) : BelD B w w := ⟨rfl, rfl, rfl, Nat.le_refl _, Nat.le_refl _, fun _ _ => rfl⟩
theorem BelD.trans {B : Nat} {a b c : World} (h : BelD B a b) (k : BelD B b c) : BelD B a c := .of (h.low.trans k.low) (Nat.le_trans h.drawn k.drawn)
theorem BelD.mono {B B' : Nat} {w w' : World} (h : BelD B w w') (hB : B' ≤ B) : BelD B' w w' := .of (h.low.mono hB) h.drawn
theorem BelD.drew {B : Nat} {a w : World} (h : BelD B a w) : BelD B a w.drew := .of h.low.drew (Nat.le_trans h.drawn (Nat.le_add_right _ _))
theorem BelD.alloc {B : Nat} {a w : World} (h : BelD B a w) (hB : B ≤ w.heap.size) (o : Obj) : BelD B a (w.alloc o) := .of (h.low.alloc hB o) h.drawn
theorem BelD.setCell {B : Nat} {a w : World} (h : BelD B a w) {p : Addr} (hp : B ≤ p.block) (u : Value) : BelD B a (w.setCell p u) := .of (h.low.setCell hp u) h.drawn
structure Sat (w0 w : World) (Γ : List Atom) : Prop where
  base : BelD w0.heap.size w0 w
  sep : ∃ F, F.Nodup ∧ (∀ b ∈ F, w0.heap.size ≤ b) ∧ Sep (· ∉ F) w Γ F

theorem Atom.holds_mono {ok ok' : Nat → Prop} {w w' : World} (hm : ∀ b, ok b → b < w.heap.size → ok' b ∧ SameB w w' b) (hs : w.heap.size ≤ w'.heap.size) :
    ∀ {A : Atom} {F : List Nat}, A.holds ok w F → (∀ b ∈ F, SameB w w' b) → A.holds ok' w' F
  | @Atom.rd _ _ _ _, _, h, _ => ⟨h.1, Rep.rd_mono h.2 hm⟩
  | @Atom.ow _ _ _ _, _, h, hf => Rep.ow_mono h hf hm
  | .bk _ _, _, ⟨h, e, h'⟩, hf => ⟨h, e, by rw [hf _ (by simp [h])]; exact h'⟩
  | .pt p _, _, ⟨h, h1, h2, h3⟩, _ =>
    ⟨h, (hm _ h1 h2).1, Nat.lt_of_lt_of_le h2 hs, fun j hj => (cell_same (by rw [add_block]; exact (hm _ h1 h2).2)).trans (h3 j hj)⟩

theorem Atom.holds_lt {ok : Nat → Prop} {w : World} : ∀ {A : Atom} {F : List Nat}, A.holds ok w F → ∀ b ∈ F, b < w.heap.size
  | @Atom.rd _ _ _ _, _, h, b, hb => by rw [h.1] at hb; cases hb
  | @Atom.ow _ _ _ _, _, h, b, hb => Rep.ow_lt h b hb
  | .bk _ _, _, ⟨h, e, h'⟩, b, hb => by
    rw [h] at hb
    obtain rfl : b = _ := by simpa using hb
    exact (Array.getElem?_eq_some_iff.1 h').1
  | .pt _ _, _, h, b, hb => by rw [h.1] at hb; cases hb

theorem Sep.mono {ok ok' : Nat → Prop} {w w' : World} (hm : ∀ b, ok b → b < w.heap.size → ok' b ∧ SameB w w' b) (hs : w.heap.size ≤ w'.heap.size) :
    ∀ {Γ : List Atom} {F : List Nat}, Sep ok w Γ F → (∀ b ∈ F, SameB w w' b) → Sep ok' w' Γ F
  | [], _, h, _ => h
  | _ :: _, _, ⟨f, g, e, h, h'⟩, hf =>
    ⟨f, g, e, Atom.holds_mono hm hs h (fun b hb => hf b (by simp [e, hb])), Sep.mono hm hs h' (fun b hb => hf b (by simp [e, hb]))⟩

theorem Sep.lt {ok : Nat → Prop} {w : World} : ∀ {Γ : List Atom} {F : List Nat}, Sep ok w Γ F → ∀ b ∈ F, b < w.heap.size
  | [], _, h, b, hb => by rw [h] at hb; cases hb
  | _ :: _, _, ⟨f, g, e, h, h'⟩, b, hb => by
    rw [e] at hb
    rcases List.mem_append.1 hb with hb | hb
    · exact Atom.holds_lt h b hb
    · exact Sep.lt h' b hb

theorem Sep.append {ok : Nat → Prop} {w : World} {Δ : List Atom} {G : List Nat} (h2 : Sep ok w Δ G) : ∀ {Γ : List Atom} {F : List Nat}, Sep ok w Γ F → Sep ok w (Γ ++ Δ) (F ++ G)
  | [], _, h => by rw [show _ = [] from h]; simpa using h2
  | _ :: _, _, ⟨f, g, e, h, h'⟩ => ⟨f, g ++ G, by rw [e, List.append_assoc], h, Sep.append h2 h'⟩

theorem Sep.split {ok : Nat → Prop} {w : World} {Δ : List Atom} : ∀ {Γ : List Atom} {F : List Nat}, Sep ok w (Γ ++ Δ) F → ∃ f g, F = f ++ g ∧ Sep ok w Γ f ∧ Sep ok w Δ g
  | [], F, h => ⟨[], F, rfl, rfl, h⟩
  | _ :: _, _, ⟨f, g, e, h, h'⟩ => by
    obtain ⟨f', g', e', h1, h2⟩ := Sep.split h'
    exact ⟨f ++ f', g', by rw [e, e', List.append_assoc], ⟨f, f', rfl, h, h1⟩, h2⟩

/-- The order of the atoms does not matter. -/
theorem Sep.perm {ok : Nat → Prop} {w : World} {Γ Δ : List Atom} (hp : Γ.Perm Δ) : ∀ {F : List Nat}, Sep ok w Γ F → ∃ G, G.Perm F ∧ Sep ok w Δ G := by
  induction hp with
  | nil => exact fun {F} h => ⟨F, .refl _, h⟩
  | cons A _ ih =>
    rintro F ⟨f, g, rfl, h, h'⟩
    obtain ⟨G, hG, h2⟩ := ih h'
    exact ⟨f ++ G, hG.append_left f, f, G, rfl, h, h2⟩
  | swap A B Γ =>
    rintro F ⟨f, _, rfl, h, g, k, rfl, h', h''⟩
    exact ⟨g ++ (f ++ k), by rw [← List.append_assoc, ← List.append_assoc]; exact List.perm_append_comm.append_right k, g, f ++ k, rfl, h', f, k, rfl, h, h''⟩
  | trans _ _ ih1 ih2 =>
    intro F h
    obtain ⟨G, hG, h1⟩ := ih1 h
    obtain ⟨H, hH, h2⟩ := ih2 h1
    exact ⟨H, hH.trans hG, h2⟩

theorem Sep.notin {w : World} {Γ : List Atom} {F G : List Nat} (hp : G.Perm F) (h : Sep (· ∉ F) w Γ G) : Sep (· ∉ G) w Γ G :=
  Sep.mono (fun b hb _ => ⟨fun h => hb (hp.mem_iff.1 h), rfl⟩) (Nat.le_refl _) h (fun _ _ => rfl)

theorem Sat.perm {w0 w : World} {Γ Δ : List Atom} (h : Sat w0 w Γ) (hp : Γ.Perm Δ) : Sat w0 w Δ := by
  obtain ⟨hb, F, hn, hl, hs⟩ := h
  obtain ⟨G, hG, h2⟩ := hs.perm hp
  exact ⟨hb, G, hG.symm.nodup hn, fun b hb => hl b (hG.mem_iff.1 hb), h2.notin hG⟩

/-- The first atom is let go. -/
theorem Sat.drop {w0 w : World} {A : Atom} {Γ : List Atom} (h : Sat w0 w (A :: Γ)) : Sat w0 w Γ := by
  obtain ⟨hb, F, hn, hl, f, g, rfl, _, h'⟩ := h
  exact ⟨hb, g, (List.nodup_append.1 hn).2.1, fun b hb => hl b (by simp [hb]),
    h'.mono (fun b hb _ => ⟨fun hg => hb (by simp [hg]), rfl⟩) (Nat.le_refl _) (fun _ _ => rfl)⟩

theorem Sat.dropN {w0 w : World} {Δ Γ : List Atom} (h : Sat w0 w (Δ ++ Γ)) : Sat w0 w Γ := by
  induction Δ with
  | nil => exact h
  | cons A Δ ih => exact ih h.drop

theorem Sat.size {w0 w : World} {Γ : List Atom} (h : Sat w0 w Γ) : w0.heap.size ≤ w.heap.size := h.base.size

/-- The world may grow; nothing that is there turns. -/
theorem Sat.ext {w0 w w' : World} {Γ : List Atom} (h : Sat w0 w Γ) (he : BelD w.heap.size w w') : Sat w0 w' Γ := by
  obtain ⟨hb, F, hn, hl, hs⟩ := h
  exact ⟨hb.trans (he.mono hb.size), F, hn, hl, hs.mono (fun b hb hlt => ⟨hb, he.block b hlt⟩) he.size (fun b hb => he.block b (hs.lt b hb))⟩

theorem Sat.drew {w0 w : World} {Γ : List Atom} (h : Sat w0 w Γ) : Sat w0 w.drew Γ := h.ext ((BelD.refl _ _).drew)

/-- A new atom in front whose own blocks are new. -/
theorem Sat.add {w0 w : World} {Γ : List Atom} (A : Atom) (h : Sat w0 w Γ) (f : List Nat) (hf : f.Nodup) (hnew : ∀ F : List Nat, (∀ b ∈ F, b < w.heap.size) → Sep (· ∉ F) w Γ F →
    ∃ w' : World, w' = w ∧ A.holds (· ∉ f ++ F) w f ∧ (∀ b ∈ f, b ∉ F ∧ w0.heap.size ≤ b) ∧ Sep (· ∉ f ++ F) w Γ F) : Sat w0 w (A :: Γ) := by
  obtain ⟨hb, F, hn, hl, hs⟩ := h
  obtain ⟨_, _, h1, h2, h3⟩ := hnew F hs.lt hs
  refine ⟨hb, f ++ F, ?_, ?_, f, F, rfl, h1, h3⟩
  · rw [List.nodup_append]
    exact ⟨hf, hn, fun a ha b hb e => (h2 a ha).1 (e ▸ hb)⟩
  · intro b hb
    rcases List.mem_append.1 hb with hb | hb
    · exact (h2 b hb).2
    · exact hl b hb

/-- A reading that is shown of the world, whatever is owned. -/
theorem Sat.addrd {w0 w : World} {Γ : List Atom} {α : Type} [Rep α] {cs : List Value} {x : α} (h : Sat w0 w Γ) (hr : ∀ F, Sep (· ∉ F) w Γ F → Rep.rd (· ∉ F) w cs x) : Sat w0 w (.rd cs x :: Γ) := by
  obtain ⟨hb, F, hn, hl, hs⟩ := h
  exact ⟨hb, F, hn, hl, [], F, rfl, ⟨rfl, hr F hs⟩, hs⟩

/-- A new block. -/
theorem Sat.alloc {w0 w : World} {Γ : List Atom} (h : Sat w0 w Γ) (cs : List Value) (e : TypeId) : Sat w0 (w.alloc (.cells cs.toArray e)) (.bk w.heap.size cs :: Γ) := by
  obtain ⟨hb, F, hn, hl, hs⟩ := h
  have hlt := hs.lt
  refine ⟨hb.alloc hb.size _, w.heap.size :: F, ?_, ?_, [w.heap.size], F, rfl, ⟨rfl, e, heap_alloc_new w _⟩, ?_⟩
  · exact List.nodup_cons.2 ⟨fun hm => Nat.lt_irrefl _ (hlt _ hm), hn⟩
  · intro b hb'
    rcases List.mem_cons.1 hb' with rfl | hb'
    · exact hb.size
    · exact hl b hb'
  · refine hs.mono (fun b hb hlt => ⟨?_, Below.heap_alloc _ _ _ hlt⟩) (by simp) (fun b hb => Below.heap_alloc _ _ _ (hlt b hb))
    intro hm
    rcases List.mem_cons.1 hm with rfl | hm
    · exact Nat.lt_irrefl _ hlt
    · exact hb hm

/-- A store into an owned block. -/
theorem Sat.store {w0 w : World} {Γ : List Atom} {b : Nat} {cs : List Value} (h : Sat w0 w (.bk b cs :: Γ)) (i : Nat) (v : Value) : Sat w0 (w.setCell ⟨b, i, none⟩ v) (.bk b (cs.set i v) :: Γ) := by
  obtain ⟨hb, F, hn, hl, f, g, rfl, ⟨rfl, e, hc⟩, hs⟩ := h
  have hlt : b < w.heap.size := (Array.getElem?_eq_some_iff.1 hc).1
  have hg : b ∉ g := by have := hn; simp at this; exact this.1
  have hsame : ∀ k, k ≠ b → SameB w (w.setCell ⟨b, i, none⟩ v) k := fun k hk => Below.heap_setCell _ _ _ _ hk
  refine ⟨hb.setCell (hl b (by simp)) v, [b] ++ g, hn, hl, [b], g, rfl, ⟨rfl, e, ?_⟩, ?_⟩
  · simp only [World.setCell, Array.getElem?_modify, if_true, hc, Option.map_some]
    simp
  · refine hs.mono (fun k hk _ => ⟨hk, hsame k (fun e => hk (by simp [e]))⟩) (by simp) (fun k hk => hsame k (fun e => hg (e ▸ hk)))

/-- What is owned may be given up to sharing. -/
theorem Sat.share {w0 w : World} {Γ : List Atom} {α : Type} [Rep α] {cs : List Value} {x : α} (h : Sat w0 w (.ow cs x :: Γ)) : Sat w0 w (.rd cs x :: Γ) := by
  obtain ⟨hb, F, hn, hl, f, g, rfl, h1, hs⟩ := h
  have hd := (List.nodup_append.1 hn)
  refine ⟨hb, g, hd.2.1, fun b hb => hl b (by simp [hb]), [], g, rfl, ⟨rfl, ?_⟩, ?_⟩
  · have h1' : Rep.ow (· ∉ f ++ g) w f cs x := h1
    exact Rep.ow_rd h1' (fun b hb hg => hb (by simp [hg])) (fun b hb hg => hd.2.2 b hb b hg rfl)
  · exact hs.mono (fun b hb _ => ⟨fun hg => hb (by simp [hg]), rfl⟩) (Nat.le_refl _) (fun _ _ => rfl)

/-! ### Looking things up -/

/-- Something in Γ, owned or shared, reads so (now). -/
class HasRd (α : outParam Type) (i : outParam (Rep α)) (Γ : List Atom) (cs : List Value) (x : outParam α) : Prop where
  get : ∀ {ok w F}, Sep ok w Γ F → @Rep.rd α i (fun _ => True) w cs x
/-- Something in Γ reads so, and is owned by nobody. -/
class HasIm (α : outParam Type) (i : outParam (Rep α)) (Γ : List Atom) (cs : List Value) (x : outParam α) : Prop where
  get : ∀ {ok w F}, Sep ok w Γ F → @Rep.rd α i ok w cs x
class HasBk (Γ : List Atom) (b : Nat) (cs : outParam (List Value)) : Prop where
  get : ∀ {ok w F}, Sep ok w Γ F → ∃ e, w.heap[b]? = some (.cells cs.toArray e (0, 0))
class HasPt (Γ : List Atom) (p : Addr) (cs : outParam (List Value)) : Prop where
  get : ∀ {ok w F}, Sep ok w Γ F → CellsP w p cs

section look
variable {α : Type} {i : Rep α} {Γ : List Atom} {cs : List Value} {x : α}
instance (priority := 1100) HasRd.rd : HasRd α i (.rd cs x :: Γ) cs x := ⟨fun ⟨_, _, _, h, _⟩ => Rep.rd_mono h.2 (fun _ _ _ => ⟨trivial, rfl⟩)⟩
instance (priority := 1090) HasRd.ow : HasRd α i (.ow cs x :: Γ) cs x := ⟨fun ⟨_, _, _, h, _⟩ => Rep.ow_rd (show Rep.ow _ _ _ cs x from h) (fun _ _ => trivial) (fun _ _ => trivial)⟩
instance (priority := 1000) HasRd.skip {A : Atom} [h : HasRd α i Γ cs x] : HasRd α i (A :: Γ) cs x := ⟨fun ⟨_, _, _, _, h'⟩ => h.get h'⟩
instance (priority := 1100) HasIm.rd : HasIm α i (.rd cs x :: Γ) cs x := ⟨fun ⟨_, _, _, h, _⟩ => h.2⟩
instance (priority := 1000) HasIm.skip {A : Atom} [h : HasIm α i Γ cs x] : HasIm α i (A :: Γ) cs x := ⟨fun ⟨_, _, _, _, h'⟩ => h.get h'⟩
instance (priority := 500) HasRd.im [h : HasIm α i Γ cs x] : HasRd α i Γ cs x := ⟨fun h' => Rep.rd_mono (h.get h') (fun _ _ _ => ⟨trivial, rfl⟩)⟩
end look
instance (priority := 1100) HasBk.here {Γ : List Atom} {b : Nat} {cs : List Value} : HasBk (.bk b cs :: Γ) b cs := ⟨fun ⟨_, _, _, h, _⟩ => h.2⟩
instance (priority := 1000) HasBk.skip {Γ : List Atom} {b : Nat} {cs : List Value} {A : Atom} [h : HasBk Γ b cs] : HasBk (A :: Γ) b cs := ⟨fun ⟨_, _, _, _, h'⟩ => h.get h'⟩
instance (priority := 1100) HasPt.here {Γ : List Atom} {p : Addr} {cs : List Value} : HasPt (.pt p cs :: Γ) p cs := ⟨fun ⟨_, _, _, h, _⟩ => h.2.2.2⟩
instance (priority := 1000) HasPt.skip {Γ : List Atom} {p : Addr} {cs : List Value} {A : Atom} [h : HasPt Γ p cs] : HasPt (A :: Γ) p cs := ⟨fun ⟨_, _, _, _, h'⟩ => h.get h'⟩

/-- Γ is, but for its order, A and Δ. -/
class Pull (Γ : List Atom) (A : Atom) (Δ : outParam (List Atom)) : Prop where
  perm : Γ.Perm (A :: Δ)
instance (priority := 1100) Pull.here {Γ : List Atom} {A : Atom} : Pull (A :: Γ) A Γ := ⟨.refl _⟩
instance (priority := 1000) Pull.skip {Γ Δ : List Atom} {A B : Atom} [h : Pull Γ A Δ] : Pull (B :: Γ) A (B :: Δ) := ⟨(h.perm.cons B).trans (.swap _ _ _)⟩

/-- The owned value at these cells is taken out of Γ. -/
class PullOw (α : outParam Type) (i : outParam (Rep α)) (Γ : List Atom) (cs : List Value) (x : outParam α) (Δ : outParam (List Atom)) : Prop where
  perm : Γ.Perm (@Atom.ow α i cs x :: Δ)
instance (priority := 1100) PullOw.here {α : Type} {i : Rep α} {Γ : List Atom} {cs : List Value} {x : α} : PullOw α i (.ow cs x :: Γ) cs x Γ := ⟨.refl _⟩
instance (priority := 1000) PullOw.skip {α : Type} {i : Rep α} {Γ Δ : List Atom} {cs : List Value} {x : α} {B : Atom} [h : PullOw α i Γ cs x Δ] : PullOw α i (B :: Γ) cs x (B :: Δ) := ⟨(h.perm.cons B).trans (.swap _ _ _)⟩
class PullBk (Γ : List Atom) (b : Nat) (cs : outParam (List Value)) (Δ : outParam (List Atom)) : Prop where
  perm : Γ.Perm (.bk b cs :: Δ)
instance (priority := 1100) PullBk.here {Γ : List Atom} {b : Nat} {cs : List Value} : PullBk (.bk b cs :: Γ) b cs Γ := ⟨.refl _⟩
instance (priority := 1000) PullBk.skip {Γ Δ : List Atom} {b : Nat} {cs : List Value} {B : Atom} [h : PullBk Γ b cs Δ] : PullBk (B :: Γ) b cs (B :: Δ) := ⟨(h.perm.cons B).trans (.swap _ _ _)⟩
/-- The block's cells are replaced in place. -/
class SwapBk (Γ : List Atom) (b : Nat) (cs : List Value) (Δ : outParam (List Atom)) : Prop where
  swap : ∃ cs' Ε, Γ.Perm (.bk b cs' :: Ε) ∧ (Atom.bk b cs :: Ε).Perm Δ
instance (priority := 1100) SwapBk.here {Γ : List Atom} {b : Nat} {cs cs' : List Value} : SwapBk (.bk b cs' :: Γ) b cs (.bk b cs :: Γ) := ⟨cs', Γ, .refl _, .refl _⟩
instance (priority := 1000) SwapBk.skip {Γ Δ : List Atom} {b : Nat} {cs : List Value} {B : Atom} [h : SwapBk Γ b cs Δ] : SwapBk (B :: Γ) b cs (B :: Δ) := by
  obtain ⟨cs', Ε, h1, h2⟩ := h.swap
  exact ⟨cs', B :: Ε, (h1.cons B).trans (.swap _ _ _), (List.Perm.swap _ _ _).trans (h2.cons B)⟩

/-- All of Δ stands in Γ; what is over is let go. -/
class Sub (Γ Δ : List Atom) : Prop where
  get : ∃ Ε, Γ.Perm (Δ ++ Ε)
instance (priority := 500) Sub.skip {Γ Δ : List Atom} {A : Atom} [h : Sub Γ Δ] : Sub (A :: Γ) Δ := by
  obtain ⟨Ε, hE⟩ := h.get
  exact ⟨A :: Ε, (hE.cons A).trans List.perm_middle.symm⟩
instance Sub.nil {Γ : List Atom} : Sub Γ [] := ⟨⟨Γ, .refl _⟩⟩
instance Sub.cons {Γ Γ' Δ : List Atom} {A : Atom} [h : Pull Γ A Γ'] [h' : Sub Γ' Δ] : Sub Γ (A :: Δ) := by
  obtain ⟨Ε, hE⟩ := h'.get
  exact ⟨Ε, h.perm.trans (hE.cons A)⟩
/-- Γ is handed on whole. -/
instance (priority := 2000) Sub.refl {Γ : List Atom} : Sub Γ Γ := ⟨⟨[], by simp⟩⟩

theorem Sat.sub {w0 w : World} {Γ Δ : List Atom} (h : Sat w0 w Γ) (hs : Sub Γ Δ) : Sat w0 w Δ := by
  obtain ⟨Ε, hE⟩ := hs.get
  exact ((h.perm hE).perm List.perm_append_comm).dropN

theorem Sat.rd {w0 w : World} {Γ : List Atom} {α : Type} {i : Rep α} {cs : List Value} {x : α} (h : Sat w0 w Γ) [hr : HasRd α i Γ cs x] : Rep.rd (fun _ => True) w cs x := by
  obtain ⟨_, F, _, _, hs⟩ := h
  exact hr.get hs
theorem Sat.bk {w0 w : World} {Γ : List Atom} {b : Nat} {cs : List Value} (h : Sat w0 w Γ) [hr : HasBk Γ b cs] : ∃ e, w.heap[b]? = some (.cells cs.toArray e (0, 0)) := by
  obtain ⟨_, F, _, _, hs⟩ := h
  exact hr.get hs
theorem Sat.pt {w0 w : World} {Γ : List Atom} {p : Addr} {cs : List Value} (h : Sat w0 w Γ) [hr : HasPt Γ p cs] : CellsP w p cs := by
  obtain ⟨_, F, _, _, hs⟩ := h
  exact hr.get hs

end Go.Eng
