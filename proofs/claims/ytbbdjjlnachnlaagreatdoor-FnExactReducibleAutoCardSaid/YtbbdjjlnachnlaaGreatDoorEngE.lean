/- The memory half of the walking engine: what values read as, what is owned, and how both stand changes of the world. -/
import Derived.WalkKit
import Derived.OrdersHeld
namespace Go.Eng
open Go Go.RowKit

/-- The number fits an int64. -/
def In64 (n : Int) : Prop := -9223372036854775808 ≤ n ∧ n ≤ 9223372036854775807

/-- The block reads the same in both worlds. -/
abbrev SameB (w w' : World) (b : Nat) : Prop := w'.heap[b]? = w.heap[b]?

theorem cell_same {w w' : World} {a : Addr} (h : SameB w w' a.block) : w'.cell? a = w.cell? a := World.cell?_of_block (w := w) h

/-- A Lean type whose values Go's cells can read as. -/
class Rep (α : Type) where
  sz : Nat
  rd : (Nat → Prop) → World → List Value → α → Prop
  ow : (Nat → Prop) → World → List Nat → List Value → α → Prop
  pos : 0 < sz
  rd_len : ∀ {ok w cs x}, rd ok w cs x → cs.length = sz
  rd_one : ∀ {ok w cs x}, rd ok w cs x → ∀ c ∈ cs, c.oneCell' = true
  rd_mono : ∀ {ok ok' w w' cs x}, rd ok w cs x → (∀ b, ok b → b < w.heap.size → ok' b ∧ SameB w w' b) → rd ok' w' cs x
  ow_mono : ∀ {ok ok' w w' F cs x}, ow ok w F cs x → (∀ b ∈ F, SameB w w' b) → (∀ b, ok b → b < w.heap.size → ok' b ∧ SameB w w' b) → ow ok' w' F cs x
  ow_rd : ∀ {ok ok' w F cs x}, ow ok w F cs x → (∀ b, ok b → ok' b) → (∀ b ∈ F, ok' b) → rd ok' w cs x
  ow_lt : ∀ {ok w F cs x}, ow ok w F cs x → ∀ b ∈ F, b < w.heap.size

instance repInt : Rep Int where
  sz := 1
  rd _ _ cs n := cs = [.int .i64 n] ∧ In64 n
  ow _ _ F cs n := F = [] ∧ cs = [.int .i64 n] ∧ In64 n
  pos := by decide
  rd_len := by rintro _ _ _ _ ⟨rfl, _⟩; rfl
  rd_one := by rintro _ _ _ _ ⟨rfl, _⟩; simp [Value.oneCell']
  rd_mono := fun h _ => h
  ow_mono := fun h _ _ => h
  ow_rd := fun h _ _ => h.2
  ow_lt := by rintro _ _ _ _ _ ⟨rfl, _⟩ b hb; cases hb

instance repBool : Rep Bool where
  sz := 1
  rd _ _ cs b := cs = [.bool b]
  ow _ _ F cs b := F = [] ∧ cs = [.bool b]
  pos := by decide
  rd_len := by rintro _ _ _ _ rfl; rfl
  rd_one := by rintro _ _ _ _ rfl; simp [Value.oneCell']
  rd_mono := fun h _ => h
  ow_mono := fun h _ _ => h
  ow_rd := fun h _ _ => h.2
  ow_lt := by rintro _ _ _ _ _ ⟨rfl, _⟩ b hb; cases hb

instance repStr : Rep ByteArray where
  sz := 1
  rd _ _ cs s := cs = [.string s] ∧ s.size ≤ 9223372036854775807
  ow _ _ F cs s := F = [] ∧ cs = [.string s] ∧ s.size ≤ 9223372036854775807
  pos := by decide
  rd_len := by rintro _ _ _ _ ⟨rfl, _⟩; rfl
  rd_one := by rintro _ _ _ _ ⟨rfl, _⟩; simp [Value.oneCell']
  rd_mono := fun h _ => h
  ow_mono := fun h _ _ => h
  ow_rd := fun h _ _ => h.2
  ow_lt := by rintro _ _ _ _ _ ⟨rfl, _⟩ b hb; cases hb

instance repU8 : Rep UInt8 where
  sz := 1
  rd _ _ cs n := cs = [.int .u8 n.toNat]
  ow _ _ F cs n := F = [] ∧ cs = [.int .u8 n.toNat]
  pos := by decide
  rd_len := by rintro _ _ _ _ rfl; rfl
  rd_one := by rintro _ _ _ _ rfl; simp [Value.oneCell']
  rd_mono := fun h _ => h
  ow_mono := fun h _ _ => h
  ow_rd := fun h _ _ => h.2
  ow_lt := by rintro _ _ _ _ _ ⟨rfl, _⟩ b hb; cases hb

instance repProd {α β : Type} [Rep α] [Rep β] : Rep (α × β) where
  sz := Rep.sz α + Rep.sz β
  rd ok w cs x := ∃ c d, cs = c ++ d ∧ Rep.rd ok w c x.1 ∧ Rep.rd ok w d x.2
  ow ok w F cs x := ∃ f g c d, F = f ++ g ∧ cs = c ++ d ∧ Rep.ow ok w f c x.1 ∧ Rep.ow ok w g d x.2
  pos := by have := Rep.pos (α := α); omega
  rd_len := by rintro _ _ _ _ ⟨c, d, rfl, h, h'⟩; simp [Rep.rd_len h, Rep.rd_len h']
  rd_one := by
    rintro _ _ _ _ ⟨c, d, rfl, h, h'⟩ x hx
    rcases List.mem_append.1 hx with hx | hx
    · exact Rep.rd_one h x hx
    · exact Rep.rd_one h' x hx
  rd_mono := by rintro _ _ _ _ _ _ ⟨c, d, rfl, h, h'⟩ hm; exact ⟨c, d, rfl, Rep.rd_mono h hm, Rep.rd_mono h' hm⟩
  ow_mono := by
    rintro _ _ _ _ _ _ _ ⟨f, g, c, d, rfl, rfl, h, h'⟩ hf hm
    exact ⟨f, g, c, d, rfl, rfl, Rep.ow_mono h (fun b hb => hf b (by simp [hb])) hm, Rep.ow_mono h' (fun b hb => hf b (by simp [hb])) hm⟩
  ow_rd := by
    rintro _ _ _ _ _ _ ⟨f, g, c, d, rfl, rfl, h, h'⟩ ho hf
    exact ⟨c, d, rfl, Rep.ow_rd h ho (fun b hb => hf b (by simp [hb])), Rep.ow_rd h' ho (fun b hb => hf b (by simp [hb]))⟩
  ow_lt := by
    rintro _ _ _ _ _ ⟨f, g, c, d, rfl, rfl, h, h'⟩ b hb
    rcases List.mem_append.1 hb with hb | hb
    · exact Rep.ow_lt h b hb
    · exact Rep.ow_lt h' b hb

/-- Inside something owned: a part that is only read, and may be shared. -/
structure Sh (α : Type) where
  v : α

instance repSh {α : Type} [Rep α] : Rep (Sh α) where
  sz := Rep.sz α
  rd ok w cs x := Rep.rd ok w cs x.v
  ow ok w F cs x := F = [] ∧ Rep.rd ok w cs x.v
  pos := Rep.pos
  rd_len := fun h => Rep.rd_len h
  rd_one := fun h => Rep.rd_one h
  rd_mono := fun h hm => Rep.rd_mono h hm
  ow_mono := fun h _ hm => ⟨h.1, Rep.rd_mono h.2 hm⟩
  ow_rd := fun h ho _ => Rep.rd_mono h.2 (fun b hb _ => ⟨ho b hb, rfl⟩)
  ow_lt := by rintro _ _ _ _ _ ⟨rfl, _⟩ b hb; cases hb

/-! ### Rows -/
section rows
variable {α : Type} [Rep α]

/-- These cells read, one element behind the other, as this list. -/
def RdL (ok : Nat → Prop) (w : World) : List Value → List α → Prop
  | cells, [] => cells = []
  | cells, x :: xs => ∃ c d, cells = c ++ d ∧ Rep.rd ok w c x ∧ RdL ok w d xs

def OwL (ok : Nat → Prop) (w : World) : List Nat → List Value → List α → Prop
  | F, cells, [] => F = [] ∧ cells = []
  | F, cells, x :: xs => ∃ f g c d, F = f ++ g ∧ cells = c ++ d ∧ Rep.ow ok w f c x ∧ OwL ok w g d xs

theorem RdL.mono {ok ok' : Nat → Prop} {w w' : World} (hm : ∀ b, ok b → b < w.heap.size → ok' b ∧ SameB w w' b) :
    ∀ {cells : List Value} {xs : List α}, RdL ok w cells xs → RdL ok' w' cells xs
  | _, [], h => h
  | _, _ :: _, ⟨c, d, e, h, h'⟩ => ⟨c, d, e, Rep.rd_mono h hm, RdL.mono hm h'⟩

theorem OwL.mono {ok ok' : Nat → Prop} {w w' : World} (hm : ∀ b, ok b → b < w.heap.size → ok' b ∧ SameB w w' b) :
    ∀ {F : List Nat} {cells : List Value} {xs : List α}, OwL ok w F cells xs → (∀ b ∈ F, SameB w w' b) → OwL ok' w' F cells xs
  | _, _, [], h, _ => h
  | _, _, _ :: _, ⟨f, g, c, d, e, e', h, h'⟩, hf =>
    ⟨f, g, c, d, e, e', Rep.ow_mono h (fun b hb => hf b (by simp [e, hb])) hm, OwL.mono hm h' (fun b hb => hf b (by simp [e, hb]))⟩

theorem OwL.rd {ok ok' : Nat → Prop} {w : World} (ho : ∀ b, ok b → ok' b) :
    ∀ {F : List Nat} {cells : List Value} {xs : List α}, OwL ok w F cells xs → (∀ b ∈ F, ok' b) → RdL ok' w cells xs
  | _, _, [], h, _ => h.2
  | _, _, _ :: _, ⟨f, g, c, d, e, e', h, h'⟩, hf =>
    ⟨c, d, e', Rep.ow_rd h ho (fun b hb => hf b (by simp [e, hb])), OwL.rd ho h' (fun b hb => hf b (by simp [e, hb]))⟩

theorem OwL.lt {ok : Nat → Prop} {w : World} : ∀ {F : List Nat} {cells : List Value} {xs : List α}, OwL ok w F cells xs → ∀ b ∈ F, b < w.heap.size
  | _, _, [], h, b, hb => by rw [h.1] at hb; cases hb
  | _, _, _ :: _, ⟨f, g, c, d, e, e', h, h'⟩, b, hb => by
    rw [e] at hb
    rcases List.mem_append.1 hb with hb | hb
    · exact Rep.ow_lt h b hb
    · exact OwL.lt h' b hb

theorem RdL.len {ok : Nat → Prop} {w : World} : ∀ {cells : List Value} {xs : List α}, RdL ok w cells xs → cells.length = xs.length * Rep.sz α
  | _, [], h => by simp [RdL] at h; simp [h]
  | _, x :: xs, ⟨c, d, e, h, h'⟩ => by
    rw [e, List.length_append, Rep.rd_len h, RdL.len h', List.length_cons, Nat.add_mul, Nat.one_mul, Nat.add_comm]

theorem RdL.one {ok : Nat → Prop} {w : World} : ∀ {cells : List Value} {xs : List α}, RdL ok w cells xs → ∀ c ∈ cells, c.oneCell' = true
  | _, [], h, c, hc => by simp [RdL] at h; rw [h] at hc; cases hc
  | _, x :: xs, ⟨c, d, e, h, h'⟩, v, hv => by
    rw [e] at hv
    rcases List.mem_append.1 hv with hv | hv
    · exact Rep.rd_one h v hv
    · exact RdL.one h' v hv

theorem RdL.append {ok : Nat → Prop} {w : World} {d : List Value} {ys : List α} (h2 : RdL ok w d ys) : ∀ {cells : List Value} {xs : List α}, RdL ok w cells xs → RdL ok w (cells ++ d) (xs ++ ys)
  | _, [], h => by simp [RdL] at h; simpa [h] using h2
  | _, x :: xs, ⟨c, d', e, h, h'⟩ => ⟨c, d' ++ d, by rw [e, List.append_assoc], h, RdL.append h2 h'⟩

theorem OwL.append {ok : Nat → Prop} {w : World} {G : List Nat} {d : List Value} {ys : List α} (h2 : OwL ok w G d ys) :
    ∀ {F : List Nat} {cells : List Value} {xs : List α}, OwL ok w F cells xs → OwL ok w (F ++ G) (cells ++ d) (xs ++ ys)
  | _, _, [], h => by obtain ⟨rfl, rfl⟩ := h; simpa using h2
  | _, _, x :: xs, ⟨f, g, c, d', e, e', h, h'⟩ => ⟨f, g ++ G, c, d' ++ d, by rw [e, List.append_assoc], by rw [e', List.append_assoc], h, OwL.append h2 h'⟩

/-- Element number i of a row that reads as a list. -/
theorem RdL.get {ok : Nat → Prop} {w : World} : ∀ {cells : List Value} {xs : List α}, RdL ok w cells xs → ∀ i (hi : i < xs.length),
    ∃ p c s, cells = p ++ c ++ s ∧ p.length = i * Rep.sz α ∧ Rep.rd ok w c xs[i]
  | _, x :: xs, ⟨c, d, e, h, h'⟩, 0, _ => ⟨[], c, d, by simpa using e, by simp, h⟩
  | _, x :: xs, ⟨c, d, e, h, h'⟩, i + 1, hi => by
    obtain ⟨p, c', s, e1, e2, h3⟩ := RdL.get h' i (by simpa using hi)
    refine ⟨c ++ p, c', s, by rw [e, e1]; simp [List.append_assoc], ?_, h3⟩
    rw [List.length_append, Rep.rd_len h, e2, Nat.add_mul, Nat.one_mul, Nat.add_comm]

theorem RdL.cut {ok : Nat → Prop} {w : World} : ∀ {cells : List Value} {xs : List α}, RdL ok w cells xs → ∀ i, i ≤ xs.length →
    RdL ok w (cells.take (i * Rep.sz α)) (xs.take i) ∧ RdL ok w (cells.drop (i * Rep.sz α)) (xs.drop i)
  | _, [], h, i, hi => by
    have : i = 0 := by simpa using hi
    subst this
    simp [RdL] at h ⊢; exact h
  | _, x :: xs, h, 0, _ => by simp only [Nat.zero_mul, List.take_zero, List.drop_zero]; exact ⟨rfl, h⟩
  | _, x :: xs, ⟨c, d, e, h, h'⟩, i + 1, hi => by
    obtain ⟨h1, h2⟩ := RdL.cut h' i (by simpa using hi)
    have hl := Rep.rd_len h
    have hmul : (i + 1) * Rep.sz α = Rep.sz α + i * Rep.sz α := by rw [Nat.add_mul, Nat.one_mul, Nat.add_comm]
    rw [e, hmul]
    refine ⟨⟨c, d.take (i * Rep.sz α), ?_, h, h1⟩, ?_⟩
    · rw [List.take_append, hl]
      rw [List.take_of_length_le (by rw [hl]; exact Nat.le_add_right _ _), Nat.add_sub_cancel_left]
    · rw [List.drop_append, hl, List.drop_of_length_le (by rw [hl]; exact Nat.le_add_right _ _), Nat.add_sub_cancel_left, List.nil_append]
      exact h2

theorem OwL.get {ok : Nat → Prop} {w : World} : ∀ {F : List Nat} {cells : List Value} {xs : List α}, OwL ok w F cells xs → ∀ i (hi : i < xs.length),
    ∃ f1 f f2 p c s, F = f1 ++ f ++ f2 ∧ cells = p ++ c ++ s ∧ Rep.ow ok w f c xs[i] ∧ OwL ok w f1 p (xs.take i) ∧ OwL ok w f2 s (xs.drop (i + 1))
  | _, _, x :: xs, ⟨f, g, c, d, e, e', h, h'⟩, 0, _ => ⟨[], f, g, [], c, d, by simpa using e, by simpa using e', h, ⟨rfl, rfl⟩, h'⟩
  | _, _, x :: xs, ⟨f, g, c, d, e, e', h, h'⟩, i + 1, hi => by
    obtain ⟨f1, f', f2, p, c', s, e1, e2, h3, h4, h5⟩ := OwL.get h' i (by simpa using hi)
    exact ⟨f ++ f1, f', f2, c ++ p, c', s, by rw [e, e1]; simp [List.append_assoc], by rw [e', e2]; simp [List.append_assoc], h3, ⟨f, f1, c, p, rfl, rfl, h, h4⟩, h5⟩

end rows

/-- The cells at an address. -/
def CellsAt (w : World) (b off : Nat) (cells : List Value) : Prop := ∀ j, j < cells.length → w.cell? ⟨b, off + j, none⟩ = cells[j]?

theorem CellsAt.mono {w w' : World} {b off : Nat} {cells : List Value} (h : CellsAt w b off cells) (hs : SameB w w' b) : CellsAt w' b off cells :=
  fun j hj => (cell_same hs).trans (h j hj)

theorem CellsAt.lt {w : World} {b off : Nat} {cells : List Value} (h : CellsAt w b off cells) (hne : 0 < cells.length) : b < w.heap.size := by
  have := h 0 hne
  rw [List.getElem?_eq_getElem hne] at this
  exact World.block_lt_of_cell? w _ this

theorem CellsAt.part {w : World} {b off : Nat} {p c s : List Value} (h : CellsAt w b off (p ++ c ++ s)) : CellsAt w b (off + p.length) c := by
  intro j hj
  have := h (p.length + j) (by simp only [List.length_append]; omega)
  rw [← Nat.add_assoc] at this
  rw [this, List.append_assoc, List.getElem?_append_right (by omega), Nat.add_sub_cancel_left, List.getElem?_append_left hj]

instance repList {α : Type} [Rep α] : Rep (List α) where
  sz := 1
  rd ok w cs xs := ∃ a cap, cs = [.slice a xs.length cap] ∧ xs.length ≤ cap ∧ cap ≤ maxLen ∧ xs.length ≤ 9223372036854775807 ∧
    (0 < xs.length → ∃ b off cells, a = some ⟨b, off, none⟩ ∧ ok b ∧ CellsAt w b off cells ∧ RdL ok w cells xs)
  ow ok w F cs xs := (cs = [.slice none 0 0] ∧ xs = [] ∧ F = []) ∨
    ∃ g cap cur e G cells, cs = [.slice (some ⟨g, 0, none⟩) xs.length cap] ∧ F = g :: G ∧ w.heap[g]? = some (.cells cur e (0, 0)) ∧ xs.length ≤ cap ∧ cap ≤ maxLen ∧
      xs.length ≤ 9223372036854775807 ∧ cap * Rep.sz α ≤ cur.size ∧ cur.toList.take (xs.length * Rep.sz α) = cells ∧ OwL ok w G cells xs
  pos := by decide
  rd_len := by rintro _ _ _ _ ⟨_, _, rfl, _⟩; rfl
  rd_one := by rintro _ _ _ _ ⟨_, _, rfl, _⟩; simp [Value.oneCell']
  rd_mono := by
    rintro ok ok' w w' _ xs ⟨a, cap, rfl, h1, h2, h2', h3⟩ hm
    refine ⟨a, cap, rfl, h1, h2, h2', fun hp => ?_⟩
    obtain ⟨b, off, cells, rfl, hb, hc, hr⟩ := h3 hp
    have hlt : b < w.heap.size := hc.lt (by rw [hr.len]; exact Nat.mul_pos hp Rep.pos)
    exact ⟨b, off, cells, rfl, (hm b hb hlt).1, hc.mono (hm b hb hlt).2, hr.mono hm⟩
  ow_mono := by
    rintro ok ok' w w' F _ xs h hf hm
    rcases h with h | ⟨g, cap, cur, e, G, cells, h0, rfl, h1, h2, h3, h3', h4, h5, h6⟩
    · exact .inl h
    · exact .inr ⟨g, cap, cur, e, G, cells, h0, rfl, by rw [hf g (by simp)]; exact h1, h2, h3, h3', h4, h5, h6.mono hm (fun b hb => hf b (by simp [hb]))⟩
  ow_rd := by
    rintro ok ok' w F _ xs h ho hf
    rcases h with ⟨rfl, rfl, rfl⟩ | ⟨g, cap, cur, e, G, cells, rfl, rfl, h1, h2, h3, h3', h4, h5, h6⟩
    · exact ⟨none, 0, rfl, by simp, by simp [maxLen], by simp, fun h => by simp at h⟩
    · refine ⟨_, cap, rfl, h2, h3, h3', fun hp => ⟨g, 0, cells, rfl, hf g (by simp), ?_, h6.rd ho (fun b hb => hf b (by simp [hb]))⟩⟩
      intro j hj
      rw [← h5] at hj ⊢
      rw [List.getElem?_take]
      have : j < xs.length * Rep.sz α := by
        have := hj; rw [List.length_take] at this; omega
      rw [if_pos this]
      simp [World.cell?, h1]
  ow_lt := by
    rintro ok w F _ xs h b hb
    rcases h with ⟨_, _, rfl⟩ | ⟨g, cap, cur, e, G, cells, _, rfl, h1, _, _, _, _, _, h6⟩
    · cases hb
    · rcases List.mem_cons.1 hb with rfl | hb
      · exact (Array.getElem?_eq_some_iff.1 h1).1
      · exact h6.lt b hb

end Go.Eng
namespace Go.Eng
open Go Go.RowKit
set_option linter.unusedVariables false

inductive Atom : Type 1
  | rd {α : Type} [Rep α] (cs : List Value) (x : α)
  | ow {α : Type} [Rep α] (cs : List Value) (x : α)
  | bk (b : Nat) (cs : List Value)
  | pt (p : Addr) (cs : List Value)

/-- Cells at an address that need not be written out. -/
def CellsP (w : World) (p : Addr) (cs : List Value) : Prop := ∀ j, j < cs.length → w.cell? (p.add j) = cs[j]?

theorem add_block (p : Addr) (j : Nat) : (p.add j).block = p.block := by unfold Addr.add; split <;> rfl

def Atom.holds (ok : Nat → Prop) (w : World) : Atom → List Nat → Prop
  | @Atom.rd α i cs x, F => F = [] ∧ @Rep.rd α i ok w cs x
  | @Atom.ow α i cs x, F => @Rep.ow α i ok w F cs x
  | .bk b cs, F => F = [b] ∧ ∃ e, w.heap[b]? = some (.cells cs.toArray e (0, 0))
  | .pt p cs, F => F = [] ∧ ok p.block ∧ p.block < w.heap.size ∧ CellsP w p cs

def Sep (ok : Nat → Prop) (w : World) : List Atom → List Nat → Prop
  | [], F => F = []
  | A :: Γ, F => ∃ f g, F = f ++ g ∧ A.holds ok w f ∧ Sep ok w Γ g

/-- What is below B is as it was; no draw is undone. -/
structure BelD (B : Nat) (w w' : World) : Prop where
  os : w'.os = w.os
  tape : w'.tape = w.tape
  output : w'.output = w.output
  size : w.heap.size ≤ w'.heap.size
  drawn : w.drawn ≤ w'.drawn
  block : ∀ k, k < B → w'.heap[k]? = w.heap[k]?
theorem BelD.low {B : Nat} {w w' : World} (h : BelD B w w') : Below B w w' := ⟨h.os, h.tape, h.output, h.size, h.block⟩
theorem BelD.of {B : Nat} {w w' : World} (h : Below B w w') (hd : w.drawn ≤ w'.drawn) : BelD B w w' := ⟨h.os, h.tape, h.output, h.size, hd, h.block⟩
theorem BelD.refl (B : Nat) (w : World) : BelD B w w := ⟨rfl, rfl, rfl, Nat.le_refl _, Nat.le_refl _, fun _ _ => rfl⟩
theorem BelD.trans {B : Nat} {a b c : World} (h : BelD B a b) (k : BelD B b c) : BelD B a c := .of (h.low.trans k.low) (Nat.le_trans h.drawn k.drawn)
theorem BelD.mono {B B' : Nat} {w w' : World} (h : BelD B w w') (hB : B' ≤ B) : BelD B' w w' := .of (h.low.mono hB) h.drawn
theorem BelD.drew {B : Nat} {a w : World} (h : BelD B a w) : BelD B a w.drew := .of h.low.drew (Nat.le_trans h.drawn (Nat.le_add_right _ _))
theorem BelD.alloc {B : Nat} {a w : World} (h : BelD B a w) (hB : B ≤ w.heap.size) (o : Obj) : BelD B a (w.alloc o) := .of (h.low.alloc hB o) h.drawn
theorem BelD.setCell {B : Nat} {a w : World} (h : BelD B a w) {p : Addr} (hp : B ≤ p.block) (u : Value) : BelD B a (w.setCell p u) := .of (h.low.setCell hp u) h.drawn
structure Sat (w0 w : World) (Γ : List Atom) : Prop where
  base : BelD w0.heap.size w0 w
  sep : ∃ F, F.Nodup ∧ (∀ b ∈ F, w0.heap.size ≤ b) ∧ Sep (· ∉ F) w Γ F

theorem Atom.holds_mono {ok ok' : Nat → Prop} {w w' : World} (hm : ∀ b, ok b → b < w.heap.size → ok' b ∧ SameB w w' b) (hs : w.heap.size ≤ w'.heap.size) :
    ∀ {A : Atom} {F : List Nat}, A.holds ok w F → (∀ b ∈ F, SameB w w' b) → A.holds ok' w' F
  | @Atom.rd _ _ _ _, _, h, _ => ⟨h.1, Rep.rd_mono h.2 hm⟩
  | @Atom.ow _ _ _ _, _, h, hf => Rep.ow_mono h hf hm
  | .bk _ _, _, ⟨h, e, h'⟩, hf => ⟨h, e, by rw [hf _ (by simp [h])]; exact h'⟩
  | .pt p _, _, ⟨h, h1, h2, h3⟩, _ =>
    ⟨h, (hm _ h1 h2).1, Nat.lt_of_lt_of_le h2 hs, fun j hj => (cell_same (by rw [add_block]; exact (hm _ h1 h2).2)).trans (h3 j hj)⟩

theorem Atom.holds_lt {ok : Nat → Prop} {w : World} : ∀ {A : Atom} {F : List Nat}, A.holds ok w F → ∀ b ∈ F, b < w.heap.size
  | @Atom.rd _ _ _ _, _, h, b, hb => by rw [h.1] at hb; cases hb
  | @Atom.ow _ _ _ _, _, h, b, hb => Rep.ow_lt h b hb
  | .bk _ _, _, ⟨h, e, h'⟩, b, hb => by
    rw [h] at hb
    obtain rfl : b = _ := by simpa using hb
    exact (Array.getElem?_eq_some_iff.1 h').1
  | .pt _ _, _, h, b, hb => by rw [h.1] at hb; cases hb

theorem Sep.mono {ok ok' : Nat → Prop} {w w' : World} (hm : ∀ b, ok b → b < w.heap.size → ok' b ∧ SameB w w' b) (hs : w.heap.size ≤ w'.heap.size) :
    ∀ {Γ : List Atom} {F : List Nat}, Sep ok w Γ F → (∀ b ∈ F, SameB w w' b) → Sep ok' w' Γ F
  | [], _, h, _ => h
  | _ :: _, _, ⟨f, g, e, h, h'⟩, hf =>
    ⟨f, g, e, Atom.holds_mono hm hs h (fun b hb => hf b (by simp [e, hb])), Sep.mono hm hs h' (fun b hb => hf b (by simp [e, hb]))⟩

theorem Sep.lt {ok : Nat → Prop} {w : World} : ∀ {Γ : List Atom} {F : List Nat}, Sep ok w Γ F → ∀ b ∈ F, b < w.heap.size
  | [], _, h, b, hb => by rw [h] at hb; cases hb
  | _ :: _, _, ⟨f, g, e, h, h'⟩, b, hb => by
    rw [e] at hb
    rcases List.mem_append.1 hb with hb | hb
    · exact Atom.holds_lt h b hb
    · exact Sep.lt h' b hb

theorem Sep.append {ok : Nat → Prop} {w : World} {Δ : List Atom} {G : List Nat} (h2 : Sep ok w Δ G) : ∀ {Γ : List Atom} {F : List Nat}, Sep ok w Γ F → Sep ok w (Γ ++ Δ) (F ++ G)
  | [], _, h => by rw [show _ = [] from h]; simpa using h2
  | _ :: _, _, ⟨f, g, e, h, h'⟩ => ⟨f, g ++ G, by rw [e, List.append_assoc], h, Sep.append h2 h'⟩

theorem Sep.split {ok : Nat → Prop} {w : World} {Δ : List Atom} : ∀ {Γ : List Atom} {F : List Nat}, Sep ok w (Γ ++ Δ) F → ∃ f g, F = f ++ g ∧ Sep ok w Γ f ∧ Sep ok w Δ g
  | [], F, h => ⟨[], F, rfl, rfl, h⟩
  | _ :: _, _, ⟨f, g, e, h, h'⟩ => by
    obtain ⟨f', g', e', h1, h2⟩ := Sep.split h'
    exact ⟨f ++ f', g', by rw [e, e', List.append_assoc], ⟨f, f', rfl, h, h1⟩, h2⟩

/-- The order of the atoms does not matter. -/
theorem Sep.perm {ok : Nat → Prop} {w : World} {Γ Δ : List Atom} (hp : Γ.Perm Δ) : ∀ {F : List Nat}, Sep ok w Γ F → ∃ G, G.Perm F ∧ Sep ok w Δ G := by
  induction hp with
  | nil => exact fun {F} h => ⟨F, .refl _, h⟩
  | cons A _ ih =>
    rintro F ⟨f, g, rfl, h, h'⟩
    obtain ⟨G, hG, h2⟩ := ih h'
    exact ⟨f ++ G, hG.append_left f, f, G, rfl, h, h2⟩
  | swap A B Γ =>
    rintro F ⟨f, _, rfl, h, g, k, rfl, h', h''⟩
    exact ⟨g ++ (f ++ k), by rw [← List.append_assoc, ← List.append_assoc]; exact List.perm_append_comm.append_right k, g, f ++ k, rfl, h', f, k, rfl, h, h''⟩
  | trans _ _ ih1 ih2 =>
    intro F h
    obtain ⟨G, hG, h1⟩ := ih1 h
    obtain ⟨H, hH, h2⟩ := ih2 h1
    exact ⟨H, hH.trans hG, h2⟩

theorem Sep.notin {w : World} {Γ : List Atom} {F G : List Nat} (hp : G.Perm F) (h : Sep (· ∉ F) w Γ G) : Sep (· ∉ G) w Γ G :=
  Sep.mono (fun b hb _ => ⟨fun h => hb (hp.mem_iff.1 h), rfl⟩) (Nat.le_refl _) h (fun _ _ => rfl)

theorem Sat.perm {w0 w : World} {Γ Δ : List Atom} (h : Sat w0 w Γ) (hp : Γ.Perm Δ) : Sat w0 w Δ := by
  obtain ⟨hb, F, hn, hl, hs⟩ := h
  obtain ⟨G, hG, h2⟩ := hs.perm hp
  exact ⟨hb, G, hG.symm.nodup hn, fun b hb => hl b (hG.mem_iff.1 hb), h2.notin hG⟩

/-- The first atom is let go. -/
theorem Sat.drop {w0 w : World} {A : Atom} {Γ : List Atom} (h : Sat w0 w (A :: Γ)) : Sat w0 w Γ := by
  obtain ⟨hb, F, hn, hl, f, g, rfl, _, h'⟩ := h
  exact ⟨hb, g, (List.nodup_append.1 hn).2.1, fun b hb => hl b (by simp [hb]),
    h'.mono (fun b hb _ => ⟨fun hg => hb (by simp [hg]), rfl⟩) (Nat.le_refl _) (fun _ _ => rfl)⟩

theorem Sat.dropN {w0 w : World} {Δ Γ : List Atom} (h : Sat w0 w (Δ ++ Γ)) : Sat w0 w Γ := by
  induction Δ with
  | nil => exact h
  | cons A Δ ih => exact ih h.drop

theorem Sat.size {w0 w : World} {Γ : List Atom} (h : Sat w0 w Γ) : w0.heap.size ≤ w.heap.size := h.base.size

/-- The world may grow; nothing that is there turns. -/
theorem Sat.ext {w0 w w' : World} {Γ : List Atom} (h : Sat w0 w Γ) (he : BelD w.heap.size w w') : Sat w0 w' Γ := by
  obtain ⟨hb, F, hn, hl, hs⟩ := h
  exact ⟨hb.trans (he.mono hb.size), F, hn, hl, hs.mono (fun b hb hlt => ⟨hb, he.block b hlt⟩) he.size (fun b hb => he.block b (hs.lt b hb))⟩

theorem Sat.drew {w0 w : World} {Γ : List Atom} (h : Sat w0 w Γ) : Sat w0 w.drew Γ := h.ext ((BelD.refl _ _).drew)

/-- A new atom in front whose own blocks are new. -/
theorem Sat.add {w0 w : World} {Γ : List Atom} (A : Atom) (h : Sat w0 w Γ) (f : List Nat) (hf : f.Nodup) (hnew : ∀ F : List Nat, (∀ b ∈ F, b < w.heap.size) → Sep (· ∉ F) w Γ F →
    ∃ w' : World, w' = w ∧ A.holds (· ∉ f ++ F) w f ∧ (∀ b ∈ f, b ∉ F ∧ w0.heap.size ≤ b) ∧ Sep (· ∉ f ++ F) w Γ F) : Sat w0 w (A :: Γ) := by
  obtain ⟨hb, F, hn, hl, hs⟩ := h
  obtain ⟨_, _, h1, h2, h3⟩ := hnew F hs.lt hs
  refine ⟨hb, f ++ F, ?_, ?_, f, F, rfl, h1, h3⟩
  · rw [List.nodup_append]
    exact ⟨hf, hn, fun a ha b hb e => (h2 a ha).1 (e ▸ hb)⟩
  · intro b hb
    rcases List.mem_append.1 hb with hb | hb
    · exact (h2 b hb).2
    · exact hl b hb

/-- A reading that is shown of the world, whatever is owned. -/
theorem Sat.addrd {w0 w : World} {Γ : List Atom} {α : Type} [Rep α] {cs : List Value} {x : α} (h : Sat w0 w Γ) (hr : ∀ F, Sep (· ∉ F) w Γ F → Rep.rd (· ∉ F) w cs x) : Sat w0 w (.rd cs x :: Γ) := by
  obtain ⟨hb, F, hn, hl, hs⟩ := h
  exact ⟨hb, F, hn, hl, [], F, rfl, ⟨rfl, hr F hs⟩, hs⟩

theorem Sat.addpt {w0 w : World} {Γ : List Atom} {p : Addr} {cs : List Value} (h : Sat w0 w Γ) (hr : ∀ F, Sep (· ∉ F) w Γ F → p.block ∉ F ∧ p.block < w.heap.size ∧ CellsP w p cs) : Sat w0 w (.pt p cs :: Γ) := by
  obtain ⟨hb, F, hn, hl, hs⟩ := h
  exact ⟨hb, F, hn, hl, [], F, rfl, ⟨rfl, hr F hs⟩, hs⟩

/-- A new block. -/
theorem Sat.alloc {w0 w : World} {Γ : List Atom} (h : Sat w0 w Γ) (cs : List Value) (e : TypeId) : Sat w0 (w.alloc (.cells cs.toArray e)) (.bk w.heap.size cs :: Γ) := by
  obtain ⟨hb, F, hn, hl, hs⟩ := h
  have hlt := hs.lt
  refine ⟨hb.alloc hb.size _, w.heap.size :: F, ?_, ?_, [w.heap.size], F, rfl, ⟨rfl, e, heap_alloc_new w _⟩, ?_⟩
  · exact List.nodup_cons.2 ⟨fun hm => Nat.lt_irrefl _ (hlt _ hm), hn⟩
  · intro b hb'
    rcases List.mem_cons.1 hb' with rfl | hb'
    · exact hb.size
    · exact hl b hb'
  · refine hs.mono (fun b hb hlt => ⟨?_, Below.heap_alloc _ _ _ hlt⟩) (by simp) (fun b hb => Below.heap_alloc _ _ _ (hlt b hb))
    intro hm
    rcases List.mem_cons.1 hm with rfl | hm
    · exact Nat.lt_irrefl _ hlt
    · exact hb hm

/-- A store into an owned block. -/
theorem Sat.store {w0 w : World} {Γ : List Atom} {b : Nat} {cs : List Value} (h : Sat w0 w (.bk b cs :: Γ)) (i : Nat) (v : Value) : Sat w0 (w.setCell ⟨b, i, none⟩ v) (.bk b (cs.set i v) :: Γ) := by
  obtain ⟨hb, F, hn, hl, f, g, rfl, ⟨rfl, e, hc⟩, hs⟩ := h
  have hlt : b < w.heap.size := (Array.getElem?_eq_some_iff.1 hc).1
  have hg : b ∉ g := by have := hn; simp at this; exact this.1
  have hsame : ∀ k, k ≠ b → SameB w (w.setCell ⟨b, i, none⟩ v) k := fun k hk => Below.heap_setCell _ _ _ _ hk
  refine ⟨hb.setCell (hl b (by simp)) v, [b] ++ g, hn, hl, [b], g, rfl, ⟨rfl, e, ?_⟩, ?_⟩
  · simp only [World.setCell, Array.getElem?_modify, if_true, hc, Option.map_some]
    simp
  · refine hs.mono (fun k hk _ => ⟨hk, hsame k (fun e => hk (by simp [e]))⟩) (by simp) (fun k hk => hsame k (fun e => hg (e ▸ hk)))

/-- What is owned may be given up to sharing. -/
theorem Sat.share {w0 w : World} {Γ : List Atom} {α : Type} [Rep α] {cs : List Value} {x : α} (h : Sat w0 w (.ow cs x :: Γ)) : Sat w0 w (.rd cs x :: Γ) := by
  obtain ⟨hb, F, hn, hl, f, g, rfl, h1, hs⟩ := h
  have hd := (List.nodup_append.1 hn)
  refine ⟨hb, g, hd.2.1, fun b hb => hl b (by simp [hb]), [], g, rfl, ⟨rfl, ?_⟩, ?_⟩
  · have h1' : Rep.ow (· ∉ f ++ g) w f cs x := h1
    exact Rep.ow_rd h1' (fun b hb hg => hb (by simp [hg])) (fun b hb hg => hd.2.2 b hb b hg rfl)
  · exact hs.mono (fun b hb _ => ⟨fun hg => hb (by simp [hg]), rfl⟩) (Nat.le_refl _) (fun _ _ => rfl)

/-! ### Looking things up -/

/-- Something in Γ, owned or shared, reads so (now). -/
class HasRd (α : outParam Type) (i : outParam (Rep α)) (Γ : List Atom) (cs : List Value) (x : outParam α) : Prop where
  get : ∀ {ok w F}, Sep ok w Γ F → @Rep.rd α i (fun _ => True) w cs x
/-- Something in Γ reads so, and is owned by nobody. -/
class HasIm (α : outParam Type) (i : outParam (Rep α)) (Γ : List Atom) (cs : List Value) (x : outParam α) : Prop where
  get : ∀ {ok w F}, Sep ok w Γ F → @Rep.rd α i ok w cs x
class HasBk (Γ : List Atom) (b : Nat) (cs : outParam (List Value)) : Prop where
  get : ∀ {ok w F}, Sep ok w Γ F → ∃ e, w.heap[b]? = some (.cells cs.toArray e (0, 0))
class HasPt (Γ : List Atom) (p : Addr) (cs : outParam (List Value)) : Prop where
  get : ∀ {ok w F}, Sep ok w Γ F → CellsP w p cs

section look
variable {α : Type} {i : Rep α} {Γ : List Atom} {cs : List Value} {x : α}
instance (priority := 1100) HasRd.rd : HasRd α i (.rd cs x :: Γ) cs x := ⟨fun ⟨_, _, _, h, _⟩ => Rep.rd_mono h.2 (fun _ _ _ => ⟨trivial, rfl⟩)⟩
instance (priority := 1090) HasRd.ow : HasRd α i (.ow cs x :: Γ) cs x := ⟨fun ⟨_, _, _, h, _⟩ => Rep.ow_rd (show Rep.ow _ _ _ cs x from h) (fun _ _ => trivial) (fun _ _ => trivial)⟩
instance (priority := 1000) HasRd.skip {A : Atom} [h : HasRd α i Γ cs x] : HasRd α i (A :: Γ) cs x := ⟨fun ⟨_, _, _, _, h'⟩ => h.get h'⟩
instance (priority := 1100) HasIm.rd : HasIm α i (.rd cs x :: Γ) cs x := ⟨fun ⟨_, _, _, h, _⟩ => h.2⟩
instance (priority := 1000) HasIm.skip {A : Atom} [h : HasIm α i Γ cs x] : HasIm α i (A :: Γ) cs x := ⟨fun ⟨_, _, _, _, h'⟩ => h.get h'⟩
instance (priority := 500) HasRd.im [h : HasIm α i Γ cs x] : HasRd α i Γ cs x := ⟨fun h' => Rep.rd_mono (h.get h') (fun _ _ _ => ⟨trivial, rfl⟩)⟩
end look
instance (priority := 1100) HasBk.here {Γ : List Atom} {b : Nat} {cs : List Value} : HasBk (.bk b cs :: Γ) b cs := ⟨fun ⟨_, _, _, h, _⟩ => h.2⟩
instance (priority := 1000) HasBk.skip {Γ : List Atom} {b : Nat} {cs : List Value} {A : Atom} [h : HasBk Γ b cs] : HasBk (A :: Γ) b cs := ⟨fun ⟨_, _, _, _, h'⟩ => h.get h'⟩
instance (priority := 1100) HasPt.here {Γ : List Atom} {p : Addr} {cs : List Value} : HasPt (.pt p cs :: Γ) p cs := ⟨fun ⟨_, _, _, h, _⟩ => h.2.2.2⟩
instance (priority := 1000) HasPt.skip {Γ : List Atom} {p : Addr} {cs : List Value} {A : Atom} [h : HasPt Γ p cs] : HasPt (A :: Γ) p cs := ⟨fun ⟨_, _, _, _, h'⟩ => h.get h'⟩

/-- Γ is, but for its order, A and Δ. -/
class Pull (Γ : List Atom) (A : Atom) (Δ : outParam (List Atom)) : Prop where
  perm : Γ.Perm (A :: Δ)
instance (priority := 1100) Pull.here {Γ : List Atom} {A : Atom} : Pull (A :: Γ) A Γ := ⟨.refl _⟩
instance (priority := 1000) Pull.skip {Γ Δ : List Atom} {A B : Atom} [h : Pull Γ A Δ] : Pull (B :: Γ) A (B :: Δ) := ⟨(h.perm.cons B).trans (.swap _ _ _)⟩

/-- The owned value at these cells is taken out of Γ. -/
class PullOw (α : outParam Type) (i : outParam (Rep α)) (Γ : List Atom) (cs : List Value) (x : outParam α) (Δ : outParam (List Atom)) : Prop where
  perm : Γ.Perm (@Atom.ow α i cs x :: Δ)
instance (priority := 1100) PullOw.here {α : Type} {i : Rep α} {Γ : List Atom} {cs : List Value} {x : α} : PullOw α i (.ow cs x :: Γ) cs x Γ := ⟨.refl _⟩
instance (priority := 1000) PullOw.skip {α : Type} {i : Rep α} {Γ Δ : List Atom} {cs : List Value} {x : α} {B : Atom} [h : PullOw α i Γ cs x Δ] : PullOw α i (B :: Γ) cs x (B :: Δ) := ⟨(h.perm.cons B).trans (.swap _ _ _)⟩
class PullBk (Γ : List Atom) (b : Nat) (cs : outParam (List Value)) (Δ : outParam (List Atom)) : Prop where
  perm : Γ.Perm (.bk b cs :: Δ)
instance (priority := 1100) PullBk.here {Γ : List Atom} {b : Nat} {cs : List Value} : PullBk (.bk b cs :: Γ) b cs Γ := ⟨.refl _⟩
instance (priority := 1000) PullBk.skip {Γ Δ : List Atom} {b : Nat} {cs : List Value} {B : Atom} [h : PullBk Γ b cs Δ] : PullBk (B :: Γ) b cs (B :: Δ) := ⟨(h.perm.cons B).trans (.swap _ _ _)⟩
/-- The block's cells are replaced in place. -/
class SwapBk (Γ : List Atom) (b : Nat) (cs : List Value) (Δ : outParam (List Atom)) : Prop where
  swap : ∃ cs' Ε, Γ.Perm (.bk b cs' :: Ε) ∧ (Atom.bk b cs :: Ε).Perm Δ
instance (priority := 1100) SwapBk.here {Γ : List Atom} {b : Nat} {cs cs' : List Value} : SwapBk (.bk b cs' :: Γ) b cs (.bk b cs :: Γ) := ⟨cs', Γ, .refl _, .refl _⟩
instance (priority := 1000) SwapBk.skip {Γ Δ : List Atom} {b : Nat} {cs : List Value} {B : Atom} [h : SwapBk Γ b cs Δ] : SwapBk (B :: Γ) b cs (B :: Δ) := by
  obtain ⟨cs', Ε, h1, h2⟩ := h.swap
  exact ⟨cs', B :: Ε, (h1.cons B).trans (.swap _ _ _), (List.Perm.swap _ _ _).trans (h2.cons B)⟩

/-- All of Δ stands in Γ; what is over is let go. -/
class Sub (Γ Δ : List Atom) : Prop where
  get : ∃ Ε, Γ.Perm (Δ ++ Ε)
instance (priority := 500) Sub.skip {Γ Δ : List Atom} {A : Atom} [h : Sub Γ Δ] : Sub (A :: Γ) Δ := by
  obtain ⟨Ε, hE⟩ := h.get
  exact ⟨A :: Ε, (hE.cons A).trans List.perm_middle.symm⟩
instance Sub.nil {Γ : List Atom} : Sub Γ [] := ⟨⟨Γ, .refl _⟩⟩
instance Sub.cons {Γ Γ' Δ : List Atom} {A : Atom} [h : Pull Γ A Γ'] [h' : Sub Γ' Δ] : Sub Γ (A :: Δ) := by
  obtain ⟨Ε, hE⟩ := h'.get
  exact ⟨Ε, h.perm.trans (hE.cons A)⟩
/-- Γ is handed on whole. -/
instance (priority := 2000) Sub.refl {Γ : List Atom} : Sub Γ Γ := ⟨⟨[], by simp⟩⟩

theorem Sat.sub {w0 w : World} {Γ Δ : List Atom} (h : Sat w0 w Γ) (hs : Sub Γ Δ) : Sat w0 w Δ := by
  obtain ⟨Ε, hE⟩ := hs.get
  exact ((h.perm hE).perm List.perm_append_comm).dropN

theorem Sat.rd {w0 w : World} {Γ : List Atom} {α : Type} {i : Rep α} {cs : List Value} {x : α} (h : Sat w0 w Γ) [hr : HasRd α i Γ cs x] : Rep.rd (fun _ => True) w cs x := by
  obtain ⟨_, F, _, _, hs⟩ := h
  exact hr.get hs
theorem Sat.bk {w0 w : World} {Γ : List Atom} {b : Nat} {cs : List Value} (h : Sat w0 w Γ) [hr : HasBk Γ b cs] : ∃ e, w.heap[b]? = some (.cells cs.toArray e (0, 0)) := by
  obtain ⟨_, F, _, _, hs⟩ := h
  exact hr.get hs
theorem Sat.pt {w0 w : World} {Γ : List Atom} {p : Addr} {cs : List Value} (h : Sat w0 w Γ) [hr : HasPt Γ p cs] : CellsP w p cs := by
  obtain ⟨_, F, _, _, hs⟩ := h
  exact hr.get hs

end Go.Eng
namespace Go.Eng
open Go Go.RowKit
set_option linter.unusedVariables false

/-- The frame: its slots. -/
def E (l : List Value) : Act := ⟨l.toArray, []⟩

theorem E_put (l : List Value) (d : Nat) (v : Value) : (E l).put (some d) v = E (l.set d v) := by simp [E, Act.put]
theorem E_put_none (l : List Value) (v : Value) : (E l).put none v = E l := rfl

/-- Place n of a list holds v. -/
class Ge {α : Type} (l : List α) (n : Nat) (v : outParam α) : Prop where
  eq : l[n]? = some v
class Se {α : Type} (l : List α) (n : Nat) (v : α) (l' : outParam (List α)) : Prop where
  eq : l.set n v = l'
instance {α : Type} {a0 : α} {l : List α} : Ge (a0 :: l) 0 a0 := ⟨rfl⟩
instance {α : Type} {a0 a1 : α} {l : List α} : Ge (a0 :: a1 :: l) 1 a1 := ⟨rfl⟩
instance {α : Type} {a0 a1 a2 : α} {l : List α} : Ge (a0 :: a1 :: a2 :: l) 2 a2 := ⟨rfl⟩
instance {α : Type} {a0 a1 a2 a3 : α} {l : List α} : Ge (a0 :: a1 :: a2 :: a3 :: l) 3 a3 := ⟨rfl⟩
instance {α : Type} {a0 a1 a2 a3 a4 : α} {l : List α} : Ge (a0 :: a1 :: a2 :: a3 :: a4 :: l) 4 a4 := ⟨rfl⟩
instance {α : Type} {a0 a1 a2 a3 a4 a5 : α} {l : List α} : Ge (a0 :: a1 :: a2 :: a3 :: a4 :: a5 :: l) 5 a5 := ⟨rfl⟩
instance {α : Type} {a0 a1 a2 a3 a4 a5 a6 : α} {l : List α} : Ge (a0 :: a1 :: a2 :: a3 :: a4 :: a5 :: a6 :: l) 6 a6 := ⟨rfl⟩
instance {α : Type} {a0 a1 a2 a3 a4 a5 a6 a7 : α} {l : List α} : Ge (a0 :: a1 :: a2 :: a3 :: a4 :: a5 :: a6 :: a7 :: l) 7 a7 := ⟨rfl⟩
instance {α : Type} {a0 a1 a2 a3 a4 a5 a6 a7 a8 : α} {l : List α} : Ge (a0 :: a1 :: a2 :: a3 :: a4 :: a5 :: a6 :: a7 :: a8 :: l) 8 a8 := ⟨rfl⟩
instance {α : Type} {a0 a1 a2 a3 a4 a5 a6 a7 a8 a9 : α} {l : List α} : Ge (a0 :: a1 :: a2 :: a3 :: a4 :: a5 :: a6 :: a7 :: a8 :: a9 :: l) 9 a9 := ⟨rfl⟩
instance {α : Type} {a0 a1 a2 a3 a4 a5 a6 a7 a8 a9 a10 : α} {l : List α} : Ge (a0 :: a1 :: a2 :: a3 :: a4 :: a5 :: a6 :: a7 :: a8 :: a9 :: a10 :: l) 10 a10 := ⟨rfl⟩
instance {α : Type} {a0 a1 a2 a3 a4 a5 a6 a7 a8 a9 a10 a11 : α} {l : List α} : Ge (a0 :: a1 :: a2 :: a3 :: a4 :: a5 :: a6 :: a7 :: a8 :: a9 :: a10 :: a11 :: l) 11 a11 := ⟨rfl⟩
instance {α : Type} {a0 a1 a2 a3 a4 a5 a6 a7 a8 a9 a10 a11 a12 : α} {l : List α} : Ge (a0 :: a1 :: a2 :: a3 :: a4 :: a5 :: a6 :: a7 :: a8 :: a9 :: a10 :: a11 :: a12 :: l) 12 a12 := ⟨rfl⟩
instance {α : Type} {a0 a1 a2 a3 a4 a5 a6 a7 a8 a9 a10 a11 a12 a13 : α} {l : List α} : Ge (a0 :: a1 :: a2 :: a3 :: a4 :: a5 :: a6 :: a7 :: a8 :: a9 :: a10 :: a11 :: a12 :: a13 :: l) 13 a13 := ⟨rfl⟩
instance {α : Type} {a0 a1 a2 a3 a4 a5 a6 a7 a8 a9 a10 a11 a12 a13 a14 : α} {l : List α} : Ge (a0 :: a1 :: a2 :: a3 :: a4 :: a5 :: a6 :: a7 :: a8 :: a9 :: a10 :: a11 :: a12 :: a13 :: a14 :: l) 14 a14 := ⟨rfl⟩
instance {α : Type} {a0 a1 a2 a3 a4 a5 a6 a7 a8 a9 a10 a11 a12 a13 a14 a15 : α} {l : List α} : Ge (a0 :: a1 :: a2 :: a3 :: a4 :: a5 :: a6 :: a7 :: a8 :: a9 :: a10 :: a11 :: a12 :: a13 :: a14 :: a15 :: l) 15 a15 := ⟨rfl⟩
instance {α : Type} {a0 a1 a2 a3 a4 a5 a6 a7 a8 a9 a10 a11 a12 a13 a14 a15 v : α} {l : List α} {n : Nat} [h : Ge l n v] : Ge (a0 :: a1 :: a2 :: a3 :: a4 :: a5 :: a6 :: a7 :: a8 :: a9 :: a10 :: a11 :: a12 :: a13 :: a14 :: a15 :: l) (n + 16) v := ⟨h.eq⟩
instance {α : Type} {a0 v : α} {l : List α} : Se (a0 :: l) 0 v (v :: l) := ⟨rfl⟩
instance {α : Type} {a0 a1 v : α} {l : List α} : Se (a0 :: a1 :: l) 1 v (a0 :: v :: l) := ⟨rfl⟩
instance {α : Type} {a0 a1 a2 v : α} {l : List α} : Se (a0 :: a1 :: a2 :: l) 2 v (a0 :: a1 :: v :: l) := ⟨rfl⟩
instance {α : Type} {a0 a1 a2 a3 v : α} {l : List α} : Se (a0 :: a1 :: a2 :: a3 :: l) 3 v (a0 :: a1 :: a2 :: v :: l) := ⟨rfl⟩
instance {α : Type} {a0 a1 a2 a3 a4 v : α} {l : List α} : Se (a0 :: a1 :: a2 :: a3 :: a4 :: l) 4 v (a0 :: a1 :: a2 :: a3 :: v :: l) := ⟨rfl⟩
instance {α : Type} {a0 a1 a2 a3 a4 a5 v : α} {l : List α} : Se (a0 :: a1 :: a2 :: a3 :: a4 :: a5 :: l) 5 v (a0 :: a1 :: a2 :: a3 :: a4 :: v :: l) := ⟨rfl⟩
instance {α : Type} {a0 a1 a2 a3 a4 a5 a6 v : α} {l : List α} : Se (a0 :: a1 :: a2 :: a3 :: a4 :: a5 :: a6 :: l) 6 v (a0 :: a1 :: a2 :: a3 :: a4 :: a5 :: v :: l) := ⟨rfl⟩
instance {α : Type} {a0 a1 a2 a3 a4 a5 a6 a7 v : α} {l : List α} : Se (a0 :: a1 :: a2 :: a3 :: a4 :: a5 :: a6 :: a7 :: l) 7 v (a0 :: a1 :: a2 :: a3 :: a4 :: a5 :: a6 :: v :: l) := ⟨rfl⟩
instance {α : Type} {a0 a1 a2 a3 a4 a5 a6 a7 a8 v : α} {l : List α} : Se (a0 :: a1 :: a2 :: a3 :: a4 :: a5 :: a6 :: a7 :: a8 :: l) 8 v (a0 :: a1 :: a2 :: a3 :: a4 :: a5 :: a6 :: a7 :: v :: l) := ⟨rfl⟩
instance {α : Type} {a0 a1 a2 a3 a4 a5 a6 a7 a8 a9 v : α} {l : List α} : Se (a0 :: a1 :: a2 :: a3 :: a4 :: a5 :: a6 :: a7 :: a8 :: a9 :: l) 9 v (a0 :: a1 :: a2 :: a3 :: a4 :: a5 :: a6 :: a7 :: a8 :: v :: l) := ⟨rfl⟩
instance {α : Type} {a0 a1 a2 a3 a4 a5 a6 a7 a8 a9 a10 v : α} {l : List α} : Se (a0 :: a1 :: a2 :: a3 :: a4 :: a5 :: a6 :: a7 :: a8 :: a9 :: a10 :: l) 10 v (a0 :: a1 :: a2 :: a3 :: a4 :: a5 :: a6 :: a7 :: a8 :: a9 :: v :: l) := ⟨rfl⟩
instance {α : Type} {a0 a1 a2 a3 a4 a5 a6 a7 a8 a9 a10 a11 v : α} {l : List α} : Se (a0 :: a1 :: a2 :: a3 :: a4 :: a5 :: a6 :: a7 :: a8 :: a9 :: a10 :: a11 :: l) 11 v (a0 :: a1 :: a2 :: a3 :: a4 :: a5 :: a6 :: a7 :: a8 :: a9 :: a10 :: v :: l) := ⟨rfl⟩
instance {α : Type} {a0 a1 a2 a3 a4 a5 a6 a7 a8 a9 a10 a11 a12 v : α} {l : List α} : Se (a0 :: a1 :: a2 :: a3 :: a4 :: a5 :: a6 :: a7 :: a8 :: a9 :: a10 :: a11 :: a12 :: l) 12 v (a0 :: a1 :: a2 :: a3 :: a4 :: a5 :: a6 :: a7 :: a8 :: a9 :: a10 :: a11 :: v :: l) := ⟨rfl⟩
instance {α : Type} {a0 a1 a2 a3 a4 a5 a6 a7 a8 a9 a10 a11 a12 a13 v : α} {l : List α} : Se (a0 :: a1 :: a2 :: a3 :: a4 :: a5 :: a6 :: a7 :: a8 :: a9 :: a10 :: a11 :: a12 :: a13 :: l) 13 v (a0 :: a1 :: a2 :: a3 :: a4 :: a5 :: a6 :: a7 :: a8 :: a9 :: a10 :: a11 :: a12 :: v :: l) := ⟨rfl⟩
instance {α : Type} {a0 a1 a2 a3 a4 a5 a6 a7 a8 a9 a10 a11 a12 a13 a14 v : α} {l : List α} : Se (a0 :: a1 :: a2 :: a3 :: a4 :: a5 :: a6 :: a7 :: a8 :: a9 :: a10 :: a11 :: a12 :: a13 :: a14 :: l) 14 v (a0 :: a1 :: a2 :: a3 :: a4 :: a5 :: a6 :: a7 :: a8 :: a9 :: a10 :: a11 :: a12 :: a13 :: v :: l) := ⟨rfl⟩
instance {α : Type} {a0 a1 a2 a3 a4 a5 a6 a7 a8 a9 a10 a11 a12 a13 a14 a15 v : α} {l : List α} : Se (a0 :: a1 :: a2 :: a3 :: a4 :: a5 :: a6 :: a7 :: a8 :: a9 :: a10 :: a11 :: a12 :: a13 :: a14 :: a15 :: l) 15 v (a0 :: a1 :: a2 :: a3 :: a4 :: a5 :: a6 :: a7 :: a8 :: a9 :: a10 :: a11 :: a12 :: a13 :: a14 :: v :: l) := ⟨rfl⟩
instance {α : Type} {a0 a1 a2 a3 a4 a5 a6 a7 a8 a9 a10 a11 a12 a13 a14 a15 v : α} {l l' : List α} {n : Nat} [h : Se l n v l'] : Se (a0 :: a1 :: a2 :: a3 :: a4 :: a5 :: a6 :: a7 :: a8 :: a9 :: a10 :: a11 :: a12 :: a13 :: a14 :: a15 :: l) (n + 16) v (a0 :: a1 :: a2 :: a3 :: a4 :: a5 :: a6 :: a7 :: a8 :: a9 :: a10 :: a11 :: a12 :: a13 :: a14 :: a15 :: l') := ⟨by have := h.eq; simp only [List.set_cons_succ, this, Nat.add_succ, Nat.add_zero]⟩

/-- k places from off on. -/
class Tk {α : Type} (l : List α) (off k : Nat) (out : outParam (List α)) : Prop where
  eq : (l.drop off).take k = out ∧ off + k ≤ l.length
instance {α : Type} {l : List α} : Tk l 0 0 [] := ⟨by simp⟩
instance {α : Type} {a : α} {l out : List α} {k : Nat} [h : Tk l 0 k out] : Tk (a :: l) 0 (k + 1) (a :: out) := ⟨by have := h.eq; simp at this ⊢; exact ⟨this.1, this.2⟩⟩
instance {α : Type} {a : α} {l out : List α} {off k : Nat} [h : Tk l off k out] : Tk (a :: l) (off + 1) k out := ⟨by have := h.eq; simp at this ⊢; exact ⟨this.1, by omega⟩⟩
/-- The places from off on are written anew. -/
class Sp {α : Type} (l : List α) (off : Nat) (new : List α) (out : outParam (List α)) : Prop where
  eq : out = l.take off ++ new ++ l.drop (off + new.length) ∧ off + new.length ≤ l.length
instance {α : Type} {l : List α} : Sp l 0 [] l := ⟨by simp⟩
instance {α : Type} {a b : α} {l new out : List α} [h : Sp l 0 new out] : Sp (a :: l) 0 (b :: new) (b :: out) := ⟨by have := h.eq; simp at this ⊢; exact ⟨this.1, this.2⟩⟩
instance {α : Type} {a : α} {l new out : List α} {off : Nat} [h : Sp l off new out] : Sp (a :: l) (off + 1) new (a :: out) := ⟨by have := h.eq; simp [Nat.succ_add] at this ⊢; exact ⟨this.1, by omega⟩⟩

/-- An operand's value. -/
class Ev (l : List Value) (x : Operand) (v : outParam Value) : Prop where
  eq : (E l).eval x = v
instance {l : List Value} {v : Value} : Ev l (.const v) v := ⟨rfl⟩
instance {l : List Value} {f : FuncId} : Ev l (.func f) (.func (.func f) #[] #[]) := ⟨rfl⟩
instance {l : List Value} {g : Nat} : Ev l (.global g) (.pointer (some ⟨g, 0, none⟩)) := ⟨rfl⟩
instance {l : List Value} {n : Nat} {v : Value} [h : Ge l n v] : Ev l (.tmp n) v := ⟨by simp [E, Act.eval, h.eq]⟩
class EvL (l : List Value) (xs : List Operand) (vs : outParam (List Value)) : Prop where
  eq : xs.map (E l).eval = vs
instance {l : List Value} : EvL l [] [] := ⟨rfl⟩
instance {l : List Value} {x : Operand} {xs : List Operand} {v : Value} {vs : List Value} [h : Ev l x v] [h' : EvL l xs vs] : EvL l (x :: xs) (v :: vs) := ⟨by simp [h.eq, h'.eq]⟩

/-! ### The judgements -/
def WL (P : Program) (ops : Array Oper) (Q : Exit → Act → World → Prop) (w0 : World) (rest : List Oper) (l : List Value) (Γ : List Atom) : Prop :=
  ∀ w, Sat w0 w Γ → wpList P ops Q rest (E l) w
def WC (P : Program) (Q : Exit → Act → World → Prop) (w0 : World) (c : Code) (l : List Value) (Γ : List Atom) : Prop :=
  ∀ w, Sat w0 w Γ → c.wp P Q (E l) w
def WQ (Q : Exit → Act → World → Prop) (w0 : World) (e : Exit) (l : List Value) (Γ : List Atom) : Prop :=
  ∀ w, Sat w0 w Γ → Q e (E l) w

section control
variable {P : Program} {ops : Array Oper} {Q : Exit → Act → World → Prop} {w0 : World} {rest : List Oper} {l l' : List Value} {Γ Δ : List Atom} {x y : Code} {next : Act → World → Prop}

theorem wc_seq (h : WC P (Exit.then (y.wp P Q) Q) w0 x l Γ) : WC P Q w0 (.seq x y) l Γ := fun w hs => wp_seq (h w hs)
theorem wc_skip (h : WQ Q w0 .normal l Γ) : WC P Q w0 .skip l Γ := fun w hs => wp_skip (h w hs)
theorem wc_ret (h : WQ Q w0 .ret l Γ) : WC P Q w0 .ret l Γ := fun w hs => wp_ret (h w hs)
theorem wc_exit {id : Nat} (h : WQ Q w0 (.exit id) l Γ) : WC P Q w0 (.exit id) l Γ := fun w hs => wp_exit (h w hs)
theorem wc_block {id : Nat} (h : WC P (Exit.inBlock id Q) w0 x l Γ) : WC P Q w0 (.block id x) l Γ := fun w hs => wp_block (h w hs)
theorem wc_region {id : Nat} {ol : List Oper} (h : WL P ol.toArray Q w0 ol l Γ) : WC P Q w0 (.region id ol.toArray false) l Γ := fun w hs => wp_region_lit (h w hs)
theorem wc_cond {c : Operand} {b : Bool} [hc : Ev l c (.bool b)] (ht : b = true → WC P Q w0 x l Γ) (hf : b = false → WC P Q w0 y l Γ) : WC P Q w0 (.cond c x y) l Γ :=
  fun w hs => wp_cond_split hc.eq (fun h => ht h w hs) (fun h => hf h w hs)
theorem wc_cond_t {c : Operand} [hc : Ev l c (.bool true)] (h : WC P Q w0 x l Γ) : WC P Q w0 (.cond c x y) l Γ := fun w hs => wp_cond_true hc.eq (h w hs)
theorem wc_cond_f {c : Operand} [hc : Ev l c (.bool false)] (h : WC P Q w0 y l Γ) : WC P Q w0 (.cond c x y) l Γ := fun w hs => wp_cond_false hc.eq (h w hs)
theorem wl_nil (h : WQ Q w0 .normal l Γ) : WL P ops Q w0 [] l Γ := fun w hs => wpList_nil (h w hs)

theorem wq_then_n (h : WC P Q w0 y l Γ) : WQ (Exit.then (y.wp P Q) Q) w0 .normal l Γ := fun w hs => h w hs
theorem wq_then_r (h : WQ Q w0 .ret l Γ) : WQ (Exit.then next Q) w0 .ret l Γ := fun w hs => h w hs
theorem wq_then_x {id : Nat} (h : WQ Q w0 (.exit id) l Γ) : WQ (Exit.then next Q) w0 (.exit id) l Γ := fun w hs => h w hs
theorem wq_blk_n {id : Nat} (h : WQ Q w0 .normal l Γ) : WQ (Exit.inBlock id Q) w0 .normal l Γ := fun w hs => h w hs
theorem wq_blk_r {id : Nat} (h : WQ Q w0 .ret l Γ) : WQ (Exit.inBlock id Q) w0 .ret l Γ := fun w hs => h w hs
theorem wq_blk_s {id : Nat} (h : WQ Q w0 .normal l Γ) : WQ (Exit.inBlock id Q) w0 (.exit id) l Γ := fun w hs => by simpa [Exit.inBlock] using h w hs
theorem wq_blk_o {id id' : Nat} (hn : (id' == id) = false) (h : WQ Q w0 (.exit id') l Γ) : WQ (Exit.inBlock id Q) w0 (.exit id') l Γ := fun w hs => by
  have : id' ≠ id := by simpa using hn
  simpa [Exit.inBlock, this] using h w hs

theorem wl_sub (h : WL P ops Q w0 rest l Δ) [hs : Sub Γ Δ] : WL P ops Q w0 rest l Γ := fun w hw => h w (hw.sub hs)
theorem wc_sub (h : WC P Q w0 x l Δ) [hs : Sub Γ Δ] : WC P Q w0 x l Γ := fun w hw => h w (hw.sub hs)
theorem wl_set {d : Nat} {v : Value} [hs : Se l d v l'] (h : WL P ops Q w0 rest l' Γ) : WL P ops Q w0 rest (l.set d v) Γ := hs.eq ▸ h

/-- An operation that yields v in every world that meets Γ, and leaves the world as it is. -/
def Pu (P : Program) (w0 : World) (l : List Value) (Γ : List Atom) (op : Op) (ty : TypeId) (v : Value) : Prop :=
  ∀ w, Sat w0 w Γ → ∀ o : Oper, o.op = op → o.type = ty → (execOp (E l).eval o).run P w = .ok (.value v) w

variable {op : Op} {ty : TypeId} {v : Value} {pos : String} {after : Array Edge} {d : Nat} {g : Option (Nat × Bool)}

theorem wl_pure (hy : Pu P w0 l Γ op ty v) [hd : Se l d v l'] (h : WL P ops Q w0 rest l' Γ) : WL P ops Q w0 (⟨some d, op, ty, pos, after, none⟩ :: rest) l Γ := by
  intro w hs
  refine wpList_plain rfl fun K hK => ?_
  unfold Oper.wp
  rw [hy w hs _ rfl rfl, Oper.upon_value, E_put, hd.eq]
  exact hK _ _ (h w hs)

/-- A guarded operation whose guard is known. -/
theorem wl_on_ {j dj : Nat} {oj : Oper} {b : Bool} {dst : Option Tmp} (hj : ops[j]? = some oj) (hdj : oj.dst = some dj) [hb : Ge l dj (.bool b)]
    (h : WL P ops Q w0 (⟨dst, op, ty, pos, after, none⟩ :: rest) l Γ) : WL P ops Q w0 (⟨dst, op, ty, pos, after, some (j, b)⟩ :: rest) l Γ := by
  intro w hs
  have h := h w hs
  have hy : yielded ops (E l).tmps j = some b := by simp [yielded, hj, hdj, E, hb.eq]
  simp only [wpList, Region.wanted, hy, beq_self_eq_true, if_true] at h ⊢
  exact h

theorem wl_off_ {j dj : Nat} {oj : Oper} {b b' : Bool} {d : Nat} (hj : ops[j]? = some oj) (hdj : oj.dst = some dj) [hb : Ge l dj (.bool b')] (hne : (b' == b) = false) [hd : Se l d undef l']
    (h : WL P ops Q w0 rest l' Γ) : WL P ops Q w0 (⟨some d, op, ty, pos, after, some (j, b)⟩ :: rest) l Γ := by
  intro w hs
  have hy : yielded ops (E l).tmps j = some b' := by simp [yielded, hj, hdj, E, hb.eq]
  have hw : Region.wanted (⟨some d, op, ty, pos, after, some (j, b)⟩ : Oper) (yielded ops (E l).tmps) = false := by
    simp only [Region.wanted, hy]; simpa using hne
  simp only [wpList, hw, Bool.false_eq_true, if_false]
  rw [E_put, hd.eq]
  exact h w hs

/-- The guarding operation itself was passed over. -/
theorem wl_off_u {j dj : Nat} {oj : Oper} {b : Bool} {d : Nat} (hj : ops[j]? = some oj) (hdj : oj.dst = some dj) [hb : Ge l dj undef] [hd : Se l d undef l']
    (h : WL P ops Q w0 rest l' Γ) : WL P ops Q w0 (⟨some d, op, ty, pos, after, some (j, b)⟩ :: rest) l Γ := by
  intro w hs
  have hw : Region.wanted (⟨some d, op, ty, pos, after, some (j, b)⟩ : Oper) (yielded ops (E l).tmps) = false := by
    simp [Region.wanted, yielded, hj, hdj, E, hb.eq, undef]
  simp only [wpList, hw, Bool.false_eq_true, if_false]
  rw [E_put, hd.eq]
  exact h w hs

/-- The slot that an operation writes. -/
class Dst (o : Oper) (d : outParam Nat) : Prop where
  eq : o.dst = some d
instance {d : Nat} : Dst ⟨some d, op, ty, pos, after, g⟩ d := ⟨rfl⟩
/-- A guard's value says yes. -/
class EqB (v : Value) (b : Bool) : Prop where
  eq : v = .bool b
instance : EqB (.bool true) true := ⟨rfl⟩
instance : EqB (.bool false) false := ⟨rfl⟩
/-- .. says no. -/
class NeB (v : Value) (b : Bool) : Prop where
  ne : v = undef ∨ ∃ b', v = .bool b' ∧ (b' == b) = false
instance : NeB (.bool true) false := ⟨.inr ⟨true, rfl, rfl⟩⟩
instance : NeB (.bool false) true := ⟨.inr ⟨false, rfl, rfl⟩⟩
instance {b : Bool} : NeB undef b := ⟨.inl rfl⟩
class IsB (v : Value) (b : outParam Bool) : Prop where
  eq : v = .bool b
instance {b : Bool} : IsB (.bool b) b := ⟨rfl⟩

theorem wl_on {ol : List Oper} {j dj : Nat} {oj : Oper} {b : Bool} {dst : Option Tmp} [hj : Ge ol j oj] [hdj : Dst oj dj] [hb : Ge l dj v] [he : EqB v b]
    (h : WL P ol.toArray Q w0 (⟨dst, op, ty, pos, after, none⟩ :: rest) l Γ) : WL P ol.toArray Q w0 (⟨dst, op, ty, pos, after, some (j, b)⟩ :: rest) l Γ := by
  have := he.eq
  subst this
  exact wl_on_ (by simpa using hj.eq) hdj.eq h
theorem wl_off {ol : List Oper} {j dj : Nat} {oj : Oper} {b : Bool} {d : Nat} [hj : Ge ol j oj] [hdj : Dst oj dj] [hb : Ge l dj v] [he : NeB v b] [hd : Se l d undef l']
    (h : WL P ol.toArray Q w0 rest l' Γ) : WL P ol.toArray Q w0 (⟨some d, op, ty, pos, after, some (j, b)⟩ :: rest) l Γ := by
  rcases he.ne with rfl | ⟨b', rfl, hne⟩
  · exact wl_off_u (by simpa using hj.eq) hdj.eq h
  · exact wl_off_ (by simpa using hj.eq) hdj.eq hne h

theorem set_same {dj : Nat} {v : Value} (hb : l[dj]? = some v) : l.set dj v = l := by
  apply List.ext_getElem?
  intro i
  rw [List.getElem?_set]
  split
  · rename_i h; subst h; split
    · exact hb.symm
    · rename_i h3; rw [List.getElem?_eq_none (by omega)] at hb; cases hb
  · rfl

/-- The guard is a test that is not known: two ways. -/
theorem wl_split {ol : List Oper} {j dj : Nat} {oj : Oper} {b b' : Bool} {dst : Option Tmp} {lt lf : List Value} [hj : Ge ol j oj] [hdj : Dst oj dj] [hb : Ge l dj v] [he : IsB v b'] [h1 : Se l dj (.bool true) lt] [h2 : Se l dj (.bool false) lf]
    (ht : b' = true → WL P ol.toArray Q w0 (⟨dst, op, ty, pos, after, some (j, b)⟩ :: rest) lt Γ) (hf : b' = false → WL P ol.toArray Q w0 (⟨dst, op, ty, pos, after, some (j, b)⟩ :: rest) lf Γ) :
    WL P ol.toArray Q w0 (⟨dst, op, ty, pos, after, some (j, b)⟩ :: rest) l Γ := by
  have hv := he.eq
  have hbe := hb.eq
  cases hb' : b'
  · have := set_same (hv ▸ hbe); rw [hb', h2.eq] at this; exact this ▸ hf hb'
  · have := set_same (hv ▸ hbe); rw [hb', h1.eq] at this; exact this ▸ ht hb'

end control

end Go.Eng
namespace Go.Eng
open Go Go.RowKit
set_option linter.unusedVariables false
set_option linter.unusedSimpArgs false

/-! ### What is asked of the program's types -/
/-- The type's variables are one cell. -/
class Sc (P : Program) (T : TypeId) : Prop where
  agg : ∀ w, (isAgg T).run P w = .ok false w
  size : ∀ w, (sizeOf T).run P w = .ok 1 w
/-- The type's variables are k cells, of a struct or an array. -/
class Ag (P : Program) (T : TypeId) (k : outParam Nat) : Prop where
  agg : ∀ w, (isAgg T).run P w = .ok true w
  size : ∀ w, (sizeOf T).run P w = .ok k w
class Sz (P : Program) (T : TypeId) (k : outParam Nat) : Prop where
  size : ∀ w, (sizeOf T).run P w = .ok k w
instance {P : Program} {T : TypeId} [h : Sc P T] : Sz P T 1 := ⟨h.size⟩
instance {P : Program} {T k : Nat} [h : Ag P T k] : Sz P T k := ⟨h.size⟩
class Zr (P : Program) (T : TypeId) (zs : outParam (List Value)) : Prop where
  zero : ∃ z, (∀ w, (zeroValue T).run P w = .ok z w) ∧ z.cells = zs.toArray
/-- Field i of struct type T lies k cells on. -/
class Fo (P : Program) (T : TypeId) (i : Nat) (k : outParam Nat) : Prop where
  run : ∀ w a, (Instr.fieldAt T (.pointer (some a)) i).run P w = .ok (.pointer (some (a.add k))) w
/-- T is a slice type; its elements are k cells, by bytes. -/
class Sl (P : Program) (T : TypeId) (k : outParam Nat) (by_ : outParam Nat) : Prop where
  ex : ∃ e i z, P.underlying T = some (.slice e) ∧ P.info? e = some i ∧ i.size = k ∧ i.bytes = by_ ∧ i.zero = some z ∧ z.cells.size = k ∧ 0 < by_
/-- The cells of its elements' zero. -/
class SlZ (P : Program) (T : TypeId) (zs : outParam (List Value)) : Prop where
  eq : ∀ {e i z}, P.underlying T = some (.slice e) → P.info? e = some i → i.zero = some z → z.cells = zs.toArray
class IsStr (P : Program) (T : TypeId) : Prop where
  eq : P.underlying T = some .string
/-- Function f is one with a body, to be entered. -/
class IsFn (P : Program) (f : FuncId) : Prop where
  run : ∀ args w, (callFunc f args).run P w = .ok (.enter f args) w

theorem isFn_of {P : Program} {f : FuncId} {fn : Func} (hf : P.funcs[f]? = some fn) (hn : (fn.name == "runtime.NumGoroutine") = false) (hb : fn.body.isNone = false) : IsFn P f :=
  ⟨fun args w => by
    have hn' : ¬ fn.name = "runtime.NumGoroutine" := by simpa using hn
    have hb' : ¬ fn.body = none := by intro h; simp [h] at hb
    simp [callFunc, program, hf, hn', hb', Sem.run, Bind.bind, Sem.bind, Pure.pure]⟩

class NatAdd (a b : Nat) (c : outParam Nat) : Prop where
  eq : a + b = c
instance (priority := 1100) {k : Nat} : NatAdd 0 k k := ⟨Nat.zero_add k⟩
instance (priority := 1050) {k : Nat} : NatAdd k 0 k := ⟨rfl⟩
instance : NatAdd 1 1 2 := ⟨rfl⟩
instance : NatAdd 1 2 3 := ⟨rfl⟩
instance : NatAdd 1 3 4 := ⟨rfl⟩
instance : NatAdd 1 4 5 := ⟨rfl⟩
instance : NatAdd 1 5 6 := ⟨rfl⟩
instance : NatAdd 1 6 7 := ⟨rfl⟩
instance : NatAdd 1 7 8 := ⟨rfl⟩
instance : NatAdd 1 8 9 := ⟨rfl⟩
instance : NatAdd 1 9 10 := ⟨rfl⟩
instance : NatAdd 1 10 11 := ⟨rfl⟩
instance : NatAdd 1 11 12 := ⟨rfl⟩
instance : NatAdd 1 12 13 := ⟨rfl⟩
instance : NatAdd 2 1 3 := ⟨rfl⟩
instance : NatAdd 2 2 4 := ⟨rfl⟩
instance : NatAdd 2 3 5 := ⟨rfl⟩
instance : NatAdd 2 4 6 := ⟨rfl⟩
instance : NatAdd 2 5 7 := ⟨rfl⟩
instance : NatAdd 2 6 8 := ⟨rfl⟩
instance : NatAdd 2 7 9 := ⟨rfl⟩
instance : NatAdd 2 8 10 := ⟨rfl⟩
instance : NatAdd 2 9 11 := ⟨rfl⟩
instance : NatAdd 2 10 12 := ⟨rfl⟩
instance : NatAdd 2 11 13 := ⟨rfl⟩
instance : NatAdd 2 12 14 := ⟨rfl⟩
instance : NatAdd 3 1 4 := ⟨rfl⟩
instance : NatAdd 3 2 5 := ⟨rfl⟩
instance : NatAdd 3 3 6 := ⟨rfl⟩
instance : NatAdd 3 4 7 := ⟨rfl⟩
instance : NatAdd 3 5 8 := ⟨rfl⟩
instance : NatAdd 3 6 9 := ⟨rfl⟩
instance : NatAdd 3 7 10 := ⟨rfl⟩
instance : NatAdd 3 8 11 := ⟨rfl⟩
instance : NatAdd 3 9 12 := ⟨rfl⟩
instance : NatAdd 3 10 13 := ⟨rfl⟩
instance : NatAdd 3 11 14 := ⟨rfl⟩
instance : NatAdd 3 12 15 := ⟨rfl⟩
instance : NatAdd 4 1 5 := ⟨rfl⟩
instance : NatAdd 4 2 6 := ⟨rfl⟩
instance : NatAdd 4 3 7 := ⟨rfl⟩
instance : NatAdd 4 4 8 := ⟨rfl⟩
instance : NatAdd 4 5 9 := ⟨rfl⟩
instance : NatAdd 4 6 10 := ⟨rfl⟩
instance : NatAdd 4 7 11 := ⟨rfl⟩
instance : NatAdd 4 8 12 := ⟨rfl⟩
instance : NatAdd 4 9 13 := ⟨rfl⟩
instance : NatAdd 4 10 14 := ⟨rfl⟩
instance : NatAdd 4 11 15 := ⟨rfl⟩
instance : NatAdd 4 12 16 := ⟨rfl⟩
instance : NatAdd 5 1 6 := ⟨rfl⟩
instance : NatAdd 5 2 7 := ⟨rfl⟩
instance : NatAdd 5 3 8 := ⟨rfl⟩
instance : NatAdd 5 4 9 := ⟨rfl⟩
instance : NatAdd 5 5 10 := ⟨rfl⟩
instance : NatAdd 5 6 11 := ⟨rfl⟩
instance : NatAdd 5 7 12 := ⟨rfl⟩
instance : NatAdd 5 8 13 := ⟨rfl⟩
instance : NatAdd 5 9 14 := ⟨rfl⟩
instance : NatAdd 5 10 15 := ⟨rfl⟩
instance : NatAdd 5 11 16 := ⟨rfl⟩
instance : NatAdd 5 12 17 := ⟨rfl⟩
instance : NatAdd 6 1 7 := ⟨rfl⟩
instance : NatAdd 6 2 8 := ⟨rfl⟩
instance : NatAdd 6 3 9 := ⟨rfl⟩
instance : NatAdd 6 4 10 := ⟨rfl⟩
instance : NatAdd 6 5 11 := ⟨rfl⟩
instance : NatAdd 6 6 12 := ⟨rfl⟩
instance : NatAdd 6 7 13 := ⟨rfl⟩
instance : NatAdd 6 8 14 := ⟨rfl⟩
instance : NatAdd 6 9 15 := ⟨rfl⟩
instance : NatAdd 6 10 16 := ⟨rfl⟩
instance : NatAdd 6 11 17 := ⟨rfl⟩
instance : NatAdd 6 12 18 := ⟨rfl⟩
instance : NatAdd 7 1 8 := ⟨rfl⟩
instance : NatAdd 7 2 9 := ⟨rfl⟩
instance : NatAdd 7 3 10 := ⟨rfl⟩
instance : NatAdd 7 4 11 := ⟨rfl⟩
instance : NatAdd 7 5 12 := ⟨rfl⟩
instance : NatAdd 7 6 13 := ⟨rfl⟩
instance : NatAdd 7 7 14 := ⟨rfl⟩
instance : NatAdd 7 8 15 := ⟨rfl⟩
instance : NatAdd 7 9 16 := ⟨rfl⟩
instance : NatAdd 7 10 17 := ⟨rfl⟩
instance : NatAdd 7 11 18 := ⟨rfl⟩
instance : NatAdd 7 12 19 := ⟨rfl⟩
instance : NatAdd 8 1 9 := ⟨rfl⟩
instance : NatAdd 8 2 10 := ⟨rfl⟩
instance : NatAdd 8 3 11 := ⟨rfl⟩
instance : NatAdd 8 4 12 := ⟨rfl⟩
instance : NatAdd 8 5 13 := ⟨rfl⟩
instance : NatAdd 8 6 14 := ⟨rfl⟩
instance : NatAdd 8 7 15 := ⟨rfl⟩
instance : NatAdd 8 8 16 := ⟨rfl⟩
instance : NatAdd 8 9 17 := ⟨rfl⟩
instance : NatAdd 8 10 18 := ⟨rfl⟩
instance : NatAdd 8 11 19 := ⟨rfl⟩
instance : NatAdd 8 12 20 := ⟨rfl⟩
instance : NatAdd 9 1 10 := ⟨rfl⟩
instance : NatAdd 9 2 11 := ⟨rfl⟩
instance : NatAdd 9 3 12 := ⟨rfl⟩
instance : NatAdd 9 4 13 := ⟨rfl⟩
instance : NatAdd 9 5 14 := ⟨rfl⟩
instance : NatAdd 9 6 15 := ⟨rfl⟩
instance : NatAdd 9 7 16 := ⟨rfl⟩
instance : NatAdd 9 8 17 := ⟨rfl⟩
instance : NatAdd 9 9 18 := ⟨rfl⟩
instance : NatAdd 9 10 19 := ⟨rfl⟩
instance : NatAdd 9 11 20 := ⟨rfl⟩
instance : NatAdd 9 12 21 := ⟨rfl⟩
instance : NatAdd 10 1 11 := ⟨rfl⟩
instance : NatAdd 10 2 12 := ⟨rfl⟩
instance : NatAdd 10 3 13 := ⟨rfl⟩
instance : NatAdd 10 4 14 := ⟨rfl⟩
instance : NatAdd 10 5 15 := ⟨rfl⟩
instance : NatAdd 10 6 16 := ⟨rfl⟩
instance : NatAdd 10 7 17 := ⟨rfl⟩
instance : NatAdd 10 8 18 := ⟨rfl⟩
instance : NatAdd 10 9 19 := ⟨rfl⟩
instance : NatAdd 10 10 20 := ⟨rfl⟩
instance : NatAdd 10 11 21 := ⟨rfl⟩
instance : NatAdd 10 12 22 := ⟨rfl⟩
instance : NatAdd 11 1 12 := ⟨rfl⟩
instance : NatAdd 11 2 13 := ⟨rfl⟩
instance : NatAdd 11 3 14 := ⟨rfl⟩
instance : NatAdd 11 4 15 := ⟨rfl⟩
instance : NatAdd 11 5 16 := ⟨rfl⟩
instance : NatAdd 11 6 17 := ⟨rfl⟩
instance : NatAdd 11 7 18 := ⟨rfl⟩
instance : NatAdd 11 8 19 := ⟨rfl⟩
instance : NatAdd 11 9 20 := ⟨rfl⟩
instance : NatAdd 11 10 21 := ⟨rfl⟩
instance : NatAdd 11 11 22 := ⟨rfl⟩
instance : NatAdd 11 12 23 := ⟨rfl⟩
instance : NatAdd 12 1 13 := ⟨rfl⟩
instance : NatAdd 12 2 14 := ⟨rfl⟩
instance : NatAdd 12 3 15 := ⟨rfl⟩
instance : NatAdd 12 4 16 := ⟨rfl⟩
instance : NatAdd 12 5 17 := ⟨rfl⟩
instance : NatAdd 12 6 18 := ⟨rfl⟩
instance : NatAdd 12 7 19 := ⟨rfl⟩
instance : NatAdd 12 8 20 := ⟨rfl⟩
instance : NatAdd 12 9 21 := ⟨rfl⟩
instance : NatAdd 12 10 22 := ⟨rfl⟩
instance : NatAdd 12 11 23 := ⟨rfl⟩
instance : NatAdd 12 12 24 := ⟨rfl⟩

theorem add_lit (b off k : Nat) : (⟨b, off, none⟩ : Addr).add k = ⟨b, off + k, none⟩ := by unfold Addr.add; split <;> simp_all
theorem add_add (p : Addr) (i j : Nat) : (p.add i).add j = p.add (i + j) := by
  unfold Addr.add
  by_cases hi : i = 0
  · subst hi; simp
  · by_cases hj : j = 0
    · subst hj; simp
    · simp [hi, hj]; omega

section pure_ops
variable {P : Program} {w0 : World} {l : List Value} {Γ : List Atom} {ty : TypeId} {v : Value}

theorem pu_move {x : Operand} [h : Ev l x v] : Pu P w0 l Γ (.move x) ty v := fun w _ o ho _ => by
  unfold execOp; rw [ho]; simp only [h.eq]; rfl
theorem pu_assign {x : Operand} [h : Ev l x v] : Pu P w0 l Γ (.assign x) ty v := fun w _ o ho _ => by
  unfold execOp; rw [ho]; simp only [h.eq]; rfl
theorem pu_pick_t {c a b : Operand} [h : Ev l c (.bool true)] [ha : Ev l a v] : Pu P w0 l Γ (.pick c a b) ty v := fun w _ o ho _ => by
  unfold execOp; rw [ho]; simp only [h.eq, ha.eq]; rfl
theorem pu_pick_f {c a b : Operand} [h : Ev l c (.bool false)] [ha : Ev l b v] : Pu P w0 l Γ (.pick c a b) ty v := fun w _ o ho _ => by
  unfold execOp; rw [ho]; simp only [h.eq, ha.eq]; rfl

theorem run_value {α β : Type} {P : Program} {s : Sem α} {w w' : World} {a : α} {f : α → β} (h : s.run P w = .ok a w') : (do pure (f (← s)) : Sem β).run P w = .ok (f a) w' := by
  simp only [Sem.run_bind, h, Result.andThen_ok, Sem.run_pure]

/-- Where the operation is 'v s' for a run s. -/
theorem pu_of {op : Op} {s : Sem Value} (he : ∀ o : Oper, o.op = op → o.type = ty → execOp (E l).eval o = (do pure (.value (← s)) : Sem Next)) (hr : ∀ w, Sat w0 w Γ → s.run P w = .ok v w) : Pu P w0 l Γ op ty v :=
  fun w hs o h1 h2 => by rw [he o h1 h2]; exact run_value (hr w hs)

theorem pu_un_not {T : TypeId} {x : Operand} {b : Bool} [h : Ev l x (.bool b)] : Pu P w0 l Γ (.unOp .not T x) ty (.bool (!b)) :=
  pu_of (s := Op.unary .not (.bool b)) (fun o ho _ => by unfold execOp; rw [ho]; simp only [h.eq]) (fun w _ => rfl)
theorem pu_un_neg {T : TypeId} {x : Operand} {n : Int} [h : Ev l x (.int .i64 n)] (hn : -9223372036854775808 < n ∧ n ≤ 9223372036854775807) : Pu P w0 l Γ (.unOp .neg T x) ty (.int .i64 (-n)) :=
  pu_of (s := Op.unary .neg (.int .i64 n)) (fun o ho _ => by unfold execOp; rw [ho]; simp only [h.eq]) (fun w _ => by
    show Result.ok (Value.int .i64 (IntKind.i64.wrap (0 - n))) w = _
    rw [IntWalk.i64_in _ (by omega)]; simp)

theorem pu_fieldAddr {T : TypeId} {x : Operand} {i k : Nat} {a : Addr} [h : Ev l x (.pointer (some a))] [hf : Fo P T i k] : Pu P w0 l Γ (.fieldAddr T x i) ty (.pointer (some (a.add k))) :=
  pu_of (s := Instr.fieldAt T (.pointer (some a)) i) (fun o ho _ => by unfold execOp; rw [ho]; simp only [h.eq]) (fun w _ => hf.run w a)

theorem pu_fieldAddr_b {T : TypeId} {x : Operand} {i k b off s : Nat} [h : Ev l x (.pointer (some ⟨b, off, none⟩))] [hf : Fo P T i k] [hs : NatAdd off k s] : Pu P w0 l Γ (.fieldAddr T x i) ty (.pointer (some ⟨b, s, none⟩)) := by
  have := pu_fieldAddr (P := P) (w0 := w0) (l := l) (Γ := Γ) (ty := ty) (T := T) (x := x) (i := i) (k := k) (a := ⟨b, off, none⟩)
  rw [add_lit, hs.eq] at this
  exact this
theorem pu_fieldAddr_e {T : TypeId} {x : Operand} {i k m s : Nat} {p : Addr} [h : Ev l x (.pointer (some (p.add m)))] [hf : Fo P T i k] [hs : NatAdd m k s] : Pu P w0 l Γ (.fieldAddr T x i) ty (.pointer (some (p.add s))) := by
  have := pu_fieldAddr (P := P) (w0 := w0) (l := l) (Γ := Γ) (ty := ty) (T := T) (x := x) (i := i) (k := k) (a := p.add m)
  rw [add_add, hs.eq] at this
  exact this
theorem pu_nilCheck {x : Operand} {a : Addr} [h : Ev l x (.pointer (some a))] : Pu P w0 l Γ (.nilCheck x) ty (.pointer (some a)) := fun w _ o ho _ => by
  unfold execOp; rw [ho]; simp only [h.eq]; rfl
theorem pu_extract {x : Operand} {i : Nat} {vs : List Value} [h : Ev l x (.tuple vs.toArray)] [hi : Ge vs i v] : Pu P w0 l Γ (.extract x i) ty v :=
  pu_of (s := Instr.extract (.tuple vs.toArray) i) (fun o ho _ => by unfold execOp; rw [ho]; simp only [h.eq]) (fun w _ => by simp [Instr.extract, hi.eq])

/-- len of a slice. -/
theorem pu_len {x : Operand} {T k b : Nat} {sv : Value} {α : Type} {i : Rep α} {xs : List α} [h : Ev l x sv] [ht : Sl P T k b] [hr : HasRd (List α) repList Γ [sv] xs] :
    Pu P w0 l Γ (.call { callee := .builtin .len, args := #[x], argTypes := #[T] }) ty (.int .i64 xs.length) := by
  obtain ⟨e, i, z, ht, _⟩ := ht.ex
  refine pu_of (s := Builtin.len_ #[T] ty #[sv]) (fun o ho h2 => ?_) (fun w hs => ?_)
  · unfold execOp
    rw [ho]
    simp [resolve, invoke, builtin, h.eq, h2, Pure.pure, Bind.bind, Sem.bind]
  · obtain ⟨a, cap, hc, _⟩ := hs.rd (hr := hr)
    simp only [List.cons.injEq, and_true] at hc
    subst hc
    simp [Builtin.len_, run_underlying ht, goInt]
theorem pu_len_str {x : Operand} {T : Nat} {s : ByteArray} [h : Ev l x (.string s)] [ht : IsStr P T] :
    Pu P w0 l Γ (.call { callee := .builtin .len, args := #[x], argTypes := #[T] }) ty (.int .i64 s.size) := by
  refine pu_of (s := Builtin.len_ #[T] ty #[.string s]) (fun o ho h2 => ?_) (fun w hs => ?_)
  · unfold execOp
    rw [ho]
    simp [resolve, invoke, builtin, h.eq, h2, Pure.pure, Bind.bind, Sem.bind]
  · simp [Builtin.len_, run_underlying ht.eq, goInt]

/-! binary operations -/
theorem pu_bin {op : BinOp} {T U : TypeId} {x y : Operand} {a b : Value} [hx : Ev l x a] [hy : Ev l y b] (hg : ∀ w, (eqGuard op T x y a b).run P w = .ok () w) (hr : ∀ w, (binOp op T a b).run P w = .ok v w) :
    Pu P w0 l Γ (.binOp op T x y U) ty v :=
  pu_of (s := do eqGuard op T x y a b; binOp op T a b) (fun o ho _ => by unfold execOp; rw [ho]; simp only [hx.eq, hy.eq]) (fun w _ => by
    simp only [Sem.run_bind, hg, Result.andThen_ok, hr])

theorem eqGuard_int {op : BinOp} {T : TypeId} {x y : Operand} {k k' : IntKind} {a b : Int} (w : World) : (eqGuard op T x y (.int k a) (.int k' b)).run P w = .ok () w := by
  unfold eqGuard; split <;> rfl
theorem eqGuard_bool {op : BinOp} {T : TypeId} {x y : Operand} {a b : Bool} (w : World) : (eqGuard op T x y (.bool a) (.bool b)).run P w = .ok () w := by
  unfold eqGuard; split <;> rfl
theorem eqGuard_str {op : BinOp} {T : TypeId} {x y : Operand} {a b : ByteArray} (w : World) : (eqGuard op T x y (.string a) (.string b)).run P w = .ok () w := by
  unfold eqGuard; split <;> rfl

section ints
variable {T U : TypeId} {x y : Operand} {a b : Int} {k : IntKind}
theorem pu_lss [hx : Ev l x (.int k a)] [hy : Ev l y (.int k b)] : Pu P w0 l Γ (.binOp .lss T x y U) ty (.bool (decide (a < b))) :=
  pu_bin eqGuard_int (fun w => by simp [binOp, Op.intCmp])
theorem pu_leq [hx : Ev l x (.int k a)] [hy : Ev l y (.int k b)] : Pu P w0 l Γ (.binOp .leq T x y U) ty (.bool (decide (a ≤ b))) :=
  pu_bin eqGuard_int (fun w => by simp [binOp, Op.intCmp])
theorem pu_gtr [hx : Ev l x (.int k a)] [hy : Ev l y (.int k b)] : Pu P w0 l Γ (.binOp .gtr T x y U) ty (.bool (decide (b < a))) :=
  pu_bin eqGuard_int (fun w => by simp [binOp, Op.intCmp])
theorem pu_geq [hx : Ev l x (.int k a)] [hy : Ev l y (.int k b)] : Pu P w0 l Γ (.binOp .geq T x y U) ty (.bool (decide (b ≤ a))) :=
  pu_bin eqGuard_int (fun w => by simp [binOp, Op.intCmp])
theorem pu_eql [hx : Ev l x (.int k a)] [hy : Ev l y (.int k b)] : Pu P w0 l Γ (.binOp .eql T x y U) ty (.bool (decide (a = b))) :=
  pu_bin eqGuard_int (fun w => by simp [binOp, Op.intCmp]; rfl)
theorem pu_neq [hx : Ev l x (.int k a)] [hy : Ev l y (.int k b)] : Pu P w0 l Γ (.binOp .neq T x y U) ty (.bool (decide (a ≠ b))) :=
  pu_bin eqGuard_int (fun w => by simp [binOp, Op.intCmp, bne]; by_cases h : a = b <;> simp [h])
theorem pu_add [hx : Ev l x (.int .i64 a)] [hy : Ev l y (.int .i64 b)] (h : -9223372036854775808 ≤ a + b ∧ a + b ≤ 9223372036854775807) : Pu P w0 l Γ (.binOp .add T x y U) ty (.int .i64 (a + b)) :=
  pu_bin eqGuard_int (fun w => by simp only [binOp, Op.intArith, ne_eq, not_true_eq_false, if_false]; rw [IntWalk.i64_in _ (by omega)]; rfl)
theorem pu_sub [hx : Ev l x (.int .i64 a)] [hy : Ev l y (.int .i64 b)] (h : -9223372036854775808 ≤ a - b ∧ a - b ≤ 9223372036854775807) : Pu P w0 l Γ (.binOp .sub T x y U) ty (.int .i64 (a - b)) :=
  pu_bin eqGuard_int (fun w => by simp only [binOp, Op.intArith, ne_eq, not_true_eq_false, if_false]; rw [IntWalk.i64_in _ (by omega)]; rfl)
theorem pu_mul [hx : Ev l x (.int .i64 a)] [hy : Ev l y (.int .i64 b)] (h : -9223372036854775808 ≤ a * b ∧ a * b ≤ 9223372036854775807) : Pu P w0 l Γ (.binOp .mul T x y U) ty (.int .i64 (a * b)) :=
  pu_bin eqGuard_int (fun w => by simp only [binOp, Op.intArith, ne_eq, not_true_eq_false, if_false]; rw [IntWalk.i64_in _ (by omega)]; rfl)
end ints

section bools
variable {T U : TypeId} {x y : Operand} {a b : Bool}
/-- bool is a type of the program, of its own kind. -/
class IsBool (P : Program) (T : TypeId) : Prop where
  eq : P.underlying T = some .bool
theorem run_equalIn_bool [hT : IsBool P T] (d : Nat) (w : World) : (Op.equalIn (d + 1) T (.bool a) (.bool b)).run P w = .ok (a == b) w := by
  simp only [Op.equalIn, Sem.run_bind, run_underlying hT.eq, Result.andThen_ok, Sem.run_pure]
theorem run_equal_bool [hT : IsBool P T] (w : World) : (Op.equal T (.bool a) (.bool b)).run P w = .ok (a == b) w := run_equalIn_bool 9999 w
theorem pu_eql_b [hx : Ev l x (.bool a)] [hy : Ev l y (.bool b)] [hT : IsBool P T] : Pu P w0 l Γ (.binOp .eql T x y U) ty (.bool (a == b)) :=
  pu_bin eqGuard_bool (fun w => run_value (f := Value.bool) (run_equal_bool w))
theorem pu_neq_b [hx : Ev l x (.bool a)] [hy : Ev l y (.bool b)] [hT : IsBool P T] : Pu P w0 l Γ (.binOp .neq T x y U) ty (.bool (!(a == b))) :=
  pu_bin eqGuard_bool (fun w => run_value (f := fun b => Value.bool (!b)) (run_equal_bool w))
end bools

/-! strings -/
theorem toList_beq (a b : ByteArray) : (a.toList == b.toList) = decide (a = b) := by
  rw [ByteArray.toList_eq, ByteArray.toList_eq]
  by_cases h : a = b
  · subst h; simp
  · have : ¬ a.data.toList = b.data.toList := fun e => h (by
      cases a; cases b; simp at e; exact congrArg ByteArray.mk e)
    simp only [h, decide_false]
    exact beq_false_of_ne this
section strs
variable {T U : TypeId} {x y : Operand} {a b : ByteArray}
theorem pu_eql_s [hx : Ev l x (.string a)] [hy : Ev l y (.string b)] : Pu P w0 l Γ (.binOp .eql T x y U) ty (.bool (decide (a = b))) :=
  pu_bin eqGuard_str (fun w => by simp only [binOp, Op.stringOp]; rw [toList_beq]; rfl)
theorem pu_neq_s [hx : Ev l x (.string a)] [hy : Ev l y (.string b)] : Pu P w0 l Γ (.binOp .neq T x y U) ty (.bool (decide (a ≠ b))) :=
  pu_bin eqGuard_str (fun w => by simp only [binOp, Op.stringOp]; rw [toList_beq]; simp)
end strs

/-- T is int or int64. -/
class I64T (P : Program) (T : TypeId) : Prop where
  eq : P.underlying T = some (.int .i64)
theorem pu_conv {S T : TypeId} {x : Operand} {n : Int} [hx : Ev l x (.int .i64 n)] [hS : I64T P S] [hT : I64T P T] (h : -9223372036854775808 ≤ n ∧ n ≤ 9223372036854775807) : Pu P w0 l Γ (.convert S T x) ty (.int .i64 n) :=
  pu_of (s := convert S T (.int .i64 n)) (fun o ho _ => by unfold execOp; rw [ho]; simp only [hx.eq]) (fun w _ => by
    simp only [convert, Sem.run_bind, run_underlying hS.eq, run_underlying hT.eq, Result.andThen_ok, Conv.intToInt, Sem.run_pure]
    rw [IntWalk.i64_in _ (by omega)])

/-! reading memory -/
theorem pu_load {T : TypeId} {x : Operand} {b off : Nat} {cs : List Value} [h : Ev l x (.pointer (some ⟨b, off, none⟩))] [hT : Sc P T] [hb : HasBk Γ b cs] [hv : Ge cs off v] : Pu P w0 l Γ (.load T x) ty v :=
  pu_of (s := Instr.loadAt T (.pointer (some ⟨b, off, none⟩))) (fun o ho _ => by unfold execOp; rw [ho]; simp only [h.eq]) (fun w hs => by
    obtain ⟨e, he⟩ := hs.bk (hr := hb)
    have hc : w.cell? ⟨b, off, none⟩ = some v := by simp [World.cell?, he, hv.eq]
    simp [Instr.loadAt, Instr.sureAddr, loadVar, Sem.run_bind, hT.agg, load, Sem.run, hc])

theorem run_loadCells {P : Program} {w : World} {p : Addr} : ∀ {cs : List Value} (i : Nat) (acc : Array Value), (∀ j, j < cs.length → w.cell? (p.add (i + j)) = cs[j]?) → (loadCellsFrom p i cs.length acc).run P w = .ok (acc ++ cs.toArray) w
  | [], i, acc, _ => by simp [loadCellsFrom]
  | c :: cs, i, acc, h => by
    have h0 := h 0 (by simp)
    simp only [Nat.add_zero, List.getElem?_cons_zero] at h0
    simp only [List.length_cons, loadCellsFrom, Sem.run_bind, load, Sem.run, h0, Result.andThen_ok]
    rw [run_loadCells (i + 1) (acc.push c) (fun j hj => by have := h (j + 1) (by simpa using hj); rw [show i + 1 + j = i + (j + 1) by omega]; simpa using this)]
    simp

theorem pu_load_agg {T : TypeId} {x : Operand} {b off k : Nat} {cs out : List Value} [h : Ev l x (.pointer (some ⟨b, off, none⟩))] [hT : Ag P T k] [hb : HasBk Γ b cs] [hv : Tk cs off k out] : Pu P w0 l Γ (.load T x) ty (.agg out.toArray) :=
  pu_of (s := Instr.loadAt T (.pointer (some ⟨b, off, none⟩))) (fun o ho _ => by unfold execOp; rw [ho]; simp only [h.eq]) (fun w hs => by
    obtain ⟨e, he⟩ := hs.bk (hr := hb)
    obtain ⟨h1, h2⟩ := hv.eq
    have hk : out.length = k := by rw [← h1]; simp; omega
    have hc := run_loadCells (P := P) (w := w) (p := ⟨b, off, none⟩) (cs := out) 0 #[] (fun j hj => by
      rw [add_lit, Nat.zero_add]
      have : out[j]? = cs[off + j]? := by rw [← h1, List.getElem?_take, if_pos (by omega), List.getElem?_drop]
      simp [World.cell?, he, this])
    rw [hk] at hc
    simp only [Instr.loadAt, Instr.sureAddr, loadVar, Sem.run_bind, Sem.run_pure, Result.andThen_ok, hT.agg, if_true, hT.size, loadCells, hc]
    simp)

/-- The address of an element: not laid open. -/
def elemA (v : Value) (n : Int) (k : Nat) : Addr :=
  match v with
  | .slice (some a) _ _ => a.add (n.toNat * k)
  | _ => ⟨0, 0, none⟩

/-- Where the cells of element n lie. -/
theorem elem_cells {α : Type} [Rep α] {ok : Nat → Prop} {w : World} {sv : Value} {xs : List α} (h : Rep.rd ok w [sv] xs) {n : Int} (h0 : 0 ≤ n) (h1 : n < xs.length) :
    ∃ a cap b off p c s, sv = .slice (some ⟨b, off, none⟩) xs.length cap ∧ a = (⟨b, off, none⟩ : Addr) ∧ ok b ∧ CellsAt w b off (p ++ c ++ s) ∧ p.length = n.toNat * Rep.sz α ∧ elemA sv n (Rep.sz α) = ⟨b, off + p.length, none⟩ ∧
      Rep.rd ok w c (xs[n.toNat]'(by omega)) := by
  obtain ⟨a, cap, hc, _, _, _, h2⟩ := h
  simp only [List.cons.injEq, and_true] at hc
  obtain ⟨b, off, cells, rfl, hb, hca, hr⟩ := h2 (by omega)
  obtain ⟨p, c, s, e, hp, hc'⟩ := hr.get n.toNat (by omega)
  subst hc
  refine ⟨_, cap, b, off, p, c, s, rfl, rfl, hb, e ▸ hca, hp, ?_, hc'⟩
  simp only [elemA, add_lit, hp]

theorem pu_index {T k by_ : Nat} {x y : Operand} {sv : Value} {n : Int} {α : Type} {i : Rep α} {xs : List α} {kk : IntKind} [h : Ev l x sv] [hn : Ev l y (.int kk n)] [hT : Sl P T k by_] [hr : HasRd (List α) repList Γ [sv] xs]
    (hi : 0 ≤ n ∧ n < xs.length) : Pu P w0 l Γ (.indexAddr T x y) ty (.pointer (some (elemA sv n k))) := by
  obtain ⟨e, inf, z, ht, hinf, hk, _⟩ := hT.ex
  refine pu_of (s := Instr.indexAt T sv (.int kk n)) (fun o ho _ => by unfold execOp; rw [ho]; simp only [h.eq, hn.eq]) (fun w hs => ?_)
  obtain ⟨a, cap, b, off, p, c, s, rfl, _, _, _, _, _, _⟩ := elem_cells (hs.rd (hr := hr)) hi.1 hi.2
  simp [Instr.indexAt, asIntOf, run_underlying ht, sizeOf, typeInfo, hinf, hk, hi.1, hi.2, elemA]

/-- An element that is a number. -/
theorem pu_load_int {T : TypeId} {x : Operand} {sv : Value} {n : Int} {xs : List Int} [h : Ev l x (.pointer (some (elemA sv n 1)))] [hT : Sc P T] [hr : HasRd (List Int) repList Γ [sv] xs]
    (hi : 0 ≤ n ∧ n < xs.length) : Pu P w0 l Γ (.load T x) ty (.int .i64 (xs.getD n.toNat 0)) :=
  pu_of (s := Instr.loadAt T (.pointer (some (elemA sv n 1)))) (fun o ho _ => by unfold execOp; rw [ho]; simp only [h.eq]) (fun w hs => by
    obtain ⟨a, cap, b, off, p, c, s, rfl, _, _, hca, hp, he, hrd⟩ := elem_cells (hs.rd (hr := hr)) hi.1 hi.2
    obtain ⟨rfl, _⟩ := hrd
    have he' : elemA (.slice (some ⟨b, off, none⟩) xs.length cap) n 1 = ⟨b, off + p.length, none⟩ := he
    have := hca.part 0 (by simp)
    simp only [Nat.add_zero, List.getElem?_cons_zero] at this
    rw [he', List.getD_eq_getElem?_getD, List.getElem?_eq_getElem (by omega), Option.getD_some]
    simp [Instr.loadAt, Instr.sureAddr, loadVar, Sem.run_bind, hT.agg, load, Sem.run, this])
theorem pu_load_bool {T : TypeId} {x : Operand} {sv : Value} {n : Int} {xs : List Bool} [h : Ev l x (.pointer (some (elemA sv n 1)))] [hT : Sc P T] [hr : HasRd (List Bool) repList Γ [sv] xs]
    (hi : 0 ≤ n ∧ n < xs.length) : Pu P w0 l Γ (.load T x) ty (.bool (xs.getD n.toNat false)) :=
  pu_of (s := Instr.loadAt T (.pointer (some (elemA sv n 1)))) (fun o ho _ => by unfold execOp; rw [ho]; simp only [h.eq]) (fun w hs => by
    obtain ⟨a, cap, b, off, p, c, s, rfl, _, _, hca, hp, he, hrd⟩ := elem_cells (hs.rd (hr := hr)) hi.1 hi.2
    have hrd' : c = [.bool _] := hrd
    subst hrd'
    have he' : elemA (.slice (some ⟨b, off, none⟩) xs.length cap) n 1 = ⟨b, off + p.length, none⟩ := he
    have := hca.part 0 (by simp)
    simp only [Nat.add_zero, List.getElem?_cons_zero] at this
    rw [he', List.getD_eq_getElem?_getD, List.getElem?_eq_getElem (by omega), Option.getD_some]
    simp [Instr.loadAt, Instr.sureAddr, loadVar, Sem.run_bind, hT.agg, load, Sem.run, this])
theorem pu_load_str {T : TypeId} {x : Operand} {sv : Value} {n : Int} {xs : List ByteArray} [h : Ev l x (.pointer (some (elemA sv n 1)))] [hT : Sc P T] [hr : HasRd (List ByteArray) repList Γ [sv] xs]
    (hi : 0 ≤ n ∧ n < xs.length) : Pu P w0 l Γ (.load T x) ty (.string (xs.getD n.toNat ByteArray.empty)) :=
  pu_of (s := Instr.loadAt T (.pointer (some (elemA sv n 1)))) (fun o ho _ => by unfold execOp; rw [ho]; simp only [h.eq]) (fun w hs => by
    obtain ⟨a, cap, b, off, p, c, s, rfl, _, _, hca, hp, he, hrd⟩ := elem_cells (hs.rd (hr := hr)) hi.1 hi.2
    obtain ⟨rfl, _⟩ := hrd
    have he' : elemA (.slice (some ⟨b, off, none⟩) xs.length cap) n 1 = ⟨b, off + p.length, none⟩ := he
    have := hca.part 0 (by simp)
    simp only [Nat.add_zero, List.getElem?_cons_zero] at this
    rw [he', List.getD_eq_getElem?_getD, List.getElem?_eq_getElem (by omega), Option.getD_some]
    simp [Instr.loadAt, Instr.sureAddr, loadVar, Sem.run_bind, hT.agg, load, Sem.run, this])

/-- At a pointer whose cells are known. -/
theorem pu_load_pt {T : TypeId} {x : Operand} {p : Addr} [h : Ev l x (.pointer (some p))] [hT : Sc P T] [hp : HasPt Γ p [v]] : Pu P w0 l Γ (.load T x) ty v :=
  pu_of (s := Instr.loadAt T (.pointer (some p))) (fun o ho _ => by unfold execOp; rw [ho]; simp only [h.eq]) (fun w hs => by
    have := hs.pt (hr := hp) 0 (by simp)
    simp only [List.getElem?_cons_zero] at this
    have h0 : p.add 0 = p := by simp [Addr.add]
    rw [h0] at this
    simp [Instr.loadAt, Instr.sureAddr, loadVar, Sem.run_bind, hT.agg, load, Sem.run, this])
theorem pu_load_pt_agg {T k : Nat} {x : Operand} {p : Addr} {cs : List Value} [h : Ev l x (.pointer (some p))] [hT : Ag P T k] [hp : HasPt Γ p cs] (hk : cs.length = k) : Pu P w0 l Γ (.load T x) ty (.agg cs.toArray) :=
  pu_of (s := Instr.loadAt T (.pointer (some p))) (fun o ho _ => by unfold execOp; rw [ho]; simp only [h.eq]) (fun w hs => by
    have hc := run_loadCells (P := P) (w := w) (p := p) (cs := cs) 0 #[] (fun j hj => by rw [Nat.zero_add]; exact hs.pt (hr := hp) j hj)
    rw [hk] at hc
    simp only [Instr.loadAt, Instr.sureAddr, loadVar, Sem.run_bind, Sem.run_pure, Result.andThen_ok, hT.agg, if_true, hT.size, loadCells, hc]
    simp)
end pure_ops

end Go.Eng
namespace Go.Eng
open Go Go.RowKit
set_option linter.unusedVariables false
set_option linter.unusedSimpArgs false

/-- The value is of one cell. -/
class OneC (Γ : List Atom) (v : Value) : Prop where
  one : ∀ {ok w F}, Sep ok w Γ F → v.oneCell' = true
instance {Γ : List Atom} {b : Bool} : OneC Γ (.bool b) := ⟨fun _ => rfl⟩
instance {Γ : List Atom} {k : IntKind} {n : Int} : OneC Γ (.int k n) := ⟨fun _ => rfl⟩
instance {Γ : List Atom} {s : ByteArray} : OneC Γ (.string s) := ⟨fun _ => rfl⟩
instance {Γ : List Atom} {a : Option Addr} : OneC Γ (.pointer a) := ⟨fun _ => rfl⟩
instance {Γ : List Atom} {a : Option Addr} {n c : Nat} : OneC Γ (.slice a n c) := ⟨fun _ => rfl⟩
instance {Γ : List Atom} {f : Fn} {a b : Array Value} : OneC Γ (.func f a b) := ⟨fun _ => rfl⟩
instance {Γ : List Atom} : OneC Γ .nilFunc := ⟨fun _ => rfl⟩
instance {Γ : List Atom} : OneC Γ .nilIface := ⟨fun _ => rfl⟩
instance {Γ : List Atom} {t : TypeId} {v : Value} : OneC Γ (.iface t v) := ⟨fun _ => rfl⟩
instance (priority := 500) {α : Type} {i : Rep α} {Γ : List Atom} {v : Value} {x : α} [h : HasRd α i Γ [v] x] : OneC Γ v := ⟨fun hs => Rep.rd_one (h.get hs) v (by simp)⟩
class OneCs (Γ : List Atom) (vs : List Value) : Prop where
  one : ∀ {ok w F}, Sep ok w Γ F → ∀ v ∈ vs, v.oneCell' = true
instance {Γ : List Atom} : OneCs Γ [] := ⟨fun _ _ h => by cases h⟩
instance {Γ : List Atom} {v : Value} {vs : List Value} [h : OneC Γ v] [h' : OneCs Γ vs] : OneCs Γ (v :: vs) := ⟨fun hs u hu => by
  rcases List.mem_cons.1 hu with rfl | hu
  · exact h.one hs
  · exact h'.one hs u hu⟩

/-- The value's cells. -/
class Cs (Γ : List Atom) (v : Value) (cs : outParam (List Value)) : Prop where
  eq : ∀ {ok w F}, Sep ok w Γ F → v.cells = cs.toArray ∧ ∀ c ∈ cs, c.oneCell' = true
theorem cells_one {v : Value} (h : v.oneCell' = true) : v.cells = #[v] := by cases v <;> simp_all [Value.cells, Value.oneCell']
instance {Γ : List Atom} {cs : List Value} [h : OneCs Γ cs] : Cs Γ (.agg cs.toArray) cs := ⟨fun hs => ⟨rfl, h.one hs⟩⟩
instance (priority := 500) {Γ : List Atom} {v : Value} [h : OneC Γ v] : Cs Γ v [v] := ⟨fun hs => ⟨cells_one (h.one hs), by simpa using h.one hs⟩⟩

theorem Sat.cs {w0 w : World} {Γ : List Atom} {v : Value} {cs : List Value} (h : Sat w0 w Γ) [hc : Cs Γ v cs] : v.cells = cs.toArray ∧ ∀ c ∈ cs, c.oneCell' = true := by
  obtain ⟨_, F, _, _, hs⟩ := h
  exact hc.eq hs

/-- What one list of atoms says of the world, the other says, too. -/
def Ent (w0 : World) (Γ Δ : List Atom) : Prop := ∀ w, Sat w0 w Γ → Sat w0 w Δ
theorem ent_sub {w0 : World} {Γ Δ : List Atom} [h : Sub Γ Δ] : Ent w0 Γ Δ := fun _ hs => hs.sub h

section ops
variable {P : Program} {ops : Array Oper} {Q : Exit → Act → World → Prop} {w0 : World} {rest : List Oper} {l l' : List Value} {Γ Δ : List Atom} {ty : TypeId} {v : Value} {pos : String} {after : Array Edge} {d : Nat}

/-- An operation that leaves v and another world. -/
theorem wl_op {o : Oper} (hg : o.guard = none) {w w' : World} (hr : (execOp (E l).eval o).run P w = .ok (.value v) w') (h : wpList P ops Q rest ((E l).put o.dst v) w') : wpList P ops Q (o :: rest) (E l) w := by
  refine wpList_plain hg fun K hK => ?_
  unfold Oper.wp
  rw [hr, Oper.upon_value]
  exact hK _ _ h

theorem wl_alloc {T : TypeId} {zs : List Value} [hz : Zr P T zs] (h : ∀ b, WL P ops Q w0 rest (l.set d (.pointer (some ⟨b, 0, none⟩))) (.bk b zs :: Γ)) :
    WL P ops Q w0 (⟨some d, .alloc T, ty, pos, after, none⟩ :: rest) l Γ := by
  intro w hs
  obtain ⟨z, hz, hc⟩ := hz.zero
  refine wl_op (v := .pointer (some ⟨w.heap.size, 0, none⟩)) (w' := w.alloc (.cells zs.toArray T)) rfl ?_ ?_
  · refine run_value (f := Next.value) (s := Instr.alloc T true (.tuple #[])) ?_
    simp only [Instr.alloc, newVar, newRow, newObj, Sem.run_bind, hz, Result.andThen_ok, hc]
    rfl
  · rw [E_put]; exact h _ _ (hs.alloc zs T)

theorem wl_box {T : TypeId} {x : Operand} {cs : List Value} [hx : Ev l x v] [hc : Cs Γ v cs] (h : ∀ b, WL P ops Q w0 rest (l.set d (.pointer (some ⟨b, 0, none⟩))) (.bk b cs :: Γ)) :
    WL P ops Q w0 (⟨some d, .box T x, ty, pos, after, none⟩ :: rest) l Γ := by
  intro w hs
  refine wl_op (v := .pointer (some ⟨w.heap.size, 0, none⟩)) (w' := w.alloc (.cells cs.toArray T)) rfl ?_ ?_
  · refine run_value (f := Next.value) (s := Instr.box T ((E l).eval x)) ?_
    simp [Instr.box, hx.eq, newVar, newRow, newObj, Sem.run, (hs.cs (hc := hc)).1, Bind.bind, Pure.pure, Sem.bind]
  · rw [E_put]; exact h _ _ (hs.alloc cs T)

theorem run_storeCells {b : Nat} : ∀ {new : List Value} {cs : List Value} {off : Nat} {w : World} {Γ : List Atom}, Sat w0 w (.bk b cs :: Γ) → (∀ c ∈ new, c.oneCell' = true) → off + new.length ≤ cs.length →
    ∀ i base, base + i = off → ∃ w', (storeCells ⟨b, base, none⟩ new i).run P w = .ok () w' ∧ Sat w0 w' (.bk b (cs.take off ++ new ++ cs.drop (off + new.length)) :: Γ)
  | [], cs, off, w, Γ, hs, _, hl, i, base, hb => ⟨w, rfl, by simpa using hs⟩
  | c :: new, cs, off, w, Γ, hs, h1, hl, i, base, hb => by
    have hl' : off + new.length + 1 ≤ cs.length := by simpa [Nat.add_assoc] using hl
    obtain ⟨e, he⟩ := hs.bk (hr := HasBk.here)
    obtain ⟨w', hr, hs'⟩ := run_storeCells (new := new) (off := off + 1) (hs.store off c) (fun u hu => h1 u (by simp [hu])) (by rw [List.length_set]; omega) (i + 1) base (by omega)
    refine ⟨w', ?_, ?_⟩
    · have hc1 : c.oneCell' = true := h1 c (by simp)
      have hcell : w.cell? ⟨b, off, none⟩ = some (cs[off]'(by omega)) := by simp [World.cell?, he, List.getElem?_eq_getElem (show off < cs.length by omega)]
      have hfr : w.frozen? ⟨b, off, none⟩ = false := by simp [World.frozen?, he]
      have hst : (store ((⟨b, base, none⟩ : Addr).add i)  c).run P w = .ok () (w.setCell ⟨b, off, none⟩ c) := by
        rw [add_lit, hb]
        cases c <;> simp_all [store, Sem.run, Value.oneCell']
      simp only [storeCells, Sem.run_bind, hst, Result.andThen_ok, hr]
    · have e1 : (cs.set off c).take (off + 1) = cs.take off ++ [c] := by
        rw [List.take_succ_eq_append_getElem (by rw [List.length_set]; omega)]
        simp [List.take_set_of_le]
      have e2 : (cs.set off c).drop (off + 1 + new.length) = cs.drop (off + (c :: new).length) := by
        rw [List.drop_set_of_lt (by omega)]
        congr 1
        simp; omega
      rw [e1, e2] at hs'
      simpa using hs'

theorem wl_store {T : TypeId} {x y : Operand} {b off k : Nat} {cs vc cs' : List Value} [hx : Ev l x (.pointer (some ⟨b, off, none⟩))] [hy : Ev l y v] [hc : Cs Γ v vc] [hT : Sz P T k] [hb : PullBk Γ b cs Δ] (hk : vc.length = k) [hsp : Sp cs off vc cs']
    (h : WL P ops Q w0 rest l (.bk b cs' :: Δ)) : WL P ops Q w0 (⟨none, .store T x y, ty, pos, after, none⟩ :: rest) l Γ := by
  intro w hs
  obtain ⟨h1, h2⟩ := hs.cs (hc := hc)
  obtain ⟨e, hle⟩ := hsp.eq
  obtain ⟨w', hr, hs'⟩ := run_storeCells (P := P) (hs.perm hb.perm) h2 hle 0 off (by omega)
  refine wpList_plain rfl fun K hK => ?_
  unfold Oper.wp
  have : (execOp (E l).eval ⟨none, .store T x y, ty, pos, after, none⟩).run P w = .ok .skip w' := by
    show (do Instr.storeAt T ((E l).eval x) ((E l).eval y); pure Next.skip : Sem Next).run P w = _
    simp only [hx.eq, hy.eq, Sem.run_bind, Instr.storeAt, Instr.sureAddr, Sem.run_pure, Result.andThen_ok, storeVar, hT.size, h1]
    simp only [List.size_toArray, hk, ne_eq, not_true_eq_false, if_false, Sem.run_pure, Result.andThen_ok, Sem.run_bind]
    simp only [hr, Result.andThen_ok]
  rw [this, Oper.upon_skip, E_put_none]
  exact hK _ _ (h w' (e ▸ hs'))
/-! ### Calls -/
/-- From Γ, function f called with vs returns r p, and leaves Γ' p. -/
def CJ (P : Program) (f : FuncId) (vs : List Value) (w0 : World) (Γ : List Atom) {ρ : Type} (r : ρ → Value) (Γ' : ρ → List Atom) : Prop :=
  ∀ w, Sat w0 w Γ → Calls P f vs.toArray w (fun e w' => ∃ p, e = .returned (r p) ∧ Sat w0 w' (Γ' p))

theorem cj_mono {f : FuncId} {vs : List Value} {ρ ρ' : Type} {r : ρ → Value} {r' : ρ' → Value} {Γ' : ρ → List Atom} {Γ'' : ρ' → List Atom} (h : CJ P f vs w0 Γ r Γ') (hm : ∀ p, ∃ p', r' p' = r p ∧ ∀ w, Sat w0 w (Γ' p) → Sat w0 w (Γ'' p')) : CJ P f vs w0 Γ r' Γ'' :=
  fun w hs => (h w hs).mono fun e w' ⟨p, he, hs'⟩ => let ⟨p', hp, hq⟩ := hm p; ⟨p', by rw [he, hp], hq w' hs'⟩

theorem run_call {xs : List Operand} {vs : List Value} {f : FuncId} {ts : Array TypeId} {dst : Option Tmp} {g : Option (Nat × Bool)} [hx : EvL l xs vs] [hf : IsFn P f] (w : World) :
    (execOp (E l).eval ⟨dst, .call { callee := .value (.func f), args := xs.toArray, argTypes := ts }, ty, pos, after, g⟩).run P w = .ok (.enter f vs.toArray) w := by
  have := hf.run vs.toArray w
  simp only [execOp, resolve, Sem.run_bind]
  show (Sem.run P (Deferred.ofValue (.func (.func f) #[] #[]) _) w).andThen _ = _
  have he : Array.map (E l).eval xs.toArray = vs.toArray := by simp [hx.eq]
  rw [he]
  simpa [Deferred.ofValue, invoke] using this

theorem wl_call {f : FuncId} {xs : List Operand} {vs : List Value} {ts : Array TypeId} {ρ : Type} {r : ρ → Value} {Γ' : ρ → List Atom} [hx : EvL l xs vs] [hf : IsFn P f] (hc : CJ P f vs w0 Γ r Γ')
    (h : ∀ p, WL P ops Q w0 rest (l.set d (r p)) (Γ' p)) : WL P ops Q w0 (⟨some d, .call { callee := .value (.func f), args := xs.toArray, argTypes := ts }, ty, pos, after, none⟩ :: rest) l Γ := by
  intro w hs
  refine wpList_plain rfl fun K hK => ?_
  unfold Oper.wp
  rw [run_call w, Oper.upon_enter]
  refine (hc w hs).mono ?_
  rintro e w' ⟨p, rfl, hs'⟩
  show K ((E l).put (some d) (r p)) w'
  rw [E_put]
  exact hK _ _ (h p w' hs')
/-- A call whose result nobody takes. -/
theorem wl_call0 {f : FuncId} {xs : List Operand} {vs : List Value} {ts : Array TypeId} {ρ : Type} {r : ρ → Value} {Γ' : ρ → List Atom} [hx : EvL l xs vs] [hf : IsFn P f] (hc : CJ P f vs w0 Γ r Γ')
    (h : ∀ p, WL P ops Q w0 rest l (Γ' p)) : WL P ops Q w0 (⟨none, .call { callee := .value (.func f), args := xs.toArray, argTypes := ts }, ty, pos, after, none⟩ :: rest) l Γ := by
  intro w hs
  refine wpList_plain rfl fun K hK => ?_
  unfold Oper.wp
  rw [run_call w, Oper.upon_enter]
  refine (hc w hs).mono ?_
  rintro e w' ⟨p, rfl, hs'⟩
  show K ((E l).put none (r p)) w'
  rw [E_put_none]
  exact hK _ _ (h p w' hs')

/-! ### The function's frame -/
def RetP (w0 : World) {ρ : Type} (r : ρ → Value) (Γ' : ρ → List Atom) : Ending → World → Prop := fun e w' => ∃ p, e = .returned (r p) ∧ Sat w0 w' (Γ' p)

theorem cj_intro {f : FuncId} {fn : Func} {c : Code} {vs : List Value} {n : Nat} {ρ : Type} {r : ρ → Value} {Γ' : ρ → List Atom} (hf : P.funcs[f]? = some fn) (hb : fn.body = some c) (hn : fn.ntmps = n)
    (hl : vs ++ List.replicate (n - vs.length) undef = l) (h : WC P (bodyPost P fn (RetP w0 r Γ')) w0 c l Γ) : CJ P f vs w0 Γ r Γ' := by
  intro w hs
  refine calls_of_wp hf hb ?_
  have := h w hs
  rw [← hl, ← hn] at this
  have he : vs.toArray ++ Array.replicate (fn.ntmps - vs.toArray.size) undef = (vs ++ List.replicate (fn.ntmps - vs.length) undef).toArray := by simp
  rw [he]
  exact this

/-- What the result variables hold. -/
def resOf (tmps : Array Value) : ResultVar → Sem Value
  | .tmp t => pure (tmps.getD t undef)
  | .cell a t => do loadVar t (← asAddr (tmps.getD a undef))

theorem results_eq (fn : Func) (tmps : Array Value) : results fn tmps = (do let vs ← fn.results.mapM (resOf tmps); pure (if h : vs.size = 1 then vs[0] else .tuple vs)) := by
  unfold results
  congr 1


class Rs (P : Program) (Γ : List Atom) (l : List Value) (rs : List ResultVar) (vs : outParam (List Value)) : Prop where
  run : ∀ {w0 w : World}, Sat w0 w Γ → (rs.mapM (resOf (E l).tmps)).run P w = .ok vs w
instance : Rs P Γ l [] [] := ⟨fun _ => by simp⟩
theorem E_getD {t : Nat} [h : Ge l t v] : (E l).tmps.getD t undef = v := by simp [E, h.eq]
theorem rs_cons {r : ResultVar} {rs : List ResultVar} {vs : List Value} (h : ∀ {w0 w : World}, Sat w0 w Γ → (resOf (E l).tmps r).run P w = .ok v w) (h' : Rs P Γ l rs vs) : Rs P Γ l (r :: rs) (v :: vs) := ⟨fun hs => by
  simp only [List.mapM_cons, Sem.run_bind, h hs, Result.andThen_ok, h'.run hs, Sem.run_pure]⟩
instance {t : Nat} {rs : List ResultVar} {vs : List Value} [h : Ge l t v] [h' : Rs P Γ l rs vs] : Rs P Γ l (.tmp t :: rs) (v :: vs) :=
  rs_cons (fun _ => by simp only [resOf, E_getD (h := h), Sem.run_pure]) h'
instance {t T b : Nat} {cs : List Value} {rs : List ResultVar} {vs : List Value} [h : Ge l t (.pointer (some ⟨b, 0, none⟩))] [hT : Sc P T] [hb : HasBk Γ b cs] [hv : Ge cs 0 v] [h' : Rs P Γ l rs vs] : Rs P Γ l (.cell t T :: rs) (v :: vs) :=
  rs_cons (fun {w0 w} hs => by
    obtain ⟨e, he⟩ := hs.bk (hr := hb)
    have hc : w.cell? ⟨b, 0, none⟩ = some v := by simp only [World.cell?, he]; simpa using hv.eq
    simp [resOf, E_getD (h := h), asAddr, loadVar, Sem.run_bind, hT.agg, load, Sem.run, hc]) h'
instance {t T b k : Nat} {cs : List Value} {rs : List ResultVar} {vs out : List Value} [h : Ge l t (.pointer (some ⟨b, 0, none⟩))] [hT : Ag P T k] [hb : HasBk Γ b cs] [hv : Tk cs 0 k out] [h' : Rs P Γ l rs vs] : Rs P Γ l (.cell t T :: rs) (.agg out.toArray :: vs) :=
  rs_cons (fun {w0 w} hs => by
    obtain ⟨e, he⟩ := hs.bk (hr := hb)
    obtain ⟨h1, h2⟩ := hv.eq
    have hk : out.length = k := by rw [← h1]; simp; omega
    have hc := run_loadCells (P := P) (w := w) (p := ⟨b, 0, none⟩) (cs := out) 0 #[] (fun j hj => by
      rw [add_lit, Nat.zero_add, Nat.zero_add]
      have : out[j]? = cs[j]? := by rw [← h1, List.getElem?_take, if_pos (by omega), List.getElem?_drop, Nat.zero_add]
      simp only [World.cell?, he, this]; simp)
    rw [hk] at hc
    simp only [resOf, E_getD (h := h), asAddr, loadVar, Sem.run_bind, Sem.run_pure, Result.andThen_ok, hT.agg, if_true, hT.size, loadCells, hc]
    simp) h'

/-- One result, several, none. -/
def tupOf : List Value → Value
  | [v] => v
  | vs => .tuple vs.toArray

theorem run_results {fn : Func} {rs : List ResultVar} {vs : List Value} {w : World} (hf : fn.results = rs.toArray) [hr : Rs P Γ l rs vs] (hs : Sat w0 w Γ) : (results fn (E l).tmps).run P w = .ok (tupOf vs) w := by
  rw [results_eq, hf, Array.mapM_eq_mapM_toList]
  simp only [Sem.run_bind, map_eq_pure_bind, hr.run hs, Result.andThen_ok, Sem.run_pure]
  match vs with
  | [] => simp [tupOf]
  | [v] => simp [tupOf]
  | a :: b :: vs => simp [tupOf]

theorem wq_ret {fn : Func} {rs : List ResultVar} {vs : List Value} {ρ : Type} {r : ρ → Value} {Γ' : ρ → List Atom} (hf : fn.results = rs.toArray) [hr : Rs P Γ l rs vs] (p : ρ) (hv : r p = tupOf vs) (hs : Ent w0 Γ (Γ' p)) :
    WQ (bodyPost P fn (RetP w0 r Γ')) w0 .ret l Γ := fun w hw => ⟨rfl, _, run_results hf hw, p, by rw [hv], hs w hw⟩
theorem wq_end {fn : Func} {rs : List ResultVar} {vs : List Value} {ρ : Type} {r : ρ → Value} {Γ' : ρ → List Atom} (hf : fn.results = rs.toArray) [hr : Rs P Γ l rs vs] (p : ρ) (hv : r p = tupOf vs) (hs : Ent w0 Γ (Γ' p)) :
    WQ (bodyPost P fn (RetP w0 r Γ')) w0 .normal l Γ := fun w hw => ⟨rfl, _, run_results hf hw, p, by rw [hv], hs w hw⟩

/-! ### Loops -/
def patch : List Value → List Nat → List Value → List Value
  | l, j :: J, v :: vs => patch (l.set j v) J vs
  | l, _, _ => l

/-- Behind a round: the relation again, and the measure has gone down. -/
def Next_ (w0 : World) (l : List Value) (K JJ : List Nat) {ι : Type} (vals : ι → List Value) (ctx : ι → List Atom) (pre : ι → Prop) (μ : ι → Nat) (i : ι) : Act → World → Prop := fun a w =>
  ∃ i' u, pre i' ∧ μ i' < μ i ∧ a = E (patch (patch l K (vals i')) JJ (JJ.map u)) ∧ Sat w0 w (ctx i')

theorem wc_loop (K JJ : List Nat) {ι : Type} (vals : ι → List Value) (ctx : ι → List Atom) (pre : ι → Prop) (μ : ι → Nat) {c : Code} (i0 : ι)
    (h0 : patch (patch l K (vals i0)) JJ (JJ.map fun j => l.getD j undef) = l) (hp : pre i0) (hsub : Ent w0 Γ (ctx i0))
    (round : ∀ i u l', patch (patch l K (vals i)) JJ (JJ.map u) = l' → pre i → WC P (Exit.then (Next_ w0 l K JJ vals ctx pre μ i) Q) w0 c l' (ctx i)) : WC P Q w0 (.loop c) l Γ := by
  intro w hs
  have key : ∀ n, ∀ (i : ι) (u : Nat → Value) w, μ i = n → pre i → Sat w0 w (ctx i) → ∀ b k cs,
      ∃ e a' w', Q e a' w' ∧ Arrives P (lone (b.at (E (patch (patch l K (vals i)) JJ (JJ.map u))) (.code c :: .inLoop c :: k)) cs w) b k cs e a' w' := by
    intro n
    induction n using Nat.strongRecOn with
    | _ n ih =>
      intro i u w hn hpi hsi b k cs
      obtain ⟨e, a₁, w₁, hq, harr⟩ := round i u _ rfl hpi w hsi b (.inLoop c :: k) cs
      cases e with
      | normal =>
        obtain ⟨i', u', hp', hlt, rfl, hs'⟩ := hq
        obtain ⟨e₂, a₂, w₂, hq₂, harr₂⟩ := ih (μ i') (hn ▸ hlt) i' u' w₁ rfl hp' hs' b k cs
        exact ⟨e₂, a₂, w₂, hq₂, .of_steps (Steps.trans harr (.one step_inLoop)) harr₂⟩
      | exit id => exact ⟨_, a₁, w₁, hq, .pass (x := .inLoop c) rfl (fun _ _ => .inl (by simp)) harr⟩
      | goto l => exact ⟨_, a₁, w₁, hq, .pass (x := .inLoop c) rfl (fun _ _ => .inl (by simp)) harr⟩
      | ret => exact ⟨_, a₁, w₁, hq, .pass (x := .inLoop c) rfl (fun _ _ => .inl (by simp)) harr⟩
      | panic ch => exact ⟨_, a₁, w₁, hq, .pass (x := .inLoop c) rfl (fun _ _ => .inl (by simp)) harr⟩
      | outgrown => exact ⟨_, a₁, w₁, hq, .pass (x := .inLoop c) rfl (fun _ _ => .inl (by simp)) harr⟩
  intro b k cs
  have := key _ i0 (fun j => l.getD j undef) w rfl hp (hsub w hs) b k cs
  rw [h0] at this
  obtain ⟨e, a', w', hq, harr⟩ := this
  exact ⟨e, a', w', hq, .of_steps (.one step_loop) harr⟩

theorem wq_next {K JJ : List Nat} {l0 : List Value} {ι : Type} {vals : ι → List Value} {ctx : ι → List Atom} {pre : ι → Prop} {μ : ι → Nat} {i : ι} (i' : ι) (hp : pre i') (hμ : μ i' < μ i)
    (hl : patch (patch l0 K (vals i')) JJ (JJ.map fun j => l.getD j undef) = l) (hsub : Ent w0 Γ (ctx i')) : WQ (Exit.then (Next_ w0 l0 K JJ vals ctx pre μ i) Q) w0 .normal l Γ :=
  fun w hs => ⟨i', _, hp, hμ, by rw [hl], hsub w hs⟩

end ops

end Go.Eng
