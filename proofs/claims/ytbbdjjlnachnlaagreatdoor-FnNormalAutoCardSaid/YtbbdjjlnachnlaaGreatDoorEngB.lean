/- The memory half of the walking engine: what values read as, what is owned, and how both stand changes of the world. -/
import Derived.WalkKit
import Derived.OrdersHeld
namespace Go.Eng
open Go Go.RowKit

/-- The number fits an int64. -/
def In64 (n : Int) : Prop := -9223372036854775808 ≤ n ∧ n ≤ 9223372036854775807

/-- The block reads the same in both worlds. -/
abbrev SameB (w w' : World) (b : Nat) : Prop := w'.heap[b]? = w.heap[b]?

theorem cell_same {w w' : World} {a : Addr} (h : SameB w w' a.block) : w'.cell? a = w.cell? a := World.cell?_of_block (w := w) h

/-- A Lean type whose values Go's cells can read as. -/
class Rep (α : Type) where
  sz : Nat
  rd : (Nat → Prop) → World → List Value → α → Prop
  ow : (Nat → Prop) → World → List Nat → List Value → α → Prop
  pos : 0 < sz
  rd_len : ∀ {ok w cs x}, rd ok w cs x → cs.length = sz
  rd_one : ∀ {ok w cs x}, rd ok w cs x → ∀ c ∈ cs, c.oneCell' = true
  rd_mono : ∀ {ok ok' w w' cs x}, rd ok w cs x → (∀ b, ok b → b < w.heap.size → ok' b ∧ SameB w w' b) → rd ok' w' cs x
  ow_mono : ∀ {ok ok' w w' F cs x}, ow ok w F cs x → (∀ b ∈ F, SameB w w' b) → (∀ b, ok b → b < w.heap.size → ok' b ∧ SameB w w' b) → ow ok' w' F cs x
  ow_rd : ∀ {ok ok' w F cs x}, ow ok w F cs x → (∀ b, ok b → ok' b) → (∀ b ∈ F, ok' b) → rd ok' w cs x
  ow_lt : ∀ {ok w F cs x}, ow ok w F cs x → ∀ b ∈ F, b < w.heap.size

instance repInt : Rep Int where
  sz := 1
  rd _ _ cs n := cs = [.int .i64 n] ∧ In64 n
  ow _ _ F cs n := F = [] ∧ cs = [.int .i64 n] ∧ In64 n
  pos := by decide
  rd_len := by rintro _ _ _ _ ⟨rfl, _⟩; rfl
  rd_one := by rintro _ _ _ _ ⟨rfl, _⟩; simp [Value.oneCell']
  rd_mono := fun h _ => h
  ow_mono := fun h _ _ => h
  ow_rd := fun h _ _ => h.2
  ow_lt := by rintro _ _ _ _ _ ⟨rfl, _⟩ b hb; cases hb

instance repBool : Rep Bool where
  sz := 1
  rd _ _ cs b := cs = [.bool b]
  ow _ _ F cs b := F = [] ∧ cs = [.bool b]
  pos := by decide
  rd_len := by rintro _ _ _ _ rfl; rfl
  rd_one := by rintro _ _ _ _ rfl; simp [Value.oneCell']
  rd_mono := fun h _ => h
  ow_mono := fun h _ _ => h
  ow_rd := fun h _ _ => h.2
  ow_lt := by rintro _ _ _ _ _ ⟨rfl, _⟩ b hb; cases hb

instance repStr : Rep ByteArray where
  sz := 1
  rd _ _ cs s := cs = [.string s] ∧ s.size ≤ 9223372036854775807
  ow _ _ F cs s := F = [] ∧ cs = [.string s] ∧ s.size ≤ 9223372036854775807
  pos := by decide
  rd_len := by rintro _ _ _ _ ⟨rfl, _⟩; rfl
  rd_one := by rintro _ _ _ _ ⟨rfl, _⟩; simp [Value.oneCell']
  rd_mono := fun h _ => h
  ow_mono := fun h _ _ => h
  ow_rd := fun h _ _ => h.2
  ow_lt := by rintro _ _ _ _ _ ⟨rfl, _⟩ b hb; cases hb

instance repU8 : Rep UInt8 where
  sz := 1
  rd _ _ cs n := cs = [.int .u8 n.toNat]
  ow _ _ F cs n := F = [] ∧ cs = [.int .u8 n.toNat]
  pos := by decide
  rd_len := by rintro _ _ _ _ rfl; rfl
  rd_one := by rintro _ _ _ _ rfl; simp [Value.oneCell']
  rd_mono := fun h _ => h
  ow_mono := fun h _ _ => h
  ow_rd := fun h _ _ => h.2
  ow_lt := by rintro _ _ _ _ _ ⟨rfl, _⟩ b hb; cases hb

instance repProd {α β : Type} [Rep α] [Rep β] : Rep (α × β) where
  sz := Rep.sz α + Rep.sz β
  rd ok w cs x := ∃ c d, cs = c ++ d ∧ Rep.rd ok w c x.1 ∧ Rep.rd ok w d x.2
  ow ok w F cs x := ∃ f g c d, F = f ++ g ∧ cs = c ++ d ∧ Rep.ow ok w f c x.1 ∧ Rep.ow ok w g d x.2
  pos := by have := Rep.pos (α := α); omega
  rd_len := by rintro _ _ _ _ ⟨c, d, rfl, h, h'⟩; simp [Rep.rd_len h, Rep.rd_len h']
  rd_one := by
    rintro _ _ _ _ ⟨c, d, rfl, h, h'⟩ x hx
    rcases List.mem_append.1 hx with hx | hx
    · exact Rep.rd_one h x hx
    · exact Rep.rd_one h' x hx
  rd_mono := by rintro _ _ _ _ _ _ ⟨c, d, rfl, h, h'⟩ hm; exact ⟨c, d, rfl, Rep.rd_mono h hm, Rep.rd_mono h' hm⟩
  ow_mono := by
    rintro _ _ _ _ _ _ _ ⟨f, g, c, d, rfl, rfl, h, h'⟩ hf hm
    exact ⟨f, g, c, d, rfl, rfl, Rep.ow_mono h (fun b hb => hf b (by simp [hb])) hm, Rep.ow_mono h' (fun b hb => hf b (by simp [hb])) hm⟩
  ow_rd := by
    rintro _ _ _ _ _ _ ⟨f, g, c, d, rfl, rfl, h, h'⟩ ho hf
    exact ⟨c, d, rfl, Rep.ow_rd h ho (fun b hb => hf b (by simp [hb])), Rep.ow_rd h' ho (fun b hb => hf b (by simp [hb]))⟩
  ow_lt := by
    rintro _ _ _ _ _ ⟨f, g, c, d, rfl, rfl, h, h'⟩ b hb
    rcases List.mem_append.1 hb with hb | hb
    · exact Rep.ow_lt h b hb
    · exact Rep.ow_lt h' b hb

/-- Inside something owned: a part that is only read, and may be shared. -/
structure Sh (α : Type) where
  v : α

instance repSh {α : Type} [Rep α] : Rep (Sh α) where
  sz := Rep.sz α
  rd ok w cs x := Rep.rd ok w cs x.v
  ow ok w F cs x := F = [] ∧ Rep.rd ok w cs x.v
  pos := Rep.pos
  rd_len := fun h => Rep.rd_len h
  rd_one := fun h => Rep.rd_one h
  rd_mono := fun h hm => Rep.rd_mono h hm
  ow_mono := fun h _ hm => ⟨h.1, Rep.rd_mono h.2 hm⟩
  ow_rd := fun h ho _ => Rep.rd_mono h.2 (fun b hb _ => ⟨ho b hb, rfl⟩)
  ow_lt := by rintro _ _ _ _ _ ⟨rfl, _⟩ b hb; cases hb

/-! ### Rows -/
section rows
variable {α : Type} [Rep α]

/-- These cells read, one element behind the other, as this list. -/
def RdL (ok : Nat → Prop) (w : World) : List Value → List α → Prop
  | cells, [] => cells = []
  | cells, x :: xs => ∃ c d, cells = c ++ d ∧ Rep.rd ok w c x ∧ RdL ok w d xs

def OwL (ok : Nat → Prop) (w : World) : List Nat → List Value → List α → Prop
  | F, cells, [] => F = [] ∧ cells = []
  | F, cells, x :: xs => ∃ f g c d, F = f ++ g ∧ cells = c ++ d ∧ Rep.ow ok w f c x ∧ OwL ok w g d xs

theorem RdL.mono {ok ok' : Nat → Prop} {w w' : World} (hm : ∀ b, ok b → b < w.heap.size → ok' b ∧ SameB w w' b) :
    ∀ {cells : List Value} {xs : List α}, RdL ok w cells xs → RdL ok' w' cells xs
  | _, [], h => h
  | _, _ :: _, ⟨c, d, e, h, h'⟩ => ⟨c, d, e, Rep.rd_mono h hm, RdL.mono hm h'⟩

theorem OwL.mono {ok ok' : Nat → Prop} {w w' : World} (hm : ∀ b, ok b → b < w.heap.size → ok' b ∧ SameB w w' b) :
    ∀ {F : List Nat} {cells : List Value} {xs : List α}, OwL ok w F cells xs → (∀ b ∈ F, SameB w w' b) → OwL ok' w' F cells xs
  | _, _, [], h, _ => h
  | _, _, _ :: _, ⟨f, g, c, d, e, e', h, h'⟩, hf =>
    ⟨f, g, c, d, e, e', Rep.ow_mono h (fun b hb => hf b (by simp [e, hb])) hm, OwL.mono hm h' (fun b hb => hf b (by simp [e, hb]))⟩

theorem OwL.rd {ok ok' : Nat → Prop} {w : World} (ho : ∀ b, ok b → ok' b) :
    ∀ {F : List Nat} {cells : List Value} {xs : List α}, OwL ok w F cells xs → (∀ b ∈ F, ok' b) → RdL ok' w cells xs
  | _, _, [], h, _ => h.2
  | _, _, _ :: _, ⟨f, g, c, d, e, e', h, h'⟩, hf =>
    ⟨c, d, e', Rep.ow_rd h ho (fun b hb => hf b (by simp [e, hb])), OwL.rd ho h' (fun b hb => hf b (by simp [e, hb]))⟩

theorem OwL.lt {ok : Nat → Prop} {w : World} : ∀ {F : List Nat} {cells : List Value} {xs : List α}, OwL ok w F cells xs → ∀ b ∈ F, b < w.heap.size
  | _, _, [], h, b, hb => by rw [h.1] at hb; cases hb
  | _, _, _ :: _, ⟨f, g, c, d, e, e', h, h'⟩, b, hb => by
    rw [e] at hb
    rcases List.mem_append.1 hb with hb | hb
    · exact Rep.ow_lt h b hb
    · exact OwL.lt h' b hb

theorem RdL.len {ok : Nat → Prop} {w : World} : ∀ {cells : List Value} {xs : List α}, RdL ok w cells xs → cells.length = xs.length * Rep.sz α
  | _, [], h => by simp [RdL] at h; simp [h]
  | _, x :: xs, ⟨c, d, e, h, h'⟩ => by
    rw [e, List.length_append, Rep.rd_len h, RdL.len h', List.length_cons, Nat.add_mul, Nat.one_mul, Nat.add_comm]

theorem RdL.one {ok : Nat → Prop} {w : World} : ∀ {cells : List Value} {xs : List α}, RdL ok w cells xs → ∀ c ∈ cells, c.oneCell' = true
  | _, [], h, c, hc => by simp [RdL] at h; rw [h] at hc; cases hc
  | _, x :: xs, ⟨c, d, e, h, h'⟩, v, hv => by
    rw [e] at hv
    rcases List.mem_append.1 hv with hv | hv
    · exact Rep.rd_one h v hv
    · exact RdL.one h' v hv

theorem RdL.append {ok : Nat → Prop} {w : World} {d : List Value} {ys : List α} (h2 : RdL ok w d ys) : ∀ {cells : List Value} {xs : List α}, RdL ok w cells xs → RdL ok w (cells ++ d) (xs ++ ys)
  | _, [], h => by simp [RdL] at h; simpa [h] using h2
  | _, x :: xs, ⟨c, d', e, h, h'⟩ => ⟨c, d' ++ d, by rw [e, List.append_assoc], h, RdL.append h2 h'⟩

theorem OwL.append {ok : Nat → Prop} {w : World} {G : List Nat} {d : List Value} {ys : List α} (h2 : OwL ok w G d ys) :
    ∀ {F : List Nat} {cells : List Value} {xs : List α}, OwL ok w F cells xs → OwL ok w (F ++ G) (cells ++ d) (xs ++ ys)
  | _, _, [], h => by obtain ⟨rfl, rfl⟩ := h; simpa using h2
  | _, _, x :: xs, ⟨f, g, c, d', e, e', h, h'⟩ => ⟨f, g ++ G, c, d' ++ d, by rw [e, List.append_assoc], by rw [e', List.append_assoc], h, OwL.append h2 h'⟩

/-- Element number i of a row that reads as a list. -/
theorem RdL.get {ok : Nat → Prop} {w : World} : ∀ {cells : List Value} {xs : List α}, RdL ok w cells xs → ∀ i (hi : i < xs.length),
    ∃ p c s, cells = p ++ c ++ s ∧ p.length = i * Rep.sz α ∧ Rep.rd ok w c xs[i]
  | _, x :: xs, ⟨c, d, e, h, h'⟩, 0, _ => ⟨[], c, d, by simpa using e, by simp, h⟩
  | _, x :: xs, ⟨c, d, e, h, h'⟩, i + 1, hi => by
    obtain ⟨p, c', s, e1, e2, h3⟩ := RdL.get h' i (by simpa using hi)
    refine ⟨c ++ p, c', s, by rw [e, e1]; simp [List.append_assoc], ?_, h3⟩
    rw [List.length_append, Rep.rd_len h, e2, Nat.add_mul, Nat.one_mul, Nat.add_comm]

theorem RdL.cut {ok : Nat → Prop} {w : World} : ∀ {cells : List Value} {xs : List α}, RdL ok w cells xs → ∀ i, i ≤ xs.length →
    RdL ok w (cells.take (i * Rep.sz α)) (xs.take i) ∧ RdL ok w (cells.drop (i * Rep.sz α)) (xs.drop i)
  | _, [], h, i, hi => by
    have : i = 0 := by simpa using hi
    subst this
    simp [RdL] at h ⊢; exact h
  | _, x :: xs, h, 0, _ => by simp only [Nat.zero_mul, List.take_zero, List.drop_zero]; exact ⟨rfl, h⟩
  | _, x :: xs, ⟨c, d, e, h, h'⟩, i + 1, hi => by
    obtain ⟨h1, h2⟩ := RdL.cut h' i (by simpa using hi)
    have hl := Rep.rd_len h
    have hmul : (i + 1) * Rep.sz α = Rep.sz α + i * Rep.sz α := by rw [Nat.add_mul, Nat.one_mul, Nat.add_comm]
    rw [e, hmul]
    refine ⟨⟨c, d.take (i * Rep.sz α), ?_, h, h1⟩, ?_⟩
    · rw [List.take_append, hl]
      rw [List.take_of_length_le (by rw [hl]; exact Nat.le_add_right _ _), Nat.add_sub_cancel_left]
    · rw [List.drop_append, hl, List.drop_of_length_le (by rw [hl]; exact Nat.le_add_right _ _), Nat.add_sub_cancel_left, List.nil_append]
      exact h2

theorem OwL.get {ok : Nat → Prop} {w : World} : ∀ {F : List Nat} {cells : List Value} {xs : List α}, OwL ok w F cells xs → ∀ i (hi : i < xs.length),
    ∃ f1 f f2 p c s, F = f1 ++ f ++ f2 ∧ cells = p ++ c ++ s ∧ Rep.ow ok w f c xs[i] ∧ OwL ok w f1 p (xs.take i) ∧ OwL ok w f2 s (xs.drop (i + 1))
  | _, _, x :: xs, ⟨f, g, c, d, e, e', h, h'⟩, 0, _ => ⟨[], f, g, [], c, d, by simpa using e, by simpa using e', h, ⟨rfl, rfl⟩, h'⟩
  | _, _, x :: xs, ⟨f, g, c, d, e, e', h, h'⟩, i + 1, hi => by
    obtain ⟨f1, f', f2, p, c', s, e1, e2, h3, h4, h5⟩ := OwL.get h' i (by simpa using hi)
    exact ⟨f ++ f1, f', f2, c ++ p, c', s, by rw [e, e1]; simp [List.append_assoc], by rw [e', e2]; simp [List.append_assoc], h3, ⟨f, f1, c, p, rfl, rfl, h, h4⟩, h5⟩

end rows

/-- The cells at an address. -/
def CellsAt (w : World) (b off : Nat) (cells : List Value) : Prop := ∀ j, j < cells.length → w.cell? ⟨b, off + j, none⟩ = cells[j]?

theorem CellsAt.mono {w w' : World} {b off : Nat} {cells : List Value} (h : CellsAt w b off cells) (hs : SameB w w' b) : CellsAt w' b off cells :=
  fun j hj => (cell_same hs).trans (h j hj)

theorem CellsAt.lt {w : World} {b off : Nat} {cells : List Value} (h : CellsAt w b off cells) (hne : 0 < cells.length) : b < w.heap.size := by
  have := h 0 hne
  rw [List.getElem?_eq_getElem hne] at this
  exact World.block_lt_of_cell? w _ this

theorem CellsAt.part {w : World} {b off : Nat} {p c s : List Value} (h : CellsAt w b off (p ++ c ++ s)) : CellsAt w b (off + p.length) c := by
  intro j hj
  have := h (p.length + j) (by simp only [List.length_append]; omega)
  rw [← Nat.add_assoc] at this
  rw [this, List.append_assoc, List.getElem?_append_right (by omega), Nat.add_sub_cancel_left, List.getElem?_append_left hj]

instance repList {α : Type} [Rep α] : Rep (List α) where
  sz := 1
  rd ok w cs xs := ∃ a cap, cs = [.slice a xs.length cap] ∧ xs.length ≤ cap ∧ cap ≤ maxLen ∧ xs.length ≤ 9223372036854775807 ∧
    (0 < xs.length → ∃ b off cells, a = some ⟨b, off, none⟩ ∧ ok b ∧ CellsAt w b off cells ∧ RdL ok w cells xs)
  ow ok w F cs xs := (cs = [.slice none 0 0] ∧ xs = [] ∧ F = []) ∨
    ∃ g cap cur e G cells, cs = [.slice (some ⟨g, 0, none⟩) xs.length cap] ∧ F = g :: G ∧ w.heap[g]? = some (.cells cur e (0, 0)) ∧ xs.length ≤ cap ∧ cap ≤ maxLen ∧
      xs.length ≤ 9223372036854775807 ∧ cap * Rep.sz α ≤ cur.size ∧ cur.toList.take (xs.length * Rep.sz α) = cells ∧ OwL ok w G cells xs
  pos := by decide
  rd_len := by rintro _ _ _ _ ⟨_, _, rfl, _⟩; rfl
  rd_one := by rintro _ _ _ _ ⟨_, _, rfl, _⟩; simp [Value.oneCell']
  rd_mono := by
    rintro ok ok' w w' _ xs ⟨a, cap, rfl, h1, h2, h2', h3⟩ hm
    refine ⟨a, cap, rfl, h1, h2, h2', fun hp => ?_⟩
    obtain ⟨b, off, cells, rfl, hb, hc, hr⟩ := h3 hp
    have hlt : b < w.heap.size := hc.lt (by rw [hr.len]; exact Nat.mul_pos hp Rep.pos)
    exact ⟨b, off, cells, rfl, (hm b hb hlt).1, hc.mono (hm b hb hlt).2, hr.mono hm⟩
  ow_mono := by
    rintro ok ok' w w' F _ xs h hf hm
    rcases h with h | ⟨g, cap, cur, e, G, cells, h0, rfl, h1, h2, h3, h3', h4, h5, h6⟩
    · exact .inl h
    · exact .inr ⟨g, cap, cur, e, G, cells, h0, rfl, by rw [hf g (by simp)]; exact h1, h2, h3, h3', h4, h5, h6.mono hm (fun b hb => hf b (by simp [hb]))⟩
  ow_rd := by
    rintro ok ok' w F _ xs h ho hf
    rcases h with ⟨rfl, rfl, rfl⟩ | ⟨g, cap, cur, e, G, cells, rfl, rfl, h1, h2, h3, h3', h4, h5, h6⟩
    · exact ⟨none, 0, rfl, by simp, by simp [maxLen], by simp, fun h => by simp at h⟩
    · refine ⟨_, cap, rfl, h2, h3, h3', fun hp => ⟨g, 0, cells, rfl, hf g (by simp), ?_, h6.rd ho (fun b hb => hf b (by simp [hb]))⟩⟩
      intro j hj
      rw [← h5] at hj ⊢
      rw [List.getElem?_take]
      have : j < xs.length * Rep.sz α := by
        have := hj; rw [List.length_take] at this; omega
      rw [if_pos this]
      simp [World.cell?, h1]
  ow_lt := by
    rintro ok w F _ xs h b hb
    rcases h with ⟨_, _, rfl⟩ | ⟨g, cap, cur, e, G, cells, _, rfl, h1, _, _, _, _, _, h6⟩
    · cases hb
    · rcases List.mem_cons.1 hb with rfl | hb
      · exact (Array.getElem?_eq_some_iff.1 h1).1
      · exact h6.lt b hb

end Go.Eng
namespace Go.Eng
open Go Go.RowKit
set_option linter.unusedVariables false

inductive Atom : Type 1
  | rd {α : Type} [Rep α] (cs : List Value) (x : α)
  | ow {α : Type} [Rep α] (cs : List Value) (x : α)
  | bk (b : Nat) (cs : List Value)
  | pt (p : Addr) (cs : List Value)

/-- Cells at an address that need not be written out. -/
def CellsP (w : World) (p : Addr) (cs : List Value) : Prop := ∀ j, j < cs.length → w.cell? (p.add j) = cs[j]?

theorem add_block (p : Addr) (j : Nat) : (p.add j).block = p.block := by unfold Addr.add; split <;> rfl

def Atom.holds (ok : Nat → Prop) (w : World) : Atom → List Nat → Prop
  | @Atom.rd α i cs x, F => F = [] ∧ @Rep.rd α i ok w cs x
  | @Atom.ow α i cs x, F => @Rep.ow α i ok w F cs x
  | .bk b cs, F => F = [b] ∧ ∃ e, w.heap[b]? = some (.cells cs.toArray e (0, 0))
  | .pt p cs, F => F = [] ∧ ok p.block ∧ p.block < w.heap.size ∧ CellsP w p cs

def Sep (ok : Nat → Prop) (w : World) : List Atom → List Nat → Prop
  | [], F => F = []
  | A :: Γ, F => ∃ f g, F = f ++ g ∧ A.holds ok w f ∧ Sep ok w Γ g

/-- What is below B is as it was; no draw is undone. -/
structure BelD (B : Nat) (w w' : World) : Prop where
  os : w'.os = w.os
  tape : w'.tape = w.tape
  output : w'.output = w.output
  size : w.heap.size ≤ w'.heap.size
  drawn : w.drawn ≤ w'.drawn
  block : ∀ k, k < B → w'.heap[k]? = w.heap[k]?
theorem BelD.low {B : Nat} {w w' : World} (h : BelD B w w') : Below B w w' := ⟨h.os, h.tape, h.output, h.size, h.block⟩
theorem BelD.of {B : Nat} {w w' : World} (h : Below B w w') (hd : w.drawn ≤ w'.drawn) : BelD B w w' := ⟨h.os, h.tape, h.output, h.size, hd, h.block⟩
theorem BelD.refl (B : Nat) (w : World) : BelD B w w := ⟨rfl, rfl, rfl, Nat.le_refl _, Nat.le_refl _, fun _ _ => rfl⟩
theorem BelD.trans {B : Nat} {a b c : World} (h : BelD B a b) (k : BelD B b c) : BelD B a c := .of (h.low.trans k.low) (Nat.le_trans h.drawn k.drawn)
theorem BelD.mono {B B' : Nat} {w w' : World} (h : BelD B w w') (hB : B' ≤ B) : BelD B' w w' := .of (h.low.mono hB) h.drawn
theorem BelD.drew {B : Nat} {a w : World} (h : BelD B a w) : BelD B a w.drew := .of h.low.drew (Nat.le_trans h.drawn (Nat.le_add_right _ _))
theorem BelD.alloc {B : Nat} {a w : World} (h : BelD B a w) (hB : B ≤ w.heap.size) (o : Obj) : BelD B a (w.alloc o) := .of (h.low.alloc hB o) h.drawn
theorem BelD.setCell {B : Nat} {a w : World} (h : BelD B a w) {p : Addr} (hp : B ≤ p.block) (u : Value) : BelD B a (w.setCell p u) := .of (h.low.setCell hp u) h.drawn
structure Sat (w0 w : World) (Γ : List Atom) : Prop where
  base : BelD w0.heap.size w0 w
  sep : ∃ F, F.Nodup ∧ (∀ b ∈ F, w0.heap.size ≤ b) ∧ Sep (· ∉ F) w Γ F

theorem Atom.holds_mono {ok ok' : Nat → Prop} {w w' : World} (hm : ∀ b, ok b → b < w.heap.size → ok' b ∧ SameB w w' b) (hs : w.heap.size ≤ w'.heap.size) :
    ∀ {A : Atom} {F : List Nat}, A.holds ok w F → (∀ b ∈ F, SameB w w' b) → A.holds ok' w' F
  | @Atom.rd _ _ _ _, _, h, _ => ⟨h.1, Rep.rd_mono h.2 hm⟩
  | @Atom.ow _ _ _ _, _, h, hf => Rep.ow_mono h hf hm
  | .bk _ _, _, ⟨h, e, h'⟩, hf => ⟨h, e, by rw [hf _ (by simp [h])]; exact h'⟩
  | .pt p _, _, ⟨h, h1, h2, h3⟩, _ =>
    ⟨h, (hm _ h1 h2).1, Nat.lt_of_lt_of_le h2 hs, fun j hj => (cell_same (by rw [add_block]; exact (hm _ h1 h2).2)).trans (h3 j hj)⟩

theorem Atom.holds_lt {ok : Nat → Prop} {w : World} : ∀ {A : Atom} {F : List Nat}, A.holds ok w F → ∀ b ∈ F, b < w.heap.size
  | @Atom.rd _ _ _ _, _, h, b, hb => by rw [h.1] at hb; cases hb
  | @Atom.ow _ _ _ _, _, h, b, hb => Rep.ow_lt h b hb
  | .bk _ _, _, ⟨h, e, h'⟩, b, hb => by
    rw [h] at hb
    obtain rfl : b = _ := by simpa using hb
    exact (Array.getElem?_eq_some_iff.1 h').1
  | .pt _ _, _, h, b, hb => by rw [h.1] at hb; cases hb

theorem Sep.mono {ok ok' : Nat → Prop} {w w' : World} (hm : ∀ b, ok b → b < w.heap.size → ok' b ∧ SameB w w' b) (hs : w.heap.size ≤ w'.heap.size) :
    ∀ {Γ : List Atom} {F : List Nat}, Sep ok w Γ F → (∀ b ∈ F, SameB w w' b) → Sep ok' w' Γ F
  | [], _, h, _ => h
  | _ :: _, _, ⟨f, g, e, h, h'⟩, hf =>
    ⟨f, g, e, Atom.holds_mono hm hs h (fun b hb => hf b (by simp [e, hb])), Sep.mono hm hs h' (fun b hb => hf b (by simp [e, hb]))⟩

theorem Sep.lt {ok : Nat → Prop} {w : World} : ∀ {Γ : List Atom} {F : List Nat}, Sep ok w Γ F → ∀ b ∈ F, b < w.heap.size
  | [], _, h, b, hb => by rw [h] at hb; cases hb
  | _ :: _, _, ⟨f, g, e, h, h'⟩, b, hb => by
    rw [e] at hb
    rcases List.mem_append.1 hb with hb | hb
    · exact Atom.holds_lt h b hb
    · exact Sep.lt h' b hb

theorem Sep.append {ok : Nat → Prop} {w : World} {Δ : List Atom} {G : List Nat} (h2 : Sep ok w Δ G) : ∀ {Γ : List Atom} {F : List Nat}, Sep ok w Γ F → Sep ok w (Γ ++ Δ) (F ++ G)
  | [], _, h => by rw [show _ = [] from h]; simpa using h2
  | _ :: _, _, ⟨f, g, e, h, h'⟩ => ⟨f, g ++ G, by rw [e, List.append_assoc], h, Sep.append h2 h'⟩

theorem Sep.split {ok : Nat → Prop} {w : World} {Δ : List Atom} : ∀ {Γ : List Atom} {F : List Nat}, Sep ok w (Γ ++ Δ) F → ∃ f g, F = f ++ g ∧ Sep ok w Γ f ∧ Sep ok w Δ g
  | [], F, h => ⟨[], F, rfl, rfl, h⟩
  | _ :: _, _, ⟨f, g, e, h, h'⟩ => by
    obtain ⟨f', g', e', h1, h2⟩ := Sep.split h'
    exact ⟨f ++ f', g', by rw [e, e', List.append_assoc], ⟨f, f', rfl, h, h1⟩, h2⟩

/-- The order of the atoms does not matter. -/
theorem Sep.perm {ok : Nat → Prop} {w : World} {Γ Δ : List Atom} (hp : Γ.Perm Δ) : ∀ {F : List Nat}, Sep ok w Γ F → ∃ G, G.Perm F ∧ Sep ok w Δ G := by
  induction hp with
  | nil => exact fun {F} h => ⟨F, .refl _, h⟩
  | cons A _ ih =>
    rintro F ⟨f, g, rfl, h, h'⟩
    obtain ⟨G, hG, h2⟩ := ih h'
    exact ⟨f ++ G, hG.append_left f, f, G, rfl, h, h2⟩
  | swap A B Γ =>
    rintro F ⟨f, _, rfl, h, g, k, rfl, h', h''⟩
    exact ⟨g ++ (f ++ k), by rw [← List.append_assoc, ← List.append_assoc]; exact List.perm_append_comm.append_right k, g, f ++ k, rfl, h', f, k, rfl, h, h''⟩
  | trans _ _ ih1 ih2 =>
    intro F h
    obtain ⟨G, hG, h1⟩ := ih1 h
    obtain ⟨H, hH, h2⟩ := ih2 h1
    exact ⟨H, hH.trans hG, h2⟩

theorem Sep.notin {w : World} {Γ : List Atom} {F G : List Nat} (hp : G.Perm F) (h : Sep (· ∉ F) w Γ G) : Sep (· ∉ G) w Γ G :=
  Sep.mono (fun b hb _ => ⟨fun h => hb (hp.mem_iff.1 h), rfl⟩) (Nat.le_refl _) h (fun _ _ => rfl)

theorem Sat.perm {w0 w : World} {Γ Δ : List Atom} (h : Sat w0 w Γ) (hp : Γ.Perm Δ) : Sat w0 w Δ := by
  obtain ⟨hb, F, hn, hl, hs⟩ := h
  obtain ⟨G, hG, h2⟩ := hs.perm hp
  exact ⟨hb, G, hG.symm.nodup hn, fun b hb => hl b (hG.mem_iff.1 hb), h2.notin hG⟩

/-- The first atom is let go. -/
theorem Sat.drop {w0 w : World} {A : Atom} {Γ : List Atom} (h : Sat w0 w (A :: Γ)) : Sat w0 w Γ := by
  obtain ⟨hb, F, hn, hl, f, g, rfl, _, h'⟩ := h
  exact ⟨hb, g, (List.nodup_append.1 hn).2.1, fun b hb => hl b (by simp [hb]),
    h'.mono (fun b hb _ => ⟨fun hg => hb (by simp [hg]), rfl⟩) (Nat.le_refl _) (fun _ _ => rfl)⟩

theorem Sat.dropN {w0 w : World} {Δ Γ : List Atom} (h : Sat w0 w (Δ ++ Γ)) : Sat w0 w Γ := by
  induction Δ with
  | nil => exact h
  | cons A Δ ih => exact ih h.drop

theorem Sat.size {w0 w : World} {Γ : List Atom} (h : Sat w0 w Γ) : w0.heap.size ≤ w.heap.size := h.base.size

/-- The world may grow; nothing that is there turns. -/
theorem Sat.ext {w0 w w' : World} {Γ : List Atom} (h : Sat w0 w Γ) (he : BelD w.heap.size w w') : Sat w0 w' Γ := by
  obtain ⟨hb, F, hn, hl, hs⟩ := h
  exact ⟨hb.trans (he.mono hb.size), F, hn, hl, hs.mono (fun b hb hlt => ⟨hb, he.block b hlt⟩) he.size (fun b hb => he.block b (hs.lt b hb))⟩

theorem Sat.drew {w0 w : World} {Γ : List Atom} (h : Sat w0 w Γ) : Sat w0 w.drew Γ := h.ext ((BelD.refl _ _).drew)

/-- A new atom in front whose own blocks are new. -/
theorem Sat.add {w0 w : World} {Γ : List Atom} (A : Atom) (h : Sat w0 w Γ) (f : List Nat) (hf : f.Nodup) (hnew : ∀ F : List Nat, (∀ b ∈ F, b < w.heap.size) → Sep (· ∉ F) w Γ F →
    ∃ w' : World, w' = w ∧ A.holds (· ∉ f ++ F) w f ∧ (∀ b ∈ f, b ∉ F ∧ w0.heap.size ≤ b) ∧ Sep (· ∉ f ++ F) w Γ F) : Sat w0 w (A :: Γ) := by
  obtain ⟨hb, F, hn, hl, hs⟩ := h
  obtain ⟨_, _, h1, h2, h3⟩ := hnew F hs.lt hs
  refine ⟨hb, f ++ F, ?_, ?_, f, F, rfl, h1, h3⟩
  · rw [List.nodup_append]
    exact ⟨hf, hn, fun a ha b hb e => (h2 a ha).1 (e ▸ hb)⟩
  · intro b hb
    rcases List.mem_append.1 hb with hb | hb
    · exact (h2 b hb).2
    · exact hl b hb

/-- A reading that is shown of the world, whatever is owned. -/
theorem Sat.addrd {w0 w : World} {Γ : List Atom} {α : Type} [Rep α] {cs : List Value} {x : α} (h : Sat w0 w Γ) (hr : ∀ F, Sep (· ∉ F) w Γ F → Rep.rd (· ∉ F) w cs x) : Sat w0 w (.rd cs x :: Γ) := by
  obtain ⟨hb, F, hn, hl, hs⟩ := h
  exact ⟨hb, F, hn, hl, [], F, rfl, ⟨rfl, hr F hs⟩, hs⟩

/-- A new block. -/
theorem Sat.alloc {w0 w : World} {Γ : List Atom} (h : Sat w0 w Γ) (cs : List Value) (e : TypeId) : Sat w0 (w.alloc (.cells cs.toArray e)) (.bk w.heap.size cs :: Γ) := by
  obtain ⟨hb, F, hn, hl, hs⟩ := h
  have hlt := hs.lt
  refine ⟨hb.alloc hb.size _, w.heap.size :: F, ?_, ?_, [w.heap.size], F, rfl, ⟨rfl, e, heap_alloc_new w _⟩, ?_⟩
  · exact List.nodup_cons.2 ⟨fun hm => Nat.lt_irrefl _ (hlt _ hm), hn⟩
  · intro b hb'
    rcases List.mem_cons.1 hb' with rfl | hb'
    · exact hb.size
    · exact hl b hb'
  · refine hs.mono (fun b hb hlt => ⟨?_, Below.heap_alloc _ _ _ hlt⟩) (by simp) (fun b hb => Below.heap_alloc _ _ _ (hlt b hb))
    intro hm
    rcases List.mem_cons.1 hm with rfl | hm
    · exact Nat.lt_irrefl _ hlt
    · exact hb hm

/-- A store into an owned block. -/
theorem Sat.store {w0 w : World} {Γ : List Atom} {b : Nat} {cs : List Value} (h : Sat w0 w (.bk b cs :: Γ)) (i : Nat) (v : Value) : Sat w0 (w.setCell ⟨b, i, none⟩ v) (.bk b (cs.set i v) :: Γ) := by
  obtain ⟨hb, F, hn, hl, f, g, rfl, ⟨rfl, e, hc⟩, hs⟩ := h
  have hlt : b < w.heap.size := (Array.getElem?_eq_some_iff.1 hc).1
  have hg : b ∉ g := by have := hn; simp at this; exact this.1
  have hsame : ∀ k, k ≠ b → SameB w (w.setCell ⟨b, i, none⟩ v) k := fun k hk => Below.heap_setCell _ _ _ _ hk
  refine ⟨hb.setCell (hl b (by simp)) v, [b] ++ g, hn, hl, [b], g, rfl, ⟨rfl, e, ?_⟩, ?_⟩
  · simp only [World.setCell, Array.getElem?_modify, if_true, hc, Option.map_some]
    simp
  · refine hs.mono (fun k hk _ => ⟨hk, hsame k (fun e => hk (by simp [e]))⟩) (by simp) (fun k hk => hsame k (fun e => hg (e ▸ hk)))

/-- What is owned may be given up to sharing. -/
theorem Sat.share {w0 w : World} {Γ : List Atom} {α : Type} [Rep α] {cs : List Value} {x : α} (h : Sat w0 w (.ow cs x :: Γ)) : Sat w0 w (.rd cs x :: Γ) := by
  obtain ⟨hb, F, hn, hl, f, g, rfl, h1, hs⟩ := h
  have hd := (List.nodup_append.1 hn)
  refine ⟨hb, g, hd.2.1, fun b hb => hl b (by simp [hb]), [], g, rfl, ⟨rfl, ?_⟩, ?_⟩
  · have h1' : Rep.ow (· ∉ f ++ g) w f cs x := h1
    exact Rep.ow_rd h1' (fun b hb hg => hb (by simp [hg])) (fun b hb hg => hd.2.2 b hb b hg rfl)
  · exact hs.mono (fun b hb _ => ⟨fun hg => hb (by simp [hg]), rfl⟩) (Nat.le_refl _) (fun _ _ => rfl)

/-! ### Looking things up -/

/-- Something in Γ, owned or shared, reads so (now). -/
class HasRd (α : outParam Type) (i : outParam (Rep α)) (Γ : List Atom) (cs : List Value) (x : outParam α) : Prop where
  get : ∀ {ok w F}, Sep ok w Γ F → @Rep.rd α i (fun _ => True) w cs x
/-- Something in Γ reads so, and is owned by nobody. -/
class HasIm (α : outParam Type) (i : outParam (Rep α)) (Γ : List Atom) (cs : List Value) (x : outParam α) : Prop where
  get : ∀ {ok w F}, Sep ok w Γ F → @Rep.rd α i ok w cs x
class HasBk (Γ : List Atom) (b : Nat) (cs : outParam (List Value)) : Prop where
  get : ∀ {ok w F}, Sep ok w Γ F → ∃ e, w.heap[b]? = some (.cells cs.toArray e (0, 0))
class HasPt (Γ : List Atom) (p : Addr) (cs : outParam (List Value)) : Prop where
  get : ∀ {ok w F}, Sep ok w Γ F → CellsP w p cs

section look
variable {α : Type} {i : Rep α} {Γ : List Atom} {cs : List Value} {x : α}
instance (priority := 1100) HasRd.rd : HasRd α i (.rd cs x :: Γ) cs x := ⟨fun ⟨_, _, _, h, _⟩ => Rep.rd_mono h.2 (fun _ _ _ => ⟨trivial, rfl⟩)⟩
instance (priority := 1090) HasRd.ow : HasRd α i (.ow cs x :: Γ) cs x := ⟨fun ⟨_, _, _, h, _⟩ => Rep.ow_rd (show Rep.ow _ _ _ cs x from h) (fun _ _ => trivial) (fun _ _ => trivial)⟩
instance (priority := 1000) HasRd.skip {A : Atom} [h : HasRd α i Γ cs x] : HasRd α i (A :: Γ) cs x := ⟨fun ⟨_, _, _, _, h'⟩ => h.get h'⟩
instance (priority := 1100) HasIm.rd : HasIm α i (.rd cs x :: Γ) cs x := ⟨fun ⟨_, _, _, h, _⟩ => h.2⟩
instance (priority := 1000) HasIm.skip {A : Atom} [h : HasIm α i Γ cs x] : HasIm α i (A :: Γ) cs x := ⟨fun ⟨_, _, _, _, h'⟩ => h.get h'⟩
instance (priority := 500) HasRd.im [h : HasIm α i Γ cs x] : HasRd α i Γ cs x := ⟨fun h' => Rep.rd_mono (h.get h') (fun _ _ _ => ⟨trivial, rfl⟩)⟩
end look
instance (priority := 1100) HasBk.here {Γ : List Atom} {b : Nat} {cs : List Value} : HasBk (.bk b cs :: Γ) b cs := ⟨fun ⟨_, _, _, h, _⟩ => h.2⟩
instance (priority := 1000) HasBk.skip {Γ : List Atom} {b : Nat} {cs : List Value} {A : Atom} [h : HasBk Γ b cs] : HasBk (A :: Γ) b cs := ⟨fun ⟨_, _, _, _, h'⟩ => h.get h'⟩
instance (priority := 1100) HasPt.here {Γ : List Atom} {p : Addr} {cs : List Value} : HasPt (.pt p cs :: Γ) p cs := ⟨fun ⟨_, _, _, h, _⟩ => h.2.2.2⟩
instance (priority := 1000) HasPt.skip {Γ : List Atom} {p : Addr} {cs : List Value} {A : Atom} [h : HasPt Γ p cs] : HasPt (A :: Γ) p cs := ⟨fun ⟨_, _, _, _, h'⟩ => h.get h'⟩

/-- Γ is, but for its order, A and Δ. -/
class Pull (Γ : List Atom) (A : Atom) (Δ : outParam (List Atom)) : Prop where
  perm : Γ.Perm (A :: Δ)
instance (priority := 1100) Pull.here {Γ : List Atom} {A : Atom} : Pull (A :: Γ) A Γ := ⟨.refl _⟩
instance (priority := 1000) Pull.skip {Γ Δ : List Atom} {A B : Atom} [h : Pull Γ A Δ] : Pull (B :: Γ) A (B :: Δ) := ⟨(h.perm.cons B).trans (.swap _ _ _)⟩

/-- The owned value at these cells is taken out of Γ. -/
class PullOw (α : outParam Type) (i : outParam (Rep α)) (Γ : List Atom) (cs : List Value) (x : outParam α) (Δ : outParam (List Atom)) : Prop where
  perm : Γ.Perm (@Atom.ow α i cs x :: Δ)
instance (priority := 1100) PullOw.here {α : Type} {i : Rep α} {Γ : List Atom} {cs : List Value} {x : α} : PullOw α i (.ow cs x :: Γ) cs x Γ := ⟨.refl _⟩
instance (priority := 1000) PullOw.skip {α : Type} {i : Rep α} {Γ Δ : List Atom} {cs : List Value} {x : α} {B : Atom} [h : PullOw α i Γ cs x Δ] : PullOw α i (B :: Γ) cs x (B :: Δ) := ⟨(h.perm.cons B).trans (.swap _ _ _)⟩
class PullBk (Γ : List Atom) (b : Nat) (cs : outParam (List Value)) (Δ : outParam (List Atom)) : Prop where
  perm : Γ.Perm (.bk b cs :: Δ)
instance (priority := 1100) PullBk.here {Γ : List Atom} {b : Nat} {cs : List Value} : PullBk (.bk b cs :: Γ) b cs Γ := ⟨.refl _⟩
instance (priority := 1000) PullBk.skip {Γ Δ : List Atom} {b : Nat} {cs : List Value} {B : Atom} [h : PullBk Γ b cs Δ] : PullBk (B :: Γ) b cs (B :: Δ) := ⟨(h.perm.cons B).trans (.swap _ _ _)⟩
/-- The block's cells are replaced in place. -/
class SwapBk (Γ : List Atom) (b : Nat) (cs : List Value) (Δ : outParam (List Atom)) : Prop where
  swap : ∃ cs' Ε, Γ.Perm (.bk b cs' :: Ε) ∧ (Atom.bk b cs :: Ε).Perm Δ
instance (priority := 1100) SwapBk.here {Γ : List Atom} {b : Nat} {cs cs' : List Value} : SwapBk (.bk b cs' :: Γ) b cs (.bk b cs :: Γ) := ⟨cs', Γ, .refl _, .refl _⟩
instance (priority := 1000) SwapBk.skip {Γ Δ : List Atom} {b : Nat} {cs : List Value} {B : Atom} [h : SwapBk Γ b cs Δ] : SwapBk (B :: Γ) b cs (B :: Δ) := by
  obtain ⟨cs', Ε, h1, h2⟩ := h.swap
  exact ⟨cs', B :: Ε, (h1.cons B).trans (.swap _ _ _), (List.Perm.swap _ _ _).trans (h2.cons B)⟩

/-- All of Δ stands in Γ; what is over is let go. -/
class Sub (Γ Δ : List Atom) : Prop where
  get : ∃ Ε, Γ.Perm (Δ ++ Ε)
instance (priority := 500) Sub.skip {Γ Δ : List Atom} {A : Atom} [h : Sub Γ Δ] : Sub (A :: Γ) Δ := by
  obtain ⟨Ε, hE⟩ := h.get
  exact ⟨A :: Ε, (hE.cons A).trans List.perm_middle.symm⟩
instance Sub.nil {Γ : List Atom} : Sub Γ [] := ⟨⟨Γ, .refl _⟩⟩
instance Sub.cons {Γ Γ' Δ : List Atom} {A : Atom} [h : Pull Γ A Γ'] [h' : Sub Γ' Δ] : Sub Γ (A :: Δ) := by
  obtain ⟨Ε, hE⟩ := h'.get
  exact ⟨Ε, h.perm.trans (hE.cons A)⟩
/-- Γ is handed on whole. -/
instance (priority := 2000) Sub.refl {Γ : List Atom} : Sub Γ Γ := ⟨⟨[], by simp⟩⟩

theorem Sat.sub {w0 w : World} {Γ Δ : List Atom} (h : Sat w0 w Γ) (hs : Sub Γ Δ) : Sat w0 w Δ := by
  obtain ⟨Ε, hE⟩ := hs.get
  exact ((h.perm hE).perm List.perm_append_comm).dropN

theorem Sat.rd {w0 w : World} {Γ : List Atom} {α : Type} {i : Rep α} {cs : List Value} {x : α} (h : Sat w0 w Γ) [hr : HasRd α i Γ cs x] : Rep.rd (fun _ => True) w cs x := by
  obtain ⟨_, F, _, _, hs⟩ := h
  exact hr.get hs
theorem Sat.bk {w0 w : World} {Γ : List Atom} {b : Nat} {cs : List Value} (h : Sat w0 w Γ) [hr : HasBk Γ b cs] : ∃ e, w.heap[b]? = some (.cells cs.toArray e (0, 0)) := by
  obtain ⟨_, F, _, _, hs⟩ := h
  exact hr.get hs
theorem Sat.pt {w0 w : World} {Γ : List Atom} {p : Addr} {cs : List Value} (h : Sat w0 w Γ) [hr : HasPt Γ p cs] : CellsP w p cs := by
  obtain ⟨_, F, _, _, hs⟩ := h
  exact hr.get hs

end Go.Eng
