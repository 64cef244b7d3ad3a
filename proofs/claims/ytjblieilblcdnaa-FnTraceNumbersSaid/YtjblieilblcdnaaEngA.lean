/- The memory half of the walking engine: what values read as, what is owned, and how both stand changes of the world. -/
import Derived.WalkKit
import Derived.OrdersHeld
namespace Go.Eng
open Go Go.RowKit

/-- The number fits an int64. -/
def In64 (n : Int) : Prop := -9223372036854775808 ≤ n ∧ n ≤ 9223372036854775807

/-- The block reads the same in both worlds. -/
abbrev SameB (w w' : World) (b : Nat) : Prop := w'.heap[b]? = w.heap[b]?

theorem cell_same {w w' : World} {a : Addr} (h : SameB w w' a.block) : w'.cell? a = w.cell? a := World.cell?_of_block (w := w) h

/-- A Lean type whose values Go's cells can read as. -/
class Rep (α : Type) where
  sz : Nat
  rd : (Nat → Prop) → World → List Value → α → Prop
  ow : (Nat → Prop) → World → List Nat → List Value → α → Prop
  pos : 0 < sz
  rd_len : ∀ {ok w cs x}, rd ok w cs x → cs.length = sz
  rd_one : ∀ {ok w cs x}, rd ok w cs x → ∀ c ∈ cs, c.oneCell' = true
  rd_mono : ∀ {ok ok' w w' cs x}, rd ok w cs x → (∀ b, ok b → b < w.heap.size → ok' b ∧ SameB w w' b) → rd ok' w' cs x
  ow_mono : ∀ {ok ok' w w' F cs x}, ow ok w F cs x → (∀ b ∈ F, SameB w w' b) → (∀ b, ok b → b < w.heap.size → ok' b ∧ SameB w w' b) → ow ok' w' F cs x
  ow_rd : ∀ {ok ok' w F cs x}, ow ok w F cs x → (∀ b, ok b → ok' b) → (∀ b ∈ F, ok' b) → rd ok' w cs x
  ow_lt : ∀ {ok w F cs x}, ow ok w F cs x → ∀ b ∈ F, b < w.heap.size

instance repInt : Rep Int where
  sz := 1
  rd _ _ cs n := cs = [.int .i64 n] ∧ In64 n
  ow _ _ F cs n := F = [] ∧ cs = [.int .i64 n] ∧ In64 n
  pos := by decide
  rd_len := by rintro _ _ _ _ ⟨rfl, _⟩; rfl
  rd_one := by rintro _ _ _ _ ⟨rfl, _⟩; simp [Value.oneCell']
  rd_mono := fun h _ => h
  ow_mono := fun h _ _ => h
  ow_rd := fun h _ _ => h.2
  ow_lt := by rintro _ _ _ _ _ ⟨rfl, _⟩ b hb; cases hb

instance repBool : Rep Bool where
  sz := 1
  rd _ _ cs b := cs = [.bool b]
  ow _ _ F cs b := F = [] ∧ cs = [.bool b]
  pos := by decide
  rd_len := by rintro _ _ _ _ rfl; rfl
  rd_one := by rintro _ _ _ _ rfl; simp [Value.oneCell']
  rd_mono := fun h _ => h
  ow_mono := fun h _ _ => h
  ow_rd := fun h _ _ => h.2
  ow_lt := by rintro _ _ _ _ _ ⟨rfl, _⟩ b hb; cases hb

instance repStr : Rep ByteArray where
  sz := 1
  rd _ _ cs s := cs = [.string s] ∧ s.size ≤ 9223372036854775807
  ow _ _ F cs s := F = [] ∧ cs = [.string s] ∧ s.size ≤ 9223372036854775807
  pos := by decide
  rd_len := by rintro _ _ _ _ ⟨rfl, _⟩; rfl
  rd_one := by rintro _ _ _ _ ⟨rfl, _⟩; simp [Value.oneCell']
  rd_mono := fun h _ => h
  ow_mono := fun h _ _ => h
  ow_rd := fun h _ _ => h.2
  ow_lt := by rintro _ _ _ _ _ ⟨rfl, _⟩ b hb; cases hb

instance repU8 : Rep UInt8 where
  sz := 1
  rd _ _ cs n := cs = [.int .u8 n.toNat]
  ow _ _ F cs n := F = [] ∧ cs = [.int .u8 n.toNat]
  pos := by decide
  rd_len := by rintro _ _ _ _ rfl; rfl
  rd_one := by rintro _ _ _ _ rfl; simp [Value.oneCell']
  rd_mono := fun h _ => h
  ow_mono := fun h _ _ => h
  ow_rd := fun h _ _ => h.2
  ow_lt := by rintro _ _ _ _ _ ⟨rfl, _⟩ b hb; cases hb

instance repProd {α β : Type} [Rep α] [Rep β] : Rep (α × β) where
  sz := Rep.sz α + Rep.sz β
  rd ok w cs x := ∃ c d, cs = c ++ d ∧ Rep.rd ok w c x.1 ∧ Rep.rd ok w d x.2
  ow ok w F cs x := ∃ f g c d, F = f ++ g ∧ cs = c ++ d ∧ Rep.ow ok w f c x.1 ∧ Rep.ow ok w g d x.2
  pos := by have := Rep.pos (α := α); omega
  rd_len := by rintro _ _ _ _ ⟨c, d, rfl, h, h'⟩; simp [Rep.rd_len h, Rep.rd_len h']
  rd_one := by
    rintro _ _ _ _ ⟨c, d, rfl, h, h'⟩ x hx
    rcases List.mem_append.1 hx with hx | hx
    · exact Rep.rd_one h x hx
    · exact Rep.rd_one h' x hx
  rd_mono := by rintro _ _ _ _ _ _ ⟨c, d, rfl, h, h'⟩ hm; exact ⟨c, d, rfl, Rep.rd_mono h hm, Rep.rd_mono h' hm⟩
  ow_mono := by
    rintro _ _ _ _ _ _ _ ⟨f, g, c, d, rfl, rfl, h, h'⟩ hf hm
    exact ⟨f, g, c, d, rfl, rfl, Rep.ow_mono h (fun b hb => hf b (by simp [hb])) hm, Rep.ow_mono h' (fun b hb => hf b (by simp [hb])) hm⟩
  ow_rd := by
    rintro _ _ _ _ _ _ ⟨f, g, c, d, rfl, rfl, h, h'⟩ ho hf
    exact ⟨c, d, rfl, Rep.ow_rd h ho (fun b hb => hf b (by simp [hb])), Rep.ow_rd h' ho (fun b hb => hf b (by simp [hb]))⟩
  ow_lt := by
    rintro _ _ _ _ _ ⟨f, g, c, d, rfl, rfl, h, h'⟩ b hb
    rcases List.mem_append.1 hb with hb | hb
    · exact Rep.ow_lt h b hb
    · exact Rep.ow_lt h' b hb

/-- Inside something owned: a part that is only read, and may be shared. -/
structure Sh (α : Type) where
  v : α

instance repSh {α : Type} [Rep α] : Rep (Sh α) where
  sz := Rep.sz α
  rd ok w cs x := Rep.rd ok w cs x.v
  ow ok w F cs x := F = [] ∧ Rep.rd ok w cs x.v
  pos := Rep.pos
  rd_len := fun h => Rep.rd_len h
  rd_one := fun h => Rep.rd_one h
  rd_mono := fun h hm => Rep.rd_mono h hm
  ow_mono := fun h _ hm => ⟨h.1, Rep.rd_mono h.2 hm⟩
  ow_rd := fun h ho _ => Rep.rd_mono h.2 (fun b hb _ => ⟨ho b hb, rfl⟩)
  ow_lt := by rintro _ _ _ _ _ ⟨rfl, _⟩ b hb; cases hb

/-! ### Rows -/
section rows
variable {α : Type} [Rep α]

/-- These cells read, one element behind the other, as this list. -/
def RdL (ok : Nat → Prop) (w : World) : List Value → List α → Prop
  | cells, [] => cells = []
  | cells, x :: xs => ∃ c d, cells = c ++ d ∧ Rep.rd ok w c x ∧ RdL ok w d xs

def OwL (ok : Nat → Prop) (w : World) : List Nat → List Value → List α → Prop
  | F, cells, [] => F = [] ∧ cells = []
  | F, cells, x :: xs => ∃ f g c d, F = f ++ g ∧ cells = c ++ d ∧ Rep.ow ok w f c x ∧ OwL ok w g d xs

theorem RdL.mono {ok ok' : Nat → Prop} {w w' : World} (hm : ∀ b, ok b → b < w.heap.size → ok' b ∧ SameB w w' b) :
    ∀ {cells : List Value} {xs : List α}, RdL ok w cells xs → RdL ok' w' cells xs
  | _, [], h => h
  | _, _ :: _, ⟨c, d, e, h, h'⟩ => ⟨c, d, e, Rep.rd_mono h hm, RdL.mono hm h'⟩

theorem OwL.mono {ok ok' : Nat → Prop} {w w' : World} (hm : ∀ b, ok b → b < w.heap.size → ok' b ∧ SameB w w' b) :
    ∀ {F : List Nat} {cells : List Value} {xs : List α}, OwL ok w F cells xs → (∀ b ∈ F, SameB w w' b) → OwL ok' w' F cells xs
  | _, _, [], h, _ => h
  | _, _, _ :: _, ⟨f, g, c, d, e, e', h, h'⟩, hf =>
    ⟨f, g, c, d, e, e', Rep.ow_mono h (fun b hb => hf b (by simp [e, hb])) hm, OwL.mono hm h' (fun b hb => hf b (by simp [e, hb]))⟩

theorem OwL.rd {ok ok' : Nat → Prop} {w : World} (ho : ∀ b, ok b → ok' b) :
    ∀ {F : List Nat} {cells : List Value} {xs : List α}, OwL ok w F cells xs → (∀ b ∈ F, ok' b) → RdL ok' w cells xs
  | _, _, [], h, _ => h.2
  | _, _, _ :: _, ⟨f, g, c, d, e, e', h, h'⟩, hf =>
    ⟨c, d, e', Rep.ow_rd h ho (fun b hb => hf b (by simp [e, hb])), OwL.rd ho h' (fun b hb => hf b (by simp [e, hb]))⟩

theorem OwL.lt {ok : Nat → Prop} {w : World} : ∀ {F : List Nat} {cells : List Value} {xs : List α}, OwL ok w F cells xs → ∀ b ∈ F, b < w.heap.size
  | _, _, [], h, b, hb => by rw [h.1] at hb; cases hb
  | _, _, _ :: _, ⟨f, g, c, d, e, e', h, h'⟩, b, hb => by
    rw [e] at hb
    rcases List.mem_append.1 hb with hb | hb
    · exact Rep.ow_lt h b hb
    · exact OwL.lt h' b hb

theorem RdL.len {ok : Nat → Prop} {w : World} : ∀ {cells : List Value} {xs : List α}, RdL ok w cells xs → cells.length = xs.length * Rep.sz α
  | _, [], h => by simp [RdL] at h; simp [h]
  | _, x :: xs, ⟨c, d, e, h, h'⟩ => by
    rw [e, List.length_append, Rep.rd_len h, RdL.len h', List.length_cons, Nat.add_mul, Nat.one_mul, Nat.add_comm]

theorem RdL.one {ok : Nat → Prop} {w : World} : ∀ {cells : List Value} {xs : List α}, RdL ok w cells xs → ∀ c ∈ cells, c.oneCell' = true
  | _, [], h, c, hc => by simp [RdL] at h; rw [h] at hc; cases hc
  | _, x :: xs, ⟨c, d, e, h, h'⟩, v, hv => by
    rw [e] at hv
    rcases List.mem_append.1 hv with hv | hv
    · exact Rep.rd_one h v hv
    · exact RdL.one h' v hv

theorem RdL.append {ok : Nat → Prop} {w : World} {d : List Value} {ys : List α} (h2 : RdL ok w d ys) : ∀ {cells : List Value} {xs : List α}, RdL ok w cells xs → RdL ok w (cells ++ d) (xs ++ ys)
  | _, [], h => by simp [RdL] at h; simpa [h] using h2
  | _, x :: xs, ⟨c, d', e, h, h'⟩ => ⟨c, d' ++ d, by rw [e, List.append_assoc], h, RdL.append h2 h'⟩

theorem OwL.append {ok : Nat → Prop} {w : World} {G : List Nat} {d : List Value} {ys : List α} (h2 : OwL ok w G d ys) :
    ∀ {F : List Nat} {cells : List Value} {xs : List α}, OwL ok w F cells xs → OwL ok w (F ++ G) (cells ++ d) (xs ++ ys)
  | _, _, [], h => by obtain ⟨rfl, rfl⟩ := h; simpa using h2
  | _, _, x :: xs, ⟨f, g, c, d', e, e', h, h'⟩ => ⟨f, g ++ G, c, d' ++ d, by rw [e, List.append_assoc], by rw [e', List.append_assoc], h, OwL.append h2 h'⟩

/-- Element number i of a row that reads as a list. -/
theorem RdL.get {ok : Nat → Prop} {w : World} : ∀ {cells : List Value} {xs : List α}, RdL ok w cells xs → ∀ i (hi : i < xs.length),
    ∃ p c s, cells = p ++ c ++ s ∧ p.length = i * Rep.sz α ∧ Rep.rd ok w c xs[i]
  | _, x :: xs, ⟨c, d, e, h, h'⟩, 0, _ => ⟨[], c, d, by simpa using e, by simp, h⟩
  | _, x :: xs, ⟨c, d, e, h, h'⟩, i + 1, hi => by
    obtain ⟨p, c', s, e1, e2, h3⟩ := RdL.get h' i (by simpa using hi)
    refine ⟨c ++ p, c', s, by rw [e, e1]; simp [List.append_assoc], ?_, h3⟩
    rw [List.length_append, Rep.rd_len h, e2, Nat.add_mul, Nat.one_mul, Nat.add_comm]

theorem RdL.cut {ok : Nat → Prop} {w : World} : ∀ {cells : List Value} {xs : List α}, RdL ok w cells xs → ∀ i, i ≤ xs.length →
    RdL ok w (cells.take (i * Rep.sz α)) (xs.take i) ∧ RdL ok w (cells.drop (i * Rep.sz α)) (xs.drop i)
  | _, [], h, i, hi => by
    have : i = 0 := by simpa using hi
    subst this
    simp [RdL] at h ⊢; exact h
  | _, x :: xs, h, 0, _ => by simp only [Nat.zero_mul, List.take_zero, List.drop_zero]; exact ⟨rfl, h⟩
  | _, x :: xs, ⟨c, d, e, h, h'⟩, i + 1, hi => by
    obtain ⟨h1, h2⟩ := RdL.cut h' i (by simpa using hi)
    have hl := Rep.rd_len h
    have hmul : (i + 1) * Rep.sz α = Rep.sz α + i * Rep.sz α := by rw [Nat.add_mul, Nat.one_mul, Nat.add_comm]
    rw [e, hmul]
    refine ⟨⟨c, d.take (i * Rep.sz α), ?_, h, h1⟩, ?_⟩
    · rw [List.take_append, hl]
      rw [List.take_of_length_le (by rw [hl]; exact Nat.le_add_right _ _), Nat.add_sub_cancel_left]
    · rw [List.drop_append, hl, List.drop_of_length_le (by rw [hl]; exact Nat.le_add_right _ _), Nat.add_sub_cancel_left, List.nil_append]
      exact h2

theorem OwL.get {ok : Nat → Prop} {w : World} : ∀ {F : List Nat} {cells : List Value} {xs : List α}, OwL ok w F cells xs → ∀ i (hi : i < xs.length),
    ∃ f1 f f2 p c s, F = f1 ++ f ++ f2 ∧ cells = p ++ c ++ s ∧ Rep.ow ok w f c xs[i] ∧ OwL ok w f1 p (xs.take i) ∧ OwL ok w f2 s (xs.drop (i + 1))
  | _, _, x :: xs, ⟨f, g, c, d, e, e', h, h'⟩, 0, _ => ⟨[], f, g, [], c, d, by simpa using e, by simpa using e', h, ⟨rfl, rfl⟩, h'⟩
  | _, _, x :: xs, ⟨f, g, c, d, e, e', h, h'⟩, i + 1, hi => by
    obtain ⟨f1, f', f2, p, c', s, e1, e2, h3, h4, h5⟩ := OwL.get h' i (by simpa using hi)
    exact ⟨f ++ f1, f', f2, c ++ p, c', s, by rw [e, e1]; simp [List.append_assoc], by rw [e', e2]; simp [List.append_assoc], h3, ⟨f, f1, c, p, rfl, rfl, h, h4⟩, h5⟩

end rows

/-- The cells at an address. -/
def CellsAt (w : World) (b off : Nat) (cells : List Value) : Prop := ∀ j, j < cells.length → w.cell? ⟨b, off + j, none⟩ = cells[j]?

theorem CellsAt.mono {w w' : World} {b off : Nat} {cells : List Value} (h : CellsAt w b off cells) (hs : SameB w w' b) : CellsAt w' b off cells :=
  fun j hj => (cell_same hs).trans (h j hj)

theorem CellsAt.lt {w : World} {b off : Nat} {cells : List Value} (h : CellsAt w b off cells) (hne : 0 < cells.length) : b < w.heap.size := by
  have := h 0 hne
  rw [List.getElem?_eq_getElem hne] at this
  exact World.block_lt_of_cell? w _ this

theorem CellsAt.part {w : World} {b off : Nat} {p c s : List Value} (h : CellsAt w b off (p ++ c ++ s)) : CellsAt w b (off + p.length) c := by
  intro j hj
  have := h (p.length + j) (by simp only [List.length_append]; omega)
  rw [← Nat.add_assoc] at this
  rw [this, List.append_assoc, List.getElem?_append_right (by omega), Nat.add_sub_cancel_left, List.getElem?_append_left hj]

instance repList {α : Type} [Rep α] : Rep (List α) where
  sz := 1
  rd ok w cs xs := ∃ a cap, cs = [.slice a xs.length cap] ∧ xs.length ≤ cap ∧ cap ≤ maxLen ∧ xs.length ≤ 9223372036854775807 ∧
    (0 < xs.length → ∃ b off cells, a = some ⟨b, off, none⟩ ∧ ok b ∧ CellsAt w b off cells ∧ RdL ok w cells xs)
  ow ok w F cs xs := (cs = [.slice none 0 0] ∧ xs = [] ∧ F = []) ∨
    ∃ g cap cur e G cells, cs = [.slice (some ⟨g, 0, none⟩) xs.length cap] ∧ F = g :: G ∧ w.heap[g]? = some (.cells cur e (0, 0)) ∧ xs.length ≤ cap ∧ cap ≤ maxLen ∧
      xs.length ≤ 9223372036854775807 ∧ cap * Rep.sz α ≤ cur.size ∧ cur.toList.take (xs.length * Rep.sz α) = cells ∧ OwL ok w G cells xs
  pos := by decide
  rd_len := by rintro _ _ _ _ ⟨_, _, rfl, _⟩; rfl
  rd_one := by rintro _ _ _ _ ⟨_, _, rfl, _⟩; simp [Value.oneCell']
  rd_mono := by
    rintro ok ok' w w' _ xs ⟨a, cap, rfl, h1, h2, h2', h3⟩ hm
    refine ⟨a, cap, rfl, h1, h2, h2', fun hp => ?_⟩
    obtain ⟨b, off, cells, rfl, hb, hc, hr⟩ := h3 hp
    have hlt : b < w.heap.size := hc.lt (by rw [hr.len]; exact Nat.mul_pos hp Rep.pos)
    exact ⟨b, off, cells, rfl, (hm b hb hlt).1, hc.mono (hm b hb hlt).2, hr.mono hm⟩
  ow_mono := by
    rintro ok ok' w w' F _ xs h hf hm
    rcases h with h | ⟨g, cap, cur, e, G, cells, h0, rfl, h1, h2, h3, h3', h4, h5, h6⟩
    · exact .inl h
    · exact .inr ⟨g, cap, cur, e, G, cells, h0, rfl, by rw [hf g (by simp)]; exact h1, h2, h3, h3', h4, h5, h6.mono hm (fun b hb => hf b (by simp [hb]))⟩
  ow_rd := by
    rintro ok ok' w F _ xs h ho hf
    rcases h with ⟨rfl, rfl, rfl⟩ | ⟨g, cap, cur, e, G, cells, rfl, rfl, h1, h2, h3, h3', h4, h5, h6⟩
    · exact ⟨none, 0, rfl, by simp, by simp [maxLen], by simp, fun h => by simp at h⟩
    · refine ⟨_, cap, rfl, h2, h3, h3', fun hp => ⟨g, 0, cells, rfl, hf g (by simp), ?_, h6.rd ho (fun b hb => hf b (by simp [hb]))⟩⟩
      intro j hj
      rw [← h5] at hj ⊢
      rw [List.getElem?_take]
      have : j < xs.length * Rep.sz α := by
        have := hj; rw [List.length_take] at this; omega
      rw [if_pos this]
      simp [World.cell?, h1]
  ow_lt := by
    rintro ok w F _ xs h b hb
    rcases h with ⟨_, _, rfl⟩ | ⟨g, cap, cur, e, G, cells, _, rfl, h1, _, _, _, _, _, h6⟩
    · cases hb
    · rcases List.mem_cons.1 hb with rfl | hb
      · exact (Array.getElem?_eq_some_iff.1 h1).1
      · exact h6.lt b hb

end Go.Eng
