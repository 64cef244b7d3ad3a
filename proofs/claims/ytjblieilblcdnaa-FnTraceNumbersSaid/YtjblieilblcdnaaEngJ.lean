/- From the data that a law's arguments read as, to what the walk knows; from the law's contract, to its call. -/
import Derived.Test.YtjblieilblcdnaaEngI
import Derived.ProofKit
import Derived.OpenShut
import Derived.ChangeOld
namespace Go.Eng
open Go Go.RowKit Go.ChangeShapes Go.WideShapes
set_option linter.unusedVariables false
set_option linter.unusedSimpArgs false

theorem mapM_some {α β : Type} {f : α → Option β} : ∀ {l : List α} {ys : List β}, l.mapM f = some ys → l.length = ys.length ∧ ∀ (i : Nat) a, l[i]? = some a → f a = ys[i]?
  | [], ys, h => by simp at h; subst h; simp
  | a :: l, ys, h => by
    simp only [List.mapM_cons, Option.bind_eq_bind, Option.bind_eq_some_iff, Option.pure_def, Option.some.injEq] at h
    obtain ⟨y, hy, ys', hys, rfl⟩ := h
    obtain ⟨h1, h2⟩ := mapM_some hys
    refine ⟨by simp [h1], fun i b hb => ?_⟩
    cases i with
    | zero => simp at hb; subst hb; simpa using hy
    | succ i => simpa using h2 i b (by simpa using hb)

theorem cells?_spec {w : World} {base n : Nat} {a : Addr} {cs : List Value} (h : w.cells? base a n = some cs) : cs.length = n ∧ ∀ j, j < n → w.cell? (a.add j) = cs[j]? := by
  unfold World.cells? at h
  split at h
  · obtain ⟨h1, h2⟩ := mapM_some h
    refine ⟨by simpa using h1.symm, fun j hj => h2 j j (by simp [hj])⟩
  · cases h

/-- What reads as data of type T, reads so. -/
class Op_ (P : Program) (T : TypeId) (α : outParam Type) (i : outParam (Rep α)) : Prop where
  rd : ∀ {H : Type} {enc : TypeId × Value → H} {w : World} {base : Nat} {spare : Nat → Bool} {held : Bool} {fuel : Nat} {cs : List Value} {x : DataW H × List MemPlace},
    DataW.trod enc P w base spare held fuel T cs = some x → ∃ d : α, @Rep.rd α i (fun _ => True) w cs d
  size : P.cellsOf T = @Rep.sz α i

theorem op_int {P : Program} {T : TypeId} (h : P.underlying T = some (.int .i64)) (hs : P.cellsOf T = 1) : Op_ P T Int repInt := ⟨fun ht => by
  obtain ⟨n, rfl, _, hw⟩ := DataW.trod_int h ht
  exact ⟨n, rfl, bounds_i64 hw⟩, hs⟩
theorem op_bool {P : Program} {T : TypeId} (h : P.underlying T = some .bool) (hs : P.cellsOf T = 1) : Op_ P T Bool repBool := ⟨fun ht => by
  obtain ⟨n, rfl, _⟩ := DataW.trod_bool h ht
  exact ⟨n, rfl⟩, hs⟩
theorem op_str {P : Program} {T : TypeId} (h : P.underlying T = some .string) (hs : P.cellsOf T = 1) : Op_ P T ByteArray repStr := ⟨fun ht => by
  obtain ⟨n, rfl, _, hl⟩ := DataW.trod_string h ht
  exact ⟨n, rfl, by simpa [maxLen] using hl⟩, hs⟩

theorem rows_of {α : Type} [Rep α] {w : World} {b off : Nat} : ∀ (n : Nat), (∀ i, i < n → ∃ (c : List Value) (d : α), CellsAt w b (off + i * Rep.sz α) c ∧ Rep.rd (fun _ => True) w c d) →
    ∃ (cells : List Value) (xs : List α), xs.length = n ∧ CellsAt w b off cells ∧ RdL (fun _ => True) w cells xs
  | 0, _ => ⟨[], [], rfl, fun j hj => by simp at hj, rfl⟩
  | n + 1, h => by
    obtain ⟨cells, xs, hl, hc, hr⟩ := rows_of n (fun i hi => h i (by omega))
    obtain ⟨c, d, hc', hd⟩ := h n (by omega)
    have hcl : cells.length = n * Rep.sz α := by rw [hr.len, hl]
    refine ⟨cells ++ c, xs ++ [d], by simp [hl], fun j hj => ?_, RdL.append (show RdL _ w c [d] from ⟨c, [], by simp, hd, rfl⟩) hr⟩
    by_cases hj' : j < cells.length
    · rw [List.getElem?_append_left hj']; exact hc j hj'
    · rw [List.length_append] at hj
      rw [List.getElem?_append_right (by omega), hcl]
      have := hc' (j - n * Rep.sz α) (by omega)
      rw [← this]
      congr 2
      omega

theorem op_slice {P : Program} {T e : TypeId} {α : Type} {iα : Rep α} (h : P.underlying T = some (.slice e)) (hs : P.cellsOf T = 1) (he : Op_ P e α iα) : Op_ P T (List α) repList := ⟨fun {H enc w base spare held fuel cs x} ht => by
  rcases DataW.trod_slice h ht with ⟨rfl, _⟩ | ⟨a, len, cap, elems, rest, n, _, rfl, _, _, hl, hm, hlen, hel, _⟩
  · exact ⟨[], none, 0, rfl, by simp, by simp [maxLen], by simp, by simp⟩
  · have each : ∀ i, i < len → ∃ (c : List Value) (d : α), (∀ j, j < c.length → w.cell? ((a.add (i * Rep.sz α)).add j) = c[j]?) ∧ Rep.rd (fun _ => True) w c d := by
      intro i hi
      have h1 := hel i hi
      obtain ⟨y, hy⟩ : ∃ y, elems[i]? = some y := ⟨_, List.getElem?_eq_getElem (by omega)⟩
      rw [hy, Option.bind_eq_some_iff] at h1
      obtain ⟨c, hc, hc'⟩ := h1
      obtain ⟨hcl, hcc⟩ := cells?_spec hc
      obtain ⟨d, hd⟩ := he.rd hc'
      exact ⟨c, d, fun j hj => by rw [← he.size]; exact hcc j (by omega), hd⟩
    have hlm : len ≤ 9223372036854775807 := by simp only [maxLen] at hm; omega
    by_cases h0 : 0 < len
    · obtain ⟨c, d, hc, hd⟩ := each 0 h0
      have hcl := Rep.rd_len hd
      have h00 := hc 0 (by rw [hcl]; exact Rep.pos)
      rw [List.getElem?_eq_getElem (by rw [hcl]; exact Rep.pos)] at h00
      simp only [Nat.zero_mul] at h00
      have hz : ∀ p : Addr, p.add 0 = p := fun p => by simp [Addr.add]
      rw [hz, hz] at h00
      obtain ⟨b, off, sp⟩ := a
      have hsp : sp = none := World.cell?_spot h00
      subst hsp
      obtain ⟨cells, xs, hxl, hcells, hrd⟩ := rows_of (α := α) (w := w) (b := b) (off := off) len (fun i hi => by
        obtain ⟨c, d, hc, hd⟩ := each i hi
        exact ⟨c, d, fun j hj => by have := hc j hj; rw [add_lit, add_lit] at this; exact this, hd⟩)
      exact ⟨xs, some ⟨b, off, none⟩, cap, by rw [hxl], by omega, hm, by omega, fun _ => ⟨b, off, cells, rfl, trivial, hcells, hrd⟩⟩
    · have : len = 0 := by omega
      subst this
      exact ⟨[], some a, cap, rfl, by simp, hm, by simp, by simp⟩, hs⟩

/-- The fields of a struct, from a place on. -/
class OpF (P : Program) (fs : List Field) (off : Nat) (α : outParam Type) (i : outParam (Rep α)) : Prop where
  rd : ∀ {H : Type} {enc : TypeId × Value → H} {w : World} {base : Nat} {spare : Nat → Bool} {held : Bool} {fuel : Nat} {cs : List Value}, off + @Rep.sz α i ≤ cs.length →
    (∀ f ∈ fs, ∃ x, DataW.trod enc P w base spare held fuel f.type ((cs.drop f.offset).take (P.cellsOf f.type)) = some x) → ∃ d : α, @Rep.rd α i (fun _ => True) w ((cs.drop off).take (@Rep.sz α i)) d
theorem opF_one {P : Program} {f : Field} {off : Nat} {α : Type} {iα : Rep α} (hf : f.offset = off) (h : Op_ P f.type α iα) : OpF P [f] off α iα := ⟨fun hl ht => by
  obtain ⟨x, hx⟩ := ht f (by simp)
  rw [hf, h.size] at hx
  exact h.rd hx⟩
theorem opF_cons {P : Program} {f : Field} {fs : List Field} {off off' : Nat} {α β : Type} {iα : Rep α} {iβ : Rep β} (hf : f.offset = off) (h : Op_ P f.type α iα) (ho : off' = off + Rep.sz α) (hr : OpF P fs off' β iβ) : OpF P (f :: fs) off (α × β) repProd := ⟨fun {H enc w base spare held fuel cs} hl ht => by
  obtain ⟨x, hx⟩ := ht f (by simp)
  rw [hf, h.size] at hx
  have hl' : off + (Rep.sz α + Rep.sz β) ≤ cs.length := hl
  obtain ⟨d, hd⟩ := h.rd hx
  obtain ⟨d', hd'⟩ := hr.rd (cs := cs) (by omega) (fun g hg => ht g (by simp [hg]))
  refine ⟨(d, d'), _, _, ?_, hd, hd'⟩
  show (cs.drop off).take (Rep.sz α + Rep.sz β) = _
  rw [List.take_add, List.drop_drop, ← ho]⟩
theorem op_struct {P : Program} {T : TypeId} {fs : List Field} {α : Type} {iα : Rep α} (h : P.underlying T = some (.struct fs.toArray)) (hs : P.cellsOf T = Rep.sz α) (hf : OpF P fs 0 α iα) : Op_ P T α iα := ⟨fun {H enc w base spare held fuel cs x} ht => by
  obtain ⟨xs, n, _, _, hl, hxl, hfs⟩ := DataW.trod_struct h ht
  obtain ⟨d, hd⟩ := hf.rd (enc := enc) (w := w) (base := base) (spare := spare) (held := held) (fuel := n) (cs := cs) (by omega) (fun f hf' => by
    obtain ⟨i, hi⟩ := List.getElem?_of_mem hf'
    have := hfs i f (by simpa using hi)
    rw [this]
    have : i < xs.length := by rw [hxl]; simpa using (List.getElem?_eq_some_iff.1 hi).1
    exact ⟨_, List.getElem?_eq_getElem this⟩)
  refine ⟨d, ?_⟩
  rwa [List.drop_zero, List.take_of_length_le (by omega)] at hd, hs⟩

/-- From the contract of a law to what its row asks. -/
theorem calls_of_cj {P : Program} {f : FuncId} {vs : List Value} {W : World} {Γ Γ' : List Atom} (h : CJ P f vs W Γ (fun _ : Unit => .bool true) (fun _ => Γ')) (hs : Sat W W Γ) :
    Calls P f vs.toArray W fun e w' => e = .returned (.bool true) ∧ Below W.heap.size W w' :=
  (h W hs).mono fun e w' ⟨_, he, hs'⟩ => ⟨he, hs'.base.low⟩

theorem sat_nil (W : World) : Sat W W [] := ⟨BelD.refl _ _, [], by simp, by simp, rfl⟩
theorem sat_app {W : World} {Γ Δ : List Atom} (hd : Sep (fun _ => True) W Δ []) (h : ∃ F, F = [] ∧ Sat W W Γ ∧ Sep (· ∉ F) W Γ F) : ∃ F, F = [] ∧ Sat W W (Δ ++ Γ) ∧ Sep (· ∉ F) W (Δ ++ Γ) F := by
  obtain ⟨F, rfl, hs, hsep⟩ := h
  have hd' : Sep (· ∉ ([] : List Nat)) W Δ [] := hd.mono (fun _ _ _ => ⟨by simp, rfl⟩) (Nat.le_refl _) (fun _ hb => by cases hb)
  have hsep' : Sep (· ∉ ([] : List Nat)) W (Δ ++ Γ) [] := by simpa using Sep.append hsep hd'
  exact ⟨[], rfl, ⟨hs.base, [], by simp, by simp, hsep'⟩, hsep'⟩
theorem sat_start (W : World) : ∃ F, F = [] ∧ Sat W W [] ∧ Sep (· ∉ F) W [] F := ⟨[], rfl, sat_nil W, rfl⟩
end Go.Eng
