/- The rule of the walk for slices.SortFunc: an owned list is sorted in place, by a comparison that has a contract. -/
import Derived.Test.YtbbdjjlnachnlaaGreatDoorEngK
import Derived.Test.YtbbdjjlnachnlaaGreatDoorEngQ
import Derived.Shelf.SlSortCmp.NoneTotal
import Derived.Test.YtbbdjjlnachnlaaGreatDoorProg
import Derived.Test.YtbbdjjlnachnlaaGreatDoorAuto2
namespace Go.Eng
open Go Go.RowKit
set_option linter.unusedVariables false
set_option linter.unusedSimpArgs false
/-! ### Rows of elements, laid flat -/
theorem flat_len {β : Type} {enc : β → List Value} {k : Nat} (hk : ∀ x, (enc x).length = k) : ∀ l : List β, (l.map enc).flatten.length = l.length * k
  | [] => by simp
  | x :: l => by rw [List.map_cons, List.flatten_cons, List.length_append, hk, flat_len hk l, List.length_cons, Nat.add_mul, Nat.one_mul, Nat.add_comm]
theorem grow_of {W w' : World} (h : BelD W.heap.size W w') : ∃ q os, w' = Go.Sort.grow (W.drewN q) os := by
  refine ⟨w'.drawn - W.drawn, w'.heap.extract W.heap.size w'.heap.size, ?_⟩
  have hd := h.drawn
  have hh : w'.heap = W.heap ++ w'.heap.extract W.heap.size w'.heap.size := by
    apply Array.ext_getElem?
    intro i
    rw [Array.getElem?_append]
    split
    · rename_i hi; exact h.block i hi
    · rename_i hi
      rw [Array.getElem?_extract]
      split
      · congr 1; omega
      · rename_i hi2
        rw [Array.getElem?_eq_none]
        have := h.size
        omega
  obtain ⟨h1, h2, h3, h4, h5, h6⟩ := h
  unfold Go.Sort.grow World.drewN
  cases w'
  simp only at h1 h2 h3 hd hh ⊢
  rw [h1, h2, h3, ← hh, show W.drawn + (_ - W.drawn) = _ from Nat.add_sub_cancel' hd]
/-- What a sort does. -/
structure SortH (P : Program) (F g : FuncId) (k : Nat) (arg : List Value → Value) : Prop where
  none : ∀ (p : Option Addr) (cap : Nat) (fv : Value) (w : World), Calls P F #[.slice p 0 cap, fv] w fun e w' => e = .returned (.tuple #[]) ∧ w' = w
  run : ∀ {β : Type} [Inhabited β] (enc : β → List Value) (hk : ∀ x, (enc x).length = k) (h1 : ∀ x, ∀ v ∈ enc x, v.oneCell' = true) (cf : β → β → Int) (hO : Go.Sort.SWO (Go.Proofs.ltOf cf)) (blk cap : Nat) (d : List β) (w : World) (cur : Array Value) (e : TypeId)
    (hb : w.heap[blk]? = some (.cells cur e (0, 0))) (hcur : cur.toList.take (d.length * k) = (d.map enc).flatten)
    (hcmp : ∀ W : World, (∀ b, b ≠ blk → b < w.heap.size → SameB w W b) → w.heap.size ≤ W.heap.size → ∀ x y : β, Calls P g #[arg (enc x), arg (enc y)] W fun e w' => e = .returned (.int .i64 (cf x y)) ∧ BelD W.heap.size W w')
    (hsz : d.length < 4611686018427387904),
    Calls P F #[.slice (some ⟨blk, 0, .none⟩) d.length cap, .func (.func g) #[] #[]] w fun en w' => en = .returned (.tuple #[]) ∧ ∃ d' : List β, d'.Perm d ∧ d'.Pairwise (fun a b => 0 ≤ cf b a) ∧
      (w'.os = w.os ∧ w'.tape = w.tape ∧ w'.output = w.output ∧ w.heap.size ≤ w'.heap.size ∧ w.drawn ≤ w'.drawn) ∧ (∀ b, b ≠ blk → b < w.heap.size → SameB w w' b) ∧
      ∃ cur' : Array Value, w'.heap[blk]? = some (.cells cur' e (0, 0)) ∧ cur'.size = cur.size ∧ cur'.toList.take (d.length * k) = (d'.map enc).flatten
theorem map_block_same {w : World} {blk b : Nat} {f : Array Value → Array Value} (h : b ≠ blk) : (Go.Sort.mapBlock w blk f).heap[b]? = w.heap[b]? := by
  unfold Go.Sort.mapBlock
  simp [Array.getElem?_modify, Ne.symm h]
theorem map_block_at {w : World} {blk : Nat} {f : Array Value → Array Value} {c : Array Value} {e : TypeId} {fr : Nat × Nat} (h : w.heap[blk]? = some (.cells c e fr)) : (Go.Sort.mapBlock w blk f).heap[blk]? = some (.cells (f c) e fr) := by
  unfold Go.Sort.mapBlock
  simp [Array.getElem?_modify, h, Go.Sort.onCells]
theorem put_take {F c : Array Value} (h : F.size ≤ c.size) : (Go.Sort.putCells id 0 F c).size = c.size ∧ (Go.Sort.putCells id 0 F c).toList.take F.size = F.toList := by
  unfold Go.Sort.putCells
  refine ⟨by simp, ?_⟩
  apply List.ext_getElem?
  intro i
  rw [List.getElem?_take]
  split
  · rename_i hi
    rw [Array.getElem?_toList, Array.getElem?_mapIdx, Array.getElem?_eq_getElem (by omega), Option.map_some, if_pos ⟨by omega, by omega⟩, Nat.sub_zero, Array.getElem?_toList, Array.getElem?_eq_getElem hi, getElem!_pos _ i hi]
    rfl
  · rename_i hi
    rw [List.getElem?_eq_none]
    simpa using hi
theorem holds_flat {w : World} {blk : Nat} {cur : Array Value} {e : TypeId} {F : Array Value} (hb : w.heap[blk]? = some (.cells cur e (0, 0))) (h : cur.toList.take F.size = F.toList) : Go.Sort.Holds id w blk 0 F := fun j hj => by
  have h1 : cur[j]? = some F[j] := by
    have h2 : (cur.toList.take F.size)[j]? = F.toList[j]? := by rw [h]
    rw [List.getElem?_take, if_pos hj, Array.getElem?_toList, Array.getElem?_toList, Array.getElem?_eq_getElem hj] at h2
    exact h2
  constructor
  · simp [World.cell?, hb, h1, getElem!_pos F j hj]
  · simp [World.frozen?, hb]
theorem perm_of {β : Type} [Inhabited β] {l : List β} {d' : Array β} (h : Go.Sort.PermIn 0 l.toArray.size l.toArray d') : d'.toList.Perm l := by
  obtain ⟨h1, _, h3⟩ := h
  rw [show d'.extract 0 l.toArray.size = d' by rw [← h1]; simp, show l.toArray.extract 0 l.toArray.size = l.toArray by simp] at h3
  simpa using h3
theorem sorted_of {β : Type} [Inhabited β] {cf : β → β → Int} {n : Nat} {d' : Array β} (hn : d'.size = n) (h : Go.Sort.SortedIn (Go.Proofs.ltOf cf) 0 n d') : d'.toList.Pairwise (fun a b => 0 ≤ cf b a) := by
  rw [List.pairwise_iff_getElem]
  intro i j hi hj hij
  have hi' : i < d'.size := by simpa using hi
  have hj' : j < d'.size := by simpa using hj
  have := h i j (Nat.zero_le _) hij (by omega)
  unfold Go.Proofs.ltOf at this
  rw [getElem!_pos d' i hi', getElem!_pos d' j hj'] at this
  have h2 := of_decide_eq_false this
  simp only [Array.getElem_toList]
  omega
section lays
open Go.Shelf Go.Proofs Go.Sort
variable {P : Program} {ρ : Ren}
theorem sortH_1 (L : SlLaysF.n6 P ρ) {g : FuncId} (eg : ∀ args w, (callFunc g args).run P w = .ok (.enter g args) w) :
    SortH P (ρ.f 6) g 1 (fun cs => cs[0]!) where
  none p cap fv w := AnyF.slices_SortFunc_none { L with } p cap fv w
  run {β} _ enc hk h1 cf hO blk cap d w cur e hb hcur hcmp hsz := by
    have hbl : blk < w.heap.size := (Array.getElem?_eq_some_iff.1 hb).1
    have henc : ∀ x, enc x = [(enc x)[0]!] := fun x => by
      have := hk x
      match h : enc x, this with
      | [v], _ => rfl
    have hfl : ∀ l : List β, (l.map enc).flatten = l.map fun x => (enc x)[0]! := fun l => by
      induction l with
      | nil => rfl
      | cons x l ih => rw [List.map_cons, List.flatten_cons, ih, henc x]; rfl
    have hput : ∀ (W : World) (dk : Array β), putRow (fun x => (enc x)[0]!) W blk 0 dk = putRow id W blk 0 (dk.map fun x => (enc x)[0]!) := fun W dk => by
      unfold putRow
      refine mapBlock_congr _ _ _ _ fun c e fr _ => ?_
      unfold putCells
      simp only [Array.size_map]
      congr 1
      funext i x
      split
      · rename_i hi
        simp only [Nat.sub_zero, id]
        rw [getElem!_pos dk i (by omega), getElem!_pos _ i (by rw [Array.size_map]; omega), Array.getElem_map]
      · rfl
    have hH : Holds (fun x => (enc x)[0]!) w blk 0 d.toArray := fun j hj => by
      have h2 := holds_flat (F := (d.map fun x => (enc x)[0]!).toArray) (e := e) hb (by rw [← hfl, ← hcur]; simp) j (by simpa using hj)
      simp only [id] at h2
      rw [getElem!_pos _ j (by simpa using hj)] at h2
      rw [getElem!_pos d.toArray j hj]
      simpa using h2
    have hcl : d.length ≤ cur.size := by
      have h2 := congrArg List.length hcur
      rw [flat_len hk, List.length_take] at h2
      have : cur.toList.length = cur.size := by simp
      omega
    have same : ∀ (m : Nat) (os : Array Obj) (dk : Array β) b, b ≠ blk → b < w.heap.size → SameB w (sortWorld (fun x => (enc x)[0]!) w blk 0 m dk os) b := fun m os dk b hbk hlt => by
      unfold sortWorld putRow
      show (grow _ os).heap[b]? = _
      rw [heap_grow_old _ _ (by simpa [mapBlock] using hlt), map_block_same hbk]
      rfl
    have hC : CmpLays1 P g #[] (fun x => (enc x)[0]!) cf blk 0 d.toArray.size w := fun m os dk _ x y => by
      have := hcmp (sortWorld (fun x => (enc x)[0]!) w blk 0 m dk os) (same m os dk) (by unfold sortWorld; rw [size_grow, Go.Sort.size_putRow]; exact Nat.le_add_right _ _) x y
      rw [Array.append_empty]
      exact this.mono fun e w' ⟨he, hw⟩ => ⟨he, grow_of hw⟩
    refine (Any.slices_SortFunc L (fun x => (enc x)[0]!) (fun x => h1 x _ (by show (enc x)[0]! ∈ enc x; rw [getElem!_pos (enc x) 0 (by rw [hk]; decide)]; exact List.getElem_mem _)) cf hO g #[] blk 0 cap d.toArray w eg hC hH hbl (by simpa using hsz)).mono fun en w' ⟨he, d', n, os, hp, hs, hw⟩ => ⟨he, d'.toList, perm_of hp, sorted_of hp.1 hs, ?_, ?_, ?_⟩
    · rw [hw]
      exact ⟨rfl, rfl, rfl, by unfold sortWorld; rw [size_grow, Go.Sort.size_putRow]; exact Nat.le_add_right _ _, Nat.le_add_right _ _⟩
    · rw [hw]; exact same n os d'
    · have hd' : d'.size = d.length := by have := hp.1; simpa using this
      have hpt := put_take (F := d'.map fun x => (enc x)[0]!) (c := cur) (by rw [Array.size_map]; omega)
      refine ⟨putCells id 0 (d'.map fun x => (enc x)[0]!) cur, ?_, hpt.1, ?_⟩
      · rw [hw]
        unfold sortWorld
        rw [hput]
        unfold putRow
        rw [heap_grow_old _ _ (by simpa [mapBlock] using hbl)]
        exact map_block_at (w := Go.Sort.ahead w n) hb
      · have := hpt.2
        rw [Array.size_map, hd'] at this
        rw [Nat.mul_one, this, hfl]
        simp
end lays
/-! ### The rule -/
theorem owl_els {α : Type} [Rep α] {ok : Nat → Prop} {w : World} {G0 : List Nat} : ∀ {G : List Nat} {cells : List Value} {xs : List α}, OwL ok w G cells xs → (∀ b ∈ G, b ∈ G0) →
    ∃ l : List { p : List Nat × List Value × α // Rep.ow ok w p.1 p.2.1 p.2.2 ∧ ∀ b ∈ p.1, b ∈ G0 }, l.map (·.1.2.2) = xs ∧ (l.map (·.1.2.1)).flatten = cells ∧ (l.map (·.1.1)).flatten = G
  | _, _, [], h, _ => ⟨[], rfl, h.2.symm, h.1.symm⟩
  | _, _, x :: xs, ⟨f, g, c, d, e, e', h, h'⟩, hG => by
    obtain ⟨l, h1, h2, h3⟩ := owl_els h' (fun b hb => hG b (by rw [e]; exact List.mem_append_right _ hb))
    exact ⟨⟨(f, c, x), h, fun b hb => hG b (by rw [e]; exact List.mem_append_left _ hb)⟩ :: l, by simp [h1], by simp [h2, e'], by simp [h3, e]⟩
theorem owl_of {α : Type} [Rep α] {ok ok' : Nat → Prop} {w w' : World} {G0 : List Nat} (hm : ∀ b, ok b → b < w.heap.size → ok' b ∧ SameB w w' b) (hs : ∀ b ∈ G0, SameB w w' b) : ∀ (l : List { p : List Nat × List Value × α // Rep.ow ok w p.1 p.2.1 p.2.2 ∧ ∀ b ∈ p.1, b ∈ G0 }),
    OwL ok' w' ((l.map (·.1.1)).flatten) ((l.map (·.1.2.1)).flatten) (l.map (·.1.2.2))
  | [] => ⟨rfl, rfl⟩
  | p :: l => ⟨p.1.1, _, p.1.2.1, _, rfl, rfl, Rep.ow_mono p.2.1 (fun b hb => hs b (p.2.2 b hb)) hm, owl_of hm hs l⟩
theorem ow_sz {α : Type} [Rep α] {ok : Nat → Prop} {w : World} {F : List Nat} {cs : List Value} {x : α} (h : Rep.ow ok w F cs x) : cs.length = Rep.sz α ∧ ∀ c ∈ cs, c.oneCell' = true :=
  have h1 : Rep.rd (fun _ => True) w cs x := Rep.ow_rd h (fun _ _ => trivial) (fun _ _ => trivial)
  ⟨Rep.rd_len h1, Rep.rd_one h1⟩
theorem perm_flat {β : Type} {l l' : List (List β)} (h : l.Perm l') : l.flatten.Perm l'.flatten := by
  induction h with
  | nil => exact .refl _
  | cons x _ ih => simp only [List.flatten_cons]; exact ih.append_left x
  | swap x y l => simp only [List.flatten_cons]; rw [← List.append_assoc, ← List.append_assoc]; exact List.perm_append_comm.append_right _
  | trans _ _ h1 h2 => exact h1.trans h2
theorem cj_sort {P : Program} {F g : FuncId} {α : Type} {iα : Rep α} {arg : List Value → Value} (H : SortH P F g (Rep.sz α) arg) (cf : α → α → Int) (hO : Go.Sort.SWO (Go.Proofs.ltOf cf))
    (hc : ∀ (w0 : World) (cx cy : List Value) (x y : α), CJ P g [arg cx, arg cy] w0 [.rd cx x, .rd cy y] (fun _ : Unit => .int .i64 (cf x y)) (fun _ => []))
    {w0 : World} {Γ Δ : List Atom} {sv : Value} {xs : List α} [hp : PullOw (List α) repList Γ [sv] xs Δ] (hl62 : xs.length < 4611686018427387904) :
    CJ P F [sv, .func (.func g) #[] #[]] w0 Γ (fun _ : { ys : List α // ys.Perm xs ∧ ys.Pairwise (fun a b => 0 ≤ cf b a) } => .tuple #[]) (fun q => .ow [sv] q.1 :: Δ) := by
  refine cj_perm hp.perm fun w hs => ?_
  obtain ⟨hb, F0, hn, hl, f, g', rfl, hf, hΔ⟩ := hs
  have hf' : Rep.ow (· ∉ f ++ g') w f [sv] xs := hf
  rw [ow_list] at hf'
  rcases hf' with ⟨hsv, rfl, rfl⟩ | ⟨gb, cap, cur, e, G, cells, hsv, rfl, h1, h2, h3, h3', h4, h5, h6⟩
  · simp only [List.cons.injEq, and_true] at hsv
    subst hsv
    refine (H.none none 0 (.func (.func g) #[] #[]) w).mono fun en w' ⟨he, hw⟩ => ⟨⟨[], .refl _, List.Pairwise.nil⟩, he, ?_⟩
    rw [hw]
    exact ⟨hb, _, hn, hl, [], g', rfl, hf, hΔ⟩
  · simp only [List.cons.injEq, and_true] at hsv
    subst hsv
    by_cases h0 : xs = []
    · subst h0
      refine (H.none _ _ (.func (.func g) #[] #[]) w).mono fun en w' ⟨he, hw⟩ => ⟨⟨[], .refl _, List.Pairwise.nil⟩, he, ?_⟩
      rw [hw]
      exact ⟨hb, _, hn, hl, _, g', rfl, hf, hΔ⟩
    · obtain ⟨l, e1, e2, e3⟩ := owl_els (G0 := G) h6 (fun b hb => hb)
      have hgG : gb ∉ G := by
        have := (List.nodup_append.1 hn).1
        exact (List.nodup_cons.1 this).1
      have hll : l.length = xs.length := by rw [← e1, List.length_map]
      haveI : Inhabited { p : List Nat × List Value × α // Rep.ow (· ∉ gb :: G ++ g') w p.1 p.2.1 p.2.2 ∧ ∀ b ∈ p.1, b ∈ G } := ⟨match l, hll with
        | p :: _, _ => p
        | [], h => absurd (List.eq_nil_of_length_eq_zero h.symm) h0⟩
      have hrun := H.run (β := { p : List Nat × List Value × α // Rep.ow (· ∉ gb :: G ++ g') w p.1 p.2.1 p.2.2 ∧ ∀ b ∈ p.1, b ∈ G }) (fun p => p.1.2.1) (fun p => (ow_sz p.2.1).1) (fun p => (ow_sz p.2.1).2) (fun p q => cf p.1.2.2 q.1.2.2)
        ⟨fun x => hO.irrefl x.1.2.2, fun x y z => hO.trans x.1.2.2 y.1.2.2 z.1.2.2, fun x y z => hO.ntrans x.1.2.2 y.1.2.2 z.1.2.2⟩ gb cap l w cur e h1 (by rw [hll, e2, h5])
        (fun W hsame hsize x y => by
          have hx : Rep.rd (fun _ => True) W x.1.2.1 x.1.2.2 := Rep.ow_rd (Rep.ow_mono (ok' := fun _ => True) x.2.1 (fun b hb => hsame b (fun e => hgG (e ▸ x.2.2 b hb)) (Rep.ow_lt x.2.1 b hb)) (fun b hb hlt => ⟨trivial, hsame b (fun e => hb (by simp [e])) hlt⟩)) (fun _ _ => trivial) (fun _ _ => trivial)
          have hy : Rep.rd (fun _ => True) W y.1.2.1 y.1.2.2 := Rep.ow_rd (Rep.ow_mono (ok' := fun _ => True) y.2.1 (fun b hb => hsame b (fun e => hgG (e ▸ y.2.2 b hb)) (Rep.ow_lt y.2.1 b hb)) (fun b hb hlt => ⟨trivial, hsame b (fun e => hb (by simp [e])) hlt⟩)) (fun _ _ => trivial) (fun _ _ => trivial)
          obtain ⟨_, _, hsat, _⟩ := sat_cons hx (sat_cons hy (sat_start W))
          exact (hc W x.1.2.1 y.1.2.1 x.1.2.2 y.1.2.2 W hsat).mono fun en w' ⟨_, he, hs'⟩ => ⟨he, hs'.base⟩)
        (by omega)
      rw [hll] at hrun
      refine hrun.mono fun en w' ⟨he, l', hperm, hsort, ho, hsame, cur', h1', hcs, hct⟩ => ⟨⟨l'.map (·.1.2.2), by rw [← e1]; exact hperm.map _, by rw [List.pairwise_map]; exact hsort⟩, he, ?_⟩
      have hl'l : l'.length = xs.length := by rw [hperm.length_eq, hll]
      have hGp : ((l'.map (·.1.1)).flatten).Perm G := (perm_flat (hperm.map _)).trans (.of_eq e3)
      refine Sat.step' (Δ' := [.ow [_] (l'.map (·.1.2.2))]) (Γ := Δ) (f := gb :: G) (g := g') (w := w) hb hn hl hΔ ho (fun b hlt hbf => hsame b (fun e => hbf (by simp [e])) hlt) (gb :: (l'.map (·.1.1)).flatten) ?_ ?_ (fun ok' hok' => ⟨gb :: (l'.map (·.1.1)).flatten, [], by simp, ?_, rfl⟩)
      · exact (hGp.cons gb).symm.nodup (List.nodup_append.1 hn).1
      · intro b hb
        exact .inl ((hGp.cons gb).mem_iff.1 hb)
      · show Rep.ow _ _ _ _ _
        rw [ow_list]
        refine .inr ⟨gb, cap, cur', e, _, _, by rw [List.length_map, hl'l], rfl, h1', by rw [List.length_map, hl'l]; exact h2, h3, by rw [List.length_map, hl'l]; exact h3', by rw [hcs]; exact h4, by rw [List.length_map, hl'l, hct], ?_⟩
        exact owl_of (ok := (· ∉ gb :: G ++ g')) (fun b hb hlt => ⟨hok' b hb hlt, hsame b (fun e => hb (by simp [e])) hlt⟩) (fun b hb => hsame b (fun e => hgG (e ▸ hb)) (h6.lt b hb)) l'
/-- A list's cell. -/
theorem rd_one_l {α : Type} {iα : Rep α} {ok : Nat → Prop} {w : World} {cs : List Value} {xs : List α} (h : Rep.rd ok w cs xs) : ∃ v, cs = [v] ∧ Rep.rd ok w [v] xs := by
  have hl : cs.length = 1 := Rep.rd_len h
  match cs, hl with
  | [v], _ => exact ⟨v, rfl, h⟩
end Go.Eng
namespace Go.Proofs
open Go.Shelf
def Tryz.laysSlF6_f136_ren : Go.Shelf.Ren := ⟨fun | 6 => 136 | 15 => 164 | 14 => 163 | 28 => 184 | 29 => 185 | 20 => 176 | 21 => 177 | 22 => 178 | 23 => 179 | 24 => 180 | 25 => 181 | 26 => 182 | 27 => 183 | 46 => 191 | 47 => 192 | 48 => 193 | 49 => 194 | 50 => 195 | 57 => 199 | n => n, fun | 22 => 61 | 24 => 24 | 25 => 153 | 3 => 3 | 39 => 122 | 0 => 0 | 53 => 67 | 55 => 198 | 4 => 4 | 46 => 191 | 45 => 190 | 50 => 177 | 5 => 5 | 9 => 9 | 66 => 205 | 70 => 209 | 76 => 216 | 77 => 217 | n => n, fun | n => n⟩
theorem Tryz.laysSlF6_f136 : Go.Proofs.SlLaysF.n6 Tryz.prog Tryz.laysSlF6_f136_ren := {
  mixed := by kernel_rfl
  f6 := ⟨Tryz.f136.name, by decide, Tryz.func136.trans (congrArg some (by kernel_rfl))⟩
  f14 := ⟨Tryz.f163.name, by decide, Tryz.func163.trans (congrArg some (by kernel_rfl))⟩
  f15 := Tryz.func164.trans (congrArg some (by kernel_rfl))
  f20 := ⟨Tryz.f176.name, by decide, Tryz.func176.trans (congrArg some (by kernel_rfl))⟩
  f21 := ⟨Tryz.f177.name, by decide, Tryz.func177.trans (congrArg some (by kernel_rfl))⟩
  f22 := ⟨Tryz.f178.name, by decide, Tryz.func178.trans (congrArg some (by kernel_rfl))⟩
  f23 := ⟨Tryz.f179.name, by decide, Tryz.func179.trans (congrArg some (by kernel_rfl))⟩
  f24 := ⟨Tryz.f180.name, by decide, Tryz.func180.trans (congrArg some (by kernel_rfl))⟩
  f25 := ⟨Tryz.f181.name, by decide, Tryz.func181.trans (congrArg some (by kernel_rfl))⟩
  f26 := ⟨Tryz.f182.name, by decide, Tryz.func182.trans (congrArg some (by kernel_rfl))⟩
  f27 := ⟨Tryz.f183.name, by decide, Tryz.func183.trans (congrArg some (by kernel_rfl))⟩
  f28 := Tryz.func184.trans (congrArg some (by kernel_rfl))
  f29 := Tryz.func185.trans (congrArg some (by kernel_rfl))
  f46 := ⟨Tryz.f191.name, by decide, Tryz.func191.trans (congrArg some (by kernel_rfl))⟩
  f47 := Tryz.func192.trans (congrArg some (by kernel_rfl))
  f48 := Tryz.func193.trans (congrArg some (by kernel_rfl))
  f49 := ⟨Tryz.f194.name, by decide, Tryz.func194.trans (congrArg some (by kernel_rfl))⟩
  f50 := ⟨Tryz.f195.name, by decide, Tryz.func195.trans (congrArg some (by kernel_rfl))⟩
  f57 := ⟨Tryz.f199.name, by decide, Tryz.func199.trans (congrArg some (by kernel_rfl))⟩
  t0 := Tryz.underlying0
  a0 := Tryz.isAgg0
  z0 := Tryz.sizeOf0
  v0 := Tryz.zeroValue0
  t3 := Tryz.underlying3
  a3 := Tryz.isAgg3
  z3 := Tryz.sizeOf3
  v3 := Tryz.zeroValue3
  t4 := Tryz.underlying4
  a4 := Tryz.isAgg4
  z4 := Tryz.sizeOf4
  v4 := Tryz.zeroValue4
  t5 := Tryz.underlying5
  a5 := Tryz.isAgg5
  z5 := Tryz.sizeOf5
  v5 := Tryz.zeroValue5
  t9 := Tryz.underlying9
  a9 := Tryz.isAgg9
  z9 := Tryz.sizeOf9
  v9 := Tryz.zeroValue9
  t22 := Tryz.underlying61
  a22 := Tryz.isAgg61
  z22 := Tryz.sizeOf61
  v22 := Tryz.zeroValue61
  a24 := Tryz.isAgg24
  z24 := Tryz.sizeOf24
  t25 := Tryz.underlying153
  a25 := Tryz.isAgg153
  z25 := Tryz.sizeOf153
  v25 := Tryz.zeroValue153
  t39 := Tryz.underlying122
  a39 := Tryz.isAgg122
  z39 := Tryz.sizeOf122
  v39 := Tryz.zeroValue122
  t45 := Tryz.underlying190
  a45 := Tryz.isAgg190
  z45 := Tryz.sizeOf190
  v45 := Tryz.zeroValue190
  t46 := Tryz.underlying191
  a46 := Tryz.isAgg191
  z46 := Tryz.sizeOf191
  v46 := Tryz.zeroValue191
  t50 := Tryz.underlying177
  a50 := Tryz.isAgg177
  z50 := Tryz.sizeOf177
  v50 := Tryz.zeroValue177
  t53 := Tryz.underlying67
  a53 := Tryz.isAgg67
  z53 := Tryz.sizeOf67
  v53 := Tryz.zeroValue67
  t55 := Tryz.underlying198
  a55 := Tryz.isAgg198
  z55 := Tryz.sizeOf198
  v55 := Tryz.zeroValue198
  t66 := Tryz.underlying205
  a66 := Tryz.isAgg205
  z66 := Tryz.sizeOf205
  v66 := Tryz.zeroValue205
  t70 := Tryz.underlying209
  a70 := Tryz.isAgg209
  z70 := Tryz.sizeOf209
  v70 := Tryz.zeroValue209
  t76 := Tryz.underlying216
  a76 := Tryz.isAgg216
  z76 := Tryz.sizeOf216
  v76 := Tryz.zeroValue216
  t77 := Tryz.underlying217
  a77 := Tryz.isAgg217
  z77 := Tryz.sizeOf217
  v77 := Tryz.zeroValue217 }
end Go.Proofs
namespace Go.Proofs.YtbbdjjlnachnlaaGreatDoor
open Go Go.Eng
set_option linter.unusedVariables false
set_option linter.unusedSimpArgs false
set_option synthInstance.maxHeartbeats 400000
set_option synthInstance.maxSize 1000
set_option maxRecDepth 20000

/-! ### Lists, compared -/
def cmpL : List Int → List Int → Int
  | [], [] => 0
  | [], _ :: _ => -1
  | _ :: _, [] => 1
  | x :: xs, y :: ys => if x < y then -1 else if y < x then 1 else cmpL xs ys
def cmpI (x y : Int) : Int := if x < y then -1 else if y < x then 1 else 0
theorem cmpI_bd (x y : Int) : -1 ≤ cmpI x y ∧ cmpI x y ≤ 1 := by
  unfold cmpI
  split
  · decide
  · split <;> decide
theorem cmpL_hd {x y : Int} {xs ys : List Int} (h : ¬ cmpI x y = 0) : cmpL (x :: xs) (y :: ys) = cmpI x y := by
  unfold cmpI at *
  rw [cmpL]
  split
  · rfl
  · rename_i h1
    rw [if_neg h1] at h
    split
    · rfl
    · rename_i h2
      rw [if_neg h2] at h
      exact absurd rfl h
theorem cmpL_tl {x y : Int} {xs ys : List Int} (h : cmpI x y = 0) : cmpL (x :: xs) (y :: ys) = cmpL xs ys := by
  unfold cmpI at h
  rw [cmpL]
  split
  · rename_i h1
    rw [if_pos h1] at h
    exact absurd h (by decide)
  · rename_i h1
    rw [if_neg h1] at h
    split
    · rename_i h2
      rw [if_pos h2] at h
      exact absurd h (by decide)
    · rfl
theorem cmpL_eq : ∀ {x y : List Int}, cmpL x y = 0 → x = y
  | [], [], _ => rfl
  | [], _ :: _, h => by simp [cmpL] at h
  | _ :: _, [], h => by simp [cmpL] at h
  | x :: xs, y :: ys, h => by
    rw [cmpL] at h
    split at h
    · omega
    · split at h
      · omega
      · rw [cmpL_eq h, show x = y by omega]
theorem cmpL_neg : ∀ x y : List Int, cmpL y x = - cmpL x y
  | [], [] => rfl
  | [], _ :: _ => rfl
  | _ :: _, [] => rfl
  | x :: xs, y :: ys => by
    rw [cmpL, cmpL]
    by_cases h1 : x < y
    · rw [if_neg (by omega), if_pos h1, if_pos h1]; rfl
    · by_cases h2 : y < x
      · rw [if_pos h2, if_neg h1, if_pos h2]
      · rw [if_neg h2, if_neg h1, if_neg h1, if_neg h2, cmpL_neg xs ys]
theorem cmpL_bd : ∀ x y : List Int, -1 ≤ cmpL x y ∧ cmpL x y ≤ 1
  | [], [] => by simp [cmpL]
  | [], _ :: _ => by simp [cmpL]
  | _ :: _, [] => by simp [cmpL]
  | x :: xs, y :: ys => by
    have := cmpL_bd xs ys
    rw [cmpL]
    split
    · omega
    · split <;> omega
abbrev leL (x y : List Int) : Prop := cmpL x y ≤ 0
theorem leL_trans : ∀ {x y z : List Int}, leL x y → leL y z → leL x z
  | [], [], _, _, h => h
  | [], _ :: _, [], _, h => by simp [leL, cmpL] at h
  | [], _ :: _, _ :: _, _, _ => by simp [leL, cmpL]
  | _ :: _, [], _, h, _ => by simp [leL, cmpL] at h
  | _ :: _, _ :: _, [], _, h => by simp [leL, cmpL] at h
  | x :: xs, y :: ys, z :: zs, h1, h2 => by
    unfold leL at *
    rw [cmpL] at h1 h2 ⊢
    by_cases a : x < y
    · by_cases b : y < z
      · rw [if_pos (by omega)]; omega
      · rw [if_neg b] at h2
        split at h2
        · omega
        · rw [if_pos (by omega)]; omega
    · rw [if_neg a] at h1
      split at h1
      · omega
      · by_cases b : y < z
        · rw [if_pos (by omega)]; omega
        · rw [if_neg b] at h2
          split at h2
          · omega
          · rw [if_neg (by omega), if_neg (by omega)]
            exact leL_trans h1 h2
theorem cmpC_spec {w0 : World} {Γ : List Atom} {x y : Int} : CJ Tryz.prog 174 [.int .i64 x, .int .i64 y] w0 Γ (fun _ : Unit => .int .i64 (cmpI x y)) (fun _ => Γ) := by
  refine cj_enter Tryz.func174 Tryz.ntmps174 ?_
  repeat' (first | refine red ?_ | (refine redc fun r => ?_; try have hr := Subtype.property r) | (refine redi (fun hc => ?_) (fun hc => ?_) <;> try first | (exfalso; omega) | exact absurd rfl hc) | fail)
  · exact ⟨(), by rw [cmpI, if_pos (by omega)], ent_e⟩
  · exact ⟨(), by rw [cmpI, if_neg (by omega), if_pos (by omega)], ent_e⟩
  · exact ⟨(), by rw [cmpI, if_neg (by omega), if_neg (by omega)], ent_e⟩
instance cmpC_ctr {Γ : List Atom} {x y : Int} :
    CtrC Tryz.prog 174 [.int .i64 x, .int .i64 y] Γ (True) (Unit) (fun _ : Unit => .int .i64 (cmpI x y)) (fun _ => Γ) := ⟨fun s w0 => cmpC_spec⟩

theorem cmpX_spec {w0 : World} {Γ : List Atom} {v v1 : Value} {xs ys : List Int} [h : HasRd (List Int) repList Γ [v] xs] [h1 : HasRd (List Int) repList Γ [v1] ys] : CJ Tryz.prog 157 [v, v1] w0 Γ (fun q : { c : Int // c = cmpL xs ys ∧ -1 ≤ c ∧ c ≤ 1 } => .int .i64 q.1) (fun _ => Γ) := by
  have hbd := cmpL_bd xs ys
  refine cj_lift (R := [.rd [v] xs, .rd [v1] ys]) (A := fun _ => []) (fun w1 => ?_) (reads_cons h (reads_cons h1 (inferInstance))) (fun _ => inferInstance)
  simp only [List.cons_append, List.nil_append]
  refine cj_len v fun hlx => ?_
  refine cj_len v1 fun hly => ?_
  refine cj_enter Tryz.func157 Tryz.ntmps157 ?_
  repeat' (first | refine red ?_ | fail)
  refine wc_loop_c [11] [12, 13, 14, 15, 5, 6, 16, 17, 18, 19, 4, 20, 21, 22, 23, 7, 24, 25, 26, 8, 27, 28, 29, 30] (ι := Nat) (fun k => [.int .i64 k]) (fun k => k ≤ xs.length ∧ k ≤ ys.length ∧ cmpL xs ys = cmpL (xs.drop k) (ys.drop k)) (fun k => xs.length - k) 0 (by kernel_rfl) ⟨Nat.zero_le _, Nat.zero_le _, rfl⟩ ?_
  intro k u l' hl' ⟨hk, hk2, hkk⟩
  simp only [patch, List.map_cons, List.map_nil, List.set_cons_zero, List.set_cons_succ] at hl'
  subst hl'
  have hx : k < xs.length → xs.drop k = xs.getD k 0 :: xs.drop (k + 1) := fun h => by
    rw [List.drop_eq_getElem_cons h, List.getD_eq_getElem?_getD, List.getElem?_eq_getElem h]; rfl
  have hy : k < ys.length → ys.drop k = ys.getD k 0 :: ys.drop (k + 1) := fun h => by
    rw [List.drop_eq_getElem_cons h, List.getD_eq_getElem?_getD, List.getElem?_eq_getElem h]; rfl
  repeat' (first | refine red ?_ | refine redf fun hbi => ?_ | refine reds ?_ | (refine redc fun r => ?_; try have hr := Subtype.property r) | (refine redi (fun hc => ?_) (fun hc => ?_) <;> try first | (exfalso; omega) | exact absurd rfl hc) | fail)
  · refine ⟨⟨1, ?_, by decide, by decide⟩, rfl, ent_e⟩
    rw [hkk, hx (by omega), show ys.drop k = [] from List.drop_of_length_le (by omega)]; rfl
  · exact ⟨⟨_, by rw [hkk, hx (by omega), hy (by omega), cmpL_hd hc], cmpI_bd _ _⟩, rfl, ent_e⟩
  · exact wq_next (k + 1) ⟨by omega, by omega, by rw [hkk, hx (by omega), hy (by omega), cmpL_tl hc]⟩ (by omega) (by kernel_rfl) ent_e
  · refine ⟨⟨-1, ?_, by decide, by decide⟩, rfl, ent_e⟩
    rw [hkk, hy (by omega), show xs.drop k = [] from List.drop_of_length_le (by omega)]; rfl
  · refine ⟨⟨0, ?_, by decide, by decide⟩, rfl, ent_e⟩
    rw [hkk, show ys.drop k = [] from List.drop_of_length_le (by omega), show xs.drop k = [] from List.drop_of_length_le (by omega)]; rfl
instance cmpX_ctr {Γ : List Atom} {v v1 : Value} {xs ys : List Int} [h : HasRd (List Int) repList Γ [v] xs] [h1 : HasRd (List Int) repList Γ [v1] ys] :
    CtrC Tryz.prog 157 [v, v1] Γ (True) ({ c : Int // c = cmpL xs ys ∧ -1 ≤ c ∧ c ≤ 1 }) (fun q : { c : Int // c = cmpL xs ys ∧ -1 ≤ c ∧ c ≤ 1 } => .int .i64 q.1) (fun _ => Γ) := ⟨fun s w0 => cmpX_spec⟩

theorem swo_of {α : Type} {cf : α → α → Int} (hn : ∀ a b, cf b a = - cf a b) (ht : ∀ a b c, cf a b ≤ 0 → cf b c ≤ 0 → cf a c ≤ 0) (hz : ∀ a b, cf a b = 0 → ∀ c, cf a c = cf b c) : Go.Sort.SWO (Go.Proofs.ltOf cf) where
  irrefl x := by unfold ltOf; have := hn x x; rw [decide_eq_false_iff_not]; omega
  trans x y z h1 h2 := by
    unfold ltOf at *
    rw [decide_eq_true_iff] at *
    have h3 := ht x y z (by omega) (by omega)
    by_cases h0 : cf x z = 0
    · have h4 := hz x z h0 y
      have := hn y z
      omega
    · omega
  ntrans x y z h1 h2 := by
    unfold ltOf at *
    rw [decide_eq_false_iff_not] at *
    have e1 := hn x y
    have e2 := hn y z
    have e3 := hn x z
    have h3 := ht z y x (by omega) (by omega)
    omega
/-- Terms, the shorter ones first. -/
def cmpS (a b : List Int) : Int := if a.length ≠ b.length then (a.length : Int) - b.length else cmpL a b
theorem cmpS_neg (a b : List Int) : cmpS b a = - cmpS a b := by
  unfold cmpS
  rw [cmpL_neg a b]
  split <;> split <;> omega
theorem cmpS_eq {a b : List Int} (h : cmpS a b = 0) : a = b := by
  unfold cmpS at h
  split at h
  · omega
  · exact cmpL_eq h
theorem cmpS_refl (a : List Int) : cmpS a a = 0 := by have := cmpS_neg a a; omega
theorem cmpS_trans {a b c : List Int} (h1 : cmpS a b ≤ 0) (h2 : cmpS b c ≤ 0) : cmpS a c ≤ 0 := by
  unfold cmpS at *
  split at h1 <;> split at h2 <;> split <;> first | omega | exact leL_trans h1 h2
theorem compareTerms_spec {w0 : World} {Γ : List Atom} {v v1 : Value} {xs ys : List Int} [h : HasRd (List Int) repList Γ [v] xs] [h1 : HasRd (List Int) repList Γ [v1] ys] : CJ Tryz.prog 137 [v, v1] w0 Γ (fun _ : Unit => .int .i64 (cmpS xs ys)) (fun _ => Γ) := by
  refine cj_len v fun hlx => ?_
  refine cj_len v1 fun hly => ?_
  refine cj_enter Tryz.func137 Tryz.ntmps137 ?_
  repeat' (first | refine red ?_ | refine reds ?_ | (refine redc fun r => ?_; try have hr := Subtype.property r) | (refine redi (fun hc => ?_) (fun hc => ?_) <;> try first | (exfalso; omega) | exact absurd rfl hc) | fail)
  · exact ⟨(), by rw [cmpS, if_pos (by omega)], ent_e⟩
  · exact ⟨(), by rw [cmpS, if_neg (by omega), r.2.1], ent_e⟩
end Go.Proofs.YtbbdjjlnachnlaaGreatDoor
