/- The rule of the walk for slices.SortFunc: an owned list is sorted in place, by a comparison that has a contract. -/
import Derived.Test.YtbbdjjlnachnlaaGreatDoorEngO
import Derived.Test.YtbbdjjlnachnlaaGreatDoorEngT
import Derived.Shelf.SlSortCmp.NoneTotal
namespace Go.Eng
open Go Go.RowKit
set_option linter.unusedVariables false
set_option linter.unusedSimpArgs false
/-! ### Rows of elements, laid flat -/
theorem flat_get {β : Type} [Inhabited β] {enc : β → List Value} {k : Nat} (hk : ∀ x, (enc x).length = k) : ∀ (l : List β) (t : Nat), t < l.length * k → (l.map enc).flatten[t]? = some ((enc l[t / k]!)[t % k]!)
  | [], t, h => by simp at h
  | x :: l, t, h => by
    have hk0 : 0 < k := by
      rcases Nat.eq_zero_or_pos k with e | e
      · rw [e] at h; simp at h
      · exact e
    rw [List.map_cons, List.flatten_cons]
    by_cases ht : t < k
    · rw [List.getElem?_append_left (by rw [hk]; exact ht), Nat.div_eq_of_lt ht, Nat.mod_eq_of_lt ht]
      have hl : t < (enc x).length := by rw [hk]; exact ht
      rw [show (x :: l)[0]! = x from rfl, List.getElem?_eq_getElem hl, getElem!_pos _ t hl]
    · rw [List.getElem?_append_right (by rw [hk]; omega), hk]
      have h2 : t - k < l.length * k := by rw [List.length_cons, Nat.add_mul, Nat.one_mul] at h; omega
      rw [flat_get hk l (t - k) h2]
      have e : t = (t - k) + k := by omega
      have e1 : t / k = (t - k) / k + 1 := by conv => lhs; rw [e]; rw [Nat.add_div_right _ hk0]
      have e2 : t % k = (t - k) % k := by conv => lhs; rw [e]; rw [Nat.add_mod_right]
      rw [e1, e2]
      rfl
theorem flat_len {β : Type} {enc : β → List Value} {k : Nat} (hk : ∀ x, (enc x).length = k) : ∀ l : List β, (l.map enc).flatten.length = l.length * k
  | [] => by simp
  | x :: l => by rw [List.map_cons, List.flatten_cons, List.length_append, hk, flat_len hk l, List.length_cons, Nat.add_mul, Nat.one_mul, Nat.add_comm]
theorem grow_of {W w' : World} (h : BelD W.heap.size W w') : ∃ q os, w' = Go.Sort.grow (W.drewN q) os := by
  refine ⟨w'.drawn - W.drawn, w'.heap.extract W.heap.size w'.heap.size, ?_⟩
  have hd := h.drawn
  have hh : w'.heap = W.heap ++ w'.heap.extract W.heap.size w'.heap.size := by
    apply Array.ext_getElem?
    intro i
    rw [Array.getElem?_append]
    split
    · rename_i hi; exact h.block i hi
    · rename_i hi
      rw [Array.getElem?_extract]
      split
      · congr 1; omega
      · rename_i hi2
        rw [Array.getElem?_eq_none]
        have := h.size
        omega
  obtain ⟨h1, h2, h3, h4, h5, h6⟩ := h
  unfold Go.Sort.grow World.drewN
  cases w'
  simp only at h1 h2 h3 hd hh ⊢
  rw [h1, h2, h3, ← hh, show W.drawn + (_ - W.drawn) = _ from Nat.add_sub_cancel' hd]
/-- What a sort does. -/
structure SortH (P : Program) (F g : FuncId) (k : Nat) (arg : List Value → Value) : Prop where
  none : ∀ (p : Option Addr) (cap : Nat) (fv : Value) (w : World), Calls P F #[.slice p 0 cap, fv] w fun e w' => e = .returned (.tuple #[]) ∧ w' = w
  run : ∀ {β : Type} [Inhabited β] (enc : β → List Value) (hk : ∀ x, (enc x).length = k) (h1 : ∀ x, ∀ v ∈ enc x, v.oneCell' = true) (cf : β → β → Int) (hO : Go.Sort.SWO (Go.Proofs.ltOf cf)) (blk cap : Nat) (d : List β) (w : World) (cur : Array Value) (e : TypeId)
    (hb : w.heap[blk]? = some (.cells cur e (0, 0))) (hcur : cur.toList.take (d.length * k) = (d.map enc).flatten)
    (hcmp : ∀ W : World, (∀ b, b ≠ blk → b < w.heap.size → SameB w W b) → w.heap.size ≤ W.heap.size → ∀ x y : β, Calls P g #[arg (enc x), arg (enc y)] W fun e w' => e = .returned (.int .i64 (cf x y)) ∧ BelD W.heap.size W w')
    (hsz : d.length < 4611686018427387904),
    Calls P F #[.slice (some ⟨blk, 0, .none⟩) d.length cap, .func (.func g) #[] #[]] w fun en w' => en = .returned (.tuple #[]) ∧ ∃ d' : List β, d'.Perm d ∧ d'.Pairwise (fun a b => 0 ≤ cf b a) ∧
      (w'.os = w.os ∧ w'.tape = w.tape ∧ w'.output = w.output ∧ w.heap.size ≤ w'.heap.size ∧ w.drawn ≤ w'.drawn) ∧ (∀ b, b ≠ blk → b < w.heap.size → SameB w w' b) ∧
      ∃ cur' : Array Value, w'.heap[blk]? = some (.cells cur' e (0, 0)) ∧ cur'.size = cur.size ∧ cur'.toList.take (d.length * k) = (d'.map enc).flatten
theorem map_block_same {w : World} {blk b : Nat} {f : Array Value → Array Value} (h : b ≠ blk) : (Go.Sort.mapBlock w blk f).heap[b]? = w.heap[b]? := by
  unfold Go.Sort.mapBlock
  simp [Array.getElem?_modify, Ne.symm h]
theorem map_block_at {w : World} {blk : Nat} {f : Array Value → Array Value} {c : Array Value} {e : TypeId} {fr : Nat × Nat} (h : w.heap[blk]? = some (.cells c e fr)) : (Go.Sort.mapBlock w blk f).heap[blk]? = some (.cells (f c) e fr) := by
  unfold Go.Sort.mapBlock
  simp [Array.getElem?_modify, h, Go.Sort.onCells]
theorem flatK_list {β : Type} [Inhabited β] {enc : β → List Value} {k : Nat} (hk : ∀ x, (enc x).length = k) (l : List β) : Go.Sort.flatK enc k l.toArray = ((l.map enc).flatten).toArray := by
  apply Array.ext_getElem?
  intro t
  by_cases ht : t < l.length * k
  · have hs : t < (Go.Sort.flatK enc k l.toArray).size := by rw [Go.Sort.size_flatK]; exact ht
    rw [Array.getElem?_eq_getElem hs, ← getElem!_pos _ t hs, Go.Sort.get_flatK _ _ _ _ (by exact ht), List.getElem?_toArray, flat_get hk l t ht]
    simp
  · rw [Array.getElem?_eq_none (by rw [Go.Sort.size_flatK]; exact Nat.le_of_not_lt ht), Array.getElem?_eq_none]
    rw [List.size_toArray, flat_len hk]; omega
theorem put_take {F c : Array Value} (h : F.size ≤ c.size) : (Go.Sort.putCells id 0 F c).size = c.size ∧ (Go.Sort.putCells id 0 F c).toList.take F.size = F.toList := by
  unfold Go.Sort.putCells
  refine ⟨by simp, ?_⟩
  apply List.ext_getElem?
  intro i
  rw [List.getElem?_take]
  split
  · rename_i hi
    rw [Array.getElem?_toList, Array.getElem?_mapIdx, Array.getElem?_eq_getElem (by omega), Option.map_some, if_pos ⟨by omega, by omega⟩, Nat.sub_zero, Array.getElem?_toList, Array.getElem?_eq_getElem hi, getElem!_pos _ i hi]
    rfl
  · rename_i hi
    rw [List.getElem?_eq_none]
    simpa using hi
theorem holds_flat {w : World} {blk : Nat} {cur : Array Value} {e : TypeId} {F : Array Value} (hb : w.heap[blk]? = some (.cells cur e (0, 0))) (h : cur.toList.take F.size = F.toList) : Go.Sort.Holds id w blk 0 F := fun j hj => by
  have h1 : cur[j]? = some F[j] := by
    have h2 : (cur.toList.take F.size)[j]? = F.toList[j]? := by rw [h]
    rw [List.getElem?_take, if_pos hj, Array.getElem?_toList, Array.getElem?_toList, Array.getElem?_eq_getElem hj] at h2
    exact h2
  constructor
  · simp [World.cell?, hb, h1, getElem!_pos F j hj]
  · simp [World.frozen?, hb]
theorem perm_of {β : Type} [Inhabited β] {l : List β} {d' : Array β} (h : Go.Sort.PermIn 0 l.toArray.size l.toArray d') : d'.toList.Perm l := by
  obtain ⟨h1, _, h3⟩ := h
  rw [show d'.extract 0 l.toArray.size = d' by rw [← h1]; simp, show l.toArray.extract 0 l.toArray.size = l.toArray by simp] at h3
  simpa using h3
theorem sorted_of {β : Type} [Inhabited β] {cf : β → β → Int} {n : Nat} {d' : Array β} (hn : d'.size = n) (h : Go.Sort.SortedIn (Go.Proofs.ltOf cf) 0 n d') : d'.toList.Pairwise (fun a b => 0 ≤ cf b a) := by
  rw [List.pairwise_iff_getElem]
  intro i j hi hj hij
  have hi' : i < d'.size := by simpa using hi
  have hj' : j < d'.size := by simpa using hj
  have := h i j (Nat.zero_le _) hij (by omega)
  unfold Go.Proofs.ltOf at this
  rw [getElem!_pos d' i hi', getElem!_pos d' j hj'] at this
  have h2 := of_decide_eq_false this
  simp only [Array.getElem_toList]
  omega
section lays
open Go.Shelf Go.Proofs Go.Sort
variable {P : Program} {ρ : Ren}
theorem sortH_K (L : SlLaysF0.n6 P ρ) {k : Nat} (aE : ∀ w, (isAgg (ρ.t 24)).run P w = .ok true w) (zE : ∀ w, (Go.sizeOf (ρ.t 24)).run P w = .ok k w) {g : FuncId} (eg : ∀ args w, (callFunc g args).run P w = .ok (.enter g args) w) :
    SortH P (ρ.f 6) g k (fun cs => .agg cs.toArray) where
  none p cap fv w := AnyF.slices_SortFunc_none { L with } p cap fv w
  run {β} _ enc hk h1 cf hO blk cap d w cur e hb hcur hcmp hsz := by
    have hbl : blk < w.heap.size := (Array.getElem?_eq_some_iff.1 hb).1
    have hF := flatK_list hk d
    have hFs : (flatK enc k d.toArray).size = d.length * k := by rw [size_flatK]; rfl
    have hH : HoldsK enc k w blk 0 d.toArray := holds_flat (e := e) hb (by rw [hFs, hcur, hF])
    have hcl : d.length * k ≤ cur.size := by
      have h2 := congrArg List.length hcur
      rw [flat_len hk, List.length_take] at h2
      have : cur.toList.length = cur.size := by simp
      omega
    have same : ∀ (m : Nat) (os : Array Obj) (dk : Array β) b, b ≠ blk → b < w.heap.size → SameB w (sortWorldK enc k w blk 0 m dk os) b := fun m os dk b hbk hlt => by
      unfold sortWorldK putRowK putRow
      show (grow _ os).heap[b]? = _
      rw [heap_grow_old _ _ (by simpa [mapBlock] using hlt), map_block_same hbk]
      rfl
    have hC : CmpLays P g #[] enc k cf blk 0 d.toArray.size w := fun m os dk _ x y => by
      have := hcmp (sortWorldK enc k w blk 0 m dk os) (same m os dk) (by unfold sortWorldK; rw [size_grow, show (putRowK enc k (Go.Sort.ahead w m) blk 0 dk).heap.size = w.heap.size from Go.Sort.size_putRow _ _ _ _ _]; exact Nat.le_add_right _ _) x y
      rw [Array.append_empty]
      exact this.mono fun e w' ⟨he, hw⟩ => ⟨he, grow_of hw⟩
    refine (AnyQ.slices_SortFunc L k aE zE enc hk h1 cf hO g #[] blk 0 cap d.toArray w eg hC hH hbl (by simpa using hsz)).mono fun en w' ⟨he, d', n, os, hp, hs, hw⟩ => ⟨he, d'.toList, perm_of hp, sorted_of hp.1 hs, ?_, ?_, ?_⟩
    · rw [hw]
      exact ⟨rfl, rfl, rfl, by unfold sortWorldK; rw [size_grow, show (putRowK enc k (Go.Sort.ahead w n) blk 0 d').heap.size = w.heap.size from Go.Sort.size_putRow _ _ _ _ _]; exact Nat.le_add_right _ _, Nat.le_add_right _ _⟩
    · rw [hw]; exact same n os d'
    · have hd' : d'.toList.length = d.length := by have := hp.1; simpa using this
      have hF' : flatK enc k d' = ((d'.toList.map enc).flatten).toArray := by have := flatK_list hk d'.toList; simpa using this
      have hFs' : (flatK enc k d').size = d.length * k := by rw [size_flatK, hp.1]; rfl
      have hpt := put_take (F := flatK enc k d') (c := cur) (by rw [hFs']; exact hcl)
      refine ⟨putCells id 0 (flatK enc k d') cur, ?_, hpt.1, ?_⟩
      · rw [hw]
        unfold sortWorldK putRowK putRow
        rw [heap_grow_old _ _ (by simpa [mapBlock] using hbl)]
        exact map_block_at (w := Go.Sort.ahead w n) hb
      · have := hpt.2
        rw [hFs', hF'] at this
        simpa [hF'] using this
theorem sortH_1 (L : SlLaysF.n6 P ρ) {g : FuncId} (eg : ∀ args w, (callFunc g args).run P w = .ok (.enter g args) w) :
    SortH P (ρ.f 6) g 1 (fun cs => cs[0]!) where
  none p cap fv w := AnyF.slices_SortFunc_none { L with } p cap fv w
  run {β} _ enc hk h1 cf hO blk cap d w cur e hb hcur hcmp hsz := by
    have hbl : blk < w.heap.size := (Array.getElem?_eq_some_iff.1 hb).1
    have henc : ∀ x, enc x = [(enc x)[0]!] := fun x => by
      have := hk x
      match h : enc x, this with
      | [v], _ => rfl
    have hfl : ∀ l : List β, (l.map enc).flatten = l.map fun x => (enc x)[0]! := fun l => by
      induction l with
      | nil => rfl
      | cons x l ih => rw [List.map_cons, List.flatten_cons, ih, henc x]; rfl
    have hput : ∀ (W : World) (dk : Array β), putRow (fun x => (enc x)[0]!) W blk 0 dk = putRow id W blk 0 (dk.map fun x => (enc x)[0]!) := fun W dk => by
      unfold putRow
      refine mapBlock_congr _ _ _ _ fun c e fr _ => ?_
      unfold putCells
      simp only [Array.size_map]
      congr 1
      funext i x
      split
      · rename_i hi
        simp only [Nat.sub_zero, id]
        rw [getElem!_pos dk i (by omega), getElem!_pos _ i (by rw [Array.size_map]; omega), Array.getElem_map]
      · rfl
    have hH : Holds (fun x => (enc x)[0]!) w blk 0 d.toArray := fun j hj => by
      have h2 := holds_flat (F := (d.map fun x => (enc x)[0]!).toArray) (e := e) hb (by rw [← hfl, ← hcur]; simp) j (by simpa using hj)
      simp only [id] at h2
      rw [getElem!_pos _ j (by simpa using hj)] at h2
      rw [getElem!_pos d.toArray j hj]
      simpa using h2
    have hcl : d.length ≤ cur.size := by
      have h2 := congrArg List.length hcur
      rw [flat_len hk, List.length_take] at h2
      have : cur.toList.length = cur.size := by simp
      omega
    have same : ∀ (m : Nat) (os : Array Obj) (dk : Array β) b, b ≠ blk → b < w.heap.size → SameB w (sortWorld (fun x => (enc x)[0]!) w blk 0 m dk os) b := fun m os dk b hbk hlt => by
      unfold sortWorld putRow
      show (grow _ os).heap[b]? = _
      rw [heap_grow_old _ _ (by simpa [mapBlock] using hlt), map_block_same hbk]
      rfl
    have hC : CmpLays1 P g #[] (fun x => (enc x)[0]!) cf blk 0 d.toArray.size w := fun m os dk _ x y => by
      have := hcmp (sortWorld (fun x => (enc x)[0]!) w blk 0 m dk os) (same m os dk) (by unfold sortWorld; rw [size_grow, Go.Sort.size_putRow]; exact Nat.le_add_right _ _) x y
      rw [Array.append_empty]
      exact this.mono fun e w' ⟨he, hw⟩ => ⟨he, grow_of hw⟩
    refine (Any.slices_SortFunc L (fun x => (enc x)[0]!) (fun x => h1 x _ (by show (enc x)[0]! ∈ enc x; rw [getElem!_pos (enc x) 0 (by rw [hk]; decide)]; exact List.getElem_mem _)) cf hO g #[] blk 0 cap d.toArray w eg hC hH hbl (by simpa using hsz)).mono fun en w' ⟨he, d', n, os, hp, hs, hw⟩ => ⟨he, d'.toList, perm_of hp, sorted_of hp.1 hs, ?_, ?_, ?_⟩
    · rw [hw]
      exact ⟨rfl, rfl, rfl, by unfold sortWorld; rw [size_grow, Go.Sort.size_putRow]; exact Nat.le_add_right _ _, Nat.le_add_right _ _⟩
    · rw [hw]; exact same n os d'
    · have hd' : d'.size = d.length := by have := hp.1; simpa using this
      have hpt := put_take (F := d'.map fun x => (enc x)[0]!) (c := cur) (by rw [Array.size_map]; omega)
      refine ⟨putCells id 0 (d'.map fun x => (enc x)[0]!) cur, ?_, hpt.1, ?_⟩
      · rw [hw]
        unfold sortWorld
        rw [hput]
        unfold putRow
        rw [heap_grow_old _ _ (by simpa [mapBlock] using hbl)]
        exact map_block_at (w := Go.Sort.ahead w n) hb
      · have := hpt.2
        rw [Array.size_map, hd'] at this
        rw [Nat.mul_one, this, hfl]
        simp
end lays
/-! ### The rule -/
theorem owl_els {α : Type} [Rep α] {ok : Nat → Prop} {w : World} {G0 : List Nat} : ∀ {G : List Nat} {cells : List Value} {xs : List α}, OwL ok w G cells xs → (∀ b ∈ G, b ∈ G0) →
    ∃ l : List { p : List Nat × List Value × α // Rep.ow ok w p.1 p.2.1 p.2.2 ∧ ∀ b ∈ p.1, b ∈ G0 }, l.map (·.1.2.2) = xs ∧ (l.map (·.1.2.1)).flatten = cells ∧ (l.map (·.1.1)).flatten = G
  | _, _, [], h, _ => ⟨[], rfl, h.2.symm, h.1.symm⟩
  | _, _, x :: xs, ⟨f, g, c, d, e, e', h, h'⟩, hG => by
    obtain ⟨l, h1, h2, h3⟩ := owl_els h' (fun b hb => hG b (by rw [e]; exact List.mem_append_right _ hb))
    exact ⟨⟨(f, c, x), h, fun b hb => hG b (by rw [e]; exact List.mem_append_left _ hb)⟩ :: l, by simp [h1], by simp [h2, e'], by simp [h3, e]⟩
theorem owl_of {α : Type} [Rep α] {ok ok' : Nat → Prop} {w w' : World} {G0 : List Nat} (hm : ∀ b, ok b → b < w.heap.size → ok' b ∧ SameB w w' b) (hs : ∀ b ∈ G0, SameB w w' b) : ∀ (l : List { p : List Nat × List Value × α // Rep.ow ok w p.1 p.2.1 p.2.2 ∧ ∀ b ∈ p.1, b ∈ G0 }),
    OwL ok' w' ((l.map (·.1.1)).flatten) ((l.map (·.1.2.1)).flatten) (l.map (·.1.2.2))
  | [] => ⟨rfl, rfl⟩
  | p :: l => ⟨p.1.1, _, p.1.2.1, _, rfl, rfl, Rep.ow_mono p.2.1 (fun b hb => hs b (p.2.2 b hb)) hm, owl_of hm hs l⟩
theorem ow_sz {α : Type} [Rep α] {ok : Nat → Prop} {w : World} {F : List Nat} {cs : List Value} {x : α} (h : Rep.ow ok w F cs x) : cs.length = Rep.sz α ∧ ∀ c ∈ cs, c.oneCell' = true :=
  have h1 : Rep.rd (fun _ => True) w cs x := Rep.ow_rd h (fun _ _ => trivial) (fun _ _ => trivial)
  ⟨Rep.rd_len h1, Rep.rd_one h1⟩
theorem perm_flat {β : Type} {l l' : List (List β)} (h : l.Perm l') : l.flatten.Perm l'.flatten := by
  induction h with
  | nil => exact .refl _
  | cons x _ ih => simp only [List.flatten_cons]; exact ih.append_left x
  | swap x y l => simp only [List.flatten_cons]; rw [← List.append_assoc, ← List.append_assoc]; exact List.perm_append_comm.append_right _
  | trans _ _ h1 h2 => exact h1.trans h2
theorem cj_sort {P : Program} {F g : FuncId} {α : Type} {iα : Rep α} {arg : List Value → Value} (H : SortH P F g (Rep.sz α) arg) (cf : α → α → Int) (hO : Go.Sort.SWO (Go.Proofs.ltOf cf))
    (hc : ∀ (w0 : World) (cx cy : List Value) (x y : α), CJ P g [arg cx, arg cy] w0 [.rd cx x, .rd cy y] (fun _ : Unit => .int .i64 (cf x y)) (fun _ => []))
    {w0 : World} {Γ Δ : List Atom} {sv : Value} {xs : List α} [hp : PullOw (List α) repList Γ [sv] xs Δ] (hl62 : xs.length < 4611686018427387904) :
    CJ P F [sv, .func (.func g) #[] #[]] w0 Γ (fun _ : { ys : List α // ys.Perm xs ∧ ys.Pairwise (fun a b => 0 ≤ cf b a) } => .tuple #[]) (fun q => .ow [sv] q.1 :: Δ) := by
  refine cj_perm hp.perm fun w hs => ?_
  obtain ⟨hb, F0, hn, hl, f, g', rfl, hf, hΔ⟩ := hs
  have hf' : Rep.ow (· ∉ f ++ g') w f [sv] xs := hf
  rw [ow_list] at hf'
  rcases hf' with ⟨hsv, rfl, rfl⟩ | ⟨gb, cap, cur, e, G, cells, hsv, rfl, h1, h2, h3, h3', h4, h5, h6⟩
  · simp only [List.cons.injEq, and_true] at hsv
    subst hsv
    refine (H.none none 0 (.func (.func g) #[] #[]) w).mono fun en w' ⟨he, hw⟩ => ⟨⟨[], .refl _, List.Pairwise.nil⟩, he, ?_⟩
    rw [hw]
    exact ⟨hb, _, hn, hl, [], g', rfl, hf, hΔ⟩
  · simp only [List.cons.injEq, and_true] at hsv
    subst hsv
    by_cases h0 : xs = []
    · subst h0
      refine (H.none _ _ (.func (.func g) #[] #[]) w).mono fun en w' ⟨he, hw⟩ => ⟨⟨[], .refl _, List.Pairwise.nil⟩, he, ?_⟩
      rw [hw]
      exact ⟨hb, _, hn, hl, _, g', rfl, hf, hΔ⟩
    · obtain ⟨l, e1, e2, e3⟩ := owl_els (G0 := G) h6 (fun b hb => hb)
      have hgG : gb ∉ G := by
        have := (List.nodup_append.1 hn).1
        exact (List.nodup_cons.1 this).1
      have hll : l.length = xs.length := by rw [← e1, List.length_map]
      haveI : Inhabited { p : List Nat × List Value × α // Rep.ow (· ∉ gb :: G ++ g') w p.1 p.2.1 p.2.2 ∧ ∀ b ∈ p.1, b ∈ G } := ⟨match l, hll with
        | p :: _, _ => p
        | [], h => absurd (List.eq_nil_of_length_eq_zero h.symm) h0⟩
      have hrun := H.run (β := { p : List Nat × List Value × α // Rep.ow (· ∉ gb :: G ++ g') w p.1 p.2.1 p.2.2 ∧ ∀ b ∈ p.1, b ∈ G }) (fun p => p.1.2.1) (fun p => (ow_sz p.2.1).1) (fun p => (ow_sz p.2.1).2) (fun p q => cf p.1.2.2 q.1.2.2)
        ⟨fun x => hO.irrefl x.1.2.2, fun x y z => hO.trans x.1.2.2 y.1.2.2 z.1.2.2, fun x y z => hO.ntrans x.1.2.2 y.1.2.2 z.1.2.2⟩ gb cap l w cur e h1 (by rw [hll, e2, h5])
        (fun W hsame hsize x y => by
          have hx : Rep.rd (fun _ => True) W x.1.2.1 x.1.2.2 := Rep.ow_rd (Rep.ow_mono (ok' := fun _ => True) x.2.1 (fun b hb => hsame b (fun e => hgG (e ▸ x.2.2 b hb)) (Rep.ow_lt x.2.1 b hb)) (fun b hb hlt => ⟨trivial, hsame b (fun e => hb (by simp [e])) hlt⟩)) (fun _ _ => trivial) (fun _ _ => trivial)
          have hy : Rep.rd (fun _ => True) W y.1.2.1 y.1.2.2 := Rep.ow_rd (Rep.ow_mono (ok' := fun _ => True) y.2.1 (fun b hb => hsame b (fun e => hgG (e ▸ y.2.2 b hb)) (Rep.ow_lt y.2.1 b hb)) (fun b hb hlt => ⟨trivial, hsame b (fun e => hb (by simp [e])) hlt⟩)) (fun _ _ => trivial) (fun _ _ => trivial)
          obtain ⟨_, _, hsat, _⟩ := sat_cons hx (sat_cons hy (sat_start W))
          exact (hc W x.1.2.1 y.1.2.1 x.1.2.2 y.1.2.2 W hsat).mono fun en w' ⟨_, he, hs'⟩ => ⟨he, hs'.base⟩)
        (by omega)
      rw [hll] at hrun
      refine hrun.mono fun en w' ⟨he, l', hperm, hsort, ho, hsame, cur', h1', hcs, hct⟩ => ⟨⟨l'.map (·.1.2.2), by rw [← e1]; exact hperm.map _, by rw [List.pairwise_map]; exact hsort⟩, he, ?_⟩
      have hl'l : l'.length = xs.length := by rw [hperm.length_eq, hll]
      have hGp : ((l'.map (·.1.1)).flatten).Perm G := (perm_flat (hperm.map _)).trans (.of_eq e3)
      refine Sat.step' (Δ' := [.ow [_] (l'.map (·.1.2.2))]) (Γ := Δ) (f := gb :: G) (g := g') (w := w) hb hn hl hΔ ho (fun b hlt hbf => hsame b (fun e => hbf (by simp [e])) hlt) (gb :: (l'.map (·.1.1)).flatten) ?_ ?_ (fun ok' hok' => ⟨gb :: (l'.map (·.1.1)).flatten, [], by simp, ?_, rfl⟩)
      · exact (hGp.cons gb).symm.nodup (List.nodup_append.1 hn).1
      · intro b hb
        exact .inl ((hGp.cons gb).mem_iff.1 hb)
      · show Rep.ow _ _ _ _ _
        rw [ow_list]
        refine .inr ⟨gb, cap, cur', e, _, _, by rw [List.length_map, hl'l], rfl, h1', by rw [List.length_map, hl'l]; exact h2, h3, by rw [List.length_map, hl'l]; exact h3', by rw [hcs]; exact h4, by rw [List.length_map, hl'l, hct], ?_⟩
        exact owl_of (ok := (· ∉ gb :: G ++ g')) (fun b hb hlt => ⟨hok' b hb hlt, hsame b (fun e => hb (by simp [e])) hlt⟩) (fun b hb => hsame b (fun e => hgG (e ▸ hb)) (h6.lt b hb)) l'
/-- A list's cell. -/
theorem rd_one_l {α : Type} {iα : Rep α} {ok : Nat → Prop} {w : World} {cs : List Value} {xs : List α} (h : Rep.rd ok w cs xs) : ∃ v, cs = [v] ∧ Rep.rd ok w [v] xs := by
  have hl : cs.length = 1 := Rep.rd_len h
  match cs, hl with
  | [v], _ => exact ⟨v, rfl, h⟩
end Go.Eng
