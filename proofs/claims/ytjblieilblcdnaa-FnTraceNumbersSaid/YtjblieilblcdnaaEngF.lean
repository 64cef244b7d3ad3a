/- The rules of the walk: slices of the call's own: made, appended to, written; parts of slices; elements laid open. -/
import Derived.Test.YtjblieilblcdnaaEngE
namespace Go.Eng
open Go Go.RowKit
set_option linter.unusedVariables false
set_option linter.unusedSimpArgs false

/-- One list of atoms says all that another says. -/
def SepEnt (Γ Δ : List Atom) : Prop := ∀ {ok : Nat → Prop} {w : World} {F : List Nat}, Sep ok w Γ F → ∃ G, G.Perm F ∧ Sep ok w Δ G

theorem SepEnt.refl (Γ : List Atom) : SepEnt Γ Γ := fun h => ⟨_, .refl _, h⟩
theorem SepEnt.trans {Γ Δ Ε : List Atom} (h : SepEnt Γ Δ) (h' : SepEnt Δ Ε) : SepEnt Γ Ε := fun hs => by
  obtain ⟨G, hG, h1⟩ := h hs
  obtain ⟨H, hH, h2⟩ := h' h1
  exact ⟨H, hH.trans hG, h2⟩
theorem SepEnt.perm {Γ Δ : List Atom} (h : Γ.Perm Δ) : SepEnt Γ Δ := fun hs => Sep.perm h hs
theorem SepEnt.cons {Γ Δ : List Atom} (A : Atom) (h : SepEnt Γ Δ) : SepEnt (A :: Γ) (A :: Δ) := fun ⟨f, g, e, h1, h2⟩ => by
  obtain ⟨G, hG, h3⟩ := h h2
  exact ⟨f ++ G, e ▸ hG.append_left f, f, G, rfl, h1, h3⟩
theorem SepEnt.sat {w0 w : World} {Γ Δ : List Atom} (h : SepEnt Γ Δ) (hs : Sat w0 w Γ) : Sat w0 w Δ := by
  obtain ⟨hb, F, hn, hl, h1⟩ := hs
  obtain ⟨G, hG, h2⟩ := h h1
  exact ⟨hb, G, hG.symm.nodup hn, fun b hb => hl b (hG.mem_iff.1 hb), h2.notin hG⟩

/-- The cells vc are, out of Γ, owned as x; Δ is left. -/
def Own {α : Type} [Rep α] (Γ : List Atom) (vc : List Value) (x : α) (Δ : List Atom) : Prop := SepEnt Γ (.ow vc x :: Δ)

theorem own_int {Γ : List Atom} {n : Int} (h : In64 n) : Own Γ [.int .i64 n] n Γ := fun {_ _ F} hs => ⟨F, .refl _, [], F, rfl, ⟨rfl, rfl, h⟩, hs⟩
theorem own_bool {Γ : List Atom} {b : Bool} : Own Γ [.bool b] b Γ := fun {_ _ F} hs => ⟨F, .refl _, [], F, rfl, ⟨rfl, rfl⟩, hs⟩
theorem own_str {Γ : List Atom} {s : ByteArray} (h : s.size ≤ 9223372036854775807) : Own Γ [.string s] s Γ := fun {_ _ F} hs => ⟨F, .refl _, [], F, rfl, ⟨rfl, rfl, h⟩, hs⟩
theorem own_nil {α : Type} [Rep α] {Γ : List Atom} : Own Γ [.slice none 0 0] ([] : List α) Γ := fun {_ _ F} hs => ⟨F, .refl _, [], F, rfl, .inl ⟨rfl, rfl, rfl⟩, hs⟩
theorem own_pull {α : Type} {i : Rep α} {Γ Δ : List Atom} {vc : List Value} {x : α} [h : PullOw α i Γ vc x Δ] : Own Γ vc x Δ := SepEnt.perm h.perm
theorem own_sh {α : Type} {i : Rep α} {Γ : List Atom} {vc : List Value} {x : α} [h : HasIm α i Γ vc x] : Own Γ vc (Sh.mk x) Γ := fun {_ _ F} hs => ⟨F, .refl _, [], F, rfl, ⟨rfl, h.get hs⟩, hs⟩
theorem own_pair {α β : Type} [Rep α] [Rep β] {Γ Δ Ε : List Atom} {c d : List Value} {x : α} {y : β} (h : Own Γ c x Δ) (h' : Own Δ d y Ε) : Own Γ (c ++ d) (x, y) Ε := fun hs => by
  obtain ⟨G, hG, f, g, rfl, h1, h2⟩ := h hs
  obtain ⟨H, hH, f', g', rfl, h3, h4⟩ := h' h2
  exact ⟨f ++ f' ++ g', by rw [List.append_assoc]; exact (hH.append_left f).trans hG, f ++ f', g', rfl, ⟨f, f', c, d, rfl, rfl, h1, h3⟩, h4⟩
theorem own_cons {α β : Type} [Rep α] [Rep β] {Γ Δ Ε : List Atom} {c : Value} {d : List Value} {x : α} {y : β} (h : Own Γ [c] x Δ) (h' : Own Δ d y Ε) : Own Γ (c :: d) (x, y) Ε := own_pair h h'

/-- Atoms are used up (their blocks: f) and others take their place, in a new world. -/
theorem Sat.step' {w0 w w' : World} {Δ' Γ : List Atom} {f g : List Nat} (hb : BelD w0.heap.size w0 w) (hn : (f ++ g).Nodup) (hl : ∀ b ∈ f ++ g, w0.heap.size ≤ b) (h2 : Sep (· ∉ f ++ g) w Γ g)
    (ho : w'.os = w.os ∧ w'.tape = w.tape ∧ w'.output = w.output ∧ w.heap.size ≤ w'.heap.size ∧ w.drawn ≤ w'.drawn) (hsame : ∀ b, b < w.heap.size → b ∉ f → SameB w w' b)
    (f' : List Nat) (hf' : f'.Nodup) (hnew : ∀ b ∈ f', b ∈ f ∨ w.heap.size ≤ b) (h3 : ∀ ok' : Nat → Prop, (∀ b, b ∉ f ++ g → b < w.heap.size → ok' b) → Sep ok' w' Δ' f') : Sat w0 w' (Δ' ++ Γ) := by
  have hd := List.nodup_append.1 hn
  have hglt := h2.lt
  have hdis : ∀ b ∈ f', b ∉ g := fun b hb hg => by
    rcases hnew b hb with h | h
    · exact hd.2.2 b h b hg rfl
    · exact Nat.lt_irrefl _ (Nat.lt_of_lt_of_le (hglt b hg) h)
  have hok : ∀ b, b ∉ f ++ g → b < w.heap.size → b ∉ f' ++ g := fun b hb hlt hm => by
    rcases List.mem_append.1 hm with hm | hm
    · rcases hnew b hm with h | h
      · exact hb (by simp [h])
      · omega
    · exact hb (by simp [hm])
  refine ⟨⟨ho.1.trans hb.os, ho.2.1.trans hb.tape, ho.2.2.1.trans hb.output, Nat.le_trans hb.size ho.2.2.2.1, Nat.le_trans hb.drawn ho.2.2.2.2, fun k hk => ?_⟩, f' ++ g, ?_, ?_, ?_⟩
  · rw [hsame k (Nat.lt_of_lt_of_le hk hb.size) (fun hm => by have := hl k (by simp [hm]); omega)]
    exact hb.block k hk
  · rw [List.nodup_append]
    exact ⟨hf', hd.2.1, fun a ha b hb e => hdis a ha (e ▸ hb)⟩
  · intro b hb'
    rcases List.mem_append.1 hb' with h | h
    · rcases hnew b h with h | h
      · exact hl b (by simp [h])
      · exact Nat.le_trans hb.size h
    · exact hl b (by simp [h])
  · refine Sep.append ?_ (h3 _ hok)
    exact h2.mono (fun b hb hlt => ⟨hok b hb hlt, hsame b hlt (fun hm => hb (by simp [hm]))⟩) ho.2.2.2.1 (fun b hb => hsame b (hglt b hb) (fun hm => hd.2.2 b hm b hb rfl))

theorem Sat.step {w0 w w' : World} {Δ Δ' Γ : List Atom} (h : Sat w0 w (Δ ++ Γ)) (ho : w'.os = w.os ∧ w'.tape = w.tape ∧ w'.output = w.output ∧ w.heap.size ≤ w'.heap.size ∧ w.drawn ≤ w'.drawn)
    (hst : ∀ (f : List Nat) (ok : Nat → Prop), Sep ok w Δ f → f.Nodup → (∀ b ∈ f, ¬ ok b) → (∀ b, b < w.heap.size → b ∉ f → SameB w w' b) ∧
      ∃ f' : List Nat, f'.Nodup ∧ (∀ b ∈ f', b ∈ f ∨ w.heap.size ≤ b) ∧ ∀ ok' : Nat → Prop, (∀ b, ok b → b < w.heap.size → ok' b) → Sep ok' w' Δ' f') : Sat w0 w' (Δ' ++ Γ) := by
  obtain ⟨hb, F, hn, hl, hs⟩ := h
  obtain ⟨f, g, rfl, h1, h2⟩ := hs.split
  obtain ⟨hsame, f', hf', hnew, h3⟩ := hst f _ h1 (List.nodup_append.1 hn).1 (fun b hb h => h (by simp [hb]))
  exact Sat.step' hb hn hl h2 ho hsame f' hf' hnew h3

/-- Zeros of a type are, owned, this. -/
class Zo (α : Type) [Rep α] (zs : outParam (List Value)) (x : outParam α) : Prop where
  ow : ∀ ok w, Rep.ow ok w [] zs x
instance : Zo Int [.int .i64 0] 0 := ⟨fun _ _ => ⟨rfl, rfl, by unfold In64; omega⟩⟩
instance : Zo Bool [.bool false] false := ⟨fun _ _ => ⟨rfl, rfl⟩⟩
instance : Zo ByteArray [.string ByteArray.empty] ByteArray.empty := ⟨fun _ _ => ⟨rfl, rfl, by simp⟩⟩
instance : Zo UInt8 [.int .u8 0] 0 := ⟨fun _ _ => ⟨rfl, rfl⟩⟩
instance {α : Type} [Rep α] : Zo (List α) [.slice none 0 0] [] := ⟨fun _ _ => .inl ⟨rfl, rfl, rfl⟩⟩
instance {α : Type} [Rep α] : Zo (Sh (List α)) [.slice none 0 0] ⟨[]⟩ := ⟨fun _ _ => ⟨rfl, none, 0, rfl, by simp, by simp [maxLen], by simp, fun h => by simp at h⟩⟩
instance {α β : Type} [Rep α] [Rep β] {c : Value} {d : List Value} {x : α} {y : β} [h : Zo α [c] x] [h' : Zo β d y] : Zo (α × β) (c :: d) (x, y) := ⟨fun ok w => ⟨[], [], [c], d, rfl, rfl, h.ow ok w, h'.ow ok w⟩⟩

section rows
variable {α : Type} [Rep α]

theorem OwL.replicate {ok : Nat → Prop} {w : World} {zs : List Value} {z : α} (h : Rep.ow ok w [] zs z) : ∀ n, OwL ok w [] (List.replicate n zs).flatten (List.replicate n z)
  | 0 => ⟨rfl, rfl⟩
  | n + 1 => ⟨[], [], zs, (List.replicate n zs).flatten, rfl, by simp [List.replicate_succ], h, OwL.replicate h n⟩

theorem OwL.len {ok : Nat → Prop} {w : World} {F : List Nat} {cells : List Value} {xs : List α} (h : OwL ok w F cells xs) : cells.length = xs.length * Rep.sz α := (h.rd (ok' := fun _ => True) (fun _ _ => trivial) (fun _ _ => trivial)).len
theorem OwL.one {ok : Nat → Prop} {w : World} {F : List Nat} {cells : List Value} {xs : List α} (h : OwL ok w F cells xs) : ∀ c ∈ cells, c.oneCell' = true := (h.rd (ok' := fun _ => True) (fun _ _ => trivial) (fun _ _ => trivial)).one

theorem ow_list {ok : Nat → Prop} {w : World} {F : List Nat} {cs : List Value} {xs : List α} : Rep.ow ok w F cs xs ↔ ((cs = [.slice none 0 0] ∧ xs = [] ∧ F = []) ∨
    ∃ g cap cur e G cells, cs = [.slice (some ⟨g, 0, none⟩) xs.length cap] ∧ F = g :: G ∧ w.heap[g]? = some (.cells cur e (0, 0)) ∧ xs.length ≤ cap ∧ cap ≤ maxLen ∧
      xs.length ≤ 9223372036854775807 ∧ cap * Rep.sz α ≤ cur.size ∧ cur.toList.take (xs.length * Rep.sz α) = cells ∧ OwL ok w G cells xs) := Iff.rfl
end rows

theorem madeCells_take (z : List Value) (k n m : Nat) (hz : z.length = k) (hk : 0 < k) (hn : n ≤ m) : ((madeCells z.toArray (m * k)).toList.take (n * k)) = (List.replicate n z).flatten := by
  apply List.ext_getElem?
  intro i
  have hfl : ∀ n, (List.replicate n z).flatten.length = n * k := fun n => by simp [hz]
  by_cases hi : i < n * k
  · have hi' : i < m * k := Nat.lt_of_lt_of_le hi (Nat.mul_le_mul_right _ hn)
    rw [List.getElem?_take, if_pos hi]
    have h2 : ∀ n i, i < n * k → (List.replicate n z).flatten[i]? = z[i % k]? := by
      intro n
      induction n with
      | zero => intro i hi; omega
      | succ n ih =>
        intro i hi
        rw [List.replicate_succ, List.flatten_cons]
        by_cases h : i < k
        · rw [List.getElem?_append_left (by omega), Nat.mod_eq_of_lt h]
        · have hi2 : i < n * k + k := by rw [Nat.add_mul, Nat.one_mul] at hi; exact hi
          rw [List.getElem?_append_right (by omega), hz, ih (i - k) (by omega), Nat.mod_eq_sub_mod (a := i) (b := k) (by omega)]
    rw [h2 n i hi]
    simp only [madeCells, Array.toList_map, List.getElem?_map]
    have hmod : i % k < z.length := by rw [hz]; exact Nat.mod_lt _ hk
    rw [List.getElem?_eq_getElem hmod]
    simp [hi', hz, List.getElem?_eq_getElem hmod]
  · rw [List.getElem?_take, if_neg hi, List.getElem?_eq_none (by rw [hfl]; omega)]

section ops
variable {P : Program} {ops : Array Oper} {Q : Exit → Act → World → Prop} {w0 : World} {rest : List Oper} {l l' : List Value} {Γ Δ Ε : List Atom} {ty : TypeId} {v : Value} {pos : String} {after : Array Edge} {d : Nat}

theorem wl_ent (he : SepEnt Γ Δ) (h : WL P ops Q w0 rest l Δ) : WL P ops Q w0 rest l Γ := fun w hs => h w (he.sat hs)
/-- make([]T, n, m). -/
theorem wl_make {T k by_ : Nat} {x y : Operand} {kx ky : IntKind} {n m : Int} (α : Type) [iα : Rep α] {zs : List Value} {z : α} [hx : Ev l x (.int kx n)] [hy : Ev l y (.int ky m)] [hT : Sl P T k by_] [hzs : SlZ P T zs] [hz : Zo α zs z]
    (hn : 0 ≤ n ∧ n ≤ m) (hm : m * by_ ≤ 140737488355328) (h : ∀ sv, WL P ops Q w0 rest (l.set d sv) (.ow [sv] (List.replicate n.toNat z) :: Γ)) :
    WL P ops Q w0 (⟨some d, .makeSlice T x y, ty, pos, after, none⟩ :: rest) l Γ := by
  intro w hs
  obtain ⟨e, i, z', ht, hi, hk, hb, hz', hzk, hpos⟩ := hT.ex
  have hzc : z'.cells = zs.toArray := hzs.eq ht hi hz'
  have hsz : zs.length = Rep.sz α := Rep.rd_len (x := z) (Rep.ow_rd (ok' := fun _ => True) (hz.ow (fun _ => True) w) (fun _ _ => trivial) (fun _ _ => trivial))
  have hkk : k = Rep.sz α := by rw [← hsz, ← hzk, hzc]; simp
  have hmm : m ≤ 140737488355328 := by
    have : m * 1 ≤ m * by_ := Int.mul_le_mul_of_nonneg_left (by omega) (by omega)
    omega
  have hr := run_make (P := P) w T e i z' ht hi hz' kx ky n m hn.1 hn.2 (by rw [hb, Int.mul_comm]; omega) (by omega)
  refine wl_op (v := .slice (some ⟨w.heap.size, 0, none⟩) n.toNat m.toNat) (w' := w.alloc (.cells (madeCells z'.cells (m.toNat * i.size)) e)) rfl ?_ ?_
  · refine run_value (f := Next.value) (s := Instr.makeSlice T ((E l).eval x) ((E l).eval y)) ?_
    rw [hx.eq, hy.eq]; exact hr
  · rw [E_put]
    refine h _ _ ?_
    refine Sat.step (Δ := []) (Δ' := [.ow _ _]) hs ⟨rfl, rfl, rfl, by simp, (by first | exact Nat.le_refl _ | exact Nat.le_add_right _ _)⟩ (fun f ok hf hnd _ => ⟨fun b hb _ => Below.heap_alloc _ _ _ hb, [w.heap.size], by simp, fun b hb => .inr (by simp at hb; omega), fun ok' _ => ?_⟩)
    refine ⟨[w.heap.size], [], rfl, ?_, rfl⟩
    show Rep.ow _ _ _ _ _
    rw [ow_list]
    refine .inr ⟨w.heap.size, m.toNat, _, e, [], (List.replicate n.toNat zs).flatten, by simp, rfl, heap_alloc_new w _, by simp; omega, by simp [maxLen]; omega, by simp; omega, ?_, ?_, OwL.replicate (hz.ow _ _) _⟩
    · rw [size_madeCells, hk, hkk]; exact Nat.le_refl _
    · rw [hzc, hk, List.length_replicate, hkk]
      exact madeCells_take zs (Rep.sz α) _ _ hsz Rep.pos (by omega)

theorem run_append_room' (w : World) (t ty e e' : TypeId) (i : TypeInfo) (ht : P.underlying t = some (.slice e)) (hi : P.info? e = some i)
    (g sLen sCap : Nat) (cur : Array Value) (hg : w.heap[g]? = some (.cells cur e' (0, 0)))
    (x : Value) (m : Nat) (news : List Value) (hlen : ∀ w, (Builtin.lenOf x).run P w = .ok m w) (hx : (Builtin.firstCells i.size m x).run P w = .ok news.toArray w) (h1 : ∀ u ∈ news, u.oneCell' = true)
    (hroom : sLen + m ≤ sCap) (hfit : sLen * i.size + news.length ≤ cur.size) :
    (Builtin.append_ #[t, t] ty #[.slice (some ⟨g, 0, none⟩) sLen sCap, x]).run P w =
      .ok (.slice (some ⟨g, 0, none⟩) (sLen + m) sCap) (w.setRow g (cur.toList.take (sLen * i.size) ++ news ++ cur.toList.drop (sLen * i.size + news.length)).toArray) := by
  have hst := run_storeCells_at P g (sLen * i.size) e' news 0 cur w hg (by simpa using hfit) h1
  simp only [Nat.add_zero] at hst
  simp [Builtin.append_, run_underlying ht, sizeOf, typeInfo, hi, hlen, hroom, hx, Addr.add_lit, hst]
theorem run_lenOf_slice {a : Option Addr} {m c : Nat} (w : World) : (Builtin.lenOf (.slice a m c)).run P w = .ok m w := rfl

/-- Appending, of whatever source whose cells are known. -/
theorem append_core {α : Type} [Rep α] {T ty k by_ : Nat} [hT : Sl P T k by_] (hk : k = Rep.sz α) {w : World} {ok : Nat → Prop} {f fy : List Nat} {ov : Value} {xs ys : List α} {a : Option Addr} {c : Nat} {news : List Value}
    (hf : Rep.ow ok w f [ov] xs) (hsrc : 0 < ys.length → ∃ b off, a = some ⟨b, off, none⟩ ∧ CellsAt w b off news) (hy : OwL ok w fy news ys) (hnd : (f ++ fy).Nodup) (hoky : ∀ b ∈ f ++ fy, ¬ ok b)
    (hbytes : (xs.length + ys.length) * by_ ≤ 140737488355328) :
    ∃ v' w', (Builtin.append_ #[T, T] ty #[ov, .slice a ys.length c]).run P w = .ok v' w' ∧ (w'.os = w.os ∧ w'.tape = w.tape ∧ w'.output = w.output ∧ w.heap.size ≤ w'.heap.size ∧ w.drawn ≤ w'.drawn) ∧
      (∀ b, b < w.heap.size → b ∉ f → SameB w w' b) ∧ ∃ f', f'.Nodup ∧ (∀ b ∈ f', b ∈ f ++ fy ∨ w.heap.size ≤ b) ∧ ∀ ok' : Nat → Prop, (∀ b, ok b → b < w.heap.size → ok' b) → Rep.ow ok' w' f' [v'] (xs ++ ys) := by
  obtain ⟨e, i, z, ht, hi, hik, hib, hz, hzk, hpos⟩ := hT.ex
  have hsz : i.size = Rep.sz α := hik.trans hk
  have hle : xs.length + ys.length ≤ 140737488355328 := Nat.le_trans (Nat.le_mul_of_pos_right _ hpos) hbytes
  have hnl : news.length = ys.length * i.size := by rw [hsz]; exact hy.len
  have hfy : ∀ b ∈ fy, b < w.heap.size := hy.lt
  have hdis := (List.nodup_append.1 hnd).2.2
  have hcap63 : ∀ old, grownCap w (xs.length + ys.length) old e ≤ maxLen := fun old => grownCap_le_maxLen w _ old e (by simp only [maxLen]; omega)
  -- the source's first cells
  have hfc : (Builtin.firstCells i.size ys.length (.slice a ys.length c)).run P w = .ok news.toArray w := by
    by_cases h0 : ys.length = 0
    · have hn0 : news = [] := List.eq_nil_of_length_eq_zero (by rw [hnl, h0, Nat.zero_mul])
      subst hn0
      cases a with
      | none => rfl
      | some a => simp [Builtin.firstCells, h0, loadCells, loadCellsFrom]
    · obtain ⟨b, off, rfl, hc⟩ := hsrc (by omega)
      exact run_firstCells_some (P := P) w i.size ys.length ⟨b, off, none⟩ ys.length c news hnl (fun j v hj => by
        rw [add_lit]
        have hj' : j < news.length := (List.getElem?_eq_some_iff.1 hj).1
        rw [hc j hj', hj])
  have hcellsrc : ∀ b off, CellsAt w b off news → ∀ j v, news[j]? = some v → w.cell? ((⟨b, off, none⟩ : Addr).add j) = some v := fun b off hc j v hj => by
    rw [add_lit, hc j (List.getElem?_eq_some_iff.1 hj).1, hj]
  -- what a new row is good for
  have grown : ∀ (old : Nat) (G : List Nat) (cells : List Value), (∀ b ∈ G, b ∈ f) → G.Nodup → OwL ok w G cells xs → cells.length = xs.length * Rep.sz α →
      let w' := w.drew.alloc (.cells (cells.toArray ++ news.toArray ++ Builtin.zeroCells z.cells (grownCap w (xs.length + ys.length) old e - (xs.length + ys.length))) e)
      (w'.os = w.os ∧ w'.tape = w.tape ∧ w'.output = w.output ∧ w.heap.size ≤ w'.heap.size ∧ w.drawn ≤ w'.drawn) ∧ (∀ b, b < w.heap.size → b ∉ f → SameB w w' b) ∧
      ∃ f', f'.Nodup ∧ (∀ b ∈ f', b ∈ f ++ fy ∨ w.heap.size ≤ b) ∧ ∀ ok' : Nat → Prop, (∀ b, ok b → b < w.heap.size → ok' b) → Rep.ow ok' w' f' [.slice (some ⟨w.heap.size, 0, none⟩) (xs.length + ys.length) (grownCap w (xs.length + ys.length) old e)] (xs ++ ys) := by
    intro old G cells hG hGn hO hlen w'
    have hsame : ∀ b, b < w.heap.size → SameB w w' b := fun b hb => Below.heap_alloc w.drew _ _ hb
    have hGlt := hO.lt
    have hge := grownCap_ge w (xs.length + ys.length) old e
    refine ⟨⟨rfl, rfl, rfl, by simp [w'], (by first | exact Nat.le_refl _ | exact Nat.le_add_right _ _)⟩, fun b hb _ => hsame b hb, w.heap.size :: (G ++ fy), ?_, ?_, ?_⟩
    · refine List.nodup_cons.2 ⟨fun hm => ?_, ?_⟩
      · rcases List.mem_append.1 hm with h | h
        · exact Nat.lt_irrefl _ (hGlt _ h)
        · exact Nat.lt_irrefl _ (hfy _ h)
      · rw [List.nodup_append]
        exact ⟨hGn, (List.nodup_append.1 hnd).2.1, fun a ha b hb => hdis a (hG a ha) b hb⟩
    · intro b hb
      rcases List.mem_cons.1 hb with rfl | hb
      · exact .inr (Nat.le_refl _)
      · rcases List.mem_append.1 hb with h | h
        · exact .inl (by simp [hG b h])
        · exact .inl (by simp [h])
    · intro ok' hok'
      rw [ow_list]
      refine .inr ⟨w.heap.size, _, _, e, G ++ fy, cells ++ news, by simp, rfl, heap_alloc_new w.drew _, by simpa using hge, hcap63 old, by simp; omega, ?_, ?_, ?_⟩
      · simp only [Array.size_append, List.size_toArray, size_zeroCells, hzk, hlen, hnl, hik, hk]
        rw [← Nat.add_mul, ← Nat.add_mul]
        refine Nat.le_of_eq ?_
        congr 1
        omega
      · simp only [Array.toList_append, List.length_append, List.append_assoc]
        rw [← List.append_assoc, Nat.add_mul, ← hlen, show ys.length * Rep.sz α = news.length by rw [hnl, hsz], ← List.length_append]
        exact List.take_left
      · exact OwL.append (hy.mono (fun b hb hlt => ⟨hok' b hb hlt, hsame b hlt⟩) (fun b hb => hsame b (hfy b hb))) (hO.mono (fun b hb hlt => ⟨hok' b hb hlt, hsame b hlt⟩) (fun b hb => hsame b (hGlt b hb)))
  rw [ow_list] at hf
  rcases hf with ⟨hov, rfl, rfl⟩ | ⟨g, cap, cur, e', G, cells, hov, rfl, hg, hcap, hcapm, _, hcs, htake, hO⟩
  · simp only [List.cons.injEq, and_true] at hov
    subst hov
    by_cases h0 : ys.length = 0
    · have hy0 : ys = [] := List.eq_nil_of_length_eq_zero h0
      subst hy0
      refine ⟨.slice none 0 0, w, ?_, ⟨rfl, rfl, rfl, Nat.le_refl _, Nat.le_refl _⟩, fun _ _ _ => rfl, [], by simp, by simp, fun ok' _ => ow_list.2 (.inl ⟨rfl, rfl, rfl⟩)⟩
      simp only [List.length_nil] at hfc ⊢
      simp [Builtin.append_, run_underlying ht, sizeOf, typeInfo, hi, Builtin.lenOf, hfc]
    · obtain ⟨b, off, rfl, hc⟩ := hsrc (by omega)
      have hr := run_append_nil (P := P) w T ty e i z ht hi hz ⟨b, off, none⟩ ys.length c news hnl (hcellsrc b off hc) (by omega) (by simp at hle; omega) (by rw [hib]; simp at hbytes; omega)
      have hgr := grown 0 [] [] (by simp) (by simp) ⟨rfl, rfl⟩ (by simp)
      simp only [List.length_nil, Nat.zero_add, List.nil_append, Array.empty_append, List.append_nil] at hgr ⊢
      exact ⟨_, _, hr, hgr.1, hgr.2.1, hgr.2.2⟩
  · simp only [List.cons.injEq, and_true] at hov
    subst hov
    have hcl : cells.length = xs.length * Rep.sz α := hO.len
    have hgG : g ∉ G ∧ G.Nodup := List.nodup_cons.1 (List.nodup_append.1 hnd).1
    by_cases hroom : xs.length + ys.length ≤ cap
    · have hfit : xs.length * i.size + news.length ≤ cur.size := by rw [hnl, hsz, ← Nat.add_mul]; exact Nat.le_trans (Nat.mul_le_mul_right _ hroom) hcs
      have hr := run_append_room' w T ty e e' i ht hi g xs.length cap cur hg (.slice a ys.length c) ys.length news (fun w => run_lenOf_slice w) hfc hy.one hroom hfit
      have hsame : ∀ k, k ≠ g → SameB w (w.setRow g (cur.toList.take (xs.length * i.size) ++ news ++ cur.toList.drop (xs.length * i.size + news.length)).toArray) k := fun k hk => setRow_other w g k _ hk
      have hglt : g < w.heap.size := (Array.getElem?_eq_some_iff.1 hg).1
      refine ⟨_, _, hr, ⟨rfl, rfl, rfl, by simp, (by first | exact Nat.le_refl _ | exact Nat.le_add_right _ _)⟩, fun b _ hb => hsame b (fun h => hb (by simp [h])), (g :: G) ++ fy, hnd, fun b hb => .inl hb, fun ok' hok' => ?_⟩
      rw [ow_list]
      refine .inr ⟨g, cap, _, e', G ++ fy, cells ++ news, by simp, rfl, setRow_heap w g cur _ e' _ hg, by simpa using hroom, hcapm, by simp; omega, ?_, ?_, ?_⟩
      · simp only [List.size_toArray, List.length_append, List.length_take, List.length_drop, Array.length_toList]
        refine Nat.le_trans hcs ?_
        omega
      · simp only [List.toList_toArray, List.length_append]
        rw [hsz, htake, Nat.add_mul, ← hcl, show ys.length * Rep.sz α = news.length by rw [hnl, hsz], ← List.length_append]
        exact List.take_left
      · refine OwL.append (hy.mono (fun b hb hlt => ⟨hok' b hb hlt, hsame b (fun h => ?_)⟩) (fun b hb => hsame b (fun h => ?_))) (hO.mono (fun b hb hlt => ⟨hok' b hb hlt, hsame b (fun h => ?_)⟩) (fun b hb => hsame b (fun h => hgG.1 (h ▸ hb))))
        · exact hoky g (by simp) (h ▸ hb)
        · exact hdis g (by simp) b hb h.symm
        · exact hoky g (by simp) (h ▸ hb)
    · have hy0 : 0 < ys.length := by omega
      obtain ⟨b, off, rfl, hc⟩ := hsrc hy0
      have holds : ∀ j u, cells[j]? = some u → w.cell? ((⟨g, 0, none⟩ : Addr).add j) = some u := fun j u hj => by
        have hjl := (List.getElem?_eq_some_iff.1 hj).1
        rw [add_lit, Nat.zero_add]
        rw [← htake, List.getElem?_take] at hj
        split at hj
        · simpa [World.cell?, hg] using hj
        · cases hj
      have hr := run_append_grow (P := P) w T ty e i z ht hi hz ⟨g, 0, none⟩ xs.length cap cells (by rw [hcl, hsz]) holds ⟨b, off, none⟩ ys.length c news hnl (hcellsrc b off hc) (by omega) (by omega) (growslice_fits (by omega) (by rw [hib]; exact hbytes))
      have hgr := grown cap G cells (fun b hb => by simp [hb]) hgG.2 hO hcl
      exact ⟨_, _, hr, hgr.1, hgr.2.1, hgr.2.2⟩

/-- Types whose cells hold no address that is owned. -/
class Cp (α : Type) [Rep α] : Prop where
  cp : ∀ {ok w cs} {x : α}, Rep.rd (fun _ => True) w cs x → Rep.ow ok w [] cs x
instance : Cp Int := ⟨fun h => ⟨rfl, h⟩⟩
instance : Cp Bool := ⟨fun h => ⟨rfl, h⟩⟩
instance : Cp UInt8 := ⟨fun h => ⟨rfl, h⟩⟩
instance : Cp ByteArray := ⟨fun h => ⟨rfl, h⟩⟩
instance {α β : Type} [Rep α] [Rep β] [ha : Cp α] [hb : Cp β] : Cp (α × β) := ⟨fun ⟨c, d, e, h1, h2⟩ => ⟨[], [], c, d, rfl, e, ha.cp h1, hb.cp h2⟩⟩
theorem RdL.ow {α : Type} [Rep α] [hc : Cp α] {ok : Nat → Prop} {w : World} : ∀ {cells : List Value} {xs : List α}, RdL (fun _ => True) w cells xs → OwL ok w [] cells xs
  | _, [], h => ⟨rfl, h⟩
  | _, _ :: _, ⟨c, d, e, h, h'⟩ => ⟨[], [], c, d, rfl, e, hc.cp h, RdL.ow h'⟩

theorem run_append_op {T : TypeId} {x y : Operand} {ov tv : Value} [hx : Ev l x ov] [hy : Ev l y tv] {w w' : World} (hr : (Builtin.append_ #[T, T] ty #[ov, tv]).run P w = .ok v w') :
    (execOp (E l).eval ⟨some d, .call { callee := .builtin .append, args := #[x, y], argTypes := #[T, T] }, ty, pos, after, none⟩).run P w = .ok (.value v) w' := by
  have : execOp (E l).eval ⟨some d, .call { callee := .builtin .append, args := #[x, y], argTypes := #[T, T] }, ty, pos, after, none⟩ = (do pure (.value (← Builtin.append_ #[T, T] ty #[ov, tv])) : Sem Next) := by
    unfold execOp
    simp [resolve, invoke, builtin, hx.eq, hy.eq, Pure.pure, Bind.bind, Sem.bind]
  rw [this]
  exact run_value hr

/-- append(out, elements...): both are the call's own. -/
theorem wl_append {T k by_ : Nat} {x y : Operand} {ov tv : Value} {α : Type} {iα : Rep α} {xs ys : List α} [hx : Ev l x ov] [hy : Ev l y tv] [hT : Sl P T k by_] [h1 : PullOw (List α) repList Γ [ov] xs Δ] [h2 : PullOw (List α) repList Δ [tv] ys Ε]
    (hk : k = Rep.sz α) (hbytes : (xs.length + ys.length) * by_ ≤ 140737488355328) (h : ∀ sv, WL P ops Q w0 rest (l.set d sv) (.ow [sv] (xs ++ ys) :: Ε)) :
    WL P ops Q w0 (⟨some d, .call { callee := .builtin .append, args := #[x, y], argTypes := #[T, T] }, ty, pos, after, none⟩ :: rest) l Γ := by
  intro w hs
  have hs1 : Sat w0 w ([.ow [ov] xs, .ow [tv] ys] ++ Ε) := (hs.perm h1.perm).perm (h2.perm.cons _)
  obtain ⟨hb, F, hn, hl, hsep⟩ := hs1
  obtain ⟨f, g, rfl, hf, f', g', rfl, hf', hrest⟩ := hsep
  have how : Rep.ow _ w f' [tv] ys := hf'
  rw [ow_list] at how
  have hnd2 : (f ++ f').Nodup := by
    have := hn; rw [← List.append_assoc] at this; exact (List.nodup_append.1 this).1
  -- the source
  obtain ⟨a, c, news, fy, htv, hsrc, hyo, hsub, hfyn⟩ : ∃ a c news fy, tv = .slice a ys.length c ∧ (0 < ys.length → ∃ b off, a = some (⟨b, off, none⟩ : Addr) ∧ CellsAt w b off news) ∧
      OwL (· ∉ f ++ (f' ++ g')) w fy news ys ∧ (∀ b ∈ fy, b ∈ f') ∧ fy.Nodup := by
    rcases how with ⟨e, rfl, rfl⟩ | ⟨g2, cap, cur, e, G, cells, e1, rfl, hg2, _, _, _, hcs, htake, hO⟩
    · simp only [List.cons.injEq, and_true] at e; exact ⟨none, 0, [], [], e, by simp, ⟨rfl, rfl⟩, by simp, by simp⟩
    · simp only [List.cons.injEq, and_true] at e1
      refine ⟨_, _, cells, G, e1, fun _ => ⟨g2, 0, rfl, fun j hj => ?_⟩, hO, fun b hb => by simp [hb], (List.nodup_cons.1 (List.nodup_append.1 hnd2).2.1).2⟩
      rw [← htake] at hj ⊢
      rw [List.length_take] at hj
      rw [List.getElem?_take, if_pos (by omega)]
      simp [World.cell?, hg2]
  subst htv
  have hnd : (f ++ fy).Nodup := by
    rw [List.nodup_append] at hnd2 ⊢
    exact ⟨hnd2.1, hfyn, fun a ha b hb => hnd2.2.2 a ha b (hsub b hb)⟩
  obtain ⟨v', w', hr, ho, hsame, fn, hfn, hnew, hrep⟩ := append_core (P := P) (T := T) (ty := ty) hk hf hsrc hyo hnd (fun b hb hok => hok (by
    rcases List.mem_append.1 hb with h | h
    · simp [h]
    · simp [hsub b h])) hbytes
  refine wl_op rfl (run_append_op hr) ?_
  rw [E_put]
  refine h _ _ ?_
  rw [← List.append_assoc] at hn hl
  refine Sat.step' (Δ' := [.ow [v'] (xs ++ ys)]) (Γ := Ε) (f := f ++ f') (g := g') hb hn hl (by rw [List.append_assoc]; exact hrest) ho (fun b hlt hm => hsame b hlt (fun h => hm (by simp [h]))) fn hfn
    (fun b hb => (hnew b hb).imp (fun h => ?_) id) (fun ok' hok' => ⟨fn, [], by simp, hrep ok' (fun b hb => hok' b (by rw [List.append_assoc]; exact hb)), rfl⟩)
  rcases List.mem_append.1 h with h | h
  · simp [h]
  · simp [hsub b h]

/-- append(out, l...): the elements are copied. -/
theorem wl_append_cp {T k by_ : Nat} {x y : Operand} {ov tv : Value} {α : Type} {iα : Rep α} {xs ys : List α} [hx : Ev l x ov] [hy : Ev l y tv] [hT : Sl P T k by_] [h1 : PullOw (List α) repList Γ [ov] xs Δ] [h2 : HasRd (List α) repList Δ [tv] ys] [hcp : Cp α]
    (hk : k = Rep.sz α) (hbytes : (xs.length + ys.length) * by_ ≤ 140737488355328) (h : ∀ sv, WL P ops Q w0 rest (l.set d sv) (.ow [sv] (xs ++ ys) :: Δ)) :
    WL P ops Q w0 (⟨some d, .call { callee := .builtin .append, args := #[x, y], argTypes := #[T, T] }, ty, pos, after, none⟩ :: rest) l Γ := by
  intro w hs
  have hs1 : Sat w0 w ([.ow [ov] xs] ++ Δ) := hs.perm h1.perm
  obtain ⟨hb, F, hn, hl, f, g, rfl, hf, hrest⟩ := hs1
  obtain ⟨a, c, hc, _, _, _, hrd⟩ := h2.get hrest
  simp only [List.cons.injEq, and_true] at hc
  subst hc
  obtain ⟨news, hsrc, hyo⟩ : ∃ news, (0 < ys.length → ∃ b off, a = some (⟨b, off, none⟩ : Addr) ∧ CellsAt w b off news) ∧ OwL (· ∉ f ++ g) w [] news ys := by
    by_cases h0 : 0 < ys.length
    · obtain ⟨b, off, cells, rfl, _, hca, hr⟩ := hrd h0
      exact ⟨cells, fun _ => ⟨b, off, rfl, hca⟩, hr.ow⟩
    · have : ys = [] := List.eq_nil_of_length_eq_zero (by omega)
      subst this
      exact ⟨[], by simp, rfl, rfl⟩
  obtain ⟨v', w', hr, ho, hsame, fn, hfn, hnew, hrep⟩ := append_core (P := P) (T := T) (ty := ty) (c := c) hk hf hsrc hyo (by simpa using (List.nodup_append.1 hn).1) (fun b hb hok => hok (by simp at hb; simp [hb])) hbytes
  refine wl_op rfl (run_append_op hr) ?_
  rw [E_put]
  refine h _ _ ?_
  exact Sat.step' (Δ' := [.ow [v'] (xs ++ ys)]) (Γ := Δ) hb hn hl hrest ho hsame fn hfn
    (fun b hb => (hnew b hb).imp (fun h => by simpa using h) id) (fun ok' hok' => ⟨fn, [], by simp, hrep ok' hok', rfl⟩)

end ops

end Go.Eng
