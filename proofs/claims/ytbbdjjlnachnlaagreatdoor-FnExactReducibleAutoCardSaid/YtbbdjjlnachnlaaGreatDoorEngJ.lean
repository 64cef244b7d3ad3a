/- The rules of the walk: slices of the call's own: made, appended to, written; parts of slices; elements laid open. -/
import Derived.Test.YtbbdjjlnachnlaaGreatDoorEngE
import Derived.ProofKit
import Derived.OpenShut
import Derived.ChangeOld
namespace Go.Eng
open Go Go.RowKit
set_option linter.unusedVariables false
set_option linter.unusedSimpArgs false

/-- One list of atoms says all that another says. -/
def SepEnt (Γ Δ : List Atom) : Prop := ∀ {ok : Nat → Prop} {w : World} {F : List Nat}, Sep ok w Γ F → ∃ G, G.Perm F ∧ Sep ok w Δ G

theorem SepEnt.refl (Γ : List Atom) : SepEnt Γ Γ := fun h => ⟨_, .refl _, h⟩
theorem SepEnt.trans {Γ Δ Ε : List Atom} (h : SepEnt Γ Δ) (h' : SepEnt Δ Ε) : SepEnt Γ Ε := fun hs => by
  obtain ⟨G, hG, h1⟩ := h hs
  obtain ⟨H, hH, h2⟩ := h' h1
  exact ⟨H, hH.trans hG, h2⟩
theorem SepEnt.perm {Γ Δ : List Atom} (h : Γ.Perm Δ) : SepEnt Γ Δ := fun hs => Sep.perm h hs
theorem SepEnt.cons {Γ Δ : List Atom} (A : Atom) (h : SepEnt Γ Δ) : SepEnt (A :: Γ) (A :: Δ) := fun ⟨f, g, e, h1, h2⟩ => by
  obtain ⟨G, hG, h3⟩ := h h2
  exact ⟨f ++ G, e ▸ hG.append_left f, f, G, rfl, h1, h3⟩
theorem SepEnt.sat {w0 w : World} {Γ Δ : List Atom} (h : SepEnt Γ Δ) (hs : Sat w0 w Γ) : Sat w0 w Δ := by
  obtain ⟨hb, F, hn, hl, h1⟩ := hs
  obtain ⟨G, hG, h2⟩ := h h1
  exact ⟨hb, G, hG.symm.nodup hn, fun b hb => hl b (hG.mem_iff.1 hb), h2.notin hG⟩

/-- The cells vc are, out of Γ, owned as x; Δ is left. -/
def Own {α : Type} [Rep α] (Γ : List Atom) (vc : List Value) (x : α) (Δ : List Atom) : Prop := SepEnt Γ (.ow vc x :: Δ)

theorem own_int {Γ : List Atom} {n : Int} (h : In64 n) : Own Γ [.int .i64 n] n Γ := fun {_ _ F} hs => ⟨F, .refl _, [], F, rfl, ⟨rfl, rfl, h⟩, hs⟩
theorem own_bool {Γ : List Atom} {b : Bool} : Own Γ [.bool b] b Γ := fun {_ _ F} hs => ⟨F, .refl _, [], F, rfl, ⟨rfl, rfl⟩, hs⟩
theorem own_str {Γ : List Atom} {s : ByteArray} (h : s.size ≤ 9223372036854775807) : Own Γ [.string s] s Γ := fun {_ _ F} hs => ⟨F, .refl _, [], F, rfl, ⟨rfl, rfl, h⟩, hs⟩
theorem own_nil {α : Type} [Rep α] {Γ : List Atom} : Own Γ [.slice none 0 0] ([] : List α) Γ := fun {_ _ F} hs => ⟨F, .refl _, [], F, rfl, .inl ⟨rfl, rfl, rfl⟩, hs⟩
theorem own_pull {α : Type} {i : Rep α} {Γ Δ : List Atom} {vc : List Value} {x : α} [h : PullOw α i Γ vc x Δ] : Own Γ vc x Δ := SepEnt.perm h.perm
theorem own_sh {α : Type} {i : Rep α} {Γ : List Atom} {vc : List Value} {x : α} [h : HasIm α i Γ vc x] : Own Γ vc (Sh.mk x) Γ := fun {_ _ F} hs => ⟨F, .refl _, [], F, rfl, ⟨rfl, h.get hs⟩, hs⟩
theorem own_pair {α β : Type} [Rep α] [Rep β] {Γ Δ Ε : List Atom} {c d : List Value} {x : α} {y : β} (h : Own Γ c x Δ) (h' : Own Δ d y Ε) : Own Γ (c ++ d) (x, y) Ε := fun hs => by
  obtain ⟨G, hG, f, g, rfl, h1, h2⟩ := h hs
  obtain ⟨H, hH, f', g', rfl, h3, h4⟩ := h' h2
  exact ⟨f ++ f' ++ g', by rw [List.append_assoc]; exact (hH.append_left f).trans hG, f ++ f', g', rfl, ⟨f, f', c, d, rfl, rfl, h1, h3⟩, h4⟩
theorem own_cons {α β : Type} [Rep α] [Rep β] {Γ Δ Ε : List Atom} {c : Value} {d : List Value} {x : α} {y : β} (h : Own Γ [c] x Δ) (h' : Own Δ d y Ε) : Own Γ (c :: d) (x, y) Ε := own_pair h h'

/-- Atoms are used up (their blocks: f) and others take their place, in a new world. -/
theorem Sat.step' {w0 w w' : World} {Δ' Γ : List Atom} {f g : List Nat} (hb : BelD w0.heap.size w0 w) (hn : (f ++ g).Nodup) (hl : ∀ b ∈ f ++ g, w0.heap.size ≤ b) (h2 : Sep (· ∉ f ++ g) w Γ g)
    (ho : w'.os = w.os ∧ w'.tape = w.tape ∧ w'.output = w.output ∧ w.heap.size ≤ w'.heap.size ∧ w.drawn ≤ w'.drawn) (hsame : ∀ b, b < w.heap.size → b ∉ f → SameB w w' b)
    (f' : List Nat) (hf' : f'.Nodup) (hnew : ∀ b ∈ f', b ∈ f ∨ w.heap.size ≤ b) (h3 : ∀ ok' : Nat → Prop, (∀ b, b ∉ f ++ g → b < w.heap.size → ok' b) → Sep ok' w' Δ' f') : Sat w0 w' (Δ' ++ Γ) := by
  have hd := List.nodup_append.1 hn
  have hglt := h2.lt
  have hdis : ∀ b ∈ f', b ∉ g := fun b hb hg => by
    rcases hnew b hb with h | h
    · exact hd.2.2 b h b hg rfl
    · exact Nat.lt_irrefl _ (Nat.lt_of_lt_of_le (hglt b hg) h)
  have hok : ∀ b, b ∉ f ++ g → b < w.heap.size → b ∉ f' ++ g := fun b hb hlt hm => by
    rcases List.mem_append.1 hm with hm | hm
    · rcases hnew b hm with h | h
      · exact hb (by simp [h])
      · omega
    · exact hb (by simp [hm])
  refine ⟨⟨ho.1.trans hb.os, ho.2.1.trans hb.tape, ho.2.2.1.trans hb.output, Nat.le_trans hb.size ho.2.2.2.1, Nat.le_trans hb.drawn ho.2.2.2.2, fun k hk => ?_⟩, f' ++ g, ?_, ?_, ?_⟩
  · rw [hsame k (Nat.lt_of_lt_of_le hk hb.size) (fun hm => by have := hl k (by simp [hm]); omega)]
    exact hb.block k hk
  · rw [List.nodup_append]
    exact ⟨hf', hd.2.1, fun a ha b hb e => hdis a ha (e ▸ hb)⟩
  · intro b hb'
    rcases List.mem_append.1 hb' with h | h
    · rcases hnew b h with h | h
      · exact hl b (by simp [h])
      · exact Nat.le_trans hb.size h
    · exact hl b (by simp [h])
  · refine Sep.append ?_ (h3 _ hok)
    exact h2.mono (fun b hb hlt => ⟨hok b hb hlt, hsame b hlt (fun hm => hb (by simp [hm]))⟩) ho.2.2.2.1 (fun b hb => hsame b (hglt b hb) (fun hm => hd.2.2 b hm b hb rfl))

theorem Sat.step {w0 w w' : World} {Δ Δ' Γ : List Atom} (h : Sat w0 w (Δ ++ Γ)) (ho : w'.os = w.os ∧ w'.tape = w.tape ∧ w'.output = w.output ∧ w.heap.size ≤ w'.heap.size ∧ w.drawn ≤ w'.drawn)
    (hst : ∀ (f : List Nat) (ok : Nat → Prop), Sep ok w Δ f → f.Nodup → (∀ b ∈ f, ¬ ok b) → (∀ b, b < w.heap.size → b ∉ f → SameB w w' b) ∧
      ∃ f' : List Nat, f'.Nodup ∧ (∀ b ∈ f', b ∈ f ∨ w.heap.size ≤ b) ∧ ∀ ok' : Nat → Prop, (∀ b, ok b → b < w.heap.size → ok' b) → Sep ok' w' Δ' f') : Sat w0 w' (Δ' ++ Γ) := by
  obtain ⟨hb, F, hn, hl, hs⟩ := h
  obtain ⟨f, g, rfl, h1, h2⟩ := hs.split
  obtain ⟨hsame, f', hf', hnew, h3⟩ := hst f _ h1 (List.nodup_append.1 hn).1 (fun b hb h => h (by simp [hb]))
  exact Sat.step' hb hn hl h2 ho hsame f' hf' hnew h3

/-- Zeros of a type are, owned, this. -/
class Zo (α : Type) [Rep α] (zs : outParam (List Value)) (x : outParam α) : Prop where
  ow : ∀ ok w, Rep.ow ok w [] zs x
instance : Zo Int [.int .i64 0] 0 := ⟨fun _ _ => ⟨rfl, rfl, by unfold In64; omega⟩⟩
instance : Zo Bool [.bool false] false := ⟨fun _ _ => ⟨rfl, rfl⟩⟩
instance : Zo ByteArray [.string ByteArray.empty] ByteArray.empty := ⟨fun _ _ => ⟨rfl, rfl, by simp⟩⟩
instance : Zo UInt8 [.int .u8 0] 0 := ⟨fun _ _ => ⟨rfl, rfl⟩⟩
instance {α : Type} [Rep α] : Zo (List α) [.slice none 0 0] [] := ⟨fun _ _ => .inl ⟨rfl, rfl, rfl⟩⟩
instance {α : Type} [Rep α] : Zo (Sh (List α)) [.slice none 0 0] ⟨[]⟩ := ⟨fun _ _ => ⟨rfl, none, 0, rfl, by simp, by simp [maxLen], by simp, fun h => by simp at h⟩⟩
instance {α β : Type} [Rep α] [Rep β] {c : Value} {d : List Value} {x : α} {y : β} [h : Zo α [c] x] [h' : Zo β d y] : Zo (α × β) (c :: d) (x, y) := ⟨fun ok w => ⟨[], [], [c], d, rfl, rfl, h.ow ok w, h'.ow ok w⟩⟩

section rows
variable {α : Type} [Rep α]

theorem OwL.replicate {ok : Nat → Prop} {w : World} {zs : List Value} {z : α} (h : Rep.ow ok w [] zs z) : ∀ n, OwL ok w [] (List.replicate n zs).flatten (List.replicate n z)
  | 0 => ⟨rfl, rfl⟩
  | n + 1 => ⟨[], [], zs, (List.replicate n zs).flatten, rfl, by simp [List.replicate_succ], h, OwL.replicate h n⟩

theorem OwL.len {ok : Nat → Prop} {w : World} {F : List Nat} {cells : List Value} {xs : List α} (h : OwL ok w F cells xs) : cells.length = xs.length * Rep.sz α := (h.rd (ok' := fun _ => True) (fun _ _ => trivial) (fun _ _ => trivial)).len
theorem OwL.one {ok : Nat → Prop} {w : World} {F : List Nat} {cells : List Value} {xs : List α} (h : OwL ok w F cells xs) : ∀ c ∈ cells, c.oneCell' = true := (h.rd (ok' := fun _ => True) (fun _ _ => trivial) (fun _ _ => trivial)).one

theorem ow_list {ok : Nat → Prop} {w : World} {F : List Nat} {cs : List Value} {xs : List α} : Rep.ow ok w F cs xs ↔ ((cs = [.slice none 0 0] ∧ xs = [] ∧ F = []) ∨
    ∃ g cap cur e G cells, cs = [.slice (some ⟨g, 0, none⟩) xs.length cap] ∧ F = g :: G ∧ w.heap[g]? = some (.cells cur e (0, 0)) ∧ xs.length ≤ cap ∧ cap ≤ maxLen ∧
      xs.length ≤ 9223372036854775807 ∧ cap * Rep.sz α ≤ cur.size ∧ cur.toList.take (xs.length * Rep.sz α) = cells ∧ OwL ok w G cells xs) := Iff.rfl
end rows

theorem madeCells_take (z : List Value) (k n m : Nat) (hz : z.length = k) (hk : 0 < k) (hn : n ≤ m) : ((madeCells z.toArray (m * k)).toList.take (n * k)) = (List.replicate n z).flatten := by
  apply List.ext_getElem?
  intro i
  have hfl : ∀ n, (List.replicate n z).flatten.length = n * k := fun n => by simp [hz]
  by_cases hi : i < n * k
  · have hi' : i < m * k := Nat.lt_of_lt_of_le hi (Nat.mul_le_mul_right _ hn)
    rw [List.getElem?_take, if_pos hi]
    have h2 : ∀ n i, i < n * k → (List.replicate n z).flatten[i]? = z[i % k]? := by
      intro n
      induction n with
      | zero => intro i hi; omega
      | succ n ih =>
        intro i hi
        rw [List.replicate_succ, List.flatten_cons]
        by_cases h : i < k
        · rw [List.getElem?_append_left (by omega), Nat.mod_eq_of_lt h]
        · have hi2 : i < n * k + k := by rw [Nat.add_mul, Nat.one_mul] at hi; exact hi
          rw [List.getElem?_append_right (by omega), hz, ih (i - k) (by omega), Nat.mod_eq_sub_mod (a := i) (b := k) (by omega)]
    rw [h2 n i hi]
    simp only [madeCells, Array.toList_map, List.getElem?_map]
    have hmod : i % k < z.length := by rw [hz]; exact Nat.mod_lt _ hk
    rw [List.getElem?_eq_getElem hmod]
    simp [hi', hz, List.getElem?_eq_getElem hmod]
  · rw [List.getElem?_take, if_neg hi, List.getElem?_eq_none (by rw [hfl]; omega)]

section ops
variable {P : Program} {ops : Array Oper} {Q : Exit → Act → World → Prop} {w0 : World} {rest : List Oper} {l l' : List Value} {Γ Δ Ε : List Atom} {ty : TypeId} {v : Value} {pos : String} {after : Array Edge} {d : Nat}

theorem wl_ent (he : SepEnt Γ Δ) (h : WL P ops Q w0 rest l Δ) : WL P ops Q w0 rest l Γ := fun w hs => h w (he.sat hs)
theorem wc_ent {c : Code} (he : SepEnt Γ Δ) (h : WC P Q w0 c l Δ) : WC P Q w0 c l Γ := fun w hs => h w (he.sat hs)

/-- make([]T, n, m). -/
theorem wl_make {T k by_ : Nat} {x y : Operand} {kx ky : IntKind} {n m : Int} (α : Type) [iα : Rep α] {zs : List Value} {z : α} [hx : Ev l x (.int kx n)] [hy : Ev l y (.int ky m)] [hT : Sl P T k by_] [hzs : SlZ P T zs] [hz : Zo α zs z]
    (hn : 0 ≤ n ∧ n ≤ m) (hm : m * by_ ≤ 140737488355328) (h : ∀ sv, WL P ops Q w0 rest (l.set d sv) (.ow [sv] (List.replicate n.toNat z) :: Γ)) :
    WL P ops Q w0 (⟨some d, .makeSlice T x y, ty, pos, after, none⟩ :: rest) l Γ := by
  intro w hs
  obtain ⟨e, i, z', ht, hi, hk, hb, hz', hzk, hpos⟩ := hT.ex
  have hzc : z'.cells = zs.toArray := hzs.eq ht hi hz'
  have hsz : zs.length = Rep.sz α := Rep.rd_len (x := z) (Rep.ow_rd (ok' := fun _ => True) (hz.ow (fun _ => True) w) (fun _ _ => trivial) (fun _ _ => trivial))
  have hkk : k = Rep.sz α := by rw [← hsz, ← hzk, hzc]; simp
  have hmm : m ≤ 140737488355328 := by
    have : m * 1 ≤ m * by_ := Int.mul_le_mul_of_nonneg_left (by omega) (by omega)
    omega
  have hr := run_make (P := P) w T e i z' ht hi hz' kx ky n m hn.1 hn.2 (by rw [hb, Int.mul_comm]; omega) (by omega)
  refine wl_op (v := .slice (some ⟨w.heap.size, 0, none⟩) n.toNat m.toNat) (w' := w.alloc (.cells (madeCells z'.cells (m.toNat * i.size)) e)) rfl ?_ ?_
  · refine run_value (f := Next.value) (s := Instr.makeSlice T ((E l).eval x) ((E l).eval y)) ?_
    rw [hx.eq, hy.eq]; exact hr
  · rw [E_put]
    refine h _ _ ?_
    refine Sat.step (Δ := []) (Δ' := [.ow _ _]) hs ⟨rfl, rfl, rfl, by simp, (by first | exact Nat.le_refl _ | exact Nat.le_add_right _ _)⟩ (fun f ok hf hnd _ => ⟨fun b hb _ => Below.heap_alloc _ _ _ hb, [w.heap.size], by simp, fun b hb => .inr (by simp at hb; omega), fun ok' _ => ?_⟩)
    refine ⟨[w.heap.size], [], rfl, ?_, rfl⟩
    show Rep.ow _ _ _ _ _
    rw [ow_list]
    refine .inr ⟨w.heap.size, m.toNat, _, e, [], (List.replicate n.toNat zs).flatten, by simp, rfl, heap_alloc_new w _, by simp; omega, by simp [maxLen]; omega, by simp; omega, ?_, ?_, OwL.replicate (hz.ow _ _) _⟩
    · rw [size_madeCells, hk, hkk]; exact Nat.le_refl _
    · rw [hzc, hk, List.length_replicate, hkk]
      exact madeCells_take zs (Rep.sz α) _ _ hsz Rep.pos (by omega)

theorem run_append_room' (w : World) (t ty e e' : TypeId) (i : TypeInfo) (ht : P.underlying t = some (.slice e)) (hi : P.info? e = some i)
    (g sLen sCap : Nat) (cur : Array Value) (hg : w.heap[g]? = some (.cells cur e' (0, 0)))
    (x : Value) (m : Nat) (news : List Value) (hlen : ∀ w, (Builtin.lenOf x).run P w = .ok m w) (hx : (Builtin.firstCells i.size m x).run P w = .ok news.toArray w) (h1 : ∀ u ∈ news, u.oneCell' = true)
    (hroom : sLen + m ≤ sCap) (hfit : sLen * i.size + news.length ≤ cur.size) :
    (Builtin.append_ #[t, t] ty #[.slice (some ⟨g, 0, none⟩) sLen sCap, x]).run P w =
      .ok (.slice (some ⟨g, 0, none⟩) (sLen + m) sCap) (w.setRow g (cur.toList.take (sLen * i.size) ++ news ++ cur.toList.drop (sLen * i.size + news.length)).toArray) := by
  have hst := run_storeCells_at P g (sLen * i.size) e' news 0 cur w hg (by simpa using hfit) h1
  simp only [Nat.add_zero] at hst
  simp [Builtin.append_, run_underlying ht, sizeOf, typeInfo, hi, hlen, hroom, hx, Addr.add_lit, hst]
theorem run_lenOf_slice {a : Option Addr} {m c : Nat} (w : World) : (Builtin.lenOf (.slice a m c)).run P w = .ok m w := rfl

/-- Appending, of whatever source whose cells are known. -/
theorem append_core {α : Type} [Rep α] {T ty k by_ : Nat} [hT : Sl P T k by_] (hk : k = Rep.sz α) {w : World} {ok : Nat → Prop} {f fy : List Nat} {ov : Value} {xs ys : List α} {a : Option Addr} {c : Nat} {news : List Value}
    (hf : Rep.ow ok w f [ov] xs) (hsrc : 0 < ys.length → ∃ b off, a = some ⟨b, off, none⟩ ∧ CellsAt w b off news) (hy : OwL ok w fy news ys) (hnd : (f ++ fy).Nodup) (hoky : ∀ b ∈ f ++ fy, ¬ ok b)
    (hbytes : (xs.length + ys.length) * by_ ≤ 140737488355328) :
    ∃ v' w', (Builtin.append_ #[T, T] ty #[ov, .slice a ys.length c]).run P w = .ok v' w' ∧ (w'.os = w.os ∧ w'.tape = w.tape ∧ w'.output = w.output ∧ w.heap.size ≤ w'.heap.size ∧ w.drawn ≤ w'.drawn) ∧
      (∀ b, b < w.heap.size → b ∉ f → SameB w w' b) ∧ ∃ f', f'.Nodup ∧ (∀ b ∈ f', b ∈ f ++ fy ∨ w.heap.size ≤ b) ∧ ∀ ok' : Nat → Prop, (∀ b, ok b → b < w.heap.size → ok' b) → Rep.ow ok' w' f' [v'] (xs ++ ys) := by
  obtain ⟨e, i, z, ht, hi, hik, hib, hz, hzk, hpos⟩ := hT.ex
  have hsz : i.size = Rep.sz α := hik.trans hk
  have hle : xs.length + ys.length ≤ 140737488355328 := Nat.le_trans (Nat.le_mul_of_pos_right _ hpos) hbytes
  have hnl : news.length = ys.length * i.size := by rw [hsz]; exact hy.len
  have hfy : ∀ b ∈ fy, b < w.heap.size := hy.lt
  have hdis := (List.nodup_append.1 hnd).2.2
  have hcap63 : ∀ old, grownCap w (xs.length + ys.length) old e ≤ maxLen := fun old => grownCap_le_maxLen w _ old e (by simp only [maxLen]; omega)
  -- the source's first cells
  have hfc : (Builtin.firstCells i.size ys.length (.slice a ys.length c)).run P w = .ok news.toArray w := by
    by_cases h0 : ys.length = 0
    · have hn0 : news = [] := List.eq_nil_of_length_eq_zero (by rw [hnl, h0, Nat.zero_mul])
      subst hn0
      cases a with
      | none => rfl
      | some a => simp [Builtin.firstCells, h0, loadCells, loadCellsFrom]
    · obtain ⟨b, off, rfl, hc⟩ := hsrc (by omega)
      exact run_firstCells_some (P := P) w i.size ys.length ⟨b, off, none⟩ ys.length c news hnl (fun j v hj => by
        rw [add_lit]
        have hj' : j < news.length := (List.getElem?_eq_some_iff.1 hj).1
        rw [hc j hj', hj])
  have hcellsrc : ∀ b off, CellsAt w b off news → ∀ j v, news[j]? = some v → w.cell? ((⟨b, off, none⟩ : Addr).add j) = some v := fun b off hc j v hj => by
    rw [add_lit, hc j (List.getElem?_eq_some_iff.1 hj).1, hj]
  -- what a new row is good for
  have grown : ∀ (old : Nat) (G : List Nat) (cells : List Value), (∀ b ∈ G, b ∈ f) → G.Nodup → OwL ok w G cells xs → cells.length = xs.length * Rep.sz α →
      let w' := w.drew.alloc (.cells (cells.toArray ++ news.toArray ++ Builtin.zeroCells z.cells (grownCap w (xs.length + ys.length) old e - (xs.length + ys.length))) e)
      (w'.os = w.os ∧ w'.tape = w.tape ∧ w'.output = w.output ∧ w.heap.size ≤ w'.heap.size ∧ w.drawn ≤ w'.drawn) ∧ (∀ b, b < w.heap.size → b ∉ f → SameB w w' b) ∧
      ∃ f', f'.Nodup ∧ (∀ b ∈ f', b ∈ f ++ fy ∨ w.heap.size ≤ b) ∧ ∀ ok' : Nat → Prop, (∀ b, ok b → b < w.heap.size → ok' b) → Rep.ow ok' w' f' [.slice (some ⟨w.heap.size, 0, none⟩) (xs.length + ys.length) (grownCap w (xs.length + ys.length) old e)] (xs ++ ys) := by
    intro old G cells hG hGn hO hlen w'
    have hsame : ∀ b, b < w.heap.size → SameB w w' b := fun b hb => Below.heap_alloc w.drew _ _ hb
    have hGlt := hO.lt
    have hge := grownCap_ge w (xs.length + ys.length) old e
    refine ⟨⟨rfl, rfl, rfl, by simp [w'], (by first | exact Nat.le_refl _ | exact Nat.le_add_right _ _)⟩, fun b hb _ => hsame b hb, w.heap.size :: (G ++ fy), ?_, ?_, ?_⟩
    · refine List.nodup_cons.2 ⟨fun hm => ?_, ?_⟩
      · rcases List.mem_append.1 hm with h | h
        · exact Nat.lt_irrefl _ (hGlt _ h)
        · exact Nat.lt_irrefl _ (hfy _ h)
      · rw [List.nodup_append]
        exact ⟨hGn, (List.nodup_append.1 hnd).2.1, fun a ha b hb => hdis a (hG a ha) b hb⟩
    · intro b hb
      rcases List.mem_cons.1 hb with rfl | hb
      · exact .inr (Nat.le_refl _)
      · rcases List.mem_append.1 hb with h | h
        · exact .inl (by simp [hG b h])
        · exact .inl (by simp [h])
    · intro ok' hok'
      rw [ow_list]
      refine .inr ⟨w.heap.size, _, _, e, G ++ fy, cells ++ news, by simp, rfl, heap_alloc_new w.drew _, by simpa using hge, hcap63 old, by simp; omega, ?_, ?_, ?_⟩
      · simp only [Array.size_append, List.size_toArray, size_zeroCells, hzk, hlen, hnl, hik, hk]
        rw [← Nat.add_mul, ← Nat.add_mul]
        refine Nat.le_of_eq ?_
        congr 1
        omega
      · simp only [Array.toList_append, List.length_append, List.append_assoc]
        rw [← List.append_assoc, Nat.add_mul, ← hlen, show ys.length * Rep.sz α = news.length by rw [hnl, hsz], ← List.length_append]
        exact List.take_left
      · exact OwL.append (hy.mono (fun b hb hlt => ⟨hok' b hb hlt, hsame b hlt⟩) (fun b hb => hsame b (hfy b hb))) (hO.mono (fun b hb hlt => ⟨hok' b hb hlt, hsame b hlt⟩) (fun b hb => hsame b (hGlt b hb)))
  rw [ow_list] at hf
  rcases hf with ⟨hov, rfl, rfl⟩ | ⟨g, cap, cur, e', G, cells, hov, rfl, hg, hcap, hcapm, _, hcs, htake, hO⟩
  · simp only [List.cons.injEq, and_true] at hov
    subst hov
    by_cases h0 : ys.length = 0
    · have hy0 : ys = [] := List.eq_nil_of_length_eq_zero h0
      subst hy0
      refine ⟨.slice none 0 0, w, ?_, ⟨rfl, rfl, rfl, Nat.le_refl _, Nat.le_refl _⟩, fun _ _ _ => rfl, [], by simp, by simp, fun ok' _ => ow_list.2 (.inl ⟨rfl, rfl, rfl⟩)⟩
      simp only [List.length_nil] at hfc ⊢
      simp [Builtin.append_, run_underlying ht, sizeOf, typeInfo, hi, Builtin.lenOf, hfc]
    · obtain ⟨b, off, rfl, hc⟩ := hsrc (by omega)
      have hr := run_append_nil (P := P) w T ty e i z ht hi hz ⟨b, off, none⟩ ys.length c news hnl (hcellsrc b off hc) (by omega) (by simp at hle; omega) (by rw [hib]; simp at hbytes; omega)
      have hgr := grown 0 [] [] (by simp) (by simp) ⟨rfl, rfl⟩ (by simp)
      simp only [List.length_nil, Nat.zero_add, List.nil_append, Array.empty_append, List.append_nil] at hgr ⊢
      exact ⟨_, _, hr, hgr.1, hgr.2.1, hgr.2.2⟩
  · simp only [List.cons.injEq, and_true] at hov
    subst hov
    have hcl : cells.length = xs.length * Rep.sz α := hO.len
    have hgG : g ∉ G ∧ G.Nodup := List.nodup_cons.1 (List.nodup_append.1 hnd).1
    by_cases hroom : xs.length + ys.length ≤ cap
    · have hfit : xs.length * i.size + news.length ≤ cur.size := by rw [hnl, hsz, ← Nat.add_mul]; exact Nat.le_trans (Nat.mul_le_mul_right _ hroom) hcs
      have hr := run_append_room' w T ty e e' i ht hi g xs.length cap cur hg (.slice a ys.length c) ys.length news (fun w => run_lenOf_slice w) hfc hy.one hroom hfit
      have hsame : ∀ k, k ≠ g → SameB w (w.setRow g (cur.toList.take (xs.length * i.size) ++ news ++ cur.toList.drop (xs.length * i.size + news.length)).toArray) k := fun k hk => setRow_other w g k _ hk
      have hglt : g < w.heap.size := (Array.getElem?_eq_some_iff.1 hg).1
      refine ⟨_, _, hr, ⟨rfl, rfl, rfl, by simp, (by first | exact Nat.le_refl _ | exact Nat.le_add_right _ _)⟩, fun b _ hb => hsame b (fun h => hb (by simp [h])), (g :: G) ++ fy, hnd, fun b hb => .inl hb, fun ok' hok' => ?_⟩
      rw [ow_list]
      refine .inr ⟨g, cap, _, e', G ++ fy, cells ++ news, by simp, rfl, setRow_heap w g cur _ e' _ hg, by simpa using hroom, hcapm, by simp; omega, ?_, ?_, ?_⟩
      · simp only [List.size_toArray, List.length_append, List.length_take, List.length_drop, Array.length_toList]
        refine Nat.le_trans hcs ?_
        omega
      · simp only [List.toList_toArray, List.length_append]
        rw [hsz, htake, Nat.add_mul, ← hcl, show ys.length * Rep.sz α = news.length by rw [hnl, hsz], ← List.length_append]
        exact List.take_left
      · refine OwL.append (hy.mono (fun b hb hlt => ⟨hok' b hb hlt, hsame b (fun h => ?_)⟩) (fun b hb => hsame b (fun h => ?_))) (hO.mono (fun b hb hlt => ⟨hok' b hb hlt, hsame b (fun h => ?_)⟩) (fun b hb => hsame b (fun h => hgG.1 (h ▸ hb))))
        · exact hoky g (by simp) (h ▸ hb)
        · exact hdis g (by simp) b hb h.symm
        · exact hoky g (by simp) (h ▸ hb)
    · have hy0 : 0 < ys.length := by omega
      obtain ⟨b, off, rfl, hc⟩ := hsrc hy0
      have holds : ∀ j u, cells[j]? = some u → w.cell? ((⟨g, 0, none⟩ : Addr).add j) = some u := fun j u hj => by
        have hjl := (List.getElem?_eq_some_iff.1 hj).1
        rw [add_lit, Nat.zero_add]
        rw [← htake, List.getElem?_take] at hj
        split at hj
        · simpa [World.cell?, hg] using hj
        · cases hj
      have hr := run_append_grow (P := P) w T ty e i z ht hi hz ⟨g, 0, none⟩ xs.length cap cells (by rw [hcl, hsz]) holds ⟨b, off, none⟩ ys.length c news hnl (hcellsrc b off hc) (by omega) (by omega) (growslice_fits (by omega) (by rw [hib]; exact hbytes))
      have hgr := grown cap G cells (fun b hb => by simp [hb]) hgG.2 hO hcl
      exact ⟨_, _, hr, hgr.1, hgr.2.1, hgr.2.2⟩

/-- Types whose cells hold no address that is owned. -/
class Cp (α : Type) [Rep α] : Prop where
  cp : ∀ {ok w cs} {x : α}, Rep.rd (fun _ => True) w cs x → Rep.ow ok w [] cs x
instance : Cp Int := ⟨fun h => ⟨rfl, h⟩⟩
instance : Cp Bool := ⟨fun h => ⟨rfl, h⟩⟩
instance : Cp UInt8 := ⟨fun h => ⟨rfl, h⟩⟩
instance : Cp ByteArray := ⟨fun h => ⟨rfl, h⟩⟩
instance {α β : Type} [Rep α] [Rep β] [ha : Cp α] [hb : Cp β] : Cp (α × β) := ⟨fun ⟨c, d, e, h1, h2⟩ => ⟨[], [], c, d, rfl, e, ha.cp h1, hb.cp h2⟩⟩
theorem RdL.ow {α : Type} [Rep α] [hc : Cp α] {ok : Nat → Prop} {w : World} : ∀ {cells : List Value} {xs : List α}, RdL (fun _ => True) w cells xs → OwL ok w [] cells xs
  | _, [], h => ⟨rfl, h⟩
  | _, _ :: _, ⟨c, d, e, h, h'⟩ => ⟨[], [], c, d, rfl, e, hc.cp h, RdL.ow h'⟩

theorem run_append_op {T : TypeId} {x y : Operand} {ov tv : Value} [hx : Ev l x ov] [hy : Ev l y tv] {w w' : World} (hr : (Builtin.append_ #[T, T] ty #[ov, tv]).run P w = .ok v w') :
    (execOp (E l).eval ⟨some d, .call { callee := .builtin .append, args := #[x, y], argTypes := #[T, T] }, ty, pos, after, none⟩).run P w = .ok (.value v) w' := by
  have : execOp (E l).eval ⟨some d, .call { callee := .builtin .append, args := #[x, y], argTypes := #[T, T] }, ty, pos, after, none⟩ = (do pure (.value (← Builtin.append_ #[T, T] ty #[ov, tv])) : Sem Next) := by
    unfold execOp
    simp [resolve, invoke, builtin, hx.eq, hy.eq, Pure.pure, Bind.bind, Sem.bind]
  rw [this]
  exact run_value hr

/-- append(out, elements...): both are the call's own. -/
theorem wl_append {T k by_ : Nat} {x y : Operand} {ov tv : Value} {α : Type} {iα : Rep α} {xs ys : List α} [hx : Ev l x ov] [hy : Ev l y tv] [hT : Sl P T k by_] [h1 : PullOw (List α) repList Γ [ov] xs Δ] [h2 : PullOw (List α) repList Δ [tv] ys Ε]
    (hk : k = Rep.sz α) (hbytes : (xs.length + ys.length) * by_ ≤ 140737488355328) (h : ∀ sv, WL P ops Q w0 rest (l.set d sv) (.ow [sv] (xs ++ ys) :: Ε)) :
    WL P ops Q w0 (⟨some d, .call { callee := .builtin .append, args := #[x, y], argTypes := #[T, T] }, ty, pos, after, none⟩ :: rest) l Γ := by
  intro w hs
  have hs1 : Sat w0 w ([.ow [ov] xs, .ow [tv] ys] ++ Ε) := (hs.perm h1.perm).perm (h2.perm.cons _)
  obtain ⟨hb, F, hn, hl, hsep⟩ := hs1
  obtain ⟨f, g, rfl, hf, f', g', rfl, hf', hrest⟩ := hsep
  have how : Rep.ow _ w f' [tv] ys := hf'
  rw [ow_list] at how
  have hnd2 : (f ++ f').Nodup := by
    have := hn; rw [← List.append_assoc] at this; exact (List.nodup_append.1 this).1
  -- the source
  obtain ⟨a, c, news, fy, htv, hsrc, hyo, hsub, hfyn⟩ : ∃ a c news fy, tv = .slice a ys.length c ∧ (0 < ys.length → ∃ b off, a = some (⟨b, off, none⟩ : Addr) ∧ CellsAt w b off news) ∧
      OwL (· ∉ f ++ (f' ++ g')) w fy news ys ∧ (∀ b ∈ fy, b ∈ f') ∧ fy.Nodup := by
    rcases how with ⟨e, rfl, rfl⟩ | ⟨g2, cap, cur, e, G, cells, e1, rfl, hg2, _, _, _, hcs, htake, hO⟩
    · simp only [List.cons.injEq, and_true] at e; exact ⟨none, 0, [], [], e, by simp, ⟨rfl, rfl⟩, by simp, by simp⟩
    · simp only [List.cons.injEq, and_true] at e1
      refine ⟨_, _, cells, G, e1, fun _ => ⟨g2, 0, rfl, fun j hj => ?_⟩, hO, fun b hb => by simp [hb], (List.nodup_cons.1 (List.nodup_append.1 hnd2).2.1).2⟩
      rw [← htake] at hj ⊢
      rw [List.length_take] at hj
      rw [List.getElem?_take, if_pos (by omega)]
      simp [World.cell?, hg2]
  subst htv
  have hnd : (f ++ fy).Nodup := by
    rw [List.nodup_append] at hnd2 ⊢
    exact ⟨hnd2.1, hfyn, fun a ha b hb => hnd2.2.2 a ha b (hsub b hb)⟩
  obtain ⟨v', w', hr, ho, hsame, fn, hfn, hnew, hrep⟩ := append_core (P := P) (T := T) (ty := ty) hk hf hsrc hyo hnd (fun b hb hok => hok (by
    rcases List.mem_append.1 hb with h | h
    · simp [h]
    · simp [hsub b h])) hbytes
  refine wl_op rfl (run_append_op hr) ?_
  rw [E_put]
  refine h _ _ ?_
  rw [← List.append_assoc] at hn hl
  refine Sat.step' (Δ' := [.ow [v'] (xs ++ ys)]) (Γ := Ε) (f := f ++ f') (g := g') hb hn hl (by rw [List.append_assoc]; exact hrest) ho (fun b hlt hm => hsame b hlt (fun h => hm (by simp [h]))) fn hfn
    (fun b hb => (hnew b hb).imp (fun h => ?_) id) (fun ok' hok' => ⟨fn, [], by simp, hrep ok' (fun b hb => hok' b (by rw [List.append_assoc]; exact hb)), rfl⟩)
  rcases List.mem_append.1 h with h | h
  · simp [h]
  · simp [hsub b h]

/-- append(out, l...): the elements are copied. -/
theorem wl_append_cp {T k by_ : Nat} {x y : Operand} {ov tv : Value} {α : Type} {iα : Rep α} {xs ys : List α} [hx : Ev l x ov] [hy : Ev l y tv] [hT : Sl P T k by_] [h1 : PullOw (List α) repList Γ [ov] xs Δ] [h2 : HasRd (List α) repList Δ [tv] ys] [hcp : Cp α]
    (hk : k = Rep.sz α) (hbytes : (xs.length + ys.length) * by_ ≤ 140737488355328) (h : ∀ sv, WL P ops Q w0 rest (l.set d sv) (.ow [sv] (xs ++ ys) :: Δ)) :
    WL P ops Q w0 (⟨some d, .call { callee := .builtin .append, args := #[x, y], argTypes := #[T, T] }, ty, pos, after, none⟩ :: rest) l Γ := by
  intro w hs
  have hs1 : Sat w0 w ([.ow [ov] xs] ++ Δ) := hs.perm h1.perm
  obtain ⟨hb, F, hn, hl, f, g, rfl, hf, hrest⟩ := hs1
  obtain ⟨a, c, hc, _, _, _, hrd⟩ := h2.get hrest
  simp only [List.cons.injEq, and_true] at hc
  subst hc
  obtain ⟨news, hsrc, hyo⟩ : ∃ news, (0 < ys.length → ∃ b off, a = some (⟨b, off, none⟩ : Addr) ∧ CellsAt w b off news) ∧ OwL (· ∉ f ++ g) w [] news ys := by
    by_cases h0 : 0 < ys.length
    · obtain ⟨b, off, cells, rfl, _, hca, hr⟩ := hrd h0
      exact ⟨cells, fun _ => ⟨b, off, rfl, hca⟩, hr.ow⟩
    · have : ys = [] := List.eq_nil_of_length_eq_zero (by omega)
      subst this
      exact ⟨[], by simp, rfl, rfl⟩
  obtain ⟨v', w', hr, ho, hsame, fn, hfn, hnew, hrep⟩ := append_core (P := P) (T := T) (ty := ty) (c := c) hk hf hsrc hyo (by simpa using (List.nodup_append.1 hn).1) (fun b hb hok => hok (by simp at hb; simp [hb])) hbytes
  refine wl_op rfl (run_append_op hr) ?_
  rw [E_put]
  refine h _ _ ?_
  exact Sat.step' (Δ' := [.ow [v'] (xs ++ ys)]) (Γ := Δ) hb hn hl hrest ho hsame fn hfn
    (fun b hb => (hnew b hb).imp (fun h => by simpa using h) id) (fun ok' hok' => ⟨fn, [], by simp, hrep ok' hok', rfl⟩)

end ops

end Go.Eng
namespace Go.Eng
open Go Go.RowKit
set_option linter.unusedVariables false
set_option linter.unusedSimpArgs false

theorem foldl_splice : ∀ (c : List Value) (off k : Nat) (cells : List Value), off + k + c.length ≤ cells.length →
    (c.zipIdx k).foldl (fun (cs : Array Value) x => cs.setIfInBounds (off + x.2) x.1) cells.toArray = (cells.take (off + k) ++ c ++ cells.drop (off + k + c.length)).toArray
  | [], off, k, cells, h => by simp
  | x :: c, off, k, cells, h => by
    have h' : off + k + c.length + 1 ≤ cells.length := by simp at h; omega
    simp only [List.zipIdx_cons, List.foldl_cons, List.setIfInBounds_toArray]
    rw [foldl_splice c off (k + 1) _ (by rw [List.length_set]; omega)]
    congr 1
    have e1 : (cells.set (off + k) x).take (off + (k + 1)) = cells.take (off + k) ++ [x] := by
      rw [← Nat.add_assoc, List.take_succ_eq_append_getElem (by rw [List.length_set]; omega)]
      simp [List.take_set_of_le]
    have e2 : (cells.set (off + k) x).drop (off + (k + 1) + c.length) = cells.drop (off + k + (x :: c).length) := by
      rw [List.drop_set_of_lt (by omega)]
      congr 1
      simp; omega
    rw [e1, e2]
    simp

class LenIs {α : Type} (l : List α) (n : outParam Nat) : Prop where
  eq : l.length = n
instance {α : Type} : LenIs ([] : List α) 0 := ⟨rfl⟩
instance {α : Type} {a : α} {l : List α} {n : Nat} [h : LenIs l n] : LenIs (a :: l) (n + 1) := ⟨by simp [h.eq]⟩

class NatEq (a b : Nat) : Prop where
  eq : a = b
instance {a : Nat} : NatEq a a := ⟨rfl⟩

/-- The parts of a literal written into its cells. -/
class BuildL (Γ : List Atom) (l : List Value) (places : List (Nat × Nat)) (cells : List Value) (ps : List (Nat × Operand)) (out : outParam (List Value)) : Prop where
  run : ∀ {ok w F}, Sep ok w Γ F → Instr.fill (places[·]?) cells.toArray (ps.map fun p => (p.1, (E l).eval p.2)) = some out.toArray
instance {Γ : List Atom} {l : List Value} {places : List (Nat × Nat)} {cells : List Value} : BuildL Γ l places cells [] cells := ⟨fun _ => rfl⟩
theorem fill_step {place : Nat → Option (Nat × Nat)} {i off size : Nat} {v : Value} {c cells : List Value} {rest : List (Nat × Value)} (hp : place i = some (off, size)) (hv : v.cells = c.toArray) (hc : c.length = size) (hle : off + c.length ≤ cells.length) :
    Instr.fill place cells.toArray ((i, v) :: rest) = Instr.fill place (cells.take off ++ c ++ cells.drop (off + c.length)).toArray rest := by
  have hf := foldl_splice c off 0 cells (by omega)
  simp only [Nat.add_zero] at hf
  simp only [Instr.fill, hp, hv]
  have h1 : (c.toArray.size ≠ size || off + c.toArray.size > cells.toArray.size) = false := by simp [hc]; omega
  rw [h1]
  simp only [Bool.false_eq_true, if_false]
  rw [← hf]
  congr 1
  simp
instance {Γ : List Atom} {l : List Value} {places : List (Nat × Nat)} {cells cells' out c : List Value} {i off size n : Nat} {x : Operand} {v : Value} {ps : List (Nat × Operand)} [hp : Ge places i (off, size)] [hx : Ev l x v] [hc : Cs Γ v c] [hl : LenIs c n] [hsp : Sp cells off c cells'] [hne : NatEq n size] [hb : BuildL Γ l places cells' ps out] :
    BuildL Γ l places cells ((i, x) :: ps) out := ⟨fun hs => by
  obtain ⟨e, hle⟩ := hsp.eq
  simp only [List.map_cons, hx.eq]
  rw [fill_step hp.eq (hc.eq hs).1 (hl.eq.trans hne.eq) hle, ← e]
  exact hb.run hs⟩

/-- T is a struct type, with its fields' places and its zero. -/
class StT (P : Program) (T : TypeId) (places : outParam (List (Nat × Nat))) (zs : outParam (List Value)) : Prop where
  ex : ∃ fields it z, P.underlying T = some (.struct fields) ∧ fields.toList.mapM (fun f => (P.info? f.type).map fun i => (f.offset, i.size)) = some places ∧ P.info? T = some it ∧ it.zero = some z ∧ z.cells = zs.toArray

section ops
variable {P : Program} {ops : Array Oper} {Q : Exit → Act → World → Prop} {w0 : World} {rest : List Oper} {l l' : List Value} {Γ Δ Ε : List Atom} {ty : TypeId} {v : Value} {pos : String} {after : Array Edge} {d : Nat}

theorem pu_build {T : TypeId} {ps : List (Nat × Operand)} {places : List (Nat × Nat)} {zs out : List Value} [hT : StT P T places zs] [hb : BuildL Γ l places zs ps out] : Pu P w0 l Γ (.build T ps.toArray) ty (.agg out.toArray) := by
  obtain ⟨fields, it, z, hu, hp, hi, hz, hzc⟩ := hT.ex
  refine pu_of (s := Instr.build T (ps.toArray.map fun (i, x) => (i, (E l).eval x))) (fun o ho _ => by unfold execOp; rw [ho]) (fun w hs => ?_)
  obtain ⟨_, F, _, _, hsep⟩ := hs
  have h := hb.run hsep
  refine run_build w T _ out.toArray ?_
  simp only [Program.built, hi, hu, hz, hp, hzc]
  simpa using h

/-- The parts of a slice literal, in order, each by its cells. -/
class PartsL (Γ : List Atom) (l : List Value) (k : Nat) (i : Nat) (ps : List (Nat × Operand)) (groups : outParam (List (List Value))) : Prop where
  idx : ps.map (·.1) = List.range' i groups.length
  run : ∀ {ok w F}, Sep ok w Γ F → ∀ (j : Nat) (p : Nat × Operand) (g : List Value), ps[j]? = some p → groups[j]? = some g → ((E l).eval p.2).cells = g.toArray ∧ g.length = k ∧ ∀ c ∈ g, c.oneCell' = true
instance {Γ : List Atom} {l : List Value} {k i : Nat} : PartsL Γ l k i [] [] := ⟨rfl, fun _ j p g h => by simp at h⟩
instance {Γ : List Atom} {l : List Value} {k i n : Nat} {x : Operand} {v : Value} {g : List Value} {ps : List (Nat × Operand)} {groups : List (List Value)} [hx : Ev l x v] [hc : Cs Γ v g] [hl : LenIs g n] [hne : NatEq n k] [hp : PartsL Γ l k (i + 1) ps groups] :
    PartsL Γ l k i ((i, x) :: ps) (g :: groups) := ⟨by simp [hp.idx, List.range'_succ], fun hs j p g' h1 h2 => by
  cases j with
  | zero => simp at h1 h2; subst h1 h2; exact ⟨by rw [hx.eq]; exact (hc.eq hs).1, hl.eq.trans hne.eq, (hc.eq hs).2⟩
  | succ j => exact hp.run hs j p g' (by simpa using h1) (by simpa using h2)⟩

theorem fill_parts {k : Nat} : ∀ (ps : List (Nat × Value)) (groups : List (List Value)) (i : Nat) (done rest : List Value), ps.map (·.1) = List.range' i groups.length → done.length = i * k → groups.length * k ≤ rest.length →
    (∀ (j : Nat) p g, ps[j]? = some p → groups[j]? = some g → p.2.cells = g.toArray ∧ g.length = k) →
    Instr.fill (fun i => some (i * k, k)) (done ++ rest).toArray ps = some (done ++ groups.flatten ++ rest.drop (groups.length * k)).toArray
  | [], [], i, done, rest, _, _, _, _ => by simp [Instr.fill]
  | [], g :: gs, i, done, rest, h, _, _, _ => by simp [List.range'_succ] at h
  | p :: ps, [], i, done, rest, h, _, _, _ => by simp at h
  | (n, v) :: ps, g :: gs, i, done, rest, h, hd, hl, hp => by
    simp only [List.map_cons, List.length_cons, List.range'_succ, List.cons.injEq] at h
    obtain ⟨rfl, hi⟩ := h
    obtain ⟨h1, h2⟩ := hp 0 (n, v) g (by simp) (by simp)
    have hmul : (gs.length + 1) * k = gs.length * k + k := by rw [Nat.add_mul, Nat.one_mul]
    have hl' : gs.length * k + k ≤ rest.length := by rw [← hmul]; simpa using hl
    rw [fill_step (off := n * k) (size := k) rfl h1 h2 (by rw [List.length_append, hd, h2]; omega)]
    have e : (done ++ rest).take (n * k) ++ g ++ (done ++ rest).drop (n * k + g.length) = (done ++ g) ++ rest.drop k := by
      rw [← hd, List.take_left, List.drop_append, List.drop_of_length_le (Nat.le_add_right _ _), Nat.add_sub_cancel_left, h2]; simp
    rw [e, fill_parts ps gs (n + 1) (done ++ g) (rest.drop k) hi (by rw [List.length_append, hd, h2, Nat.add_mul, Nat.one_mul]) (by rw [List.length_drop]; omega) (fun j p g hj hg => hp (j + 1) p g (by simpa using hj) (by simpa using hg))]
    simp only [List.flatten_cons, List.append_assoc, List.drop_drop, List.length_cons, hmul, Nat.add_comm k]

/-- Groups of cells, owned one by one. -/
inductive OwnL {α : Type} [Rep α] : List Atom → List (List Value) → List α → List Atom → Prop
  | nil {Γ : List Atom} : OwnL Γ [] [] Γ
  | cons {Γ Δ Ε : List Atom} {c : List Value} {cs : List (List Value)} {x : α} {xs : List α} : Own Γ c x Δ → OwnL Δ cs xs Ε → OwnL Γ (c :: cs) (x :: xs) Ε

theorem OwnL.sep {α : Type} [Rep α] {ok : Nat → Prop} {w : World} : ∀ {Γ : List Atom} {gs : List (List Value)} {xs : List α} {Δ : List Atom}, OwnL Γ gs xs Δ → ∀ {F : List Nat}, Sep ok w Γ F →
    ∃ f g, (f ++ g).Perm F ∧ OwL ok w f gs.flatten xs ∧ Sep ok w Δ g ∧ gs.length = xs.length
  | _, _, _, _, .nil, F, hs => ⟨[], F, .refl _, ⟨rfl, rfl⟩, hs, rfl⟩
  | _, _, _, _, .cons h h', F, hs => by
    obtain ⟨G, hG, f, g, rfl, h1, h2⟩ := h hs
    obtain ⟨f', g', hp, h3, h4, h5⟩ := OwnL.sep h' h2
    exact ⟨f ++ f', g', by rw [List.append_assoc]; exact (hp.append_left f).trans hG, ⟨f, f', _, _, rfl, rfl, h1, h3⟩, h4, by simp [h5]⟩

theorem run_buildSlice {T e n : Nat} {i : TypeInfo} {z : Value} {parts : Array (Nat × Value)} {cells : List Value} (ht : P.underlying T = some (.slice e)) (hi : P.info? e = some i) (hz : i.zero = some z) (hnk : n * i.size ≤ 16777216)
    (hfill : ∀ zr : List Value, zr.length = n * i.size → Instr.fill (fun j => some (j * i.size, i.size)) zr.toArray parts.toList = some cells.toArray) (w : World) :
    (Instr.buildSlice T n parts).run P w = .ok (.slice (some ⟨w.heap.size, 0, none⟩) n n) (w.alloc (.cells cells.toArray e)) := by
  have hnk' : ¬ (16777216 < n * i.size) := by omega
  have hf : ∀ zr : Array Value, zr.size = n * i.size → Instr.fill (fun j => some (j * i.size, i.size)) zr parts.toList = some cells.toArray := fun zr h => by
    have := hfill zr.toList (by simpa using h)
    simpa using this
  by_cases h0 : n * i.size = 0
  · have := hf ((Array.range 0).map (fun j => (#[] : Array Value)[j % 0]!)) (by simp [h0])
    simp [Instr.buildSlice, run_underlying ht, sizeOf, typeInfo, hi, h0] at this ⊢
    simp [this, newRow]
  · have := hf ((Array.range (n * i.size)).map (fun j => z.cells[j % z.cells.size]!)) (by simp)
    simp only [Instr.buildSlice, sizeOf, zeroValue, typeInfo, Sem.run_bind, run_underlying ht, Result.andThen_ok]
    simp [hi, hz, h0, hnk', this, newRow]

/-- []T{a, b, ..} -/
theorem wl_buildSlice {α : Type} [iα : Rep α] {T k by_ n : Nat} {ps : List (Nat × Operand)} {groups : List (List Value)} {xs : List α} [hT : Sl P T k by_] [hp : PartsL Γ l k 0 ps groups] (ho : OwnL Γ groups xs Δ) (hk : k = Rep.sz α) (hn : n = xs.length) (hnk : n * k ≤ 16777216)
    (h : ∀ sv, WL P ops Q w0 rest (l.set d sv) (.ow [sv] xs :: Δ)) : WL P ops Q w0 (⟨some d, .buildSlice T n ps.toArray, ty, pos, after, none⟩ :: rest) l Γ := by
  intro w hs
  obtain ⟨e, i, z, ht, hi, hik, hib, hz, hzk, hpos⟩ := hT.ex
  obtain ⟨hb, F, hnd, hl, hsep⟩ := hs
  obtain ⟨f, g, hperm, hO, hsep', hlen⟩ := ho.sep hsep
  have hgl : groups.length = n := hlen.trans hn.symm
  have hfl : groups.flatten.length = n * k := by rw [hO.len, hn, hk]
  have hn2 : n ≤ n * k := Nat.le_mul_of_pos_right _ (by rw [hk]; exact Rep.pos)
  have hidx : (ps.map fun p => (p.1, (E l).eval p.2)).map (·.1) = List.range' 0 groups.length := by
    rw [List.map_map]; exact hp.idx
  have hr := run_buildSlice (P := P) (n := n) (parts := ps.toArray.map fun (i, x) => (i, (E l).eval x)) (cells := groups.flatten) ht hi hz (by rw [hik]; exact hnk) (fun zr hzr => by
    have hfill := fill_parts (k := k) (ps.map fun p => (p.1, (E l).eval p.2)) groups 0 [] zr hidx (by simp) (by rw [hgl, hzr, hik]; exact Nat.le_refl _) (fun j p gg hj hg => by
      simp only [List.getElem?_map, Option.map_eq_some_iff] at hj
      obtain ⟨q, hq, rfl⟩ := hj
      have := hp.run hsep j q gg hq hg
      exact ⟨this.1, this.2.1⟩)
    rw [List.drop_of_length_le (by rw [hgl, hzr, hik]; exact Nat.le_refl _)] at hfill
    simpa [hik] using hfill) w
  refine wl_op (v := .slice (some ⟨w.heap.size, 0, none⟩) n n) (w' := w.alloc (.cells groups.flatten.toArray e)) rfl (run_value (f := Next.value) hr) ?_
  rw [E_put]
  refine h _ _ ?_
  have hfn : (f ++ g).Nodup := hperm.symm.nodup hnd
  have hlt : ∀ b ∈ f, b < w.heap.size := hO.lt
  refine Sat.step' (Δ' := [.ow [_] xs]) (Γ := Δ) (f := f) (g := g) hb hfn (fun b hb => hl b (hperm.mem_iff.1 hb)) (hsep'.mono (fun b hb _ => ⟨fun h => hb (hperm.mem_iff.1 h), rfl⟩) (Nat.le_refl _) (fun _ _ => rfl))
    ⟨rfl, rfl, rfl, by simp, (by first | exact Nat.le_refl _ | exact Nat.le_add_right _ _)⟩ (fun b hb _ => Below.heap_alloc _ _ _ hb) (w.heap.size :: f) (List.nodup_cons.2 ⟨fun h => Nat.lt_irrefl _ (hlt _ h), (List.nodup_append.1 hfn).1⟩)
    (fun b hb => by
      rcases List.mem_cons.1 hb with rfl | hb
      · exact .inr (Nat.le_refl _)
      · exact .inl hb) (fun ok' hok' => ⟨w.heap.size :: f, [], by simp, ?_, rfl⟩)
  show Rep.ow _ _ _ _ _
  rw [ow_list]
  refine .inr ⟨w.heap.size, n, _, e, f, groups.flatten, by rw [hn], rfl, heap_alloc_new w _, by omega, by simp only [maxLen]; omega, by omega, by simp [hfl, hk], ?_, ?_⟩
  · rw [List.toList_toArray, ← hn, ← hk, ← hfl, List.take_length]
  · exact hO.mono (fun b hb hlt => ⟨hok' b (fun h => hb (hperm.mem_iff.1 h)) hlt, Below.heap_alloc _ _ _ hlt⟩) (fun b hb => Below.heap_alloc _ _ _ (hlt b hb))

/-- out[i] = x, out the call's own. -/
theorem wl_store_elem {α : Type} {iα : Rep α} {T k kk : Nat} {x y : Operand} {sv : Value} {n : Int} {xs : List α} {vc : List Value} {u : α} [hx : Ev l x (.pointer (some (elemA sv n k)))] [hy : Ev l y v] [hc : Cs Γ v vc] [hT : Sz P T kk] [h1 : PullOw (List α) repList Γ [sv] xs Δ]
    (ho : Own Δ vc u Ε) (hk : k = Rep.sz α) (hkk : kk = Rep.sz α) (hi : 0 ≤ n ∧ n < xs.length) (h : WL P ops Q w0 rest l (.ow [sv] (xs.set n.toNat u) :: Ε)) :
    WL P ops Q w0 (⟨none, .store T x y, ty, pos, after, none⟩ :: rest) l Γ := by
  intro w hs
  obtain ⟨hvc, hone⟩ := hs.cs (hc := hc)
  obtain ⟨hb, F, hnd, hl, f, g, rfl, hf, hΔ⟩ := hs.perm h1.perm
  obtain ⟨g2, hg2, fx, ge, rfl, hx2, hE⟩ := ho hΔ
  have how : Rep.ow (· ∉ f ++ g) w f [sv] xs := hf
  have hux : Rep.ow (· ∉ f ++ g) w fx vc u := hx2
  have hvl : vc.length = Rep.sz α := Rep.rd_len (x := u) (Rep.ow_rd (ok' := fun _ => True) hux (fun _ _ => trivial) (fun _ _ => trivial))
  rw [ow_list] at how
  rcases how with ⟨_, rfl, rfl⟩ | ⟨b, cap, cur, e, G, cells, hov, rfl, hgb, hcap, hcapm, hlen, hcs, htake, hO⟩
  · simp at hi; omega
  simp only [List.cons.injEq, and_true] at hov
  subst hov
  have hin : n.toNat < xs.length := by omega
  obtain ⟨f1, fo, f2, p, c, s, rfl, hcells, hold, hO1, hO2⟩ := hO.get n.toNat hin
  have hpl : p.length = n.toNat * Rep.sz α := by rw [hO1.len, List.length_take]; congr 1; omega
  have hcl : c.length = Rep.sz α := Rep.rd_len (x := xs[n.toNat]) (Rep.ow_rd (ok' := fun _ => True) hold (fun _ _ => trivial) (fun _ _ => trivial))
  have htl : cells.length = xs.length * Rep.sz α := hO.len
  have hcur : cur.toList = p ++ c ++ s ++ cur.toList.drop (xs.length * Rep.sz α) := by rw [← hcells, ← htake]; simp
  have hle : p.length + 0 + vc.length ≤ cur.size := by
    have := congrArg List.length hcur
    simp only [List.length_append, Array.length_toList] at this
    omega
  have hr := run_storeCells_at P b p.length e vc 0 cur w hgb hle hone
  simp only [Nat.add_zero] at hr
  have hnew : cur.toList.take p.length ++ vc ++ cur.toList.drop (p.length + vc.length) = p ++ vc ++ s ++ cur.toList.drop (xs.length * Rep.sz α) := by
    have e1 : cur.toList.take p.length = p := by rw [hcur]; simp
    have e2 : cur.toList.drop (p.length + vc.length) = s ++ cur.toList.drop (xs.length * Rep.sz α) := by
      conv => lhs; rw [hcur]
      rw [show p ++ c ++ s ++ cur.toList.drop (xs.length * Rep.sz α) = (p ++ c) ++ (s ++ cur.toList.drop (xs.length * Rep.sz α)) by simp]
      rw [List.drop_append, List.drop_of_length_le (by rw [List.length_append, hvl, hcl]; exact Nat.le_refl _), List.nil_append, List.length_append, hcl, hvl, Nat.sub_self, List.drop_zero]
    rw [e1, e2]; simp
  rw [hnew] at hr
  have hfn : (b :: (f1 ++ fo ++ f2) ++ (fx ++ ge)).Nodup := (hg2.append_left _).symm.nodup hnd
  refine wpList_plain rfl fun K hK => ?_
  unfold Oper.wp
  have hrun : (execOp (E l).eval ⟨none, .store T x y, ty, pos, after, none⟩).run P w = .ok .skip (w.setRow b (p ++ vc ++ s ++ cur.toList.drop (xs.length * Rep.sz α)).toArray) := by
    show (do Instr.storeAt T ((E l).eval x) ((E l).eval y); pure Next.skip : Sem Next).run P w = _
    have hea : elemA (.slice (some ⟨b, 0, none⟩) xs.length cap) n k = ⟨b, p.length, none⟩ := by
      simp only [elemA, add_lit, Nat.zero_add, hk, hpl]
    simp only [hx.eq, hy.eq, Sem.run_bind, Instr.storeAt, Instr.sureAddr, Sem.run_pure, Result.andThen_ok, storeVar, hT.size, hvc, hea]
    simp only [List.size_toArray, hvl, hkk, ne_eq, not_true_eq_false, if_false, Sem.run_pure, Result.andThen_ok, Sem.run_bind]
    simp only [hr, Result.andThen_ok]
  rw [hrun, Oper.upon_skip, E_put_none]
  refine hK _ _ (h _ ?_)
  have hblt : b < w.heap.size := (Array.getElem?_eq_some_iff.1 hgb).1
  have hsame : ∀ k, k ≠ b → SameB w (w.setRow b (p ++ vc ++ s ++ cur.toList.drop (xs.length * Rep.sz α)).toArray) k := fun k hk => setRow_other w b k _ hk
  have hmem : ∀ k, k ∈ (b :: (f1 ++ fo ++ f2)) ++ (fx ++ ge) ↔ k ∈ (b :: (f1 ++ fo ++ f2)) ++ g := fun k => (hg2.append_left _).mem_iff
  have hnd1 := List.nodup_append.1 hfn
  refine Sat.step' (Δ' := [.ow [_] (xs.set n.toNat u)]) (Γ := Ε) (f := (b :: (f1 ++ fo ++ f2)) ++ fx) (g := ge) (w := w) hb (by rw [List.append_assoc]; exact hfn) (fun k hk => hl k (by rw [← hmem k, ← List.append_assoc]; exact hk)) (hE.mono (fun k hk _ => ⟨fun h => hk (by rw [← hmem k, ← List.append_assoc]; exact h), rfl⟩) (Nat.le_refl _) (fun _ _ => rfl))
    ⟨rfl, rfl, rfl, by simp, (by first | exact Nat.le_refl _ | exact Nat.le_add_right _ _)⟩ (fun k _ hk => hsame k (fun h => hk (by simp [h]))) (b :: (f1 ++ fx ++ f2)) ?_ ?_ (fun ok' hok' => ⟨b :: (f1 ++ fx ++ f2), [], by simp, ?_, rfl⟩)
  · have h2 := hnd1.1
    have h3 := (List.nodup_append.1 hnd1.2.1).1
    have h4 := hnd1.2.2
    simp only [List.nodup_cons, List.nodup_append, List.mem_append, List.mem_cons, not_or] at h2 h4 ⊢
    obtain ⟨⟨⟨hb1, hbo⟩, hb2⟩, ⟨⟨n1, no, d1⟩, n2, d2⟩⟩ := h2
    refine ⟨⟨⟨hb1, fun hm => h4 b (.inl rfl) b (.inl hm) rfl⟩, hb2⟩, ⟨n1, h3, fun a ha c hc => h4 a (.inr (.inl (.inl ha))) c (.inl hc)⟩, n2, ?_⟩
    rintro a (ha | ha) c hc
    · exact d2 a (.inl ha) c hc
    · exact fun e => h4 c (.inr (.inr hc)) a (.inl ha) e.symm
  · intro k hk
    left
    simp only [List.mem_cons, List.mem_append] at hk ⊢
    rcases hk with h | ((h | h) | h)
    · exact .inl (.inl h)
    · exact .inl (.inr (.inl (.inl h)))
    · exact .inr h
    · exact .inl (.inr (.inr h))
  · show Rep.ow _ _ _ _ _
    rw [ow_list]
    have hok2 : ∀ k, k ∉ (b :: (f1 ++ fo ++ f2)) ++ g → k < w.heap.size → ok' k ∧ SameB w (w.setRow b (p ++ vc ++ s ++ cur.toList.drop (xs.length * Rep.sz α)).toArray) k :=
      fun k hk hlt => ⟨hok' k (fun h => hk (by rw [← hmem k, ← List.append_assoc]; exact h)) hlt, hsame k (fun h => hk (by simp [h]))⟩
    have hbG : b ∉ f1 ++ fo ++ f2 := (List.nodup_cons.1 hnd1.1).1
    refine .inr ⟨b, cap, _, e, f1 ++ fx ++ f2, p ++ vc ++ s, by simp, rfl, setRow_heap w b cur _ e _ hgb, by simpa using hcap, hcapm, by simpa using hlen, ?_, ?_, ?_⟩
    · have := congrArg List.length hcur
      simp only [List.length_append, Array.length_toList] at this
      simp only [List.size_toArray, List.length_append]
      omega
    · rw [List.toList_toArray, List.length_set, List.take_append_of_le_length]
      · rw [List.take_of_length_le]
        have := congrArg List.length hcells
        simp only [List.length_append] at this ⊢
        omega
      · have := congrArg List.length hcells
        simp only [List.length_append] at this ⊢
        omega
    · have hset : xs.set n.toNat u = xs.take n.toNat ++ [u] ++ xs.drop (n.toNat + 1) := by
        rw [List.set_eq_take_append_cons_drop, if_pos hin]; simp
      rw [hset]
      have hmid : OwL ok' (w.setRow b (p ++ vc ++ s ++ cur.toList.drop (xs.length * Rep.sz α)).toArray) fx vc [u] :=
        ⟨fx, [], vc, [], by simp, by simp, Rep.ow_mono hux (fun k hk => hsame k (fun h => hnd1.2.2 b (by simp) k (by simp [hk]) h.symm)) hok2, rfl, rfl⟩
      exact OwL.append (hO2.mono hok2 (fun k hk => hsame k (fun h => hbG (by simp [← h, hk])))) (OwL.append hmid (hO1.mono hok2 (fun k hk => hsame k (fun h => hbG (by simp [← h, hk])))))
end ops

end Go.Eng
namespace Go.Eng
open Go Go.RowKit
set_option linter.unusedVariables false
set_option linter.unusedSimpArgs false

/-- How an element's cells look: some of them are values of which an atom speaks. -/
class Un (α : Type) [Rep α] where
  Pr : Type
  cells : Pr → α → List Value
  atoms : Pr → α → List Atom
  fact : α → Prop
  law : ∀ {ok w cs} {x : α}, Rep.rd ok w cs x → ∃ p, cs = cells p x ∧ Sep ok w (atoms p x) [] ∧ fact x
  len : ∀ (p : Pr) (x : α), (cells p x).length = Rep.sz α
  ext : ∀ {ok w} {p : Pr} {x : α}, Rep.rd ok w (cells p x) x → Sep ok w (atoms p x) []

instance unInt : Un Int := ⟨Unit, fun _ n => [.int .i64 n], fun _ _ => [], fun n => -9223372036854775808 ≤ n ∧ n ≤ 9223372036854775807, fun h => ⟨(), h.1, rfl, h.2⟩, fun _ _ => rfl, fun _ => rfl⟩
instance unBool : Un Bool := ⟨Unit, fun _ b => [.bool b], fun _ _ => [], fun _ => True, fun h => ⟨(), h, rfl, trivial⟩, fun _ _ => rfl, fun _ => rfl⟩
instance unStr : Un ByteArray := ⟨Unit, fun _ s => [.string s], fun _ _ => [], fun s => s.size ≤ 9223372036854775807, fun h => ⟨(), h.1, rfl, h.2⟩, fun _ _ => rfl, fun _ => rfl⟩
instance unU8 : Un UInt8 := ⟨Unit, fun _ n => [.int .u8 n.toNat], fun _ _ => [], fun _ => True, fun h => ⟨(), h, rfl, trivial⟩, fun _ _ => rfl, fun _ => rfl⟩
instance unList {α : Type} [Rep α] : Un (List α) := ⟨Value, fun c _ => [c], fun c xs => [.rd [c] xs], fun xs => xs.length ≤ 9223372036854775807, fun {ok w cs xs} h => by
  have h' := h
  obtain ⟨a, cap, rfl, _, _, hl, _⟩ := h'
  exact ⟨_, rfl, ⟨[], [], rfl, ⟨rfl, h⟩, rfl⟩, hl⟩, fun _ _ => rfl, fun h => ⟨[], [], rfl, ⟨rfl, h⟩, rfl⟩⟩
instance unProd {α β : Type} [Rep α] [Rep β] [ua : Un α] [ub : Un β] : Un (α × β) := ⟨ua.Pr × ub.Pr, fun p x => ua.cells p.1 x.1 ++ ub.cells p.2 x.2, fun p x => ua.atoms p.1 x.1 ++ ub.atoms p.2 x.2, fun x => ua.fact x.1 ∧ ub.fact x.2, fun h => by
  obtain ⟨c, d, rfl, h1, h2⟩ := h
  obtain ⟨p, rfl, hp, hf⟩ := ua.law h1
  obtain ⟨q, rfl, hq, hg⟩ := ub.law h2
  exact ⟨(p, q), rfl, Sep.append hq hp, hf, hg⟩,
  fun p x => by rw [List.length_append, ua.len, ub.len]; rfl,
  fun {ok w p x} h => by
    obtain ⟨c, d, he, h1, h2⟩ := h
    have hl1 := Rep.rd_len h1
    obtain ⟨rfl, rfl⟩ := List.append_inj he (by rw [ua.len, hl1])
    exact Sep.append (ub.ext h2) (ua.ext h1)⟩
instance unSh {α : Type} [Rep α] [ua : Un α] : Un (Sh α) := ⟨ua.Pr, fun p x => ua.cells p x.v, fun p x => ua.atoms p x.v, fun x => ua.fact x.v, fun h => ua.law h, fun p x => ua.len p x.v, fun h => ua.ext h⟩

section un
set_option linter.unusedSectionVars false
variable {α β : Type} [Rep α] [Rep β] [Un α] [Un β]
theorem unc_int (p : Unit) (n : Int) : Un.cells (α := Int) p n = [.int .i64 n] := rfl
theorem unc_bool (p : Unit) (n : Bool) : Un.cells (α := Bool) p n = [.bool n] := rfl
theorem unc_str (p : Unit) (n : ByteArray) : Un.cells (α := ByteArray) p n = [.string n] := rfl
theorem unc_u8 (p : Unit) (n : UInt8) : Un.cells (α := UInt8) p n = [.int .u8 n.toNat] := rfl
theorem unc_list (c : Value) (x : List α) : Un.cells (α := List α) c x = [c] := rfl
theorem unc_prod (p : Un.Pr α) (q : Un.Pr β) (x : α × β) : Un.cells (α := α × β) (p, q) x = Un.cells p x.1 ++ Un.cells q x.2 := rfl
theorem una_int (p : Unit) (n : Int) : Un.atoms (α := Int) p n = [] := rfl
theorem una_bool (p : Unit) (n : Bool) : Un.atoms (α := Bool) p n = [] := rfl
theorem una_str (p : Unit) (n : ByteArray) : Un.atoms (α := ByteArray) p n = [] := rfl
theorem una_u8 (p : Unit) (n : UInt8) : Un.atoms (α := UInt8) p n = [] := rfl
theorem una_list (c : Value) (x : List α) : Un.atoms (α := List α) c x = [.rd [c] x] := rfl
theorem una_prod (p : Un.Pr α) (q : Un.Pr β) (x : α × β) : Un.atoms (α := α × β) (p, q) x = Un.atoms p x.1 ++ Un.atoms q x.2 := rfl
end un

theorem Sat.addSep {w0 w : World} {Γ Δ : List Atom} (h : Sat w0 w Γ) (hd : ∀ F, Sep (· ∉ F) w Γ F → Sep (· ∉ F) w Δ []) : Sat w0 w (Δ ++ Γ) := by
  obtain ⟨hb, F, hn, hl, hs⟩ := h
  exact ⟨hb, F, hn, hl, by simpa using Sep.append hs (hd F hs)⟩

section ops
variable {P : Program} {ops : Array Oper} {Q : Exit → Act → World → Prop} {w0 : World} {rest : List Oper} {l l' : List Value} {Γ Δ Ε : List Atom} {ty : TypeId} {v : Value} {pos : String} {after : Array Edge} {d : Nat}

theorem peek_sat {α : Type} {iα : Rep α} [inh : Inhabited α] [un : Un α] {w : World} {sv : Value} {n : Int} {xs : List α} [hr : HasIm (List α) repList Γ [sv] xs] (hi : 0 ≤ n ∧ n < xs.length) (hs : Sat w0 w Γ) :
    ∃ p : Un.Pr α, Un.fact (xs.getD n.toNat default) ∧ Sat w0 w (.pt (elemA sv n (Rep.sz α)) (Un.cells p (xs.getD n.toNat default)) :: (Un.atoms p (xs.getD n.toNat default) ++ Γ)) := by
  have hin : n.toNat < xs.length := by omega
  have hget : xs.getD n.toNat default = xs[n.toNat] := by rw [List.getD_eq_getElem?_getD, List.getElem?_eq_getElem hin, Option.getD_some]
  obtain ⟨hb, F, hn, hl, hsep⟩ := hs
  obtain ⟨a, cap, b, off, p, c, s, rfl, ha, hok, hca, hp, hea, hrd⟩ := elem_cells (hr.get hsep) hi.1 hi.2
  rw [← hget] at hrd
  obtain ⟨q, rfl, hq, hf⟩ := un.law hrd
  refine ⟨q, hf, hb, F, hn, hl, [], F, rfl, ⟨rfl, ?_⟩, by simpa using Sep.append hsep hq⟩
  rw [hea]
  have hlen := Rep.rd_len hrd
  refine ⟨hok, hca.lt (by have := Rep.pos (α := α); simp only [List.length_append]; omega), fun j hj => ?_⟩
  rw [add_lit]
  exact hca.part j hj

/-- An element's cells are laid open. -/
theorem wl_peek {α : Type} {iα : Rep α} [inh : Inhabited α] [un : Un α] (sv : Value) (n : Int) {xs : List α} [hr : HasIm (List α) repList Γ [sv] xs] (hi : 0 ≤ n ∧ n < xs.length)
    (h : ∀ p : Un.Pr α, Un.fact (xs.getD n.toNat default) → WL P ops Q w0 rest l (.pt (elemA sv n (Rep.sz α)) (Un.cells p (xs.getD n.toNat default)) :: (Un.atoms p (xs.getD n.toNat default) ++ Γ))) : WL P ops Q w0 rest l Γ := fun w hs => by
  obtain ⟨p, hf, hs'⟩ := peek_sat (hr := hr) hi hs
  exact h p hf w hs'
theorem wc_peek {α : Type} {iα : Rep α} [inh : Inhabited α] [un : Un α] {c : Code} (sv : Value) (n : Int) {xs : List α} [hr : HasIm (List α) repList Γ [sv] xs] (hi : 0 ≤ n ∧ n < xs.length)
    (h : ∀ p : Un.Pr α, Un.fact (xs.getD n.toNat default) → WC P Q w0 c l (.pt (elemA sv n (Rep.sz α)) (Un.cells p (xs.getD n.toNat default)) :: (Un.atoms p (xs.getD n.toNat default) ++ Γ))) : WC P Q w0 c l Γ := fun w hs => by
  obtain ⟨p, hf, hs'⟩ := peek_sat (hr := hr) hi hs
  exact h p hf w hs'

/-- Types whose elements are read at once. -/
class Flat (α : Type) : Prop where
  t : True
instance : Flat Int := ⟨trivial⟩
instance : Flat Bool := ⟨trivial⟩
instance : Flat ByteArray := ⟨trivial⟩
instance : Flat UInt8 := ⟨trivial⟩
class Deep_ (α : Type) : Prop where
  t : True
instance {α : Type} : Deep_ (List α) := ⟨trivial⟩
instance {α β : Type} : Deep_ (α × β) := ⟨trivial⟩
instance {α : Type} : Deep_ (Sh α) := ⟨trivial⟩

theorem wl_index_flat {α : Type} {iα : Rep α} [fl : Flat α] {T k by_ : Nat} {x y : Operand} {sv : Value} {n : Int} {kk : IntKind} {xs : List α} [hx : Ev l x sv] [hy : Ev l y (.int kk n)] [hT : Sl P T k by_] [hr : HasRd (List α) repList Γ [sv] xs]
    (hi : 0 ≤ n ∧ n < xs.length) [hd : Se l d (.pointer (some (elemA sv n k))) l'] (h : WL P ops Q w0 rest l' Γ) : WL P ops Q w0 (⟨some d, .indexAddr T x y, ty, pos, after, none⟩ :: rest) l Γ :=
  wl_pure (pu_index hi) h
theorem wl_index_pt {α : Type} {iα : Rep α} {T k by_ : Nat} {x y : Operand} {sv : Value} {n : Int} {kk : IntKind} {xs : List α} {cs : List Value} [hx : Ev l x sv] [hy : Ev l y (.int kk n)] [hT : Sl P T k by_] [hr : HasRd (List α) repList Γ [sv] xs] [hp : HasPt Γ (elemA sv n k) cs]
    (hi : 0 ≤ n ∧ n < xs.length) [hd : Se l d (.pointer (some (elemA sv n k))) l'] (h : WL P ops Q w0 rest l' Γ) : WL P ops Q w0 (⟨some d, .indexAddr T x y, ty, pos, after, none⟩ :: rest) l Γ :=
  wl_pure (pu_index hi) h

/-- xs[n] of which nothing is laid open yet. -/
theorem wl_index_deep {α : Type} {iα : Rep α} [inh : Inhabited α] [un : Un α] [dp : Deep_ α] {T k by_ : Nat} {x y : Operand} {sv : Value} {n : Int} {kk : IntKind} {xs : List α} [hx : Ev l x sv] [hy : Ev l y (.int kk n)] [hT : Sl P T k by_] [hr : HasIm (List α) repList Γ [sv] xs]
    (hk : k = Rep.sz α) (hi : 0 ≤ n ∧ n < xs.length) [hd : Se l d (.pointer (some (elemA sv n k))) l']
    (h : ∀ (p : Un.Pr α) (cs : List Value) (as : List Atom), Un.cells p (xs.getD n.toNat default) = cs → Un.atoms p (xs.getD n.toNat default) ++ Γ = as → Un.fact (xs.getD n.toNat default) → WL P ops Q w0 rest l' (.pt (elemA sv n k) cs :: as)) :
    WL P ops Q w0 (⟨some d, .indexAddr T x y, ty, pos, after, none⟩ :: rest) l Γ := by
  refine wl_peek sv n hi fun p hf => ?_
  rw [← hk]
  intro w hs
  have hs0 : Sat w0 w Γ := Sat.dropN (Δ := .pt _ _ :: Un.atoms p _) hs
  refine wpList_plain rfl fun K hK => ?_
  unfold Oper.wp
  rw [pu_index (ty := ty) (hr := HasRd.im) hi w hs0 _ rfl rfl, Oper.upon_value, E_put, hd.eq]
  exact hK _ _ (h p _ _ rfl rfl hf w hs)

/-- A field of an element, its cells laid open. -/
theorem pu_load_ptf {T off : Nat} {x : Operand} {p : Addr} {cs : List Value} [h : Ev l x (.pointer (some (p.add off)))] [hT : Sc P T] [hp : HasPt Γ p cs] [hv : Ge cs off v] : Pu P w0 l Γ (.load T x) ty v :=
  pu_of (s := Instr.loadAt T (.pointer (some (p.add off)))) (fun o ho _ => by unfold execOp; rw [ho]; simp only [h.eq]) (fun w hs => by
    have hlt : off < cs.length := (List.getElem?_eq_some_iff.1 hv.eq).1
    have := hs.pt (hr := hp) off hlt
    rw [hv.eq] at this
    simp [Instr.loadAt, Instr.sureAddr, loadVar, Sem.run_bind, hT.agg, load, Sem.run, this])
theorem pu_load_ptf_agg {T off k : Nat} {x : Operand} {p : Addr} {cs out : List Value} [h : Ev l x (.pointer (some (p.add off)))] [hT : Ag P T k] [hp : HasPt Γ p cs] [hv : Tk cs off k out] : Pu P w0 l Γ (.load T x) ty (.agg out.toArray) :=
  pu_of (s := Instr.loadAt T (.pointer (some (p.add off)))) (fun o ho _ => by unfold execOp; rw [ho]; simp only [h.eq]) (fun w hs => by
    obtain ⟨h1, h2⟩ := hv.eq
    have hk : out.length = k := by rw [← h1]; simp; omega
    have hc := run_loadCells (P := P) (w := w) (p := p.add off) (cs := out) 0 #[] (fun j hj => by
      rw [Nat.zero_add]
      have hcell := hs.pt (hr := hp) (off + j) (by omega)
      have e : (p.add off).add j = p.add (off + j) := by
        by_cases h0 : off = 0
        · subst h0; simp [Addr.add]
        · exact add_add p off j
      rw [e, hcell, ← h1, List.getElem?_take, if_pos (by omega), List.getElem?_drop])
    rw [hk] at hc
    simp only [Instr.loadAt, Instr.sureAddr, loadVar, Sem.run_bind, Sem.run_pure, Result.andThen_ok, hT.agg, if_true, hT.size, loadCells, hc]
    simp)

/-! ### s[lo:hi] -/
theorem slice_rd {α : Type} [Rep α] {ok : Nat → Prop} {w : World} {a : Option Addr} {cap lo hi : Nat} {xs : List α} (h : Rep.rd ok w [.slice a xs.length cap] xs) (h1 : lo ≤ hi) (h2 : hi ≤ xs.length) :
    Rep.rd ok w [.slice (if cap = lo then a else a.map (·.add (lo * Rep.sz α))) (hi - lo) (cap - lo)] ((xs.take hi).drop lo) := by
  obtain ⟨a', cap', hc, hl1, hl2, hl3, hr⟩ := h
  simp only [List.cons.injEq, Value.slice.injEq, and_true, true_and] at hc
  obtain ⟨rfl, rfl⟩ := hc
  have hlen : ((xs.take hi).drop lo).length = hi - lo := by rw [List.length_drop, List.length_take]; omega
  refine ⟨_, cap - lo, by rw [hlen], by omega, by omega, by omega, fun hp => ?_⟩
  obtain ⟨b, off, cells, rfl, hok, hca, hrd⟩ := hr (by omega)
  have hne : ¬ cap = lo := by omega
  refine ⟨b, off + lo * Rep.sz α, (cells.take (hi * Rep.sz α)).drop (lo * Rep.sz α), by simp [hne, add_lit], hok, ?_, ?_⟩
  · have hcl := hrd.len
    intro j hj
    rw [List.length_drop, List.length_take] at hj
    rw [List.getElem?_drop, List.getElem?_take, if_pos (by omega), Nat.add_assoc]
    exact hca _ (by omega)
  · have := (hrd.cut hi h2).1
    exact (this.cut lo (by rw [List.length_take]; omega)).2

theorem run_slice {T e : Nat} {i : TypeInfo} {a : Option Addr} {n cap lo hi : Nat} {vlo vhi : Option Value} (ht : P.underlying T = some (.slice e)) (hi' : P.info? e = some i)
    (hlo : vlo = none ∧ lo = 0 ∨ ∃ k, vlo = some (.int k lo)) (hhi : vhi = none ∧ hi = n ∨ ∃ k, vhi = some (.int k hi)) (h1 : lo ≤ hi) (h2 : hi ≤ cap) (w : World) :
    (Instr.sliceAt T (.slice a n cap) vlo vhi none).run P w = .ok (.slice (if cap = lo then a else a.map (·.add (lo * i.size))) (hi - lo) (cap - lo)) w := by
  rcases hlo with ⟨rfl, rfl⟩ | ⟨k, rfl⟩ <;> rcases hhi with ⟨rfl, rfl⟩ | ⟨k', rfl⟩ <;>
    simp [Instr.sliceAt, Instr.slice, Instr.sliceBounds, Instr.sliceBound, asIntOf, run_underlying ht, sizeOf, typeInfo, hi', h1, h2]

theorem wl_slice_core {α : Type} {iα : Rep α} {T k by_ : Nat} {x : Operand} {olo ohi : Option Operand} {sv : Value} {lo hi : Nat} {xs : List α} [hx : Ev l x sv] [hT : Sl P T k by_] [hr : HasIm (List α) repList Γ [sv] xs] (hk : k = Rep.sz α)
    (hlo : olo = none ∧ lo = 0 ∨ ∃ o kk, olo = some o ∧ (E l).eval o = .int kk lo) (hhi : ohi = none ∧ hi = xs.length ∨ ∃ o kk, ohi = some o ∧ (E l).eval o = .int kk hi) (h1 : lo ≤ hi) (h2 : hi ≤ xs.length)
    (h : ∀ sv', WL P ops Q w0 rest (l.set d sv') (.rd [sv'] ((xs.take hi).drop lo) :: Γ)) : WL P ops Q w0 (⟨some d, .slice T x olo ohi none, ty, pos, after, none⟩ :: rest) l Γ := by
  intro w hs
  obtain ⟨e, i, z, ht, hi', hik, hib, hz, hzk, hpos⟩ := hT.ex
  obtain ⟨hb, F, hn, hl, hsep⟩ := hs
  have hrd := hr.get hsep
  obtain ⟨a, cap, hc, hcap, _⟩ := hrd
  simp only [List.cons.injEq, and_true] at hc
  subst hc
  have hrun := run_slice (P := P) (T := T) (a := a) (n := xs.length) (cap := cap) (lo := lo) (hi := hi) (vlo := olo.map (E l).eval) (vhi := ohi.map (E l).eval) ht hi'
    (by rcases hlo with ⟨rfl, h⟩ | ⟨o, kk, rfl, h⟩
        · exact .inl ⟨rfl, h⟩
        · exact .inr ⟨kk, by simp [h]⟩)
    (by rcases hhi with ⟨rfl, h⟩ | ⟨o, kk, rfl, h⟩
        · exact .inl ⟨rfl, h⟩
        · exact .inr ⟨kk, by simp [h]⟩) h1 (by omega) w
  have hrd2 := slice_rd (hr.get hsep) h1 h2
  rw [← hk, ← hik] at hrd2
  refine wl_op rfl (v := .slice (if cap = lo then a else a.map (·.add (lo * i.size))) (hi - lo) (cap - lo)) (w' := w) ?_ ?_
  · refine run_value (f := Next.value) (s := Instr.sliceAt T ((E l).eval x) (olo.map (E l).eval) (ohi.map (E l).eval) (Option.map (E l).eval none)) ?_
    rw [hx.eq]; exact hrun
  · rw [E_put]
    exact h _ _ ⟨hb, F, hn, hl, [], F, rfl, ⟨rfl, hrd2⟩, hsep⟩

/-- s[lo:] -/
theorem wl_slice_lo {α : Type} {iα : Rep α} {T k by_ : Nat} {x y : Operand} {sv : Value} {kk : IntKind} {n : Int} {xs : List α} [hx : Ev l x sv] [hy : Ev l y (.int kk n)] [hT : Sl P T k by_] [hr : HasIm (List α) repList Γ [sv] xs] (hk : k = Rep.sz α) (hn : 0 ≤ n ∧ n ≤ xs.length)
    (h : ∀ sv', WL P ops Q w0 rest (l.set d sv') (.rd [sv'] (xs.drop n.toNat) :: Γ)) : WL P ops Q w0 (⟨some d, .slice T x (some y) none none, ty, pos, after, none⟩ :: rest) l Γ :=
  wl_slice_core (lo := n.toNat) (hi := xs.length) hk (.inr ⟨y, kk, rfl, by rw [hy.eq, Int.toNat_of_nonneg hn.1]⟩) (.inl ⟨rfl, rfl⟩) (by omega) (Nat.le_refl _) (fun sv' => by rw [List.take_length]; exact h sv')
/-- s[:hi] -/
theorem wl_slice_hi {α : Type} {iα : Rep α} {T k by_ : Nat} {x y : Operand} {sv : Value} {kk : IntKind} {n : Int} {xs : List α} [hx : Ev l x sv] [hy : Ev l y (.int kk n)] [hT : Sl P T k by_] [hr : HasIm (List α) repList Γ [sv] xs] (hk : k = Rep.sz α) (hn : 0 ≤ n ∧ n ≤ xs.length)
    (h : ∀ sv', WL P ops Q w0 rest (l.set d sv') (.rd [sv'] (xs.take n.toNat) :: Γ)) : WL P ops Q w0 (⟨some d, .slice T x none (some y) none, ty, pos, after, none⟩ :: rest) l Γ :=
  wl_slice_core (lo := 0) (hi := n.toNat) hk (.inl ⟨rfl, rfl⟩) (.inr ⟨y, kk, rfl, by rw [hy.eq, Int.toNat_of_nonneg hn.1]⟩) (by omega) (by omega) (fun sv' => h sv')
/-- s[lo:hi] -/
theorem wl_slice_lh {α : Type} {iα : Rep α} {T k by_ : Nat} {x y z : Operand} {sv : Value} {kk kk' : IntKind} {n m : Int} {xs : List α} [hx : Ev l x sv] [hy : Ev l y (.int kk n)] [hz : Ev l z (.int kk' m)] [hT : Sl P T k by_] [hr : HasIm (List α) repList Γ [sv] xs] (hk : k = Rep.sz α) (hn : 0 ≤ n ∧ n ≤ m ∧ m ≤ xs.length)
    (h : ∀ sv', WL P ops Q w0 rest (l.set d sv') (.rd [sv'] ((xs.take m.toNat).drop n.toNat) :: Γ)) : WL P ops Q w0 (⟨some d, .slice T x (some y) (some z) none, ty, pos, after, none⟩ :: rest) l Γ :=
  wl_slice_core (lo := n.toNat) (hi := m.toNat) hk (.inr ⟨y, kk, rfl, by rw [hy.eq, Int.toNat_of_nonneg hn.1]⟩) (.inr ⟨z, kk', rfl, by rw [hz.eq, Int.toNat_of_nonneg (by omega)]⟩) (by omega) (by omega) (fun sv' => h sv')

/-! ### Facts -/
/-- What Γ says of a list's length, and of its numbers. -/
theorem wc_len {α : Type} {iα : Rep α} {c : Code} (sv : Value) {xs : List α} [hr : HasRd (List α) repList Γ [sv] xs] (h : xs.length ≤ 9223372036854775807 → WC P Q w0 c l Γ) : WC P Q w0 c l Γ := fun w hs => by
  obtain ⟨a, cap, _, _, _, hl, _⟩ := hs.rd (hr := hr)
  exact h hl w hs
theorem RdL.in64 {ok : Nat → Prop} {w : World} : ∀ {cells : List Value} {xs : List Int}, RdL ok w cells xs → ∀ n ∈ xs, In64 n
  | _, x :: xs, ⟨c, d, e, h, h'⟩, n, hn => by
    rcases List.mem_cons.1 hn with rfl | hn
    · exact h.2
    · exact RdL.in64 h' n hn
theorem wc_in64 {c : Code} (sv : Value) {xs : List Int} [hr : HasRd (List Int) repList Γ [sv] xs] (h : (∀ n ∈ xs, In64 n) → WC P Q w0 c l Γ) : WC P Q w0 c l Γ := fun w hs => by
  obtain ⟨a, cap, _, _, _, _, hl⟩ := hs.rd (hr := hr)
  refine h (fun n hn => ?_) w hs
  obtain ⟨b, off, cells, _, _, _, hrd⟩ := hl (List.length_pos_of_mem hn)
  exact hrd.in64 n hn
theorem cj_len {f : FuncId} {vs : List Value} {ρ : Type} {r : ρ → Value} {Γ' : ρ → List Atom} {α : Type} {iα : Rep α} (sv : Value) {xs : List α} [hr : HasRd (List α) repList Γ [sv] xs] (h : xs.length ≤ 9223372036854775807 → CJ P f vs w0 Γ r Γ') : CJ P f vs w0 Γ r Γ' := fun w hs => by
  obtain ⟨a, cap, _, _, _, hl, _⟩ := hs.rd (hr := hr)
  exact h hl w hs
theorem cj_in64 {f : FuncId} {vs : List Value} {ρ : Type} {r : ρ → Value} {Γ' : ρ → List Atom} (sv : Value) {xs : List Int} [hr : HasRd (List Int) repList Γ [sv] xs] (h : (∀ n ∈ xs, In64 n) → CJ P f vs w0 Γ r Γ') : CJ P f vs w0 Γ r Γ' := fun w hs => by
  obtain ⟨a, cap, _, _, _, _, hl⟩ := hs.rd (hr := hr)
  refine h (fun n hn => ?_) w hs
  obtain ⟨b, off, cells, _, _, _, hrd⟩ := hl (List.length_pos_of_mem hn)
  exact hrd.in64 n hn
/-- What is owned is shared from here on. -/
theorem wl_share {α : Type} {iα : Rep α} (sv : Value) {x : α} [hp : PullOw α iα Γ [sv] x Δ] (h : WL P ops Q w0 rest l (.rd [sv] x :: Δ)) : WL P ops Q w0 rest l Γ := fun w hs => h w (hs.perm hp.perm).share
theorem wc_share {α : Type} {iα : Rep α} {c : Code} (sv : Value) {x : α} [hp : PullOw α iα Γ [sv] x Δ] (h : WC P Q w0 c l (.rd [sv] x :: Δ)) : WC P Q w0 c l Γ := fun w hs => h w (hs.perm hp.perm).share
end ops

/-! ### What is carried out by looking -/
class PuC (P : Program) (l : List Value) (Γ : List Atom) (op : Op) (ty : TypeId) (v : outParam Value) : Prop where
  run : ∀ w0, Pu P w0 l Γ op ty v
instance {P : Program} {l : List Value} {Γ : List Atom} {ty : TypeId} {v : Value} {x : Operand} [h : Ev l x v] : PuC P l Γ (.move x) ty v := ⟨fun _ => pu_move⟩
instance {P : Program} {l : List Value} {Γ : List Atom} {ty : TypeId} {v : Value} {x : Operand} [h : Ev l x v] : PuC P l Γ (.assign x) ty v := ⟨fun _ => pu_assign⟩
instance {P : Program} {l : List Value} {Γ : List Atom} {ty : TypeId} {v : Value} {c a b : Operand} [h : Ev l c (.bool true)] [ha : Ev l a v] : PuC P l Γ (.pick c a b) ty v := ⟨fun _ => pu_pick_t⟩
instance {P : Program} {l : List Value} {Γ : List Atom} {ty : TypeId} {v : Value} {c a b : Operand} [h : Ev l c (.bool false)] [ha : Ev l b v] : PuC P l Γ (.pick c a b) ty v := ⟨fun _ => pu_pick_f⟩
instance {P : Program} {l : List Value} {Γ : List Atom} {ty : TypeId} {T : TypeId} {x : Operand} {b : Bool} [h : Ev l x (.bool b)] : PuC P l Γ (.unOp .not T x) ty (.bool (!b)) := ⟨fun _ => pu_un_not⟩
instance (priority := 400) {P : Program} {l : List Value} {Γ : List Atom} {ty : TypeId} {T : TypeId} {x : Operand} {i k : Nat} {a : Addr} [h : Ev l x (.pointer (some a))] [hf : Fo P T i k] : PuC P l Γ (.fieldAddr T x i) ty (.pointer (some (a.add k))) := ⟨fun _ => pu_fieldAddr⟩
instance (priority := 500) {P : Program} {l : List Value} {Γ : List Atom} {ty : TypeId} {T : TypeId} {x : Operand} {i k m s : Nat} {p : Addr} [h : Ev l x (.pointer (some (p.add m)))] [hf : Fo P T i k] [hs : NatAdd m k s] : PuC P l Γ (.fieldAddr T x i) ty (.pointer (some (p.add s))) := ⟨fun _ => pu_fieldAddr_e⟩
instance {P : Program} {l : List Value} {Γ : List Atom} {ty : TypeId} {T : TypeId} {x : Operand} {i k b off s : Nat} [h : Ev l x (.pointer (some ⟨b, off, none⟩))] [hf : Fo P T i k] [hs : NatAdd off k s] : PuC P l Γ (.fieldAddr T x i) ty (.pointer (some ⟨b, s, none⟩)) := ⟨fun _ => pu_fieldAddr_b⟩
instance {P : Program} {l : List Value} {Γ : List Atom} {ty : TypeId} {x : Operand} {a : Addr} [h : Ev l x (.pointer (some a))] : PuC P l Γ (.nilCheck x) ty (.pointer (some a)) := ⟨fun _ => pu_nilCheck⟩
instance {P : Program} {l : List Value} {Γ : List Atom} {ty : TypeId} {v : Value} {x : Operand} {i : Nat} {vs : List Value} [h : Ev l x (.tuple vs.toArray)] [hi : Ge vs i v] : PuC P l Γ (.extract x i) ty v := ⟨fun _ => pu_extract⟩
instance {P : Program} {l : List Value} {Γ : List Atom} {ty : TypeId} {x : Operand} {T k b : Nat} {sv : Value} {α : Type} {i : Rep α} {xs : List α} [h : Ev l x sv] [ht : Sl P T k b] [hr : HasRd (List α) repList Γ [sv] xs] : PuC P l Γ (.call { callee := .builtin .len, args := #[x], argTypes := #[T] }) ty (.int .i64 xs.length) := ⟨fun _ => pu_len⟩
instance {P : Program} {l : List Value} {Γ : List Atom} {ty : TypeId} {x : Operand} {T : Nat} {s : ByteArray} [h : Ev l x (.string s)] [ht : IsStr P T] : PuC P l Γ (.call { callee := .builtin .len, args := #[x], argTypes := #[T] }) ty (.int .i64 s.size) := ⟨fun _ => pu_len_str⟩
instance {P : Program} {l : List Value} {Γ : List Atom} {ty : TypeId} {T U : TypeId} {x y : Operand} {a b : Int} {k : IntKind} [hx : Ev l x (.int k a)] [hy : Ev l y (.int k b)] : PuC P l Γ (.binOp .lss T x y U) ty (.bool (decide (a < b))) := ⟨fun _ => pu_lss⟩
instance {P : Program} {l : List Value} {Γ : List Atom} {ty : TypeId} {T U : TypeId} {x y : Operand} {a b : Int} {k : IntKind} [hx : Ev l x (.int k a)] [hy : Ev l y (.int k b)] : PuC P l Γ (.binOp .leq T x y U) ty (.bool (decide (a ≤ b))) := ⟨fun _ => pu_leq⟩
instance {P : Program} {l : List Value} {Γ : List Atom} {ty : TypeId} {T U : TypeId} {x y : Operand} {a b : Int} {k : IntKind} [hx : Ev l x (.int k a)] [hy : Ev l y (.int k b)] : PuC P l Γ (.binOp .gtr T x y U) ty (.bool (decide (b < a))) := ⟨fun _ => pu_gtr⟩
instance {P : Program} {l : List Value} {Γ : List Atom} {ty : TypeId} {T U : TypeId} {x y : Operand} {a b : Int} {k : IntKind} [hx : Ev l x (.int k a)] [hy : Ev l y (.int k b)] : PuC P l Γ (.binOp .geq T x y U) ty (.bool (decide (b ≤ a))) := ⟨fun _ => pu_geq⟩
instance {P : Program} {l : List Value} {Γ : List Atom} {ty : TypeId} {T U : TypeId} {x y : Operand} {a b : Int} {k : IntKind} [hx : Ev l x (.int k a)] [hy : Ev l y (.int k b)] : PuC P l Γ (.binOp .eql T x y U) ty (.bool (decide (a = b))) := ⟨fun _ => pu_eql⟩
instance {P : Program} {l : List Value} {Γ : List Atom} {ty : TypeId} {T U : TypeId} {x y : Operand} {a b : Int} {k : IntKind} [hx : Ev l x (.int k a)] [hy : Ev l y (.int k b)] : PuC P l Γ (.binOp .neq T x y U) ty (.bool (decide (a ≠ b))) := ⟨fun _ => pu_neq⟩
instance {P : Program} {l : List Value} {Γ : List Atom} {ty : TypeId} {T U : TypeId} {x y : Operand} {a b : Bool} [hx : Ev l x (.bool a)] [hy : Ev l y (.bool b)] [hT : IsBool P T] : PuC P l Γ (.binOp .eql T x y U) ty (.bool (a == b)) := ⟨fun _ => pu_eql_b⟩
instance {P : Program} {l : List Value} {Γ : List Atom} {ty : TypeId} {T U : TypeId} {x y : Operand} {a b : Bool} [hx : Ev l x (.bool a)] [hy : Ev l y (.bool b)] [hT : IsBool P T] : PuC P l Γ (.binOp .neq T x y U) ty (.bool (!(a == b))) := ⟨fun _ => pu_neq_b⟩
instance {P : Program} {l : List Value} {Γ : List Atom} {ty : TypeId} {T U : TypeId} {x y : Operand} {a b : ByteArray} [hx : Ev l x (.string a)] [hy : Ev l y (.string b)] : PuC P l Γ (.binOp .eql T x y U) ty (.bool (decide (a = b))) := ⟨fun _ => pu_eql_s⟩
instance {P : Program} {l : List Value} {Γ : List Atom} {ty : TypeId} {T U : TypeId} {x y : Operand} {a b : ByteArray} [hx : Ev l x (.string a)] [hy : Ev l y (.string b)] : PuC P l Γ (.binOp .neq T x y U) ty (.bool (decide (a ≠ b))) := ⟨fun _ => pu_neq_s⟩
instance {P : Program} {l : List Value} {Γ : List Atom} {ty : TypeId} {v : Value} {T : TypeId} {x : Operand} {b off : Nat} {cs : List Value} [h : Ev l x (.pointer (some ⟨b, off, none⟩))] [hT : Sc P T] [hb : HasBk Γ b cs] [hv : Ge cs off v] : PuC P l Γ (.load T x) ty v := ⟨fun _ => pu_load⟩
instance {P : Program} {l : List Value} {Γ : List Atom} {ty : TypeId} {T : TypeId} {x : Operand} {b off k : Nat} {cs out : List Value} [h : Ev l x (.pointer (some ⟨b, off, none⟩))] [hT : Ag P T k] [hb : HasBk Γ b cs] [hv : Tk cs off k out] : PuC P l Γ (.load T x) ty (.agg out.toArray) := ⟨fun _ => pu_load_agg⟩
instance {P : Program} {l : List Value} {Γ : List Atom} {ty : TypeId} {v : Value} {T : TypeId} {x : Operand} {p : Addr} [h : Ev l x (.pointer (some p))] [hT : Sc P T] [hp : HasPt Γ p [v]] : PuC P l Γ (.load T x) ty v := ⟨fun _ => pu_load_pt⟩
instance {P : Program} {l : List Value} {Γ : List Atom} {ty : TypeId} {v : Value} {T off : Nat} {x : Operand} {p : Addr} {cs : List Value} [h : Ev l x (.pointer (some (p.add off)))] [hT : Sc P T] [hp : HasPt Γ p cs] [hv : Ge cs off v] : PuC P l Γ (.load T x) ty v := ⟨fun _ => pu_load_ptf⟩
instance {P : Program} {l : List Value} {Γ : List Atom} {ty : TypeId} {T off k : Nat} {x : Operand} {p : Addr} {cs out : List Value} [h : Ev l x (.pointer (some (p.add off)))] [hT : Ag P T k] [hp : HasPt Γ p cs] [hv : Tk cs off k out] : PuC P l Γ (.load T x) ty (.agg out.toArray) := ⟨fun _ => pu_load_ptf_agg⟩
instance {P : Program} {l : List Value} {Γ : List Atom} {ty : TypeId} {T : TypeId} {ps : List (Nat × Operand)} {places : List (Nat × Nat)} {zs out : List Value} [hT : StT P T places zs] [hb : BuildL Γ l places zs ps out] : PuC P l Γ (.build T ps.toArray) ty (.agg out.toArray) := ⟨fun _ => pu_build⟩

theorem wl_auto {P : Program} {ops : Array Oper} {Q : Exit → Act → World → Prop} {w0 : World} {rest : List Oper} {l l' : List Value} {Γ : List Atom} {ty : TypeId} {v : Value} {pos : String} {after : Array Edge} {d : Nat} {op : Op}
    [hy : PuC P l Γ op ty v] [hd : Se l d v l'] (h : WL P ops Q w0 rest l' Γ) : WL P ops Q w0 (⟨some d, op, ty, pos, after, none⟩ :: rest) l Γ := wl_pure (hy.run w0) h

end Go.Eng
namespace Go.Eng
open Go Go.RowKit
set_option linter.unusedVariables false
set_option linter.unusedSimpArgs false

instance (priority := 900) HasRd.app {α : Type} {i : Rep α} {Δ Γ : List Atom} {cs : List Value} {x : α} [h : HasRd α i Γ cs x] : HasRd α i (Δ ++ Γ) cs x := ⟨fun hs => by
  obtain ⟨f, g, rfl, _, h2⟩ := hs.split
  exact h.get h2⟩
instance (priority := 900) HasIm.app {α : Type} {i : Rep α} {Δ Γ : List Atom} {cs : List Value} {x : α} [h : HasIm α i Γ cs x] : HasIm α i (Δ ++ Γ) cs x := ⟨fun hs => by
  obtain ⟨f, g, rfl, _, h2⟩ := hs.split
  exact h.get h2⟩
instance (priority := 900) HasBk.app {Δ Γ : List Atom} {b : Nat} {cs : List Value} [h : HasBk Γ b cs] : HasBk (Δ ++ Γ) b cs := ⟨fun hs => by
  obtain ⟨f, g, rfl, _, h2⟩ := hs.split
  exact h.get h2⟩
instance (priority := 900) HasPt.app {Δ Γ : List Atom} {p : Addr} {cs : List Value} [h : HasPt Γ p cs] : HasPt (Δ ++ Γ) p cs := ⟨fun hs => by
  obtain ⟨f, g, rfl, _, h2⟩ := hs.split
  exact h.get h2⟩

/-- What is computed from nothing of memory is so in every world. -/
theorem hy0 {P : Program} {l : List Value} {op : Op} {ty : TypeId} {v : Value} (hy : ∀ w0', Pu P w0' l [] op ty v) (w : World) (o : Oper) (ho : o.op = op) (ht : o.type = ty) : (execOp (E l).eval o).run P w = .ok (.value v) w :=
  hy w w ⟨BelD.refl _ _, [], by simp, by simp, rfl⟩ o ho ht
/-! ### A condition that may hang on what has come up -/
section wpg
variable {P : Program} {ops : Array Oper} {Q : Exit → Act → World → Prop} {S : Array Bool → World → Prop}
/-- Whatever order is picked from here on; S holds behind each operation that is carried out. -/
def wpAnyG (P : Program) (ops : Array Oper) (Q : Exit → Act → World → Prop) (S : Array Bool → World → Prop) : Nat → Array Bool → Act → World → Prop
  | 0, listed, a, w => Region.ready .any ops listed = [] ∧ Q .normal a w
  | fuel + 1, listed, a, w =>
    (Region.ready .any ops listed = [] → Q .normal a w) ∧
    ∀ i ∈ Region.ready .any ops listed, wpOp P ops Q i (fun a' w' => S (listed.setIfInBounds i true) w' ∧ wpAnyG P ops Q S fuel (listed.setIfInBounds i true) a' w') a w
theorem wpAny_of_G : ∀ (fuel : Nat) (listed : Array Bool) (a : Act) (w : World), wpAnyG P ops Q S fuel listed a w → wpAny P .any ops Q fuel listed a w
  | 0, _, _, _, h => h
  | fuel + 1, _, _, _, h => ⟨h.1, fun i hi => wpOp_mono (fun a' w' h' => wpAny_of_G fuel _ a' w' h'.2) (h.2 i hi)⟩
theorem wpAnyG_mono {S' : Array Bool → World → Prop} (hS : ∀ L w, S' L w → S L w) : ∀ {fuel : Nat} {listed : Array Bool} {a : Act} {w : World}, wpAnyG P ops Q S' fuel listed a w → wpAnyG P ops Q S fuel listed a w
  | 0, _, _, _, h => h
  | _ + 1, _, _, _, h => ⟨h.1, fun i hi => wpOp_mono (fun _ _ h' => ⟨hS _ _ h'.1, wpAnyG_mono hS h'.2⟩) (h.2 i hi)⟩
/-- None of these has come up. -/
def noLate (lt : List Nat) (listed : Array Bool) : Prop := ∀ j ∈ lt, listed.getD j true = false
/-- Until one of the late operations comes up, T holds. -/
def till (lt : List Nat) (T : World → Prop) : Array Bool → World → Prop := fun L w => noLate lt L → T w
theorem noLate_set {lt : List Nat} {L : Array Bool} {i : Nat} (hi : i ∉ lt) (h : noLate lt (L.setIfInBounds i true)) : noLate lt L := fun j hj => by
  have := h j hj
  have hne : i ≠ j := fun e => hi (e ▸ hj)
  rwa [getD_set_ne true hne] at this
theorem noLate_set' {lt : List Nat} {L : Array Bool} {i : Nat} (hi : i ∉ lt) (h : noLate lt L) : noLate lt (L.setIfInBounds i true) := fun j hj => by
  have hne : i ≠ j := fun e => hi (e ▸ hj)
  rw [getD_set_ne true hne]; exact h j hj

/-- Whoever has come up, all that it waits for has come up. -/
def closedL (ops : Array Oper) (L : Array Bool) : Prop := ∀ j oj, ops[j]? = some oj → L.getD j false = true → ∀ e ∈ oj.after, Region.binds .any e = true → L.getD e.on false = true
/-- j waits for i, directly or not. -/
def anc (ops : Array Oper) : Nat → Nat → Nat → Bool
  | 0, _, _ => false
  | f + 1, i, j => match ops[j]? with
    | some oj => oj.after.any fun e => Region.binds .any e && (e.on == i || anc ops f i e.on)
    | none => false
theorem anc_listed {L : Array Bool} (hc : closedL ops L) {i : Nat} : ∀ (f j : Nat) (oj : Oper), ops[j]? = some oj → (∀ e ∈ oj.after, Region.binds .any e = true → L.getD e.on false = true) → anc ops f i j = true → L.getD i false = true
  | 0, j, oj, _, _, h => by simp [anc] at h
  | f + 1, j, oj, hj, hall, h => by
    simp only [anc, hj] at h
    obtain ⟨e, he, hb⟩ := Array.any_eq_true'.1 h
    simp only [Bool.and_eq_true, Bool.or_eq_true, beq_iff_eq] at hb
    have hl := hall e he hb.1
    rcases hb.2 with rfl | h2
    · exact hl
    · match ho : ops[e.on]? with
      | none => cases f <;> simp [anc, ho] at h2
      | some oe => exact anc_listed hc f e.on oe ho (fun e' he' hb' => hc e.on oe ho hl e' he' hb') h2
theorem getD_bool {L : Array Bool} {i : Nat} (h : L.getD i true = false) : L.getD i false = false := by
  rcases Nat.lt_or_ge i L.size with h' | h'
  · simpa [h'] using h
  · simp [Array.getElem?_eq_none h']
theorem getD_set_mono {L : Array Bool} {i j : Nat} (h : L.getD i false = true) : (L.setIfInBounds j true).getD i false = true := by
  by_cases e : j = i
  · subst e
    rcases Nat.lt_or_ge j L.size with h' | h'
    · simp [h']
    · simp [Array.getElem?_eq_none h'] at h
  · rw [getD_set_ne false e]; exact h
theorem closed_set {L : Array Bool} {j : Nat} (hc : closedL ops L) (hj : j ∈ Region.ready .any ops L) : closedL ops (L.setIfInBounds j true) := fun k ok hk hl e he hb => by
  by_cases hkj : j = k
  · subst hkj
    obtain ⟨_, oj, hoj, hall⟩ := mem_ready.1 hj
    rw [hk] at hoj
    cases hoj
    exact getD_set_mono (hall e he hb)
  · rw [getD_set_ne false hkj] at hl
    exact getD_set_mono (hc k ok hk hl e he hb)

theorem wpAnyG_first {i : Nat} {oi : Oper} {v : Value} {lt : List Nat} {T : World → Prop} (hi : ops[i]? = some oi) (hsel : ∀ (j : Nat) (o : Oper) cs b, ops[j]? = some o → o.op ≠ .select cs b)
    (hQ : ∀ c a w, Q (.panic c) (a.put oi.dst v) w → Q (.panic c) a w) (hlt : i ∉ lt) (hle : ∀ j ∈ lt, anc ops ops.size i j = true) :
    ∀ (fuel : Nat) (listed : Array Bool) (a : Act) (w : World),
      (∀ j oj, ops[j]? = some oj → j ≠ i → listed.getD j true = false → (∀ e ∈ oj.after, Region.binds .any e = true → e.on ≠ i) → oi.apart ops oj = true) →
      i ∈ Region.ready .any ops listed → YieldsIf P ops T oi v a → noLate lt listed → (lt = [] ∨ closedL ops listed) → T w →
      wpAnyG P ops Q (till lt T) fuel (listed.setIfInBounds i true) (a.put oi.dst v) w → wpAnyG P ops Q (till lt T) (fuel + 1) listed a w := by
  intro fuel
  induction fuel with
  | zero =>
    intro listed a w _ hr hy hnl hcl hS H
    refine ⟨fun h => (by rw [h] at hr; cases hr), fun j hj => ?_⟩
    by_cases hji : j = i
    · subst hji; exact hy.wpOp hi hS ⟨fun _ => hS, H⟩
    · have := ready_mono hj hji
      rw [H.1] at this
      cases this
  | succ fuel ih =>
    intro listed a w hfree hr hy hnl hcl hS H
    refine ⟨fun h => (by rw [h] at hr; cases hr), fun j hj => ?_⟩
    by_cases hji : j = i
    · subst hji; exact hy.wpOp hi hS ⟨fun _ => hS, H⟩
    · have h1 := H.2 j (ready_mono hj hji)
      obtain ⟨hjun, oj, hoj, hall⟩ := mem_ready.1 hj
      have hnot : ∀ e ∈ oj.after, Region.binds .any e = true → e.on ≠ i := fun e he hb heq => by
        have h1 := hall e he hb
        have h0 := (mem_ready.1 hr).1
        rw [heq] at h1
        rcases Nat.lt_or_ge i listed.size with h' | h'
        · simp [h'] at h0 h1; rw [h0] at h1; cases h1
        · simp [Array.getElem?_eq_none h'] at h1
      have hjl : j ∉ lt := fun hm => by
        have hcl' : closedL ops listed := hcl.resolve_left (fun e => by rw [e] at hm; cases hm)
        have h3 := anc_listed hcl' ops.size j oj hoj hall (hle j hm)
        rw [getD_bool (mem_ready.1 hr).1] at h3
        cases h3
      have hnl' : noLate lt (listed.setIfInBounds j true) := noLate_set' hjl hnl
      have h2 := wpOp_putIf hoj (hfree j oj hoj hji hjun hnot) (fun cs b => hsel i oi cs b hi) (fun cs b => hsel j oj cs b hoj) hQ hy h1
      have hfree' : ∀ k ok, ops[k]? = some ok → k ≠ i → (listed.setIfInBounds j true).getD k true = false →
          (∀ e ∈ ok.after, Region.binds .any e = true → e.on ≠ i) → oi.apart ops ok = true := fun k ok hk hki hun hno => by
        refine hfree k ok hk hki ?_ hno
        by_cases hjk : j = k
        · subst hjk; exact hjun
        · rw [getD_set_ne true hjk] at hun; exact hun
      refine wpOp_mono (fun a' w' h3 => ?_) h2
      have hT : T w' := h3.2.1 (by rw [Array.setIfInBounds_comm _ _ (Ne.symm hji)]; exact noLate_set' hlt hnl')
      refine ⟨fun _ => hT, ih (listed.setIfInBounds j true) a' w' hfree' (ready_mono hr (Ne.symm hji)) h3.1 hnl' (hcl.imp id (fun h => closed_set h hj)) hT ?_⟩
      rw [Array.setIfInBounds_comm _ _ hji]
      exact h3.2.2
/-- The same where the value does not hang on the world at all. -/
theorem wpAnyG_first0 {i : Nat} {oi : Oper} {v : Value} {lt : List Nat} {T : World → Prop} (hi : ops[i]? = some oi) (hsel : ∀ (j : Nat) (o : Oper) cs b, ops[j]? = some o → o.op ≠ .select cs b)
    (hQ : ∀ c a w, Q (.panic c) (a.put oi.dst v) w → Q (.panic c) a w) (hlt : i ∉ lt) :
    ∀ (fuel : Nat) (listed : Array Bool) (a : Act) (w : World),
      (∀ j oj, ops[j]? = some oj → j ≠ i → listed.getD j true = false → (∀ e ∈ oj.after, Region.binds .any e = true → e.on ≠ i) → oi.apart ops oj = true) →
      i ∈ Region.ready .any ops listed → YieldsIf P ops (fun _ => True) oi v a → (noLate lt listed → T w) →
      wpAnyG P ops Q (till lt T) fuel (listed.setIfInBounds i true) (a.put oi.dst v) w → wpAnyG P ops Q (till lt T) (fuel + 1) listed a w := by
  intro fuel
  induction fuel with
  | zero =>
    intro listed a w _ hr hy hS H
    refine ⟨fun h => (by rw [h] at hr; cases hr), fun j hj => ?_⟩
    by_cases hji : j = i
    · subst hji; exact hy.wpOp hi trivial ⟨fun h => hS (noLate_set hlt h), H⟩
    · have := ready_mono hj hji
      rw [H.1] at this
      cases this
  | succ fuel ih =>
    intro listed a w hfree hr hy hS H
    refine ⟨fun h => (by rw [h] at hr; cases hr), fun j hj => ?_⟩
    by_cases hji : j = i
    · subst hji; exact hy.wpOp hi trivial ⟨fun h => hS (noLate_set hlt h), H⟩
    · have h1 := H.2 j (ready_mono hj hji)
      obtain ⟨hjun, oj, hoj, hall⟩ := mem_ready.1 hj
      have hnot : ∀ e ∈ oj.after, Region.binds .any e = true → e.on ≠ i := fun e he hb heq => by
        have h1 := hall e he hb
        have h0 := (mem_ready.1 hr).1
        rw [heq] at h1
        rcases Nat.lt_or_ge i listed.size with h' | h'
        · simp [h'] at h0 h1; rw [h0] at h1; cases h1
        · simp [Array.getElem?_eq_none h'] at h1
      have h2 := wpOp_putIf hoj (hfree j oj hoj hji hjun hnot) (fun cs b => hsel i oi cs b hi) (fun cs b => hsel j oj cs b hoj) hQ hy h1
      have hfree' : ∀ k ok, ops[k]? = some ok → k ≠ i → (listed.setIfInBounds j true).getD k true = false →
          (∀ e ∈ ok.after, Region.binds .any e = true → e.on ≠ i) → oi.apart ops ok = true := fun k ok hk hki hun hno => by
        refine hfree k ok hk hki ?_ hno
        by_cases hjk : j = k
        · subst hjk; exact hjun
        · rw [getD_set_ne true hjk] at hun; exact hun
      refine wpOp_mono (fun a' w' h3 => ?_) h2
      have hT : noLate lt (listed.setIfInBounds j true) → T w' := fun hn => h3.2.1 (by rw [Array.setIfInBounds_comm _ _ (Ne.symm hji)]; exact noLate_set' hlt hn)
      refine ⟨hT, ih (listed.setIfInBounds j true) a' w' hfree' (ready_mono hr (Ne.symm hji)) h3.1 hT ?_⟩
      rw [Array.setIfInBounds_comm _ _ hji]
      exact h3.2.2
theorem wpAnyG_all {rs : List Nat} {fuel : Nat} {listed : Array Bool} {a : Act} {w : World} (hr : Region.ready .any ops listed = rs) (hne : rs ≠ [])
    (h : ∀ i ∈ rs, wpOp P ops Q i (fun a' w' => S (listed.setIfInBounds i true) w' ∧ wpAnyG P ops Q S fuel (listed.setIfInBounds i true) a' w') a w) : wpAnyG P ops Q S (fuel + 1) listed a w :=
  ⟨fun h0 => absurd (hr ▸ h0) hne, hr ▸ h⟩
theorem wpAnyG_done {listed : Array Bool} {a : Act} {w : World} (hr : Region.ready .any ops listed = []) (h : Q .normal a w) :
    ∀ fuel, wpAnyG P ops Q S fuel listed a w
  | 0 => ⟨hr, h⟩
  | _ + 1 => ⟨fun _ => h, by rw [hr]; simp⟩
theorem wp_region_G {id : Nat} {a : Act} {w : World} (hm : P.follows .mixedOrders = true)
    (h : wpAnyG P ops Q S ops.size (Array.replicate ops.size false) a { w with drawn := w.drawn + 1 }) : (Code.region id ops true).wp P Q a w :=
  wp_region_any hm (wpAny_of_G _ _ _ _ h)
end wpg

/-- Whatever order is picked from here on; Γb holds until one of the late operations comes up. -/
def WA (P : Program) (ops : Array Oper) (Q : Exit → Act → World → Prop) (w0 : World) (lt : List Nat) (Γb : List Atom) (fuel : Nat) (bl : List Bool) (l : List Value) (Γ : List Atom) : Prop :=
  ∀ w, Sat w0 w Γ → (noLate lt bl.toArray → Sat w0 w Γb) → wpAnyG P ops Q (till lt (Sat w0 · Γb)) fuel bl.toArray (E l) w

/-- The program is read with every order of evaluation. -/
class Mixed (P : Program) : Prop where
  eq : P.follows .mixedOrders = true

def closedB (ops : Array Oper) (L : Array Bool) : Bool := (List.range ops.size).all fun j => match ops[j]? with
  | some oj => !L.getD j false || oj.after.all fun e => !Region.binds .any e || L.getD e.on false
  | none => true
theorem closedB_spec {ops : Array Oper} {L : Array Bool} (h : closedB ops L = true) : closedL ops L := fun j oj hj hl e he hb => by
  simp only [closedB, List.all_eq_true, List.mem_range] at h
  have := h j (Array.getElem?_eq_some_iff.1 hj).1
  simp only [hj, hl, Bool.not_true, Bool.false_or] at this
  have h2 := Array.all_eq_true_iff_forall_mem.1 this e he
  simpa [hb] using h2
/-- Number i may be taken first: the late ones wait for it. -/
def ckTake (lt : List Nat) (ops : Array Oper) (bl : List Bool) (i : Nat) : Bool := Region.noSelect ops && Region.free .any ops bl.toArray i && (Region.ready .any ops bl.toArray).contains i &&
  !lt.contains i && lt.all (fun j => anc ops ops.size i j) && lt.all (fun j => bl.toArray.getD j true == false) && (lt.isEmpty || closedB ops bl.toArray)
/-- Number i may be taken first, whatever the world. -/
def ckTake0 (lt : List Nat) (ops : Array Oper) (bl : List Bool) (i : Nat) : Bool := Region.noSelect ops && Region.free .any ops bl.toArray i && (Region.ready .any ops bl.toArray).contains i && !lt.contains i
section ck
variable {lt : List Nat} {ops : Array Oper} {bl : List Bool} {i : Nat}
theorem ck1 (h : ckTake lt ops bl i = true) : Region.noSelect ops = true := by unfold ckTake at h; simp only [Bool.and_eq_true] at h; exact h.1.1.1.1.1.1
theorem ck2 (h : ckTake lt ops bl i = true) : Region.free .any ops bl.toArray i = true := by unfold ckTake at h; simp only [Bool.and_eq_true] at h; exact h.1.1.1.1.1.2
theorem ck3 (h : ckTake lt ops bl i = true) : (Region.ready .any ops bl.toArray).contains i = true := by unfold ckTake at h; simp only [Bool.and_eq_true] at h; exact h.1.1.1.1.2
theorem ck4 (h : ckTake lt ops bl i = true) : i ∉ lt := by unfold ckTake at h; simp only [Bool.and_eq_true] at h; simpa using h.1.1.1.2
theorem ck5 (h : ckTake lt ops bl i = true) : ∀ j ∈ lt, anc ops ops.size i j = true := by
  unfold ckTake at h; simp only [Bool.and_eq_true, List.all_eq_true] at h
  exact h.1.1.2
theorem ck6 (h : ckTake lt ops bl i = true) : noLate lt bl.toArray := by
  unfold ckTake at h; simp only [Bool.and_eq_true, List.all_eq_true, beq_iff_eq] at h
  exact h.1.2
theorem ck7 (h : ckTake lt ops bl i = true) : lt = [] ∨ closedL ops bl.toArray := by
  unfold ckTake at h; simp only [Bool.and_eq_true, Bool.or_eq_true] at h
  rcases h.2 with h | h
  · exact .inl (List.isEmpty_iff.1 h)
  · exact .inr (closedB_spec h)
theorem ck0 (h : ckTake0 lt ops bl i = true) : Region.noSelect ops = true ∧ Region.free .any ops bl.toArray i = true ∧ (Region.ready .any ops bl.toArray).contains i = true ∧ i ∉ lt := by
  unfold ckTake0 at h; simp only [Bool.and_eq_true] at h; exact ⟨h.1.1.1, h.1.1.2, h.1.2, by simpa using h.2⟩
end ck

section any
variable {P : Program} {ops : Array Oper} {Q : Exit → Act → World → Prop} {w0 : World} {l l' : List Value} {Γ Γb Δ : List Atom} {fuel : Nat} {bl bl' : List Bool} {op : Op} {ty : TypeId} {v : Value} {pos : String} {after : Array Edge} {d : Nat} {lt : List Nat}

theorem wa_start_on [hm : Mixed P] {id n : Nat} {ol : List Oper} (lt : List Nat) (Γb : List Atom) (hb : Ent w0 Γ Γb) (hn : ol.length = n) (hbl : List.replicate n false = bl) (h : WA P ol.toArray Q w0 lt Γb n bl l Γ) : WC P Q w0 (.region id ol.toArray true) l Γ := fun w hs => by
  refine wp_region_G (S := till lt (Sat w0 · Γb)) hm.eq ?_
  have hd : Sat w0 w.drew Γ := hs.drew
  have := h w.drew hd (fun _ => hb _ hd)
  rw [← hbl, ← hn] at this
  simpa using this

theorem wa_done (hr : Region.ready .any ops bl.toArray = []) (h : WQ Q w0 .normal l Γ) : WA P ops Q w0 lt Γb fuel bl l Γ := fun w hs _ => wpAnyG_done hr (h w hs) fuel

theorem wa_take {i : Nat} {oi : Oper} {v : Value} (hi : ops[i]? = some oi) (hck : ckTake lt ops bl i = true) (hQ : ∀ c a w, Q (.panic c) (a.put oi.dst v) w → Q (.panic c) a w)
    (hy : YieldsIf P ops (Sat w0 · Γb) oi v (E l)) (hd : (E l).put oi.dst v = E l') [hb : Se bl i true bl'] (h : WA P ops Q w0 lt Γb fuel bl' l' Γ) : WA P ops Q w0 lt Γb (fuel + 1) bl l Γ := fun w hs hsb => by
  have hsb' := hsb (ck6 hck)
  refine wpAnyG_first hi (Region.noSelect_spec (ck1 hck)) hQ (ck4 hck) (ck5 hck) fuel _ _ w (Region.free_spec hi (ck2 hck)) (by simpa using ck3 hck) hy (ck6 hck) (ck7 hck) hsb' ?_
  have := h w hs (fun _ => hsb')
  simp only [List.setIfInBounds_toArray]
  rw [hb.eq, hd]
  exact this
theorem wa_pure0 (i : Nat) (hi : ops[i]? = some ⟨some d, op, ty, pos, after, none⟩) (hck : ckTake0 lt ops bl i = true)
    (hQ : ∀ c a w v, Q (.panic c) (a.put (some d) v) w → Q (.panic c) a w) (hy : ∀ w0', Pu P w0' l [] op ty v) [hd : Se l d v l'] [hb : Se bl i true bl'] (h : WA P ops Q w0 lt Γb fuel bl' l' Γ) : WA P ops Q w0 lt Γb (fuel + 1) bl l Γ := fun w hs hsb => by
  obtain ⟨h1, h2, h3, h4⟩ := ck0 hck
  have hany : ∀ w' : World, ∀ o : Oper, o.op = op → o.type = ty → (execOp (E l).eval o).run P w' = .ok (.value v) w' := fun w' o ho ht => hy0 hy w' o ho ht
  refine wpAnyG_first0 hi (Region.noSelect_spec h1) (fun c a w => hQ c a w v) h4 fuel _ _ w (Region.free_spec hi h2) (by simpa using h3) (.inl ⟨rfl, fun w' _ => hany w' _ rfl rfl⟩) hsb ?_
  have := h w hs (fun hn => hsb (noLate_set h4 (by simp only [List.setIfInBounds_toArray]; rw [hb.eq]; exact hn)))
  simp only [List.setIfInBounds_toArray]
  rw [hb.eq, E_put, hd.eq]
  exact this
/-- Number i, which only computes, is taken first. -/
theorem wa_pure (i : Nat) (hi : ops[i]? = some ⟨some d, op, ty, pos, after, none⟩) (hck : ckTake lt ops bl i = true)
    (hQ : ∀ c a w v, Q (.panic c) (a.put (some d) v) w → Q (.panic c) a w) (hy : Pu P w0 l Γb op ty v) [hd : Se l d v l'] [hb : Se bl i true bl'] (h : WA P ops Q w0 lt Γb fuel bl' l' Γ) : WA P ops Q w0 lt Γb (fuel + 1) bl l Γ :=
  wa_take hi hck (fun c a w => hQ c a w v) (.inl ⟨rfl, fun w hw => hy w hw _ rfl rfl⟩) (by rw [E_put, hd.eq]) h
/-- The same behind a guard that says yes. -/
theorem wa_pure_on {ol : List Oper} (i : Nat) {j dj : Nat} {oj : Oper} {b : Bool} {vg : Value} [hi : Ge ol i ⟨some d, op, ty, pos, after, some (j, b)⟩] [hj : Ge ol j oj] [hdj : Dst oj dj] [hg : Ge l dj vg] [he : EqB vg b] (hck : ckTake lt ol.toArray bl i = true)
    (hQ : ∀ c a w v, Q (.panic c) (a.put (some d) v) w → Q (.panic c) a w) (hy : Pu P w0 l Γb op ty v) [hd : Se l d v l'] [hb : Se bl i true bl'] (h : WA P ol.toArray Q w0 lt Γb fuel bl' l' Γ) : WA P ol.toArray Q w0 lt Γb (fuel + 1) bl l Γ := by
  have hw : Region.wanted (⟨some d, op, ty, pos, after, some (j, b)⟩ : Oper) (yielded ol.toArray (E l).tmps) = true := by
    have := hg.eq; rw [he.eq] at this
    simp [Region.wanted, yielded, hj.eq, hdj.eq, E, this]
  exact wa_take (by simpa using hi.eq) hck (fun c a w => hQ c a w v) (.inl ⟨hw, fun w hw => hy w hw _ rfl rfl⟩) (by rw [E_put, hd.eq]) h
/-- .. and one that says no. -/
theorem wa_off {ol : List Oper} (i : Nat) {j dj : Nat} {oj : Oper} {b : Bool} {vg : Value} [hi : Ge ol i ⟨some d, op, ty, pos, after, some (j, b)⟩] [hj : Ge ol j oj] [hdj : Dst oj dj] [hg : Ge l dj vg] [he : NeB vg b] [hd : Se l d undef l'] [hb : Se bl i true bl'] (hck : ckTake lt ol.toArray bl i = true)
    (hQ : ∀ c a w v, Q (.panic c) (a.put (some d) v) w → Q (.panic c) a w) (h : WA P ol.toArray Q w0 lt Γb fuel bl' l' Γ) : WA P ol.toArray Q w0 lt Γb (fuel + 1) bl l Γ := by
  have hw : Region.wanted (⟨some d, op, ty, pos, after, some (j, b)⟩ : Oper) (yielded ol.toArray (E l).tmps) = false := by
    have hgeq := hg.eq
    rcases he.ne with e | ⟨b', e, hne⟩
    · rw [e] at hgeq; simp [Region.wanted, yielded, hj.eq, hdj.eq, E, hgeq, undef]
    · rw [e] at hgeq
      have : yielded ol.toArray (E l).tmps j = some b' := by simp [yielded, hj.eq, hdj.eq, E, hgeq]
      simp only [Region.wanted, this]; simpa using hne
  exact wa_take (by simpa using hi.eq) hck (fun c a w => hQ c a w undef) (.inr ⟨hw, rfl⟩) (by rw [E_put, hd.eq]) h
/-- A guard that is not known: two ways. -/
theorem wa_split (dj : Nat) {b' : Bool} {l1 l2 : List Value} [hb : Ge l dj (.bool b')] [h1 : Se l dj (.bool true) l1] [h2 : Se l dj (.bool false) l2] (ht : b' = true → WA P ops Q w0 lt Γb fuel bl l1 Γ) (hf : b' = false → WA P ops Q w0 lt Γb fuel bl l2 Γ) : WA P ops Q w0 lt Γb fuel bl l Γ := by
  have hl : ∀ b'', b'' = b' → l.set dj (.bool b'') = l := by
    rintro _ rfl
    apply List.ext_getElem?
    intro i
    rw [List.getElem?_set]
    split
    · rename_i h; subst h; split
      · exact hb.eq.symm
      · rename_i h3; have := hb.eq; rw [List.getElem?_eq_none (by omega)] at this; cases this
    · rfl
  cases hb' : b'
  · have := hl false hb'.symm; rw [h2.eq] at this; exact this ▸ hf hb'
  · have := hl true hb'.symm; rw [h1.eq] at this; exact this ▸ ht hb'

/-- Behind an operation that was carried out: whatever order is picked from there on. -/
def AnyNext (P : Program) (ops : Array Oper) (Q : Exit → Act → World → Prop) (w0 : World) (lt : List Nat) (Γb : List Atom) (fuel : Nat) (bl : List Bool) : Act → World → Prop :=
  fun a w => (noLate lt bl.toArray → Sat w0 w Γb) ∧ wpAnyG P ops Q (till lt (Sat w0 · Γb)) fuel bl.toArray a w

theorem wq_any (hb : Ent w0 Γ Γb) (h : WA P ops Q w0 lt Γb fuel bl l Γ) : WQ (Exit.then (AnyNext P ops Q w0 lt Γb fuel bl) Q) w0 .normal l Γ := fun w hs => ⟨fun _ => hb w hs, h w hs (fun _ => hb w hs)⟩
theorem wq_any_late (hb : ¬ noLate lt bl.toArray) (h : WA P ops Q w0 lt Γb fuel bl l Γ) : WQ (Exit.then (AnyNext P ops Q w0 lt Γb fuel bl) Q) w0 .normal l Γ := fun w hs => ⟨fun h => absurd h hb, h w hs (fun h => absurd h hb)⟩

theorem upon_then {o : Oper} {a : Act} {K : Act → World → Prop} {r : Result Next} (h : o.upon P a K (Exit.then K Q) r) : o.upon P a K Q r := by
  cases r with
  | ok n w' =>
    cases n <;> simp only [Oper.upon] at h ⊢ <;> first
      | exact h
      | exact Calls.mono h (fun e w'' he => by cases e <;> exact he)
  | halt x w' => cases x <;> simp only [Oper.upon] at h ⊢ <;> exact h

theorem wpOp_of_list {i : Nat} {o : Oper} {K : Act → World → Prop} {a : Act} {w : World} (hi : ops[i]? = some o) (h : wpList P ops (Exit.then K Q) [o] a w) : wpOp P ops Q i K a w := by
  unfold wpOp
  rw [hi]
  simp only [wpList] at h ⊢
  split
  · rename_i hw
    rw [if_pos hw] at h
    exact h.imp (fun h => upon_then h) id
  · rename_i hw
    rw [if_neg hw] at h
    exact h

theorem ws_op {i : Nat} {o : Oper} (hi : ops[i]? = some o) [hb : Se bl i true bl'] (h : WL P ops (Exit.then (AnyNext P ops Q w0 lt Γb fuel bl') Q) w0 [o] l Γ) {w : World} (hs : Sat w0 w Γ) :
    wpOp P ops Q i (fun a' w' => till lt (Sat w0 · Γb) (bl.toArray.setIfInBounds i true) w' ∧ wpAnyG P ops Q (till lt (Sat w0 · Γb)) fuel (bl.toArray.setIfInBounds i true) a' w') (E l) w := by
  have := wpOp_of_list hi (h w hs)
  simp only [List.setIfInBounds_toArray]
  rw [hb.eq]
  exact this

/-- One alone may come up. -/
theorem wa_one (i : Nat) {o : Oper} (hr : Region.ready .any ops bl.toArray = [i]) (hi : ops[i]? = some o) [hb : Se bl i true bl'] (h : WL P ops (Exit.then (AnyNext P ops Q w0 lt Γb fuel bl') Q) w0 [o] l Γ) : WA P ops Q w0 lt Γb (fuel + 1) bl l Γ := fun w hs hsb =>
  wpAnyG_all hr (by simp) (fun j hj => by obtain rfl : j = i := by simpa using hj
                                          exact ws_op hi h hs)
/-- Two may come up. -/
theorem wa_two_ (i j : Nat) {bi bj : List Bool} {oi oj : Oper} (hr : Region.ready .any ops bl.toArray = [i, j]) (hi : ops[i]? = some oi) (hj : ops[j]? = some oj) [hb : Se bl i true bi] [hb' : Se bl j true bj]
    (h : WL P ops (Exit.then (AnyNext P ops Q w0 lt Γb fuel bi) Q) w0 [oi] l Γ) (h' : WL P ops (Exit.then (AnyNext P ops Q w0 lt Γb fuel bj) Q) w0 [oj] l Γ) : WA P ops Q w0 lt Γb (fuel + 1) bl l Γ := fun w hs hsb =>
  wpAnyG_all hr (by simp) (fun k hk => by
    rcases List.mem_cons.1 hk with rfl | hk
    · exact ws_op hi h hs
    · obtain rfl : k = j := by simpa using hk
      exact ws_op hj h' hs)
theorem wa_three_ (i j k : Nat) {bi bj bk : List Bool} {oi oj ok : Oper} (hr : Region.ready .any ops bl.toArray = [i, j, k]) (hi : ops[i]? = some oi) (hj : ops[j]? = some oj) (hk : ops[k]? = some ok) [hb : Se bl i true bi] [hb' : Se bl j true bj] [hb'' : Se bl k true bk]
    (h : WL P ops (Exit.then (AnyNext P ops Q w0 lt Γb fuel bi) Q) w0 [oi] l Γ) (h' : WL P ops (Exit.then (AnyNext P ops Q w0 lt Γb fuel bj) Q) w0 [oj] l Γ) (h'' : WL P ops (Exit.then (AnyNext P ops Q w0 lt Γb fuel bk) Q) w0 [ok] l Γ) : WA P ops Q w0 lt Γb (fuel + 1) bl l Γ := fun w hs hsb =>
  wpAnyG_all hr (by simp) (fun m hm => by
    rcases List.mem_cons.1 hm with rfl | hm
    · exact ws_op hi h hs
    · rcases List.mem_cons.1 hm with rfl | hm
      · exact ws_op hj h' hs
      · obtain rfl : m = k := by simpa using hm
        exact ws_op hk h'' hs)
theorem wa_set {d : Nat} {v : Value} [hs : Se l d v l'] (h : WA P ops Q w0 lt Γb fuel bl l' Γ) : WA P ops Q w0 lt Γb fuel bl (l.set d v) Γ := hs.eq ▸ h
end any

end Go.Eng
namespace Go.Eng
open Go Go.RowKit Go.ChangeShapes Go.WideShapes
set_option linter.unusedVariables false
set_option linter.unusedSimpArgs false

theorem mapM_some {α β : Type} {f : α → Option β} : ∀ {l : List α} {ys : List β}, l.mapM f = some ys → l.length = ys.length ∧ ∀ (i : Nat) a, l[i]? = some a → f a = ys[i]?
  | [], ys, h => by simp at h; subst h; simp
  | a :: l, ys, h => by
    simp only [List.mapM_cons, Option.bind_eq_bind, Option.bind_eq_some_iff, Option.pure_def, Option.some.injEq] at h
    obtain ⟨y, hy, ys', hys, rfl⟩ := h
    obtain ⟨h1, h2⟩ := mapM_some hys
    refine ⟨by simp [h1], fun i b hb => ?_⟩
    cases i with
    | zero => simp at hb; subst hb; simpa using hy
    | succ i => simpa using h2 i b (by simpa using hb)

theorem cells?_spec {w : World} {base n : Nat} {a : Addr} {cs : List Value} (h : w.cells? base a n = some cs) : cs.length = n ∧ ∀ j, j < n → w.cell? (a.add j) = cs[j]? := by
  unfold World.cells? at h
  split at h
  · obtain ⟨h1, h2⟩ := mapM_some h
    refine ⟨by simpa using h1.symm, fun j hj => h2 j j (by simp [hj])⟩
  · cases h

/-- What reads as data of type T, reads so. -/
class Op_ (P : Program) (T : TypeId) (α : outParam Type) (i : outParam (Rep α)) : Prop where
  rd : ∀ {H : Type} {enc : TypeId × Value → H} {w : World} {base : Nat} {spare : Nat → Bool} {held : Bool} {fuel : Nat} {cs : List Value} {x : DataW H × List MemPlace},
    DataW.trod enc P w base spare held fuel T cs = some x → ∃ d : α, @Rep.rd α i (fun _ => True) w cs d
  size : P.cellsOf T = @Rep.sz α i

theorem op_int {P : Program} {T : TypeId} (h : P.underlying T = some (.int .i64)) (hs : P.cellsOf T = 1) : Op_ P T Int repInt := ⟨fun ht => by
  obtain ⟨n, rfl, _, hw⟩ := DataW.trod_int h ht
  exact ⟨n, rfl, bounds_i64 hw⟩, hs⟩
theorem op_bool {P : Program} {T : TypeId} (h : P.underlying T = some .bool) (hs : P.cellsOf T = 1) : Op_ P T Bool repBool := ⟨fun ht => by
  obtain ⟨n, rfl, _⟩ := DataW.trod_bool h ht
  exact ⟨n, rfl⟩, hs⟩
theorem op_str {P : Program} {T : TypeId} (h : P.underlying T = some .string) (hs : P.cellsOf T = 1) : Op_ P T ByteArray repStr := ⟨fun ht => by
  obtain ⟨n, rfl, _, hl⟩ := DataW.trod_string h ht
  exact ⟨n, rfl, by simpa [maxLen] using hl⟩, hs⟩

theorem rows_of {α : Type} [Rep α] {w : World} {b off : Nat} : ∀ (n : Nat), (∀ i, i < n → ∃ (c : List Value) (d : α), CellsAt w b (off + i * Rep.sz α) c ∧ Rep.rd (fun _ => True) w c d) →
    ∃ (cells : List Value) (xs : List α), xs.length = n ∧ CellsAt w b off cells ∧ RdL (fun _ => True) w cells xs
  | 0, _ => ⟨[], [], rfl, fun j hj => by simp at hj, rfl⟩
  | n + 1, h => by
    obtain ⟨cells, xs, hl, hc, hr⟩ := rows_of n (fun i hi => h i (by omega))
    obtain ⟨c, d, hc', hd⟩ := h n (by omega)
    have hcl : cells.length = n * Rep.sz α := by rw [hr.len, hl]
    refine ⟨cells ++ c, xs ++ [d], by simp [hl], fun j hj => ?_, RdL.append (show RdL _ w c [d] from ⟨c, [], by simp, hd, rfl⟩) hr⟩
    by_cases hj' : j < cells.length
    · rw [List.getElem?_append_left hj']; exact hc j hj'
    · rw [List.length_append] at hj
      rw [List.getElem?_append_right (by omega), hcl]
      have := hc' (j - n * Rep.sz α) (by omega)
      rw [← this]
      congr 2
      omega

theorem op_slice {P : Program} {T e : TypeId} {α : Type} {iα : Rep α} (h : P.underlying T = some (.slice e)) (hs : P.cellsOf T = 1) (he : Op_ P e α iα) : Op_ P T (List α) repList := ⟨fun {H enc w base spare held fuel cs x} ht => by
  rcases DataW.trod_slice h ht with ⟨rfl, _⟩ | ⟨a, len, cap, elems, rest, n, _, rfl, _, _, hl, hm, hlen, hel, _⟩
  · exact ⟨[], none, 0, rfl, by simp, by simp [maxLen], by simp, by simp⟩
  · have each : ∀ i, i < len → ∃ (c : List Value) (d : α), (∀ j, j < c.length → w.cell? ((a.add (i * Rep.sz α)).add j) = c[j]?) ∧ Rep.rd (fun _ => True) w c d := by
      intro i hi
      have h1 := hel i hi
      obtain ⟨y, hy⟩ : ∃ y, elems[i]? = some y := ⟨_, List.getElem?_eq_getElem (by omega)⟩
      rw [hy, Option.bind_eq_some_iff] at h1
      obtain ⟨c, hc, hc'⟩ := h1
      obtain ⟨hcl, hcc⟩ := cells?_spec hc
      obtain ⟨d, hd⟩ := he.rd hc'
      exact ⟨c, d, fun j hj => by rw [← he.size]; exact hcc j (by omega), hd⟩
    have hlm : len ≤ 9223372036854775807 := by simp only [maxLen] at hm; omega
    by_cases h0 : 0 < len
    · obtain ⟨c, d, hc, hd⟩ := each 0 h0
      have hcl := Rep.rd_len hd
      have h00 := hc 0 (by rw [hcl]; exact Rep.pos)
      rw [List.getElem?_eq_getElem (by rw [hcl]; exact Rep.pos)] at h00
      simp only [Nat.zero_mul] at h00
      have hz : ∀ p : Addr, p.add 0 = p := fun p => by simp [Addr.add]
      rw [hz, hz] at h00
      obtain ⟨b, off, sp⟩ := a
      have hsp : sp = none := World.cell?_spot h00
      subst hsp
      obtain ⟨cells, xs, hxl, hcells, hrd⟩ := rows_of (α := α) (w := w) (b := b) (off := off) len (fun i hi => by
        obtain ⟨c, d, hc, hd⟩ := each i hi
        exact ⟨c, d, fun j hj => by have := hc j hj; rw [add_lit, add_lit] at this; exact this, hd⟩)
      exact ⟨xs, some ⟨b, off, none⟩, cap, by rw [hxl], by omega, hm, by omega, fun _ => ⟨b, off, cells, rfl, trivial, hcells, hrd⟩⟩
    · have : len = 0 := by omega
      subst this
      exact ⟨[], some a, cap, rfl, by simp, hm, by simp, by simp⟩, hs⟩

/-- The fields of a struct, from a place on. -/
class OpF (P : Program) (fs : List Field) (off : Nat) (α : outParam Type) (i : outParam (Rep α)) : Prop where
  rd : ∀ {H : Type} {enc : TypeId × Value → H} {w : World} {base : Nat} {spare : Nat → Bool} {held : Bool} {fuel : Nat} {cs : List Value}, off + @Rep.sz α i ≤ cs.length →
    (∀ f ∈ fs, ∃ x, DataW.trod enc P w base spare held fuel f.type ((cs.drop f.offset).take (P.cellsOf f.type)) = some x) → ∃ d : α, @Rep.rd α i (fun _ => True) w ((cs.drop off).take (@Rep.sz α i)) d
theorem opF_one {P : Program} {f : Field} {off : Nat} {α : Type} {iα : Rep α} (hf : f.offset = off) (h : Op_ P f.type α iα) : OpF P [f] off α iα := ⟨fun hl ht => by
  obtain ⟨x, hx⟩ := ht f (by simp)
  rw [hf, h.size] at hx
  exact h.rd hx⟩
theorem opF_cons {P : Program} {f : Field} {fs : List Field} {off off' : Nat} {α β : Type} {iα : Rep α} {iβ : Rep β} (hf : f.offset = off) (h : Op_ P f.type α iα) (ho : off' = off + Rep.sz α) (hr : OpF P fs off' β iβ) : OpF P (f :: fs) off (α × β) repProd := ⟨fun {H enc w base spare held fuel cs} hl ht => by
  obtain ⟨x, hx⟩ := ht f (by simp)
  rw [hf, h.size] at hx
  have hl' : off + (Rep.sz α + Rep.sz β) ≤ cs.length := hl
  obtain ⟨d, hd⟩ := h.rd hx
  obtain ⟨d', hd'⟩ := hr.rd (cs := cs) (by omega) (fun g hg => ht g (by simp [hg]))
  refine ⟨(d, d'), _, _, ?_, hd, hd'⟩
  show (cs.drop off).take (Rep.sz α + Rep.sz β) = _
  rw [List.take_add, List.drop_drop, ← ho]⟩
theorem op_struct {P : Program} {T : TypeId} {fs : List Field} {α : Type} {iα : Rep α} (h : P.underlying T = some (.struct fs.toArray)) (hs : P.cellsOf T = Rep.sz α) (hf : OpF P fs 0 α iα) : Op_ P T α iα := ⟨fun {H enc w base spare held fuel cs x} ht => by
  obtain ⟨xs, n, _, _, hl, hxl, hfs⟩ := DataW.trod_struct h ht
  obtain ⟨d, hd⟩ := hf.rd (enc := enc) (w := w) (base := base) (spare := spare) (held := held) (fuel := n) (cs := cs) (by omega) (fun f hf' => by
    obtain ⟨i, hi⟩ := List.getElem?_of_mem hf'
    have := hfs i f (by simpa using hi)
    rw [this]
    have : i < xs.length := by rw [hxl]; simpa using (List.getElem?_eq_some_iff.1 hi).1
    exact ⟨_, List.getElem?_eq_getElem this⟩)
  refine ⟨d, ?_⟩
  rwa [List.drop_zero, List.take_of_length_le (by omega)] at hd, hs⟩

/-- From the contract of a law to what its row asks. -/
theorem calls_of_cj {P : Program} {f : FuncId} {vs : List Value} {W : World} {Γ Γ' : List Atom} (h : CJ P f vs W Γ (fun _ : Unit => .bool true) (fun _ => Γ')) (hs : Sat W W Γ) :
    Calls P f vs.toArray W fun e w' => e = .returned (.bool true) ∧ Below W.heap.size W w' :=
  (h W hs).mono fun e w' ⟨_, he, hs'⟩ => ⟨he, hs'.base.low⟩

theorem sat_nil (W : World) : Sat W W [] := ⟨BelD.refl _ _, [], by simp, by simp, rfl⟩
theorem sat_cons {W : World} {Γ : List Atom} {α : Type} {iα : Rep α} {cs : List Value} {x : α} (hr : Rep.rd (fun _ => True) W cs x) (h : ∃ F, F = [] ∧ Sat W W Γ ∧ Sep (· ∉ F) W Γ F) : ∃ F, F = [] ∧ Sat W W (.rd cs x :: Γ) ∧ Sep (· ∉ F) W (.rd cs x :: Γ) F := by
  obtain ⟨F, rfl, hs, hsep⟩ := h
  have hr' : Rep.rd (· ∉ ([] : List Nat)) W cs x := Rep.rd_mono hr (fun _ _ _ => ⟨by simp, rfl⟩)
  have hsep' : Sep (· ∉ ([] : List Nat)) W (.rd cs x :: Γ) [] := ⟨[], [], rfl, ⟨rfl, hr'⟩, hsep⟩
  exact ⟨[], rfl, ⟨hs.base, [], by simp, by simp, hsep'⟩, hsep'⟩
theorem sat_app {W : World} {Γ Δ : List Atom} (hd : Sep (fun _ => True) W Δ []) (h : ∃ F, F = [] ∧ Sat W W Γ ∧ Sep (· ∉ F) W Γ F) : ∃ F, F = [] ∧ Sat W W (Δ ++ Γ) ∧ Sep (· ∉ F) W (Δ ++ Γ) F := by
  obtain ⟨F, rfl, hs, hsep⟩ := h
  have hd' : Sep (· ∉ ([] : List Nat)) W Δ [] := hd.mono (fun _ _ _ => ⟨by simp, rfl⟩) (Nat.le_refl _) (fun _ hb => by cases hb)
  have hsep' : Sep (· ∉ ([] : List Nat)) W (Δ ++ Γ) [] := by simpa using Sep.append hsep hd'
  exact ⟨[], rfl, ⟨hs.base, [], by simp, by simp, hsep'⟩, hsep'⟩
theorem sat_start (W : World) : ∃ F, F = [] ∧ Sat W W [] ∧ Sep (· ∉ F) W [] F := ⟨[], rfl, sat_nil W, rfl⟩
end Go.Eng
