/- The rules of the walk: statements whose order Go leaves open. -/
import Derived.Test.YtjdlpidhmlhfoaaEngH
namespace Go.Eng
open Go Go.RowKit
set_option linter.unusedVariables false
set_option linter.unusedSimpArgs false

instance (priority := 900) HasRd.app {α : Type} {i : Rep α} {Δ Γ : List Atom} {cs : List Value} {x : α} [h : HasRd α i Γ cs x] : HasRd α i (Δ ++ Γ) cs x := ⟨fun hs => by
  obtain ⟨f, g, rfl, _, h2⟩ := hs.split
  exact h.get h2⟩
instance (priority := 900) HasIm.app {α : Type} {i : Rep α} {Δ Γ : List Atom} {cs : List Value} {x : α} [h : HasIm α i Γ cs x] : HasIm α i (Δ ++ Γ) cs x := ⟨fun hs => by
  obtain ⟨f, g, rfl, _, h2⟩ := hs.split
  exact h.get h2⟩
instance (priority := 900) HasBk.app {Δ Γ : List Atom} {b : Nat} {cs : List Value} [h : HasBk Γ b cs] : HasBk (Δ ++ Γ) b cs := ⟨fun hs => by
  obtain ⟨f, g, rfl, _, h2⟩ := hs.split
  exact h.get h2⟩
instance (priority := 900) HasPt.app {Δ Γ : List Atom} {p : Addr} {cs : List Value} [h : HasPt Γ p cs] : HasPt (Δ ++ Γ) p cs := ⟨fun hs => by
  obtain ⟨f, g, rfl, _, h2⟩ := hs.split
  exact h.get h2⟩

/-- Whatever order is picked from here on; Γb holds all the while. -/
def WA (P : Program) (ops : Array Oper) (Q : Exit → Act → World → Prop) (w0 : World) (Γb : List Atom) (fuel : Nat) (bl : List Bool) (l : List Value) (Γ : List Atom) : Prop :=
  ∀ w, Sat w0 w Γ → Sat w0 w Γb → wpAnyH P .any ops Q (Sat w0 · Γb) fuel bl.toArray (E l) w

/-- The program is read with every order of evaluation. -/
class Mixed (P : Program) : Prop where
  eq : P.follows .mixedOrders = true

/-- Number i may be taken first. -/
def ckTake (ops : Array Oper) (bl : List Bool) (i : Nat) : Bool := Region.noSelect ops && Region.free .any ops bl.toArray i && (Region.ready .any ops bl.toArray).contains i
theorem ck1 {ops : Array Oper} {bl : List Bool} {i : Nat} (h : ckTake ops bl i = true) : Region.noSelect ops = true := by unfold ckTake at h; simp only [Bool.and_eq_true] at h; exact h.1.1
theorem ck2 {ops : Array Oper} {bl : List Bool} {i : Nat} (h : ckTake ops bl i = true) : Region.free .any ops bl.toArray i = true := by unfold ckTake at h; simp only [Bool.and_eq_true] at h; exact h.1.2
theorem ck3 {ops : Array Oper} {bl : List Bool} {i : Nat} (h : ckTake ops bl i = true) : (Region.ready .any ops bl.toArray).contains i = true := by unfold ckTake at h; simp only [Bool.and_eq_true] at h; exact h.2

section any
variable {P : Program} {ops : Array Oper} {Q : Exit → Act → World → Prop} {w0 : World} {l l' : List Value} {Γ Γb Δ : List Atom} {fuel : Nat} {bl bl' : List Bool} {op : Op} {ty : TypeId} {v : Value} {pos : String} {after : Array Edge} {d : Nat}

theorem wa_start_on [hm : Mixed P] {id n : Nat} {ol : List Oper} (Γb : List Atom) (hb : Ent w0 Γ Γb) (hn : ol.length = n) (hbl : List.replicate n false = bl) (h : WA P ol.toArray Q w0 Γb n bl l Γ) : WC P Q w0 (.region id ol.toArray true) l Γ := fun w hs => by
  refine wp_region_held (S := (Sat w0 · Γb)) hm.eq ?_
  have hd : Sat w0 w.drew Γ := hs.drew
  have := h w.drew hd (hb _ hd)
  rw [← hbl, ← hn] at this
  simpa using this
theorem wa_start [hm : Mixed P] {id n : Nat} {ol : List Oper} (hn : ol.length = n) (hbl : List.replicate n false = bl) (h : WA P ol.toArray Q w0 Γ n bl l Γ) : WC P Q w0 (.region id ol.toArray true) l Γ :=
  wa_start_on Γ (fun _ h => h) hn hbl h

theorem wa_done (hr : Region.ready .any ops bl.toArray = []) (h : WQ Q w0 .normal l Γ) : WA P ops Q w0 Γb fuel bl l Γ := fun w hs _ => wpAnyH_done hr (h w hs) fuel

/-- Number i, which only computes, is taken first. -/
theorem wa_pure (i : Nat) (hi : ops[i]? = some ⟨some d, op, ty, pos, after, none⟩) (hck : ckTake ops bl i = true)
    (hQ : ∀ c a w v, Q (.panic c) (a.put (some d) v) w → Q (.panic c) a w) (hy : Pu P w0 l Γb op ty v) [hd : Se l d v l'] [hb : Se bl i true bl'] (h : WA P ops Q w0 Γb fuel bl' l' Γ) : WA P ops Q w0 Γb (fuel + 1) bl l Γ := fun w hs hsb => by
  refine wpAnyH_take (S := (Sat w0 · Γb)) hi (ck1 hck) (ck2 hck) (ck3 hck) (fun c a w => hQ c a w v) (.inl ⟨rfl, fun w hw => hy w hw _ rfl rfl⟩) hsb ?_
  have := h w hs hsb
  simp only [List.setIfInBounds_toArray]
  rw [hb.eq, E_put, hd.eq]
  exact this
theorem wa_auto {ol : List Oper} (i : Nat) [hi : Ge ol i ⟨some d, op, ty, pos, after, none⟩] [hy : PuC P l Γb op ty v] [hd : Se l d v l'] [hb : Se bl i true bl'] (hck : ckTake ol.toArray bl i = true)
    (hQ : ∀ c a w v, Q (.panic c) (a.put (some d) v) w → Q (.panic c) a w) (h : WA P ol.toArray Q w0 Γb fuel bl' l' Γ) : WA P ol.toArray Q w0 Γb (fuel + 1) bl l Γ := wa_pure i (by simpa using hi.eq) hck hQ (hy.run w0) h
/-- The same behind a guard that says yes. -/
theorem wa_pure_on {ol : List Oper} (i : Nat) {j dj : Nat} {oj : Oper} {b : Bool} {vg : Value} [hi : Ge ol i ⟨some d, op, ty, pos, after, some (j, b)⟩] [hj : Ge ol j oj] [hdj : Dst oj dj] [hg : Ge l dj vg] [he : EqB vg b] (hck : ckTake ol.toArray bl i = true)
    (hQ : ∀ c a w v, Q (.panic c) (a.put (some d) v) w → Q (.panic c) a w) (hy : Pu P w0 l Γb op ty v) [hd : Se l d v l'] [hb : Se bl i true bl'] (h : WA P ol.toArray Q w0 Γb fuel bl' l' Γ) : WA P ol.toArray Q w0 Γb (fuel + 1) bl l Γ := fun w hs hsb => by
  have hw : Region.wanted (⟨some d, op, ty, pos, after, some (j, b)⟩ : Oper) (yielded ol.toArray (E l).tmps) = true := by
    have := hg.eq; rw [he.eq] at this
    simp [Region.wanted, yielded, hj.eq, hdj.eq, E, this]
  refine wpAnyH_take (S := (Sat w0 · Γb)) (by simpa using hi.eq) (ck1 hck) (ck2 hck) (ck3 hck) (fun c a w => hQ c a w v) (.inl ⟨hw, fun w hw => hy w hw _ rfl rfl⟩) hsb ?_
  have := h w hs hsb
  simp only [List.setIfInBounds_toArray]
  rw [hb.eq, E_put, hd.eq]
  exact this
theorem wa_auto_on {ol : List Oper} (i : Nat) {j dj : Nat} {oj : Oper} {b : Bool} {vg : Value} [hi : Ge ol i ⟨some d, op, ty, pos, after, some (j, b)⟩] [hj : Ge ol j oj] [hdj : Dst oj dj] [hg : Ge l dj vg] [he : EqB vg b] [hy : PuC P l Γb op ty v] [hd : Se l d v l'] [hb : Se bl i true bl'] (hck : ckTake ol.toArray bl i = true)
    (hQ : ∀ c a w v, Q (.panic c) (a.put (some d) v) w → Q (.panic c) a w) (h : WA P ol.toArray Q w0 Γb fuel bl' l' Γ) : WA P ol.toArray Q w0 Γb (fuel + 1) bl l Γ := wa_pure_on i hck hQ (hy.run w0) h
/-- .. and one that says no. -/
theorem wa_off {ol : List Oper} (i : Nat) {j dj : Nat} {oj : Oper} {b : Bool} {vg : Value} [hi : Ge ol i ⟨some d, op, ty, pos, after, some (j, b)⟩] [hj : Ge ol j oj] [hdj : Dst oj dj] [hg : Ge l dj vg] [he : NeB vg b] [hd : Se l d undef l'] [hb : Se bl i true bl'] (hck : ckTake ol.toArray bl i = true)
    (hQ : ∀ c a w v, Q (.panic c) (a.put (some d) v) w → Q (.panic c) a w) (h : WA P ol.toArray Q w0 Γb fuel bl' l' Γ) : WA P ol.toArray Q w0 Γb (fuel + 1) bl l Γ := fun w hs hsb => by
  have hw : Region.wanted (⟨some d, op, ty, pos, after, some (j, b)⟩ : Oper) (yielded ol.toArray (E l).tmps) = false := by
    have hgeq := hg.eq
    rcases he.ne with e | ⟨b', e, hne⟩
    · rw [e] at hgeq; simp [Region.wanted, yielded, hj.eq, hdj.eq, E, hgeq, undef]
    · rw [e] at hgeq
      have : yielded ol.toArray (E l).tmps j = some b' := by simp [yielded, hj.eq, hdj.eq, E, hgeq]
      simp only [Region.wanted, this]; simpa using hne
  refine wpAnyH_take (S := (Sat w0 · Γb)) (by simpa using hi.eq) (ck1 hck) (ck2 hck) (ck3 hck) (fun c a w => hQ c a w undef) (.inr ⟨hw, rfl⟩) hsb ?_
  have := h w hs hsb
  simp only [List.setIfInBounds_toArray]
  rw [hb.eq, E_put, hd.eq]
  exact this
/-- A guard that is not known: two ways. -/
theorem wa_split (dj : Nat) {b' : Bool} {lt lf : List Value} [hb : Ge l dj (.bool b')] [h1 : Se l dj (.bool true) lt] [h2 : Se l dj (.bool false) lf] (ht : b' = true → WA P ops Q w0 Γb fuel bl lt Γ) (hf : b' = false → WA P ops Q w0 Γb fuel bl lf Γ) : WA P ops Q w0 Γb fuel bl l Γ := by
  have hl : ∀ b'', b'' = b' → l.set dj (.bool b'') = l := by
    rintro _ rfl
    apply List.ext_getElem?
    intro i
    rw [List.getElem?_set]
    split
    · rename_i h; subst h; split
      · exact hb.eq.symm
      · rename_i h3; have := hb.eq; rw [List.getElem?_eq_none (by omega)] at this; cases this
    · rfl
  cases hb' : b'
  · have := hl false hb'.symm; rw [h2.eq] at this; exact this ▸ hf hb'
  · have := hl true hb'.symm; rw [h1.eq] at this; exact this ▸ ht hb'

/-- Behind an operation that was carried out: whatever order is picked from there on. -/
def AnyNext (P : Program) (ops : Array Oper) (Q : Exit → Act → World → Prop) (w0 : World) (Γb : List Atom) (fuel : Nat) (bl : List Bool) : Act → World → Prop :=
  fun a w => Sat w0 w Γb ∧ wpAnyH P .any ops Q (Sat w0 · Γb) fuel bl.toArray a w

theorem wq_any (hb : Ent w0 Γ Γb) (h : WA P ops Q w0 Γb fuel bl l Γ) : WQ (Exit.then (AnyNext P ops Q w0 Γb fuel bl) Q) w0 .normal l Γ := fun w hs => ⟨hb w hs, h w hs (hb w hs)⟩

theorem upon_then {o : Oper} {a : Act} {K : Act → World → Prop} {r : Result Next} (h : o.upon P a K (Exit.then K Q) r) : o.upon P a K Q r := by
  cases r with
  | ok n w' =>
    cases n <;> simp only [Oper.upon] at h ⊢ <;> first
      | exact h
      | exact Calls.mono h (fun e w'' he => by cases e <;> exact he)
  | halt x w' => cases x <;> simp only [Oper.upon] at h ⊢ <;> exact h

theorem wpOp_of_list {i : Nat} {o : Oper} {K : Act → World → Prop} {a : Act} {w : World} (hi : ops[i]? = some o) (h : wpList P ops (Exit.then K Q) [o] a w) : wpOp P ops Q i K a w := by
  unfold wpOp
  rw [hi]
  simp only [wpList] at h ⊢
  split
  · rename_i hw
    rw [if_pos hw] at h
    exact h.imp (fun h => upon_then h) id
  · rename_i hw
    rw [if_neg hw] at h
    exact h

theorem ws_op {i : Nat} {o : Oper} (hi : ops[i]? = some o) [hb : Se bl i true bl'] (h : WL P ops (Exit.then (AnyNext P ops Q w0 Γb fuel bl') Q) w0 [o] l Γ) {w : World} (hs : Sat w0 w Γ) :
    wpOp P ops Q i (fun a' w' => Sat w0 w' Γb ∧ wpAnyH P .any ops Q (Sat w0 · Γb) fuel (bl.toArray.setIfInBounds i true) a' w') (E l) w := by
  have := wpOp_of_list hi (h w hs)
  simp only [List.setIfInBounds_toArray]
  rw [hb.eq]
  exact this

/-- One alone may come up. -/
theorem wa_one (i : Nat) {o : Oper} (hr : Region.ready .any ops bl.toArray = [i]) (hi : ops[i]? = some o) [hb : Se bl i true bl'] (h : WL P ops (Exit.then (AnyNext P ops Q w0 Γb fuel bl') Q) w0 [o] l Γ) : WA P ops Q w0 Γb (fuel + 1) bl l Γ := fun w hs hsb =>
  wpAnyH_all hr (by simp) (fun j hj => by obtain rfl : j = i := by simpa using hj
                                          exact ws_op hi h hs)
/-- Two may come up. -/
theorem wa_two (i j : Nat) {bi bj : List Bool} {oi oj : Oper} (hr : Region.ready .any ops bl.toArray = [i, j]) (hi : ops[i]? = some oi) (hj : ops[j]? = some oj) [hb : Se bl i true bi] [hb' : Se bl j true bj]
    (h : WL P ops (Exit.then (AnyNext P ops Q w0 Γb fuel bi) Q) w0 [oi] l Γ) (h' : WL P ops (Exit.then (AnyNext P ops Q w0 Γb fuel bj) Q) w0 [oj] l Γ) : WA P ops Q w0 Γb (fuel + 1) bl l Γ := fun w hs hsb =>
  wpAnyH_all hr (by simp) (fun k hk => by
    rcases List.mem_cons.1 hk with rfl | hk
    · exact ws_op hi h hs
    · obtain rfl : k = j := by simpa using hk
      exact ws_op hj h' hs)
theorem wa_three (i j k : Nat) {bi bj bk : List Bool} {oi oj ok : Oper} (hr : Region.ready .any ops bl.toArray = [i, j, k]) (hi : ops[i]? = some oi) (hj : ops[j]? = some oj) (hk : ops[k]? = some ok) [hb : Se bl i true bi] [hb' : Se bl j true bj] [hb'' : Se bl k true bk]
    (h : WL P ops (Exit.then (AnyNext P ops Q w0 Γb fuel bi) Q) w0 [oi] l Γ) (h' : WL P ops (Exit.then (AnyNext P ops Q w0 Γb fuel bj) Q) w0 [oj] l Γ) (h'' : WL P ops (Exit.then (AnyNext P ops Q w0 Γb fuel bk) Q) w0 [ok] l Γ) : WA P ops Q w0 Γb (fuel + 1) bl l Γ := fun w hs hsb =>
  wpAnyH_all hr (by simp) (fun m hm => by
    rcases List.mem_cons.1 hm with rfl | hm
    · exact ws_op hi h hs
    · rcases List.mem_cons.1 hm with rfl | hm
      · exact ws_op hj h' hs
      · obtain rfl : m = k := by simpa using hm
        exact ws_op hk h'' hs)
theorem wa_set {d : Nat} {v : Value} [hs : Se l d v l'] (h : WA P ops Q w0 Γb fuel bl l' Γ) : WA P ops Q w0 Γb fuel bl (l.set d v) Γ := hs.eq ▸ h

theorem wa_set2 {d d' : Nat} {v v' : Value} {l2 : List Value} [hs : Se l d v l'] [hs' : Se l' d' v' l2] (h : WA P ops Q w0 Γb fuel bl l2 Γ) : WA P ops Q w0 Γb fuel bl ((l.set d v).set d' v') Γ := by
  rw [hs.eq, hs'.eq]; exact h

/-- Two calls, one result each, that may come up in either order: they are taken in the text's order. -/
theorem wa_calls2 (i j : Nat) {bi bj bij : List Bool} {fi fj : FuncId} {xi xj : List Operand} {vi vj : List Value} {ti tj : Array TypeId} {yi yj : TypeId} {pi pj : String} {ai aj : Array Edge} {di dj : Nat} {ρi ρj : Type} {ri : ρi → Value} {rj : ρj → Value}
    (A : ρi → List Atom) (B : ρj → List Atom)
    (hr : Region.ready .any ops bl.toArray = [i, j]) (hi : ops[i]? = some ⟨some di, .call { callee := .value (.func fi), args := xi.toArray, argTypes := ti }, yi, pi, ai, none⟩) (hj : ops[j]? = some ⟨some dj, .call { callee := .value (.func fj), args := xj.toArray, argTypes := tj }, yj, pj, aj, none⟩)
    [hxi : EvL l xi vi] [hxj : EvL l xj vj] [hfi : IsFn P fi] [hfj : IsFn P fj] [hb : Se bl i true bi] [hb' : Se bl j true bj] [hbij : Se bi j true bij] [hbji : Se bj i true bij] (hri : Region.ready .any ops bi.toArray = [j]) (hrj : Region.ready .any ops bj.toArray = [i])
    (hnd : ∀ v, EvL (l.set di v) xj vj) (hnd' : ∀ v, EvL (l.set dj v) xi vi) (hdd : di ≠ dj)
    (hci : ∀ Δ : List Atom, CJ P fi vi w0 (Δ ++ Γ) ri (fun p => A p ++ (Δ ++ Γ))) (hcj : ∀ Δ : List Atom, CJ P fj vj w0 (Δ ++ Γ) rj (fun p => B p ++ (Δ ++ Γ))) (hbase : Ent w0 Γ Γb)
    (h : ∀ p q, WA P ops Q w0 Γb fuel bij ((l.set di (ri p)).set dj (rj q)) (A p ++ (B q ++ Γ))) : WA P ops Q w0 Γb (fuel + 1 + 1) bl l Γ := by
  have hdrop : ∀ (Δ : List Atom), Ent w0 (Δ ++ Γ) Γb := fun Δ w hs => hbase w hs.dropN
  refine wa_two i j hr hi hj ?_ ?_
  · refine wl_call (hci []) fun p => wl_nil (wq_any (by simpa using hdrop (A p)) (wa_one j hri hj ?_))
    have := hnd (ri p)
    refine wl_call (hcj (A p)) fun q => wl_nil (wq_any (by rw [← List.append_assoc]; exact hdrop _) ?_)
    intro w hs hsb
    refine h p q w (hs.perm ?_) hsb
    rw [← List.append_assoc, ← List.append_assoc]
    exact List.perm_append_comm.append_right _
  · refine wl_call (hcj []) fun q => wl_nil (wq_any (by simpa using hdrop (B q)) (wa_one i hrj hi ?_))
    have := hnd' (rj q)
    refine wl_call (hci (B q)) fun p => wl_nil (wq_any (by rw [← List.append_assoc]; exact hdrop _) ?_)
    intro w hs hsb
    rw [List.set_comm _ _ (Ne.symm hdd)]
    exact h p q w hs hsb
end any

end Go.Eng
