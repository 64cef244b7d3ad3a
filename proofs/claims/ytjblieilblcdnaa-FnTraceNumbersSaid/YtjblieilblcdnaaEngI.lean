/- The rules of the walk: statements whose order Go leaves open. -/
import Derived.Test.YtjblieilblcdnaaEngH
namespace Go.Eng
open Go Go.RowKit
set_option linter.unusedVariables false
set_option linter.unusedSimpArgs false

instance (priority := 900) HasRd.app {α : Type} {i : Rep α} {Δ Γ : List Atom} {cs : List Value} {x : α} [h : HasRd α i Γ cs x] : HasRd α i (Δ ++ Γ) cs x := ⟨fun hs => by
  obtain ⟨f, g, rfl, _, h2⟩ := hs.split
  exact h.get h2⟩
instance (priority := 900) HasIm.app {α : Type} {i : Rep α} {Δ Γ : List Atom} {cs : List Value} {x : α} [h : HasIm α i Γ cs x] : HasIm α i (Δ ++ Γ) cs x := ⟨fun hs => by
  obtain ⟨f, g, rfl, _, h2⟩ := hs.split
  exact h.get h2⟩
instance (priority := 900) HasBk.app {Δ Γ : List Atom} {b : Nat} {cs : List Value} [h : HasBk Γ b cs] : HasBk (Δ ++ Γ) b cs := ⟨fun hs => by
  obtain ⟨f, g, rfl, _, h2⟩ := hs.split
  exact h.get h2⟩
instance (priority := 900) HasPt.app {Δ Γ : List Atom} {p : Addr} {cs : List Value} [h : HasPt Γ p cs] : HasPt (Δ ++ Γ) p cs := ⟨fun hs => by
  obtain ⟨f, g, rfl, _, h2⟩ := hs.split
  exact h.get h2⟩

/-- What is computed from nothing of memory is so in every world. -/
theorem hy0 {P : Program} {l : List Value} {op : Op} {ty : TypeId} {v : Value} (hy : ∀ w0', Pu P w0' l [] op ty v) (w : World) (o : Oper) (ho : o.op = op) (ht : o.type = ty) : (execOp (E l).eval o).run P w = .ok (.value v) w :=
  hy w w ⟨BelD.refl _ _, [], by simp, by simp, rfl⟩ o ho ht
/-! ### A condition that may hang on what has come up -/
section wpg
variable {P : Program} {ops : Array Oper} {Q : Exit → Act → World → Prop} {S : Array Bool → World → Prop}
/-- Whatever order is picked from here on; S holds behind each operation that is carried out. -/
def wpAnyG (P : Program) (ops : Array Oper) (Q : Exit → Act → World → Prop) (S : Array Bool → World → Prop) : Nat → Array Bool → Act → World → Prop
  | 0, listed, a, w => Region.ready .any ops listed = [] ∧ Q .normal a w
  | fuel + 1, listed, a, w =>
    (Region.ready .any ops listed = [] → Q .normal a w) ∧
    ∀ i ∈ Region.ready .any ops listed, wpOp P ops Q i (fun a' w' => S (listed.setIfInBounds i true) w' ∧ wpAnyG P ops Q S fuel (listed.setIfInBounds i true) a' w') a w
theorem wpAny_of_G : ∀ (fuel : Nat) (listed : Array Bool) (a : Act) (w : World), wpAnyG P ops Q S fuel listed a w → wpAny P .any ops Q fuel listed a w
  | 0, _, _, _, h => h
  | fuel + 1, _, _, _, h => ⟨h.1, fun i hi => wpOp_mono (fun a' w' h' => wpAny_of_G fuel _ a' w' h'.2) (h.2 i hi)⟩
theorem wpAnyG_mono {S' : Array Bool → World → Prop} (hS : ∀ L w, S' L w → S L w) : ∀ {fuel : Nat} {listed : Array Bool} {a : Act} {w : World}, wpAnyG P ops Q S' fuel listed a w → wpAnyG P ops Q S fuel listed a w
  | 0, _, _, _, h => h
  | _ + 1, _, _, _, h => ⟨h.1, fun i hi => wpOp_mono (fun _ _ h' => ⟨hS _ _ h'.1, wpAnyG_mono hS h'.2⟩) (h.2 i hi)⟩
/-- None of these has come up. -/
def noLate (lt : List Nat) (listed : Array Bool) : Prop := ∀ j ∈ lt, listed.getD j true = false
/-- Until one of the late operations comes up, T holds. -/
def till (lt : List Nat) (T : World → Prop) : Array Bool → World → Prop := fun L w => noLate lt L → T w
theorem noLate_set {lt : List Nat} {L : Array Bool} {i : Nat} (hi : i ∉ lt) (h : noLate lt (L.setIfInBounds i true)) : noLate lt L := fun j hj => by
  have := h j hj
  have hne : i ≠ j := fun e => hi (e ▸ hj)
  rwa [getD_set_ne true hne] at this
theorem noLate_set' {lt : List Nat} {L : Array Bool} {i : Nat} (hi : i ∉ lt) (h : noLate lt L) : noLate lt (L.setIfInBounds i true) := fun j hj => by
  have hne : i ≠ j := fun e => hi (e ▸ hj)
  rw [getD_set_ne true hne]; exact h j hj

/-- Whoever has come up, all that it waits for has come up. -/
def closedL (ops : Array Oper) (L : Array Bool) : Prop := ∀ j oj, ops[j]? = some oj → L.getD j false = true → ∀ e ∈ oj.after, Region.binds .any e = true → L.getD e.on false = true
/-- j waits for i, directly or not. -/
def anc (ops : Array Oper) : Nat → Nat → Nat → Bool
  | 0, _, _ => false
  | f + 1, i, j => match ops[j]? with
    | some oj => oj.after.any fun e => Region.binds .any e && (e.on == i || anc ops f i e.on)
    | none => false
theorem anc_listed {L : Array Bool} (hc : closedL ops L) {i : Nat} : ∀ (f j : Nat) (oj : Oper), ops[j]? = some oj → (∀ e ∈ oj.after, Region.binds .any e = true → L.getD e.on false = true) → anc ops f i j = true → L.getD i false = true
  | 0, j, oj, _, _, h => by simp [anc] at h
  | f + 1, j, oj, hj, hall, h => by
    simp only [anc, hj] at h
    obtain ⟨e, he, hb⟩ := Array.any_eq_true'.1 h
    simp only [Bool.and_eq_true, Bool.or_eq_true, beq_iff_eq] at hb
    have hl := hall e he hb.1
    rcases hb.2 with rfl | h2
    · exact hl
    · match ho : ops[e.on]? with
      | none => cases f <;> simp [anc, ho] at h2
      | some oe => exact anc_listed hc f e.on oe ho (fun e' he' hb' => hc e.on oe ho hl e' he' hb') h2
theorem getD_bool {L : Array Bool} {i : Nat} (h : L.getD i true = false) : L.getD i false = false := by
  rcases Nat.lt_or_ge i L.size with h' | h'
  · simpa [h'] using h
  · simp [Array.getElem?_eq_none h']
theorem getD_set_mono {L : Array Bool} {i j : Nat} (h : L.getD i false = true) : (L.setIfInBounds j true).getD i false = true := by
  by_cases e : j = i
  · subst e
    rcases Nat.lt_or_ge j L.size with h' | h'
    · simp [h']
    · simp [Array.getElem?_eq_none h'] at h
  · rw [getD_set_ne false e]; exact h
theorem closed_set {L : Array Bool} {j : Nat} (hc : closedL ops L) (hj : j ∈ Region.ready .any ops L) : closedL ops (L.setIfInBounds j true) := fun k ok hk hl e he hb => by
  by_cases hkj : j = k
  · subst hkj
    obtain ⟨_, oj, hoj, hall⟩ := mem_ready.1 hj
    rw [hk] at hoj
    cases hoj
    exact getD_set_mono (hall e he hb)
  · rw [getD_set_ne false hkj] at hl
    exact getD_set_mono (hc k ok hk hl e he hb)

theorem wpAnyG_first {i : Nat} {oi : Oper} {v : Value} {lt : List Nat} {T : World → Prop} (hi : ops[i]? = some oi) (hsel : ∀ (j : Nat) (o : Oper) cs b, ops[j]? = some o → o.op ≠ .select cs b)
    (hQ : ∀ c a w, Q (.panic c) (a.put oi.dst v) w → Q (.panic c) a w) (hlt : i ∉ lt) (hle : ∀ j ∈ lt, anc ops ops.size i j = true) :
    ∀ (fuel : Nat) (listed : Array Bool) (a : Act) (w : World),
      (∀ j oj, ops[j]? = some oj → j ≠ i → listed.getD j true = false → (∀ e ∈ oj.after, Region.binds .any e = true → e.on ≠ i) → oi.apart ops oj = true) →
      i ∈ Region.ready .any ops listed → YieldsIf P ops T oi v a → noLate lt listed → (lt = [] ∨ closedL ops listed) → T w →
      wpAnyG P ops Q (till lt T) fuel (listed.setIfInBounds i true) (a.put oi.dst v) w → wpAnyG P ops Q (till lt T) (fuel + 1) listed a w := by
  intro fuel
  induction fuel with
  | zero =>
    intro listed a w _ hr hy hnl hcl hS H
    refine ⟨fun h => (by rw [h] at hr; cases hr), fun j hj => ?_⟩
    by_cases hji : j = i
    · subst hji; exact hy.wpOp hi hS ⟨fun _ => hS, H⟩
    · have := ready_mono hj hji
      rw [H.1] at this
      cases this
  | succ fuel ih =>
    intro listed a w hfree hr hy hnl hcl hS H
    refine ⟨fun h => (by rw [h] at hr; cases hr), fun j hj => ?_⟩
    by_cases hji : j = i
    · subst hji; exact hy.wpOp hi hS ⟨fun _ => hS, H⟩
    · have h1 := H.2 j (ready_mono hj hji)
      obtain ⟨hjun, oj, hoj, hall⟩ := mem_ready.1 hj
      have hnot : ∀ e ∈ oj.after, Region.binds .any e = true → e.on ≠ i := fun e he hb heq => by
        have h1 := hall e he hb
        have h0 := (mem_ready.1 hr).1
        rw [heq] at h1
        rcases Nat.lt_or_ge i listed.size with h' | h'
        · simp [h'] at h0 h1; rw [h0] at h1; cases h1
        · simp [Array.getElem?_eq_none h'] at h1
      have hjl : j ∉ lt := fun hm => by
        have hcl' : closedL ops listed := hcl.resolve_left (fun e => by rw [e] at hm; cases hm)
        have h3 := anc_listed hcl' ops.size j oj hoj hall (hle j hm)
        rw [getD_bool (mem_ready.1 hr).1] at h3
        cases h3
      have hnl' : noLate lt (listed.setIfInBounds j true) := noLate_set' hjl hnl
      have h2 := wpOp_putIf hoj (hfree j oj hoj hji hjun hnot) (fun cs b => hsel i oi cs b hi) (fun cs b => hsel j oj cs b hoj) hQ hy h1
      have hfree' : ∀ k ok, ops[k]? = some ok → k ≠ i → (listed.setIfInBounds j true).getD k true = false →
          (∀ e ∈ ok.after, Region.binds .any e = true → e.on ≠ i) → oi.apart ops ok = true := fun k ok hk hki hun hno => by
        refine hfree k ok hk hki ?_ hno
        by_cases hjk : j = k
        · subst hjk; exact hjun
        · rw [getD_set_ne true hjk] at hun; exact hun
      refine wpOp_mono (fun a' w' h3 => ?_) h2
      have hT : T w' := h3.2.1 (by rw [Array.setIfInBounds_comm _ _ (Ne.symm hji)]; exact noLate_set' hlt hnl')
      refine ⟨fun _ => hT, ih (listed.setIfInBounds j true) a' w' hfree' (ready_mono hr (Ne.symm hji)) h3.1 hnl' (hcl.imp id (fun h => closed_set h hj)) hT ?_⟩
      rw [Array.setIfInBounds_comm _ _ hji]
      exact h3.2.2
/-- The same where the value does not hang on the world at all. -/
theorem wpAnyG_first0 {i : Nat} {oi : Oper} {v : Value} {lt : List Nat} {T : World → Prop} (hi : ops[i]? = some oi) (hsel : ∀ (j : Nat) (o : Oper) cs b, ops[j]? = some o → o.op ≠ .select cs b)
    (hQ : ∀ c a w, Q (.panic c) (a.put oi.dst v) w → Q (.panic c) a w) (hlt : i ∉ lt) :
    ∀ (fuel : Nat) (listed : Array Bool) (a : Act) (w : World),
      (∀ j oj, ops[j]? = some oj → j ≠ i → listed.getD j true = false → (∀ e ∈ oj.after, Region.binds .any e = true → e.on ≠ i) → oi.apart ops oj = true) →
      i ∈ Region.ready .any ops listed → YieldsIf P ops (fun _ => True) oi v a → (noLate lt listed → T w) →
      wpAnyG P ops Q (till lt T) fuel (listed.setIfInBounds i true) (a.put oi.dst v) w → wpAnyG P ops Q (till lt T) (fuel + 1) listed a w := by
  intro fuel
  induction fuel with
  | zero =>
    intro listed a w _ hr hy hS H
    refine ⟨fun h => (by rw [h] at hr; cases hr), fun j hj => ?_⟩
    by_cases hji : j = i
    · subst hji; exact hy.wpOp hi trivial ⟨fun h => hS (noLate_set hlt h), H⟩
    · have := ready_mono hj hji
      rw [H.1] at this
      cases this
  | succ fuel ih =>
    intro listed a w hfree hr hy hS H
    refine ⟨fun h => (by rw [h] at hr; cases hr), fun j hj => ?_⟩
    by_cases hji : j = i
    · subst hji; exact hy.wpOp hi trivial ⟨fun h => hS (noLate_set hlt h), H⟩
    · have h1 := H.2 j (ready_mono hj hji)
      obtain ⟨hjun, oj, hoj, hall⟩ := mem_ready.1 hj
      have hnot : ∀ e ∈ oj.after, Region.binds .any e = true → e.on ≠ i := fun e he hb heq => by
        have h1 := hall e he hb
        have h0 := (mem_ready.1 hr).1
        rw [heq] at h1
        rcases Nat.lt_or_ge i listed.size with h' | h'
        · simp [h'] at h0 h1; rw [h0] at h1; cases h1
        · simp [Array.getElem?_eq_none h'] at h1
      have h2 := wpOp_putIf hoj (hfree j oj hoj hji hjun hnot) (fun cs b => hsel i oi cs b hi) (fun cs b => hsel j oj cs b hoj) hQ hy h1
      have hfree' : ∀ k ok, ops[k]? = some ok → k ≠ i → (listed.setIfInBounds j true).getD k true = false →
          (∀ e ∈ ok.after, Region.binds .any e = true → e.on ≠ i) → oi.apart ops ok = true := fun k ok hk hki hun hno => by
        refine hfree k ok hk hki ?_ hno
        by_cases hjk : j = k
        · subst hjk; exact hjun
        · rw [getD_set_ne true hjk] at hun; exact hun
      refine wpOp_mono (fun a' w' h3 => ?_) h2
      have hT : noLate lt (listed.setIfInBounds j true) → T w' := fun hn => h3.2.1 (by rw [Array.setIfInBounds_comm _ _ (Ne.symm hji)]; exact noLate_set' hlt hn)
      refine ⟨hT, ih (listed.setIfInBounds j true) a' w' hfree' (ready_mono hr (Ne.symm hji)) h3.1 hT ?_⟩
      rw [Array.setIfInBounds_comm _ _ hji]
      exact h3.2.2
theorem wpAnyG_all {rs : List Nat} {fuel : Nat} {listed : Array Bool} {a : Act} {w : World} (hr : Region.ready .any ops listed = rs) (hne : rs ≠ [])
    (h : ∀ i ∈ rs, wpOp P ops Q i (fun a' w' => S (listed.setIfInBounds i true) w' ∧ wpAnyG P ops Q S fuel (listed.setIfInBounds i true) a' w') a w) : wpAnyG P ops Q S (fuel + 1) listed a w :=
  ⟨fun h0 => absurd (hr ▸ h0) hne, hr ▸ h⟩
theorem wpAnyG_done {listed : Array Bool} {a : Act} {w : World} (hr : Region.ready .any ops listed = []) (h : Q .normal a w) :
    ∀ fuel, wpAnyG P ops Q S fuel listed a w
  | 0 => ⟨hr, h⟩
  | _ + 1 => ⟨fun _ => h, by rw [hr]; simp⟩
theorem wp_region_G {id : Nat} {a : Act} {w : World} (hm : P.follows .mixedOrders = true)
    (h : wpAnyG P ops Q S ops.size (Array.replicate ops.size false) a { w with drawn := w.drawn + 1 }) : (Code.region id ops true).wp P Q a w :=
  wp_region_any hm (wpAny_of_G _ _ _ _ h)
end wpg

/-- Whatever order is picked from here on; Γb holds until one of the late operations comes up. -/
def WA (P : Program) (ops : Array Oper) (Q : Exit → Act → World → Prop) (w0 : World) (lt : List Nat) (Γb : List Atom) (fuel : Nat) (bl : List Bool) (l : List Value) (Γ : List Atom) : Prop :=
  ∀ w, Sat w0 w Γ → (noLate lt bl.toArray → Sat w0 w Γb) → wpAnyG P ops Q (till lt (Sat w0 · Γb)) fuel bl.toArray (E l) w

/-- The program is read with every order of evaluation. -/
class Mixed (P : Program) : Prop where
  eq : P.follows .mixedOrders = true

def closedB (ops : Array Oper) (L : Array Bool) : Bool := (List.range ops.size).all fun j => match ops[j]? with
  | some oj => !L.getD j false || oj.after.all fun e => !Region.binds .any e || L.getD e.on false
  | none => true
theorem closedB_spec {ops : Array Oper} {L : Array Bool} (h : closedB ops L = true) : closedL ops L := fun j oj hj hl e he hb => by
  simp only [closedB, List.all_eq_true, List.mem_range] at h
  have := h j (Array.getElem?_eq_some_iff.1 hj).1
  simp only [hj, hl, Bool.not_true, Bool.false_or] at this
  have h2 := Array.all_eq_true_iff_forall_mem.1 this e he
  simpa [hb] using h2
/-- Number i may be taken first: the late ones wait for it. -/
def ckTake (lt : List Nat) (ops : Array Oper) (bl : List Bool) (i : Nat) : Bool := Region.noSelect ops && Region.free .any ops bl.toArray i && (Region.ready .any ops bl.toArray).contains i &&
  !lt.contains i && lt.all (fun j => anc ops ops.size i j) && lt.all (fun j => bl.toArray.getD j true == false) && (lt.isEmpty || closedB ops bl.toArray)
/-- Number i may be taken first, whatever the world. -/
def ckTake0 (lt : List Nat) (ops : Array Oper) (bl : List Bool) (i : Nat) : Bool := Region.noSelect ops && Region.free .any ops bl.toArray i && (Region.ready .any ops bl.toArray).contains i && !lt.contains i
section ck
variable {lt : List Nat} {ops : Array Oper} {bl : List Bool} {i : Nat}
theorem ck1 (h : ckTake lt ops bl i = true) : Region.noSelect ops = true := by unfold ckTake at h; simp only [Bool.and_eq_true] at h; exact h.1.1.1.1.1.1
theorem ck2 (h : ckTake lt ops bl i = true) : Region.free .any ops bl.toArray i = true := by unfold ckTake at h; simp only [Bool.and_eq_true] at h; exact h.1.1.1.1.1.2
theorem ck3 (h : ckTake lt ops bl i = true) : (Region.ready .any ops bl.toArray).contains i = true := by unfold ckTake at h; simp only [Bool.and_eq_true] at h; exact h.1.1.1.1.2
theorem ck4 (h : ckTake lt ops bl i = true) : i ∉ lt := by unfold ckTake at h; simp only [Bool.and_eq_true] at h; simpa using h.1.1.1.2
theorem ck5 (h : ckTake lt ops bl i = true) : ∀ j ∈ lt, anc ops ops.size i j = true := by
  unfold ckTake at h; simp only [Bool.and_eq_true, List.all_eq_true] at h
  exact h.1.1.2
theorem ck6 (h : ckTake lt ops bl i = true) : noLate lt bl.toArray := by
  unfold ckTake at h; simp only [Bool.and_eq_true, List.all_eq_true, beq_iff_eq] at h
  exact h.1.2
theorem ck7 (h : ckTake lt ops bl i = true) : lt = [] ∨ closedL ops bl.toArray := by
  unfold ckTake at h; simp only [Bool.and_eq_true, Bool.or_eq_true] at h
  rcases h.2 with h | h
  · exact .inl (List.isEmpty_iff.1 h)
  · exact .inr (closedB_spec h)
theorem ck0 (h : ckTake0 lt ops bl i = true) : Region.noSelect ops = true ∧ Region.free .any ops bl.toArray i = true ∧ (Region.ready .any ops bl.toArray).contains i = true ∧ i ∉ lt := by
  unfold ckTake0 at h; simp only [Bool.and_eq_true] at h; exact ⟨h.1.1.1, h.1.1.2, h.1.2, by simpa using h.2⟩
end ck

section any
variable {P : Program} {ops : Array Oper} {Q : Exit → Act → World → Prop} {w0 : World} {l l' : List Value} {Γ Γb Δ : List Atom} {fuel : Nat} {bl bl' : List Bool} {op : Op} {ty : TypeId} {v : Value} {pos : String} {after : Array Edge} {d : Nat} {lt : List Nat}

theorem wa_start_on [hm : Mixed P] {id n : Nat} {ol : List Oper} (lt : List Nat) (Γb : List Atom) (hb : Ent w0 Γ Γb) (hn : ol.length = n) (hbl : List.replicate n false = bl) (h : WA P ol.toArray Q w0 lt Γb n bl l Γ) : WC P Q w0 (.region id ol.toArray true) l Γ := fun w hs => by
  refine wp_region_G (S := till lt (Sat w0 · Γb)) hm.eq ?_
  have hd : Sat w0 w.drew Γ := hs.drew
  have := h w.drew hd (fun _ => hb _ hd)
  rw [← hbl, ← hn] at this
  simpa using this

theorem wa_done (hr : Region.ready .any ops bl.toArray = []) (h : WQ Q w0 .normal l Γ) : WA P ops Q w0 lt Γb fuel bl l Γ := fun w hs _ => wpAnyG_done hr (h w hs) fuel

theorem wa_take {i : Nat} {oi : Oper} {v : Value} (hi : ops[i]? = some oi) (hck : ckTake lt ops bl i = true) (hQ : ∀ c a w, Q (.panic c) (a.put oi.dst v) w → Q (.panic c) a w)
    (hy : YieldsIf P ops (Sat w0 · Γb) oi v (E l)) (hd : (E l).put oi.dst v = E l') [hb : Se bl i true bl'] (h : WA P ops Q w0 lt Γb fuel bl' l' Γ) : WA P ops Q w0 lt Γb (fuel + 1) bl l Γ := fun w hs hsb => by
  have hsb' := hsb (ck6 hck)
  refine wpAnyG_first hi (Region.noSelect_spec (ck1 hck)) hQ (ck4 hck) (ck5 hck) fuel _ _ w (Region.free_spec hi (ck2 hck)) (by simpa using ck3 hck) hy (ck6 hck) (ck7 hck) hsb' ?_
  have := h w hs (fun _ => hsb')
  simp only [List.setIfInBounds_toArray]
  rw [hb.eq, hd]
  exact this
theorem wa_pure0 (i : Nat) (hi : ops[i]? = some ⟨some d, op, ty, pos, after, none⟩) (hck : ckTake0 lt ops bl i = true)
    (hQ : ∀ c a w v, Q (.panic c) (a.put (some d) v) w → Q (.panic c) a w) (hy : ∀ w0', Pu P w0' l [] op ty v) [hd : Se l d v l'] [hb : Se bl i true bl'] (h : WA P ops Q w0 lt Γb fuel bl' l' Γ) : WA P ops Q w0 lt Γb (fuel + 1) bl l Γ := fun w hs hsb => by
  obtain ⟨h1, h2, h3, h4⟩ := ck0 hck
  have hany : ∀ w' : World, ∀ o : Oper, o.op = op → o.type = ty → (execOp (E l).eval o).run P w' = .ok (.value v) w' := fun w' o ho ht => hy0 hy w' o ho ht
  refine wpAnyG_first0 hi (Region.noSelect_spec h1) (fun c a w => hQ c a w v) h4 fuel _ _ w (Region.free_spec hi h2) (by simpa using h3) (.inl ⟨rfl, fun w' _ => hany w' _ rfl rfl⟩) hsb ?_
  have := h w hs (fun hn => hsb (noLate_set h4 (by simp only [List.setIfInBounds_toArray]; rw [hb.eq]; exact hn)))
  simp only [List.setIfInBounds_toArray]
  rw [hb.eq, E_put, hd.eq]
  exact this
/-- Number i, which only computes, is taken first. -/
theorem wa_pure (i : Nat) (hi : ops[i]? = some ⟨some d, op, ty, pos, after, none⟩) (hck : ckTake lt ops bl i = true)
    (hQ : ∀ c a w v, Q (.panic c) (a.put (some d) v) w → Q (.panic c) a w) (hy : Pu P w0 l Γb op ty v) [hd : Se l d v l'] [hb : Se bl i true bl'] (h : WA P ops Q w0 lt Γb fuel bl' l' Γ) : WA P ops Q w0 lt Γb (fuel + 1) bl l Γ :=
  wa_take hi hck (fun c a w => hQ c a w v) (.inl ⟨rfl, fun w hw => hy w hw _ rfl rfl⟩) (by rw [E_put, hd.eq]) h
/-- The same behind a guard that says yes. -/
theorem wa_pure_on {ol : List Oper} (i : Nat) {j dj : Nat} {oj : Oper} {b : Bool} {vg : Value} [hi : Ge ol i ⟨some d, op, ty, pos, after, some (j, b)⟩] [hj : Ge ol j oj] [hdj : Dst oj dj] [hg : Ge l dj vg] [he : EqB vg b] (hck : ckTake lt ol.toArray bl i = true)
    (hQ : ∀ c a w v, Q (.panic c) (a.put (some d) v) w → Q (.panic c) a w) (hy : Pu P w0 l Γb op ty v) [hd : Se l d v l'] [hb : Se bl i true bl'] (h : WA P ol.toArray Q w0 lt Γb fuel bl' l' Γ) : WA P ol.toArray Q w0 lt Γb (fuel + 1) bl l Γ := by
  have hw : Region.wanted (⟨some d, op, ty, pos, after, some (j, b)⟩ : Oper) (yielded ol.toArray (E l).tmps) = true := by
    have := hg.eq; rw [he.eq] at this
    simp [Region.wanted, yielded, hj.eq, hdj.eq, E, this]
  exact wa_take (by simpa using hi.eq) hck (fun c a w => hQ c a w v) (.inl ⟨hw, fun w hw => hy w hw _ rfl rfl⟩) (by rw [E_put, hd.eq]) h
/-- .. and one that says no. -/
theorem wa_off {ol : List Oper} (i : Nat) {j dj : Nat} {oj : Oper} {b : Bool} {vg : Value} [hi : Ge ol i ⟨some d, op, ty, pos, after, some (j, b)⟩] [hj : Ge ol j oj] [hdj : Dst oj dj] [hg : Ge l dj vg] [he : NeB vg b] [hd : Se l d undef l'] [hb : Se bl i true bl'] (hck : ckTake lt ol.toArray bl i = true)
    (hQ : ∀ c a w v, Q (.panic c) (a.put (some d) v) w → Q (.panic c) a w) (h : WA P ol.toArray Q w0 lt Γb fuel bl' l' Γ) : WA P ol.toArray Q w0 lt Γb (fuel + 1) bl l Γ := by
  have hw : Region.wanted (⟨some d, op, ty, pos, after, some (j, b)⟩ : Oper) (yielded ol.toArray (E l).tmps) = false := by
    have hgeq := hg.eq
    rcases he.ne with e | ⟨b', e, hne⟩
    · rw [e] at hgeq; simp [Region.wanted, yielded, hj.eq, hdj.eq, E, hgeq, undef]
    · rw [e] at hgeq
      have : yielded ol.toArray (E l).tmps j = some b' := by simp [yielded, hj.eq, hdj.eq, E, hgeq]
      simp only [Region.wanted, this]; simpa using hne
  exact wa_take (by simpa using hi.eq) hck (fun c a w => hQ c a w undef) (.inr ⟨hw, rfl⟩) (by rw [E_put, hd.eq]) h
/-- A guard that is not known: two ways. -/
theorem wa_split (dj : Nat) {b' : Bool} {l1 l2 : List Value} [hb : Ge l dj (.bool b')] [h1 : Se l dj (.bool true) l1] [h2 : Se l dj (.bool false) l2] (ht : b' = true → WA P ops Q w0 lt Γb fuel bl l1 Γ) (hf : b' = false → WA P ops Q w0 lt Γb fuel bl l2 Γ) : WA P ops Q w0 lt Γb fuel bl l Γ := by
  have hl : ∀ b'', b'' = b' → l.set dj (.bool b'') = l := by
    rintro _ rfl
    apply List.ext_getElem?
    intro i
    rw [List.getElem?_set]
    split
    · rename_i h; subst h; split
      · exact hb.eq.symm
      · rename_i h3; have := hb.eq; rw [List.getElem?_eq_none (by omega)] at this; cases this
    · rfl
  cases hb' : b'
  · have := hl false hb'.symm; rw [h2.eq] at this; exact this ▸ hf hb'
  · have := hl true hb'.symm; rw [h1.eq] at this; exact this ▸ ht hb'

/-- Behind an operation that was carried out: whatever order is picked from there on. -/
def AnyNext (P : Program) (ops : Array Oper) (Q : Exit → Act → World → Prop) (w0 : World) (lt : List Nat) (Γb : List Atom) (fuel : Nat) (bl : List Bool) : Act → World → Prop :=
  fun a w => (noLate lt bl.toArray → Sat w0 w Γb) ∧ wpAnyG P ops Q (till lt (Sat w0 · Γb)) fuel bl.toArray a w

theorem wq_any (hb : Ent w0 Γ Γb) (h : WA P ops Q w0 lt Γb fuel bl l Γ) : WQ (Exit.then (AnyNext P ops Q w0 lt Γb fuel bl) Q) w0 .normal l Γ := fun w hs => ⟨fun _ => hb w hs, h w hs (fun _ => hb w hs)⟩
theorem wq_any_late (hb : ¬ noLate lt bl.toArray) (h : WA P ops Q w0 lt Γb fuel bl l Γ) : WQ (Exit.then (AnyNext P ops Q w0 lt Γb fuel bl) Q) w0 .normal l Γ := fun w hs => ⟨fun h => absurd h hb, h w hs (fun h => absurd h hb)⟩

theorem upon_then {o : Oper} {a : Act} {K : Act → World → Prop} {r : Result Next} (h : o.upon P a K (Exit.then K Q) r) : o.upon P a K Q r := by
  cases r with
  | ok n w' =>
    cases n <;> simp only [Oper.upon] at h ⊢ <;> first
      | exact h
      | exact Calls.mono h (fun e w'' he => by cases e <;> exact he)
  | halt x w' => cases x <;> simp only [Oper.upon] at h ⊢ <;> exact h

theorem wpOp_of_list {i : Nat} {o : Oper} {K : Act → World → Prop} {a : Act} {w : World} (hi : ops[i]? = some o) (h : wpList P ops (Exit.then K Q) [o] a w) : wpOp P ops Q i K a w := by
  unfold wpOp
  rw [hi]
  simp only [wpList] at h ⊢
  split
  · rename_i hw
    rw [if_pos hw] at h
    exact h.imp (fun h => upon_then h) id
  · rename_i hw
    rw [if_neg hw] at h
    exact h

theorem ws_op {i : Nat} {o : Oper} (hi : ops[i]? = some o) [hb : Se bl i true bl'] (h : WL P ops (Exit.then (AnyNext P ops Q w0 lt Γb fuel bl') Q) w0 [o] l Γ) {w : World} (hs : Sat w0 w Γ) :
    wpOp P ops Q i (fun a' w' => till lt (Sat w0 · Γb) (bl.toArray.setIfInBounds i true) w' ∧ wpAnyG P ops Q (till lt (Sat w0 · Γb)) fuel (bl.toArray.setIfInBounds i true) a' w') (E l) w := by
  have := wpOp_of_list hi (h w hs)
  simp only [List.setIfInBounds_toArray]
  rw [hb.eq]
  exact this

/-- One alone may come up. -/
theorem wa_one (i : Nat) {o : Oper} (hr : Region.ready .any ops bl.toArray = [i]) (hi : ops[i]? = some o) [hb : Se bl i true bl'] (h : WL P ops (Exit.then (AnyNext P ops Q w0 lt Γb fuel bl') Q) w0 [o] l Γ) : WA P ops Q w0 lt Γb (fuel + 1) bl l Γ := fun w hs hsb =>
  wpAnyG_all hr (by simp) (fun j hj => by obtain rfl : j = i := by simpa using hj
                                          exact ws_op hi h hs)
/-- Two may come up. -/
theorem wa_two_ (i j : Nat) {bi bj : List Bool} {oi oj : Oper} (hr : Region.ready .any ops bl.toArray = [i, j]) (hi : ops[i]? = some oi) (hj : ops[j]? = some oj) [hb : Se bl i true bi] [hb' : Se bl j true bj]
    (h : WL P ops (Exit.then (AnyNext P ops Q w0 lt Γb fuel bi) Q) w0 [oi] l Γ) (h' : WL P ops (Exit.then (AnyNext P ops Q w0 lt Γb fuel bj) Q) w0 [oj] l Γ) : WA P ops Q w0 lt Γb (fuel + 1) bl l Γ := fun w hs hsb =>
  wpAnyG_all hr (by simp) (fun k hk => by
    rcases List.mem_cons.1 hk with rfl | hk
    · exact ws_op hi h hs
    · obtain rfl : k = j := by simpa using hk
      exact ws_op hj h' hs)
theorem wa_set {d : Nat} {v : Value} [hs : Se l d v l'] (h : WA P ops Q w0 lt Γb fuel bl l' Γ) : WA P ops Q w0 lt Γb fuel bl (l.set d v) Γ := hs.eq ▸ h
end any

end Go.Eng
