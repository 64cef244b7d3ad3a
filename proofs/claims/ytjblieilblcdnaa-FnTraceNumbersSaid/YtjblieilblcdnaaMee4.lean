/- How deep the meeting of two terms goes: no program in sight. -/
import Derived.Test.YtjblieilblcdnaaMee3
namespace Go.Proofs.Ytjblieilblcdnaa
open Go Go.Eng
set_option linter.unusedVariables false
set_option linter.unusedSimpArgs false
/-- y is an argument of what stands for p. -/
def ArgW (a : List Int) (bs : List (List Int)) (p y : List Int) : Prop := ∃ u, HdOf bs p u ∧ WTm a u ∧ 0 ≤ u.getD 0 0 ∧ ∃ i, i < agN a u ∧ y = subW a u (agP a (sqL u) i)
/-- Bound variables that a term leads to. -/
inductive Rch (bs : List (List Int)) : List Int → Int → Prop
  | here (t : List Int) (z : Int) : z ∈ t → -48 ≤ z → z < 0 → bdW bs z ≠ [] → Rch bs t z
  | step (t : List Int) (z y : Int) : z ∈ t → -48 ≤ z → z < 0 → bdW bs z ≠ [] → Rch bs (bdW bs z) y → Rch bs t y
theorem Rch.sub {bs : List (List Int)} {s t : List Int} {z : Int} (h : Rch bs s z) (hs : ∀ x ∈ s, x ∈ t) : Rch bs t z := by
  cases h with
  | here _ _ h1 h2 h3 h4 => exact .here _ _ (hs _ h1) h2 h3 h4
  | step _ y _ h1 h2 h3 h4 h5 => exact .step _ y _ (hs _ h1) h2 h3 h4 h5
theorem Rch.rank {bs : List (List Int)} {E : Int → List Int} {ρ : Int → Nat} (hE : Ex bs E ρ) {t : List Int} {z : Int} (h : Rch bs t z) : ∃ x ∈ t, ρ z ≤ ρ x := by
  induction h with
  | here _ _ h1 _ _ _ => exact ⟨_, h1, Nat.le_refl _⟩
  | step _ y _ h1 h2 h3 h4 _ ih =>
    obtain ⟨x, hx, hr⟩ := ih
    have := (hE.rk y h2 h3 h4 x hx).2
    exact ⟨y, h1, by omega⟩
noncomputable def dcP (p : Prop) : Bool := @decide p (Classical.propDecidable p)
theorem dcP_iff {p : Prop} : dcP p = true ↔ p := @decide_eq_true_iff p (Classical.propDecidable p)
theorem dcP_t {p : Prop} (h : p) : dcP p = true := dcP_iff.2 h
noncomputable def rchN (bs : List (List Int)) (t : List Int) : Nat := ((List.range 48).filter fun (i : Nat) => dcP (Rch bs t (-1 - ((i : Nat) : Int)))).length
theorem rchN_le (bs : List (List Int)) (t : List Int) : rchN bs t ≤ 48 := by
  unfold rchN
  have := List.length_filter_le (fun (i : Nat) => dcP (Rch bs t (-1 - ((i : Nat) : Int)))) (List.range 48)
  simpa using this
theorem filter_mono {α : Type} {p q : α → Bool} (h : ∀ x, p x = true → q x = true) : ∀ l : List α, (l.filter p).length ≤ (l.filter q).length
  | [] => Nat.le_refl _
  | x :: l => by
    have ih := filter_mono h l
    by_cases hp : p x = true
    · rw [List.filter_cons_of_pos hp, List.filter_cons_of_pos (h x hp)]
      simpa using ih
    · rw [List.filter_cons_of_neg hp]
      by_cases hq : q x = true
      · rw [List.filter_cons_of_pos hq, List.length_cons]; omega
      · rw [List.filter_cons_of_neg hq]; exact ih
theorem filter_lt {α : Type} {p q : α → Bool} (h : ∀ x, p x = true → q x = true) {x : α} (hq : q x = true) (hp : ¬ p x = true) : ∀ {l : List α}, x ∈ l → (l.filter p).length < (l.filter q).length
  | y :: l, hm => by
    by_cases e : y = x
    · subst e
      rw [List.filter_cons_of_neg hp, List.filter_cons_of_pos hq, List.length_cons]
      have := filter_mono h l
      omega
    · have hm' : x ∈ l := by
        rcases List.mem_cons.1 hm with h1 | h1
        · exact absurd h1.symm e
        · exact h1
      have ih := filter_lt h hq hp hm'
      by_cases hpy : p y = true
      · rw [List.filter_cons_of_pos hpy, List.filter_cons_of_pos (h y hpy)]
        simpa using ih
      · rw [List.filter_cons_of_neg hpy]
        by_cases hqy : q y = true
        · rw [List.filter_cons_of_pos hqy, List.length_cons]; omega
        · rw [List.filter_cons_of_neg hqy]; exact ih
theorem rchN_mono {bs : List (List Int)} {s t : List Int} (h : ∀ z, Rch bs s z → Rch bs t z) : rchN bs s ≤ rchN bs t := filter_mono (fun i hi => dcP_t (h _ (dcP_iff.1 hi))) _
theorem rchN_bd {bs : List (List Int)} {E : Int → List Int} {ρ : Int → Nat} (hE : Ex bs E ρ) {x : Int} (hx : -48 ≤ x ∧ x < 0) (hb : bdW bs x ≠ []) : rchN bs (bdW bs x) < rchN bs [x] := by
  unfold rchN
  refine filter_lt (fun i hi => dcP_t (.step _ x _ (List.mem_singleton.2 rfl) hx.1 hx.2 hb (dcP_iff.1 hi))) (x := (-1 - x).toNat) ?_ ?_ (List.mem_range.2 (by omega))
  · rw [show -1 - (((-1 - x).toNat : Nat) : Int) = x by omega]
    exact dcP_t (.here _ _ (List.mem_singleton.2 rfl) hx.1 hx.2 hb)
  · rw [show -1 - (((-1 - x).toNat : Nat) : Int) = x by omega]
    intro h
    obtain ⟨y, hy, hr⟩ := (dcP_iff.1 h).rank hE
    have := (hE.rk x hx.1 hx.2 hb y hy).2
    omega
noncomputable def muW (bs : List (List Int)) (t : List Int) : Nat := 61 * rchN bs t + t.length
theorem hdOf_rch {bs : List (List Int)} {E : Int → List Int} {ρ : Int → Nat} (hE : Ex bs E ρ) {p u : List Int} (h : HdOf bs p u) : u = p ∨ rchN bs u < rchN bs p := by
  induction h with
  | rfl => exact .inl rfl
  | step x u h1 h2 h3 _ ih =>
    right
    have := rchN_bd hE ⟨h1, h2⟩ h3
    rcases ih with e | e
    · rw [e]; exact this
    · omega
theorem subW_mem {a t : List Int} {k : Nat} {x : Int} (h : x ∈ subW a t k) : x ∈ t := List.mem_of_mem_drop (List.mem_of_mem_take h)
theorem agP_pos (a t : List Int) : ∀ i, 1 ≤ agP a t i
  | 0 => Nat.le_refl _
  | i + 1 => by
    have := agP_pos a t i
    show 1 ≤ agP a t i + _
    omega
theorem agW_lt {a u : List Int} (hu : WTm a u) (h0 : 0 ≤ u.getD 0 0) {i : Nat} (hi : i < agN a u) : agP a (sqL u) i < u.length := by
  have hl := hu.len
  have hN : agN a (sqL u) = agN a u := by unfold agN; rw [sqL_get (by omega), sqV_pos h0]
  have := (agP_lt hu.ok (i := i) (by omega)).1
  rwa [sqL_len] at this
theorem arg_mu {a : List Int} {bs : List (List Int)} {E : Int → List Int} {ρ : Int → Nat} (hE : Ex bs E ρ) {p y : List Int} (h : ArgW a bs p y) : muW bs y < muW bs p := by
  obtain ⟨u, hu, hw, h0, i, hi, rfl⟩ := h
  have hlt := agW_lt hw h0 hi
  have hl := subW_len hw hlt
  have h1 := (hw.at hlt).2
  have h2 := agP_pos a (sqL u) i
  have h3 : rchN bs (subW a u (agP a (sqL u) i)) ≤ rchN bs u := rchN_mono fun z hz => hz.sub fun x hx => subW_mem hx
  have h4 := hw.len
  unfold muW
  rcases hdOf_rch hE hu with e | e
  · subst e; omega
  · omega
/-! ### The levels of what waits -/
abbrev Lvl : Type := List Int × List (Sh (List Int))
inductive LvI (a : List Int) (bs : List (List Int)) : List Lvl → Prop
  | base (r : List (Sh (List Int))) : r.length ≤ 3 → LvI a bs [([], r)]
  | up (p : List Int) (r : List (Sh (List Int))) (l : Lvl) (rest : List Lvl) : LvI a bs (l :: rest) → p.length ≤ 60 → r.length ≤ 3 → (∀ y ∈ r, ArgW a bs p y.v) → (rest = [] ∨ ArgW a bs l.1 p) → LvI a bs ((p, r) :: l :: rest)
def lvF : List Lvl → List (Sh (List Int))
  | [] => []
  | l :: rest => lvF rest ++ l.2
theorem mu_le (bs : List (List Int)) {p : List Int} (h : p.length ≤ 60) : muW bs p ≤ 2988 := by
  have := rchN_le bs p
  unfold muW
  omega
theorem lv_mu {a : List Int} {bs : List (List Int)} {E : Int → List Int} {ρ : Int → Nat} (hE : Ex bs E ρ) {lv : List Lvl} (h : LvI a bs lv) : ∀ l rest, lv = l :: rest → rest = [] ∨ muW bs l.1 + rest.length ≤ 2989 := by
  induction h with
  | base r _ =>
    intro l rest e
    injection e with _ e
    exact .inl e.symm
  | up p r l rest h1 h2 h3 h4 h5 ih =>
    intro l' rest' e
    injection e with e1 e2
    subst e1 e2
    right
    have hm := mu_le bs h2
    rcases h5 with h5 | h5
    · subst h5
      simp only [List.length_cons, List.length_nil]; omega
    · rcases ih l rest rfl with h6 | h6
      · subst h6
        simp only [List.length_cons, List.length_nil]; omega
      · have := arg_mu hE h5
        simp only [List.length_cons]; omega
theorem lv_depth {a : List Int} {bs : List (List Int)} {E : Int → List Int} {ρ : Int → Nat} (hE : Ex bs E ρ) {lv : List Lvl} (h : LvI a bs lv) : lv.length ≤ 2990 := by
  cases lv with
  | nil => simp
  | cons l rest =>
    rcases lv_mu hE h l rest rfl with e | e
    · rw [e]; simp
    · simp only [List.length_cons]; omega
theorem lvF_len {a : List Int} {bs : List (List Int)} {lv : List Lvl} (h : LvI a bs lv) : (lvF lv).length ≤ 3 * lv.length := by
  induction h with
  | base r hr => simp [lvF]; omega
  | up p r l rest h1 h2 h3 h4 h5 ih =>
    show (lvF (l :: rest) ++ r).length ≤ _
    rw [List.length_append, List.length_cons]
    omega
theorem lvF_le {a : List Int} {bs : List (List Int)} {E : Int → List Int} {ρ : Int → Nat} (hE : Ex bs E ρ) {lv : List Lvl} (h : LvI a bs lv) : (lvF lv).length ≤ 8970 := by
  have := lvF_len h
  have := lv_depth hE h
  omega
theorem lv_pop {a : List Int} {bs : List (List Int)} {lv : List Lvl} (h : LvI a bs lv) : ∀ {st : List (Sh (List Int))} {y : Sh (List Int)}, lvF lv = st ++ [y] → ∃ p r rest, LvI a bs ((p, r) :: rest) ∧ lvF ((p, r) :: rest) = st ∧ (rest = [] ∨ ArgW a bs p y.v) := by
  induction h with
  | base r hr =>
    intro st y e
    have e1 : r = st ++ [y] := e
    refine ⟨[], st, [], .base st (by rw [e1] at hr; simp at hr; omega), rfl, .inl rfl⟩
  | up p r l rest h1 h2 h3 h4 h5 ih =>
    intro st y e
    have e1 : lvF (l :: rest) ++ r = st ++ [y] := e
    by_cases hr : r = []
    · rw [hr, List.append_nil] at e1
      exact ih e1
    · have hd := List.dropLast_concat_getLast hr
      rw [← hd, ← List.append_assoc] at e1
      obtain ⟨e2, e3⟩ := List.append_inj' e1 rfl
      have e4 : r.getLast hr = y := by injection e3
      refine ⟨p, r.dropLast, l :: rest, .up p _ l rest h1 h2 (by rw [List.length_dropLast]; omega) (fun z hz => h4 z (List.dropLast_subset _ hz)) h5, e2, .inr ?_⟩
      rw [← e4]
      exact h4 _ (List.getLast_mem hr)
theorem lv_push {a : List Int} {bs : List (List Int)} {p y u : List Int} {r : List (Sh (List Int))} {rest : List Lvl} (h : LvI a bs ((p, r) :: rest)) (hy : rest = [] ∨ ArgW a bs p y) (hl : y.length ≤ 60) (hu : HdOf bs y u) (hw : WTm a u) (h0 : 0 ≤ u.getD 0 0) (hn : agN a u ≤ 3) :
    LvI a bs ((y, partsW a u (agN a u)) :: (p, r) :: rest) :=
  .up y _ _ _ h hl (by rw [partsW_len]; exact hn) (fun z hz => by
    obtain ⟨i, hi, rfl⟩ := partsW_mem hz
    exact ⟨u, hu, hw, h0, i, hi, rfl⟩) hy
theorem HdOf.bind {bs bs' : List (List Int)} (hb : ∀ z, -48 ≤ z → z < 0 → bdW bs z ≠ [] → bdW bs' z = bdW bs z) {p u : List Int} (h : HdOf bs p u) : HdOf bs' p u := by
  induction h with
  | rfl => exact .rfl _
  | step x u h1 h2 h3 _ ih =>
    refine .step x u h1 h2 (by rw [hb x h1 h2 h3]; exact h3) ?_
    rw [hb x h1 h2 h3]
    exact ih
theorem ArgW.bind {a : List Int} {bs bs' : List (List Int)} (hb : ∀ z, -48 ≤ z → z < 0 → bdW bs z ≠ [] → bdW bs' z = bdW bs z) {p y : List Int} (h : ArgW a bs p y) : ArgW a bs' p y := by
  obtain ⟨u, hu, h1, h2, h3⟩ := h
  exact ⟨u, hu.bind hb, h1, h2, h3⟩
theorem LvI.bind {a : List Int} {bs bs' : List (List Int)} (hb : ∀ z, -48 ≤ z → z < 0 → bdW bs z ≠ [] → bdW bs' z = bdW bs z) {lv : List Lvl} (h : LvI a bs lv) : LvI a bs' lv := by
  induction h with
  | base r hr => exact .base r hr
  | up p r l rest h1 h2 h3 h4 h5 ih => exact .up p r l rest ih h2 h3 (fun y hy => (h4 y hy).bind hb) (h5.imp id fun h => h.bind hb)
end Go.Proofs.Ytjblieilblcdnaa
