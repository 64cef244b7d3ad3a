/- Terms as lists of numbers: where a subterm ends, matching, plain substitutions: no program in sight. -/
import Derived.Test.YtjblieilblcdnaaEngO
namespace Go.Proofs.Ytjblieilblcdnaa
open Go Go.Eng
set_option linter.unusedVariables false
set_option linter.unusedSimpArgs false

/-! ### Where a term ends -/
def sigOk (a : List Int) : Bool := decide (1 ≤ a.length ∧ a.length ≤ 8) && a.all fun n => decide (0 ≤ n ∧ n ≤ 3)
def ar (a : List Int) (n : Int) : Int := if n < 0 then 0 else a.getD n.toNat 0
def badS (a : List Int) (x : Int) : Bool := decide (x < -24 ∨ (a.length : Int) ≤ x)
/-- Read m terms, one behind the other: whether they are there, and how many numbers were read. -/
def skp (a : List Int) (bad : Int → Bool) : List Int → Nat → Bool × Nat
  | _, 0 => (true, 0)
  | [], _ + 1 => (false, 0)
  | x :: xs, m + 1 => if bad x then (false, 0) else ((skp a bad xs (m + (ar a x).toNat)).1, (skp a bad xs (m + (ar a x).toNat)).2 + 1)
def endOf (a : List Int) (bad : Int → Bool) (t : List Int) (at_ : Nat) : Int := if (skp a bad (t.drop at_) 1).1 then (at_ + (skp a bad (t.drop at_) 1).2 : Nat) else -1
def termOk (a t : List Int) : Bool := sigOk a && decide (1 ≤ t.length ∧ t.length ≤ 60) && decide (endOf a (badS a) t 0 = t.length)

theorem sigOk_len {a : List Int} (h : sigOk a = true) : 1 ≤ a.length ∧ a.length ≤ 8 := by
  simp only [sigOk, Bool.and_eq_true, decide_eq_true_eq] at h; exact h.1
theorem sigOk_get {a : List Int} (h : sigOk a = true) {k : Nat} (hk : k < a.length) : 0 ≤ a.getD k 0 ∧ a.getD k 0 ≤ 3 := by
  simp only [sigOk, Bool.and_eq_true, List.all_eq_true, decide_eq_true_eq] at h
  rw [List.getD_eq_getElem?_getD, List.getElem?_eq_getElem hk]
  exact h.2 _ (List.getElem_mem hk)
theorem ar_bounds {a : List Int} (h : sigOk a = true) {x : Int} (hx : x < a.length) : 0 ≤ ar a x ∧ ar a x ≤ 3 := by
  unfold ar
  split
  · omega
  · exact sigOk_get h (by omega)
theorem skp_le (a : List Int) (bad : Int → Bool) : ∀ (l : List Int) (m : Nat), (skp a bad l m).2 ≤ l.length
  | l, 0 => by simp [skp]
  | [], m + 1 => by simp [skp]
  | x :: xs, m + 1 => by
    simp only [skp]
    split
    · simp
    · have := skp_le a bad xs (m + (ar a x).toNat)
      simp only [List.length_cons]; omega
theorem skp_pos (a : List Int) (bad : Int → Bool) (l : List Int) (m : Nat) (h : (skp a bad l (m + 1)).1 = true) : 1 ≤ (skp a bad l (m + 1)).2 := by
  cases l with
  | nil => simp [skp] at h
  | cons x xs =>
    simp only [skp] at h ⊢
    split at h
    · simp at h
    · rename_i hb
      rw [if_neg hb]
      simp
theorem skp_split (a : List Int) (bad : Int → Bool) : ∀ (l : List Int) (m n : Nat), skp a bad l (m + n) =
    if (skp a bad l m).1 then ((skp a bad (l.drop (skp a bad l m).2) n).1, (skp a bad l m).2 + (skp a bad (l.drop (skp a bad l m).2) n).2) else skp a bad l m
  | l, 0, n => by simp [skp]
  | [], m + 1, n => by rw [Nat.add_right_comm]; simp [skp]
  | x :: xs, m + 1, n => by
    rw [Nat.add_right_comm]
    simp only [skp]
    by_cases hb : bad x = true
    · simp [hb]
    · simp only [hb, Bool.false_eq_true, if_false]
      have ih := skp_split a bad xs (m + (ar a x).toNat) n
      rw [show m + n + (ar a x).toNat = m + (ar a x).toNat + n by omega, ih]
      by_cases h1 : (skp a bad xs (m + (ar a x).toNat)).1 = true
      · simp only [h1, if_true, List.drop_succ_cons]
        ext <;> simp <;> omega
      · simp only [h1, Bool.false_eq_true, if_false]
/-- Behind i of the numbers that are read, at least one term is still to come. -/
theorem skp_mid (a : List Int) (bad : Int → Bool) : ∀ (l : List Int) (m i : Nat), (skp a bad l m).1 = true → i < (skp a bad l m).2 → ∃ m', (skp a bad (l.drop i) (m' + 1)).1 = true ∧ i + (skp a bad (l.drop i) (m' + 1)).2 = (skp a bad l m).2
  | l, 0, i, _, hi => by simp [skp] at hi
  | [], m + 1, i, h, _ => by simp [skp] at h
  | x :: xs, m + 1, 0, h, _ => ⟨m, by simpa using h, by simp⟩
  | x :: xs, m + 1, i + 1, h, hi => by
    simp only [skp] at h hi ⊢
    by_cases hb : bad x = true
    · simp [hb] at h
    · simp only [hb, Bool.false_eq_true, if_false] at h hi ⊢
      obtain ⟨m', h1, h2⟩ := skp_mid a bad xs _ i h (by omega)
      exact ⟨m', by simpa using h1, by simp only [List.drop_succ_cons]; omega⟩
theorem skp_one (a : List Int) (bad : Int → Bool) (l : List Int) (m : Nat) (h : (skp a bad l (m + 1)).1 = true) : (skp a bad l 1).1 = true ∧ (skp a bad l 1).2 ≤ (skp a bad l (m + 1)).2 := by
  have := skp_split a bad l 1 m
  rw [Nat.add_comm 1 m] at this
  rw [this] at h ⊢
  by_cases h1 : (skp a bad l 1).1 = true
  · simp [h1]
  · simp [h1] at h
theorem skp_weak {a : List Int} {bad bad' : Int → Bool} (hb : ∀ x, bad' x = true → bad x = true) : ∀ (l : List Int) (m : Nat), (skp a bad l m).1 = true → skp a bad' l m = skp a bad l m
  | l, 0, _ => by simp [skp]
  | [], m + 1, h => by simp [skp] at h
  | x :: xs, m + 1, h => by
    simp only [skp] at h ⊢
    by_cases h1 : bad x = true
    · simp [h1] at h
    · have h2 : ¬ bad' x = true := fun h => h1 (hb x h)
      simp only [h1, h2, Bool.false_eq_true, if_false] at h ⊢
      rw [skp_weak hb xs _ h]
theorem skp_all {a : List Int} {bad : Int → Bool} : ∀ (l : List Int) (m : Nat), (skp a bad l m).1 = true → ∀ x ∈ l.take (skp a bad l m).2, bad x = false
  | l, 0, _ => by simp [skp]
  | [], m + 1, h => by simp [skp] at h
  | x :: xs, m + 1, h => by
    simp only [skp] at h ⊢
    by_cases h1 : bad x = true
    · simp [h1] at h
    · simp only [h1, Bool.false_eq_true, if_false] at h ⊢
      intro y hy
      rw [List.take_succ_cons] at hy
      rcases List.mem_cons.1 hy with rfl | hy
      · simpa using h1
      · exact skp_all xs _ h y hy
/-! ### Terms that are right -/
theorem termOk_iff {a t : List Int} : termOk a t = true ↔ sigOk a = true ∧ 1 ≤ t.length ∧ t.length ≤ 60 ∧ skp a (badS a) t 1 = (true, t.length) := by
  simp only [termOk, Bool.and_eq_true, decide_eq_true_eq, endOf, List.drop_zero, Nat.zero_add]
  constructor
  · rintro ⟨⟨h1, h2⟩, h3⟩
    refine ⟨h1, h2.1, h2.2, ?_⟩
    split at h3
    · rename_i h; ext
      · rw [h]
      · simp only at h3 ⊢; omega
    · omega
  · rintro ⟨h1, h2, h3, h4⟩
    rw [h4]
    exact ⟨⟨h1, h2, h3⟩, by simp⟩
theorem termOk_sig {a t : List Int} (h : termOk a t = true) : sigOk a = true := (termOk_iff.1 h).1
theorem termOk_len {a t : List Int} (h : termOk a t = true) : 1 ≤ t.length ∧ t.length ≤ 60 := ⟨(termOk_iff.1 h).2.1, (termOk_iff.1 h).2.2.1⟩
theorem termOk_mem {a t : List Int} (h : termOk a t = true) {x : Int} (hx : x ∈ t) : -24 ≤ x ∧ x < a.length := by
  have h4 := (termOk_iff.1 h).2.2.2
  have := skp_all t 1 (by rw [h4]) x (by rw [h4]; simpa using hx)
  simp only [badS, decide_eq_false_iff_not, not_or] at this
  omega
theorem getD_mem {t : List Int} {k : Nat} (hk : k < t.length) : t.getD k 0 ∈ t := by
  rw [List.getD_eq_getElem?_getD, List.getElem?_eq_getElem hk]; exact List.getElem_mem hk
theorem termOk_get {a t : List Int} (h : termOk a t = true) {k : Nat} (hk : k < t.length) : -24 ≤ t.getD k 0 ∧ t.getD k 0 < a.length := termOk_mem h (getD_mem hk)
/-- The number of numbers of the term that begins at k. -/
def sz (a t : List Int) (k : Nat) : Nat := (skp a (badS a) (t.drop k) 1).2
def subt (a t : List Int) (k : Nat) : List Int := (t.drop k).take (sz a t k)
theorem term_at {a t : List Int} (h : termOk a t = true) {k : Nat} (hk : k < t.length) : (skp a (badS a) (t.drop k) 1).1 = true ∧ 1 ≤ sz a t k ∧ k + sz a t k ≤ t.length := by
  have h4 := (termOk_iff.1 h).2.2.2
  obtain ⟨m, h1, h2⟩ := skp_mid a (badS a) t 1 k (by rw [h4]) (by rw [h4]; exact hk)
  obtain ⟨h5, h6⟩ := skp_one _ _ _ m h1
  rw [h4] at h2
  exact ⟨h5, skp_pos _ _ _ 0 h5, by unfold sz; simp only at h2; omega⟩
theorem subt_len {a t : List Int} (h : termOk a t = true) {k : Nat} (hk : k < t.length) : (subt a t k).length = sz a t k := by
  unfold subt; rw [List.length_take, List.length_drop]; have := (term_at h hk).2.2; omega
theorem skp_take {a : List Int} {bad : Int → Bool} : ∀ (l : List Int) (m k : Nat), (skp a bad l m).2 ≤ k → (skp a bad l m).1 = true → skp a bad (l.take k) m = skp a bad l m
  | l, 0, k, _, _ => by simp [skp]
  | [], m + 1, k, _, h => by simp [skp] at h
  | x :: xs, m + 1, 0, h, h' => by
    have := skp_pos a bad (x :: xs) m h'
    omega
  | x :: xs, m + 1, k + 1, h, h' => by
    rw [List.take_succ_cons]
    simp only [skp] at h h' ⊢
    by_cases h1 : bad x = true
    · simp [h1]
    · simp only [h1, Bool.false_eq_true, if_false] at h h' ⊢
      rw [skp_take xs _ k (by omega) h']
theorem subt_ok {a t : List Int} (h : termOk a t = true) {k : Nat} (hk : k < t.length) : termOk a (subt a t k) = true := by
  obtain ⟨h1, h2, h3⟩ := term_at h hk
  have hl := subt_len h hk
  have h60 := termOk_len h
  refine termOk_iff.2 ⟨termOk_sig h, by omega, by omega, ?_⟩
  rw [hl]
  show skp a (badS a) ((t.drop k).take (skp a (badS a) (t.drop k) 1).2) 1 = _
  rw [skp_take _ _ _ (Nat.le_refl _) h1]
  ext
  · rw [h1]
  · rfl

/-! ### Matching -/
theorem drop_get {t : List Int} {k : Nat} (hk : k < t.length) : t.drop k = t.getD k 0 :: t.drop (k + 1) := by
  rw [List.drop_eq_getElem_cons hk, List.getD_eq_getElem?_getD, List.getElem?_eq_getElem hk]; rfl
/-! ### The plain form of a substitution -/
end Go.Proofs.Ytjblieilblcdnaa
namespace Go.Proofs.Ytjblieilblcdnaa
open Go Go.Eng
set_option linter.unusedVariables false
set_option linter.unusedSimpArgs false

/-- What a variable is bound to; nothing where it is free. -/
def bdW (bs : List (List Int)) (n : Int) : List Int := bs.getD (-1 - n).toNat []
/-- What stands for each number, by these bindings; how deep it goes. -/
structure Ex (bs : List (List Int)) (E : Int → List Int) (ρ : Int → Nat) : Prop where
  len : bs.length = 48
  sym : ∀ c, 0 ≤ c → E c = [c]
  fr : ∀ x, -48 ≤ x → x < 0 → bdW bs x = [] → E x = [x]
  bo : ∀ x, -48 ≤ x → x < 0 → bdW bs x ≠ [] → E x = (bdW bs x).flatMap E
  rk : ∀ x, -48 ≤ x → x < 0 → bdW bs x ≠ [] → ∀ y ∈ bdW bs x, -48 ≤ y ∧ ρ y < ρ x
theorem bdW_set {bs : List (List Int)} {x z : Int} {v : List Int} (hl : bs.length = 48) (hx : -48 ≤ x ∧ x < 0) (hz : -48 ≤ z ∧ z < 0) : bdW (bs.set (-1 - x).toNat v) z = if z = x then v else bdW bs z := by
  unfold bdW
  simp only [List.getD_eq_getElem?_getD, List.getElem?_set]
  by_cases h : z = x
  · subst h
    rw [if_pos rfl, if_pos rfl, if_pos (by omega)]; rfl
  · rw [if_neg h, if_neg (by omega)]
theorem ex_zero : Ex (List.replicate 48 []) (fun c => [c]) (fun _ => 0) := by
  have hz : ∀ n : Int, bdW (List.replicate 48 []) n = [] := fun n => by
    unfold bdW
    rw [List.getD_eq_getElem?_getD, List.getElem?_replicate]
    split <;> rfl
  exact ⟨by simp, fun _ _ => rfl, fun _ _ _ _ => rfl, fun x _ _ h => absurd (hz x) h, fun x _ _ h => absurd (hz x) h⟩
/-- What stands for a number once one more variable is bound. -/
def exB (E : Int → List Int) (x : Int) (b : List Int) (z : Int) : List Int := (E z).flatMap fun c => if c = x then b else [c]
theorem flat_one {b : List Int} {x : Int} : ∀ {l : List Int}, x ∉ l → (l.flatMap fun c => if c = x then b else [c]) = l
  | [], _ => rfl
  | c :: l, h => by
    rw [List.flatMap_cons, if_neg (fun e => h (by rw [e]; exact List.mem_cons_self ..)), flat_one fun hm => h (List.mem_cons_of_mem _ hm)]
    rfl
theorem exB_not {E : Int → List Int} {x z : Int} {b : List Int} (h : x ∉ E z) : exB E x b z = E z := flat_one h
theorem exB_flat {E : Int → List Int} {x : Int} {b : List Int} (t : List Int) : t.flatMap (exB E x b) = (t.flatMap E).flatMap fun c => if c = x then b else [c] := by
  rw [List.flatMap_assoc]; rfl
theorem exB_term {E : Int → List Int} {x : Int} {b t : List Int} (h : x ∉ t.flatMap E) : t.flatMap (exB E x b) = t.flatMap E := by
  rw [exB_flat, flat_one h]
def exR (E : Int → List Int) (ρ : Int → Nat) (x : Int) (m : Nat) (z : Int) : Nat := if x ∈ E z then ρ z + m + 1 else ρ z
theorem sum_ge {ρ : Int → Nat} : ∀ {l : List Int} {y : Int}, y ∈ l → ρ y ≤ (l.map ρ).sum
  | c :: l, y, h => by
    rw [List.map_cons, List.sum_cons]
    rcases List.mem_cons.1 h with e | e
    · rw [e]; omega
    · have := sum_ge (ρ := ρ) e; omega
theorem ex_bind {bs : List (List Int)} {E : Int → List Int} {ρ : Int → Nat} {x : Int} {v : List Int} (h : Ex bs E ρ) (hx : -48 ≤ x ∧ x < 0) (h0 : bdW bs x = []) (hv : v ≠ []) (hr : ∀ y ∈ v, -48 ≤ y) (hn : x ∉ v.flatMap E) :
    Ex (bs.set (-1 - x).toNat v) (exB E x (v.flatMap E)) (exR E ρ x (v.map ρ).sum) := by
  have hEx := h.fr x hx.1 hx.2 h0
  refine ⟨by rw [List.length_set]; exact h.len, fun c hc => ?_, fun z h1 h2 h3 => ?_, fun z h1 h2 h3 => ?_, fun z h1 h2 h3 y hy => ?_⟩
  · rw [exB_not (by rw [h.sym c hc, List.mem_singleton]; omega), h.sym c hc]
  · rw [bdW_set h.len hx ⟨h1, h2⟩] at h3
    by_cases e : z = x
    · rw [if_pos e] at h3; exact absurd h3 hv
    · rw [if_neg e] at h3
      have := h.fr z h1 h2 h3
      rw [exB_not (by rw [this, List.mem_singleton]; exact fun e' => e e'.symm), this]
  · rw [bdW_set h.len hx ⟨h1, h2⟩] at h3 ⊢
    by_cases e : z = x
    · subst e
      rw [if_pos rfl, exB_term hn]
      unfold exB
      rw [hEx, List.flatMap_cons, if_pos rfl, List.flatMap_nil, List.append_nil]
    · rw [if_neg e] at h3 ⊢
      rw [exB_flat, ← h.bo z h1 h2 h3]
      rfl
  · rw [bdW_set h.len hx ⟨h1, h2⟩] at h3 hy
    by_cases e : z = x
    · subst e
      rw [if_pos rfl] at hy
      refine ⟨hr y hy, ?_⟩
      unfold exR
      rw [if_neg (fun hm => hn (List.mem_flatMap.2 ⟨y, hy, hm⟩)), if_pos (by rw [hEx]; exact List.mem_singleton.2 rfl)]
      have := sum_ge (ρ := ρ) hy
      omega
    · rw [if_neg e] at h3 hy
      have hk := h.rk z h1 h2 h3 y hy
      refine ⟨hk.1, ?_⟩
      unfold exR
      by_cases hm : x ∈ E y
      · rw [if_pos hm, if_pos (by rw [h.bo z h1 h2 h3]; exact List.mem_flatMap.2 ⟨y, hy, hm⟩)]
        omega
      · rw [if_neg hm]
        split <;> omega
theorem ex_pos {bs : List (List Int)} {E : Int → List Int} {ρ : Int → Nat} (h : Ex bs E ρ) : ∀ (n : Nat) (c : Int), -48 ≤ c → ρ c < n → 1 ≤ (E c).length
  | 0, c, _, h1 => by omega
  | n + 1, c, h0, h1 => by
    by_cases hc : 0 ≤ c
    · rw [h.sym c hc]; simp
    · by_cases hb : bdW bs c = []
      · rw [h.fr c h0 (by omega) hb]; simp
      · rw [h.bo c h0 (by omega) hb]
        obtain ⟨y, l, hy⟩ := List.exists_cons_of_ne_nil hb
        have hk := h.rk c h0 (by omega) hb y (by rw [hy]; exact List.mem_cons_self ..)
        have := ex_pos h n y hk.1 (by omega)
        rw [hy, List.flatMap_cons, List.length_append]
        omega
theorem ex_flat_pos {bs : List (List Int)} {E : Int → List Int} {ρ : Int → Nat} (h : Ex bs E ρ) {t : List Int} (ht : t ≠ []) (hr : ∀ y ∈ t, -48 ≤ y) : 1 ≤ (t.flatMap E).length := by
  obtain ⟨y, l, hy⟩ := List.exists_cons_of_ne_nil ht
  have := ex_pos h (ρ y + 1) y (hr y (by rw [hy]; exact List.mem_cons_self ..)) (by omega)
  rw [hy, List.flatMap_cons, List.length_append]
  omega
/-- How many are free. -/
def ubW (bs : List (List Int)) : Nat := (bs.filter fun b => b.isEmpty).length
theorem ubW_set : ∀ {bs : List (List Int)} {k : Nat} {v : List Int}, k < bs.length → bs.getD k [] = [] → v ≠ [] → ubW (bs.set k v) + 1 = ubW bs
  | b :: bs, 0, v, _, h, hv => by
    have hb : b = [] := h
    subst hb
    unfold ubW
    rw [List.set_cons_zero, List.filter_cons_of_neg (by simpa using hv), List.filter_cons_of_pos (by rfl), List.length_cons]
  | b :: bs, k + 1, v, hk, h, hv => by
    have ih := ubW_set (bs := bs) (k := k) (v := v) (by simpa using hk) h hv
    unfold ubW at ih ⊢
    rw [List.set_cons_succ]
    by_cases hb : b.isEmpty = true
    · rw [List.filter_cons_of_pos hb, List.filter_cons_of_pos hb, List.length_cons, List.length_cons, ← ih]
    · rw [List.filter_cons_of_neg hb, List.filter_cons_of_neg hb, ih]
/-- A number that falls with each turn: free variables first, then what is left to be compared. -/
def msF : Nat → Nat → Nat
  | 0, s => s
  | u + 1, s => msF u (s * s) + s + 1
theorem msF_mono : ∀ (u : Nat) {s t : Nat}, s ≤ t → msF u s ≤ msF u t
  | 0, _, _, h => h
  | u + 1, s, t, h => by
    have := msF_mono u (Nat.mul_le_mul h h)
    unfold msF
    omega
theorem msF_lt : ∀ (u : Nat) {s t : Nat}, s < t → msF u s < msF u t
  | 0, _, _, h => h
  | u + 1, s, t, h => by
    have := msF_mono u (Nat.mul_le_mul (Nat.le_of_lt h) (Nat.le_of_lt h))
    unfold msF
    omega
theorem msF_bind {u s t : Nat} (h : t ≤ s * s) : msF u t < msF (u + 1) s := by
  have := msF_mono u h
  show msF u t < msF u (s * s) + s + 1
  omega
/-- What is left to be compared. -/
def pdS (E : Int → List Int) (ts : List (List Int)) : Nat := (ts.map fun t => (t.flatMap E).length).sum
theorem pdS_append (E : Int → List Int) (a b : List (List Int)) : pdS E (a ++ b) = pdS E a + pdS E b := by
  unfold pdS; rw [List.map_append, List.sum_append]
theorem pdS_one (E : Int → List Int) (t : List Int) : pdS E [t] = (t.flatMap E).length := by
  unfold pdS; simp
theorem subst_len {b : List Int} {x : Int} (hb : 1 ≤ b.length) : ∀ l : List Int, (l.flatMap fun c => if c = x then b else [c]).length ≤ l.length * b.length
  | [] => by simp
  | c :: l => by
    have := subst_len hb l (x := x)
    rw [List.flatMap_cons, List.length_append, List.length_cons, Nat.add_mul, Nat.one_mul]
    split
    · omega
    · rw [List.length_singleton]; omega
theorem pdS_bind {E : Int → List Int} {x : Int} {b : List Int} (hb : 1 ≤ b.length) : ∀ ts : List (List Int), pdS (exB E x b) ts ≤ pdS E ts * b.length
  | [] => by simp [pdS]
  | t :: ts => by
    have ih := pdS_bind (E := E) (x := x) hb ts
    have h1 := subst_len hb (x := x) (t.flatMap E)
    rw [← exB_flat] at h1
    have e1 : pdS (exB E x b) (t :: ts) = (t.flatMap (exB E x b)).length + pdS (exB E x b) ts := by unfold pdS; simp
    have e2 : pdS E (t :: ts) = (t.flatMap E).length + pdS E ts := by unfold pdS; simp
    rw [e1, e2, Nat.add_mul]
    omega
end Go.Proofs.Ytjblieilblcdnaa
namespace Go.Proofs.Ytjblieilblcdnaa
open Go Go.Eng
set_option linter.unusedVariables false
set_option linter.unusedSimpArgs false
def agN (a t : List Int) : Nat := (ar a (t.getD 0 0)).toNat
def agP (a t : List Int) : Nat → Nat
  | 0 => 1
  | i + 1 => agP a t i + sz a t (agP a t i)
theorem agP_skp {a t : List Int} (h : termOk a t = true) : ∀ i, i ≤ agN a t → agP a t i ≤ t.length ∧ skp a (badS a) (t.drop (agP a t i)) (agN a t - i) = (true, t.length - agP a t i)
  | 0, _ => by
    have hl := termOk_len h
    have hs := (termOk_iff.1 h).2.2.2
    have hd := drop_get (t := t) (k := 0) (by omega)
    rw [List.drop_zero] at hd
    refine ⟨hl.1, ?_⟩
    show skp a (badS a) (t.drop 1) (agN a t - 0) = (true, t.length - 1)
    rw [hd] at hs
    simp only [skp, Nat.zero_add] at hs
    split at hs
    · simp at hs
    · have e1 := congrArg Prod.fst hs
      have e2 := congrArg Prod.snd hs
      simp only [List.length_cons] at e1 e2
      rw [List.length_drop] at e2
      have : skp a (badS a) (t.drop 1) (agN a t) = (true, t.length - 1) := Prod.ext e1 (by
        show (skp a (badS a) (t.drop 1) (ar a (t.getD 0 0)).toNat).2 = t.length - 1
        omega)
      simpa using this
  | i + 1, hi => by
    obtain ⟨h1, h2⟩ := agP_skp h i (by omega)
    rw [show agN a t - i = 1 + (agN a t - (i + 1)) by omega, skp_split] at h2
    split at h2
    · rename_i hone
      have e1 := congrArg Prod.fst h2
      have e2 := congrArg Prod.snd h2
      simp only [List.drop_drop] at e1 e2
      have hle := skp_le a (badS a) (t.drop (agP a t i)) 1
      rw [List.length_drop] at hle
      refine ⟨by show agP a t i + (skp a (badS a) (t.drop (agP a t i)) 1).2 ≤ _; omega, ?_⟩
      show skp a (badS a) (t.drop (agP a t i + (skp a (badS a) (t.drop (agP a t i)) 1).2)) _ = (true, t.length - (agP a t i + (skp a (badS a) (t.drop (agP a t i)) 1).2))
      exact Prod.ext e1 (by show (skp _ _ _ _).2 = t.length - _; omega)
    · rename_i hone
      rw [h2] at hone
      exact absurd rfl hone
theorem agP_lt {a t : List Int} (h : termOk a t = true) {i : Nat} (hi : i < agN a t) : agP a t i < t.length ∧ 1 ≤ agP a t i := by
  have h1 := (agP_skp h i (by omega)).2
  have h2 : 1 ≤ (skp a (badS a) (t.drop (agP a t i)) ((agN a t - i - 1) + 1)).2 := skp_pos _ _ _ _ (by rw [show agN a t - i - 1 + 1 = agN a t - i by omega, h1])
  rw [show agN a t - i - 1 + 1 = agN a t - i by omega, h1] at h2
  simp only at h2
  refine ⟨by omega, ?_⟩
  have : ∀ j, 1 ≤ agP a t j := fun j => by
    induction j with
    | zero => exact Nat.le_refl _
    | succ j ih => show 1 ≤ agP a t j + _; omega
  exact this i
theorem agN_le {a t : List Int} (h : termOk a t = true) : (ar a (t.getD 0 0) : Int) = agN a t ∧ agN a t ≤ 3 := by
  have hl := termOk_len h
  have hg := termOk_get h (k := 0) (by omega)
  have hb := ar_bounds (termOk_sig h) hg.2
  unfold agN
  omega
end Go.Proofs.Ytjblieilblcdnaa
namespace Go.Proofs.Ytjblieilblcdnaa
open Go Go.Eng
set_option linter.unusedVariables false
set_option linter.unusedSimpArgs false
/-- Each variable made the first one. -/
def sqV (x : Int) : Int := if x < 0 then -1 else x
def sqL (t : List Int) : List Int := t.map sqV
theorem sqL_len (t : List Int) : (sqL t).length = t.length := by unfold sqL; rw [List.length_map]
theorem sqL_get {t : List Int} {k : Nat} (h : k < t.length) : (sqL t).getD k 0 = sqV (t.getD k 0) := by
  unfold sqL
  rw [List.getD_eq_getElem?_getD, List.getElem?_map, List.getElem?_eq_getElem h, List.getD_eq_getElem?_getD, List.getElem?_eq_getElem h]; rfl
theorem sqV_sign (x : Int) : sqV x < 0 ↔ x < 0 := by unfold sqV; split <;> omega
theorem sqV_pos {x : Int} (h : 0 ≤ x) : sqV x = x := by unfold sqV; rw [if_neg (by omega)]
theorem sqL_drop (t : List Int) (k : Nat) : (sqL t).drop k = sqL (t.drop k) := by unfold sqL; rw [List.map_drop]
theorem sqL_take (t : List Int) (k : Nat) : (sqL t).take k = sqL (t.take k) := by unfold sqL; rw [List.map_take]
/-- A term whose variables may be any down to -48. -/
structure WTm (a t : List Int) : Prop where
  ok : termOk a (sqL t) = true
  lo : ∀ x ∈ t, -48 ≤ x
theorem WTm.len {a t : List Int} (h : WTm a t) : 1 ≤ t.length ∧ t.length ≤ 60 := by
  have := termOk_len h.ok
  rw [sqL_len] at this
  exact this
theorem WTm.ne {a t : List Int} (h : WTm a t) : t ≠ [] := fun e => by have := h.len; rw [e] at this; simp at this
theorem WTm.get {a t : List Int} (h : WTm a t) {k : Nat} (hk : k < t.length) : -48 ≤ t.getD k 0 ∧ t.getD k 0 < a.length := by
  refine ⟨h.lo _ (getD_mem hk), ?_⟩
  have h1 := termOk_get h.ok (k := k) (by rw [sqL_len]; exact hk)
  rw [sqL_get hk] at h1
  by_cases h0 : 0 ≤ t.getD k 0
  · rw [sqV_pos h0] at h1; exact h1.2
  · have := sigOk_len (termOk_sig h.ok); omega
/-- How long the subterm at k is. -/
def szW (a t : List Int) (k : Nat) : Nat := sz a (sqL t) k
def subW (a t : List Int) (k : Nat) : List Int := (t.drop k).take (szW a t k)
theorem subW_sq (a t : List Int) (k : Nat) : sqL (subW a t k) = subt a (sqL t) k := by
  unfold subW subt
  rw [← sqL_take, ← sqL_drop]; rfl
theorem subW_len {a t : List Int} (h : WTm a t) {k : Nat} (hk : k < t.length) : (subW a t k).length = szW a t k := by
  have := subt_len h.ok (k := k) (by rw [sqL_len]; exact hk)
  rw [← subW_sq, sqL_len] at this
  exact this
theorem WTm.sub {a t : List Int} (h : WTm a t) {k : Nat} (hk : k < t.length) : WTm a (subW a t k) := ⟨by rw [subW_sq]; exact subt_ok h.ok (by rw [sqL_len]; exact hk), fun x hx => h.lo x (List.mem_of_mem_drop (List.mem_of_mem_take hx))⟩
theorem WTm.at {a t : List Int} (h : WTm a t) {k : Nat} (hk : k < t.length) : 1 ≤ szW a t k ∧ k + szW a t k ≤ t.length := by
  have := (term_at h.ok (k := k) (by rw [sqL_len]; exact hk)).2
  rw [sqL_len] at this
  exact this
theorem subW_hd {a t : List Int} (h : WTm a t) {k : Nat} (hk : k < t.length) : (subW a t k).getD 0 0 = t.getD k 0 := by
  have := (h.at hk).1
  unfold subW
  rw [List.getD_eq_getElem?_getD, List.getElem?_take_of_lt (by omega), List.getElem?_drop, List.getD_eq_getElem?_getD]
  rfl
/-- A term that begins with a variable is that variable. -/
theorem WTm.var {a t : List Int} (h : WTm a t) (h0 : t.getD 0 0 < 0) : t = [t.getD 0 0] := by
  have hl := h.len
  have h1 := (termOk_iff.1 h.ok).2.2.2
  cases t with
  | nil => simp at hl
  | cons x xs =>
    have hx : x < 0 := h0
    have e : sqL (x :: xs) = -1 :: sqL xs := by
      show sqV x :: sqL xs = _
      unfold sqV; rw [if_pos hx]
    rw [e] at h1
    unfold skp at h1
    have hb : badS a (-1) = false := by
      have := sigOk_len (termOk_sig h.ok)
      unfold badS; exact decide_eq_false (by omega)
    rw [hb, if_neg (by decide)] at h1
    have ha : ar a (-1) = 0 := if_pos (by decide)
    rw [ha] at h1
    simp only [Int.toNat_zero, Nat.add_zero, skp, List.length_cons, sqL_len] at h1
    have : xs.length = 0 := by
      have := (Prod.mk.inj h1).2
      omega
    rw [List.length_eq_zero_iff.1 this]; rfl
theorem skp_sq {a : List Int} : ∀ (l : List Int) (m : Nat), (∀ x ∈ l, badS a (sqV x) = badS a x) → skp a (badS a) (sqL l) m = skp a (badS a) l m
  | l, 0, _ => by simp [skp]
  | [], m + 1, _ => rfl
  | x :: xs, m + 1, h => by
    have e : sqL (x :: xs) = sqV x :: sqL xs := rfl
    have ha : ar a (sqV x) = ar a x := by
      unfold ar sqV
      by_cases hx : x < 0
      · rw [if_pos hx, if_pos (by decide), if_pos hx]
      · rw [if_neg hx]
    rw [e]
    simp only [skp]
    rw [h x (by simp), ha, skp_sq xs _ fun y hy => h y (by simp [hy])]
theorem sq_bad {a t : List Int} (h : termOk a t = true) : ∀ x ∈ t, badS a (sqV x) = badS a x := fun x hx => by
  have h1 := termOk_mem h hx
  have h2 := sigOk_len (termOk_sig h)
  unfold badS sqV
  split <;> rw [decide_eq_decide] <;> omega
theorem sz_sq {a t : List Int} (h : termOk a t = true) (k : Nat) : szW a t k = sz a t k := by
  unfold szW sz
  rw [sqL_drop, skp_sq _ _ fun x hx => sq_bad h x (List.mem_of_mem_drop hx)]
theorem subW_plain {a t : List Int} (h : termOk a t = true) (k : Nat) : subW a t k = subt a t k := by
  unfold subW subt
  rw [sz_sq h]
theorem wtm_of {a t : List Int} (h : termOk a t = true) : WTm a t := by
  obtain ⟨h1, h2, h3, h4⟩ := termOk_iff.1 h
  refine ⟨termOk_iff.2 ⟨h1, by rw [sqL_len]; exact h2, by rw [sqL_len]; exact h3, ?_⟩, fun x hx => by have := termOk_mem h hx; omega⟩
  rw [sqL_len, skp_sq _ _ (sq_bad h), h4]
/-- With all variables renamed. -/
theorem wtm_ren {a t u : List Int} (h : WTm a t) (e : sqL u = sqL t) (hl : ∀ x ∈ u, -48 ≤ x) : WTm a u := ⟨by rw [e]; exact h.ok, hl⟩
def awayL (t : List Int) (k : Int) : List Int := t.map fun x => if x < 0 then x - k else x
theorem awayL_len (t : List Int) (k : Int) : (awayL t k).length = t.length := by unfold awayL; rw [List.length_map]
theorem awayL_sq (t : List Int) : sqL (awayL t 24) = sqL t := by
  unfold sqL awayL
  rw [List.map_map]
  refine List.map_congr_left fun x _ => ?_
  show sqV (if x < 0 then x - 24 else x) = sqV x
  unfold sqV
  by_cases h : x < 0
  · rw [if_pos h, if_pos h, if_pos (by omega)]
  · rw [if_neg h, if_neg h]
theorem wtm_away {a t : List Int} (h : termOk a t = true) : WTm a (awayL t 24) := wtm_ren (wtm_of h) (awayL_sq t) fun x hx => by
  obtain ⟨y, hy, e⟩ := List.mem_map.1 hx
  have := termOk_mem h hy
  split at e <;> omega
/-! ### The arguments -/
def partsW (a t : List Int) : Nat → List (Sh (List Int))
  | 0 => []
  | i + 1 => partsW a t i ++ [⟨subW a t (agP a (sqL t) i)⟩]
theorem partsW_len (a t : List Int) : ∀ i, (partsW a t i).length = i
  | 0 => rfl
  | i + 1 => by simp [partsW, partsW_len a t i]
theorem partsW_mem {a t : List Int} {s : Sh (List Int)} : ∀ {n}, s ∈ partsW a t n → ∃ i, i < n ∧ s = ⟨subW a t (agP a (sqL t) i)⟩
  | 0, h => by cases h
  | n + 1, h => by
    rcases List.mem_append.1 h with h | h
    · obtain ⟨i, hi, e⟩ := partsW_mem h
      exact ⟨i, by omega, e⟩
    · rw [List.mem_singleton] at h
      exact ⟨n, by omega, h⟩
end Go.Proofs.Ytjblieilblcdnaa
