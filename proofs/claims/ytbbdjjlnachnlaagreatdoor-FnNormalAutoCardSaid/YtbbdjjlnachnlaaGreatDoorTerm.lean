/- The laws' own helpers for []int64. -/
import Derived.Test.YtbbdjjlnachnlaaGreatDoorInst
import Derived.Test.YtbbdjjlnachnlaaGreatDoorEngO
namespace Go.Proofs.YtbbdjjlnachnlaaGreatDoor
open Go Go.Eng
set_option linter.unusedVariables false
set_option linter.unusedSimpArgs false

end Go.Proofs.YtbbdjjlnachnlaaGreatDoor
namespace Go.Proofs.YtbbdjjlnachnlaaGreatDoor
open Go Go.Eng
set_option linter.unusedVariables false
set_option linter.unusedSimpArgs false

abbrev SSig := List Int
abbrev SRule := List Int × List Int
abbrev SSystem := SSig × List SRule
abbrev STrans := Int × List Int × Int
abbrev SAuto := Int × List STrans × List Int
end Go.Proofs.YtbbdjjlnachnlaaGreatDoor
namespace Go.Proofs.YtbbdjjlnachnlaaGreatDoor
open Go Go.Eng
set_option linter.unusedVariables false
set_option linter.unusedSimpArgs false

theorem l1In_spec {w0 : World} {Γ : List Atom} {x lo hi : Int} : CJ Tryz.prog 43 [.int .i64 x, .int .i64 lo, .int .i64 hi] w0 Γ (fun _ : Unit => .bool (decide (lo ≤ x ∧ x ≤ hi))) (fun _ => Γ) := by
  refine cj_enter Tryz.func43 Tryz.ntmps43 ?_
  repeat' (first | refine red ?_ | (refine redi (fun hc => ?_) (fun hc => ?_) <;> try first | (exfalso; omega) | exact absurd rfl hc) | fail)
  all_goals exact ⟨(), ret_bool (by first | (refine decide_eq_decide.2 ?_; omega) | (refine (decide_eq_false ?_).symm; omega) | (simp; omega)), ent_e⟩

instance l1In_ctr {Γ : List Atom} {x lo hi : Int} :
    CtrC Tryz.prog 43 [.int .i64 x, .int .i64 lo, .int .i64 hi] Γ (True) (Unit) (fun _ : Unit => .bool (decide (lo ≤ x ∧ x ≤ hi))) (fun _ => Γ) := ⟨fun s w0 => l1In_spec⟩

theorem l1Copy_spec {w0 : World} {Γ : List Atom} {av : Value} {xs : List Int} [h : HasRd (List Int) repList Γ [av] xs] (hl : xs.length ≤ 1048576) :
    CJ Tryz.prog 88 [av] w0 Γ (fun p : Value => p) (fun p => .ow [p] xs :: Γ) := by
  refine cj_enter Tryz.func88 Tryz.ntmps88 ?_
  repeat' (first | refine red ?_ | refine redv fun sv => ?_ | fail)
  exact ⟨_, rfl, ent_e⟩

instance l1Copy_ctr {Γ : List Atom} {av : Value} {xs : List Int} [h : HasRd (List Int) repList Γ [av] xs] :
    CtrC Tryz.prog 88 [av] Γ (xs.length ≤ 1048576) (Value) (fun p : Value => p) (fun p => .ow [p] xs :: Γ) := ⟨fun s w0 => l1Copy_spec s⟩

theorem Clone_spec {w0 : World} {Γ : List Atom} {av : Value} {xs : List Int} [h : HasRd (List Int) repList Γ [av] xs] (hl : xs.length ≤ 1048576) :
    CJ Tryz.prog 130 [av] w0 Γ (fun p : Value => p) (fun p => .ow [p] xs :: Γ) := by
  refine cj_enter Tryz.func130 Tryz.ntmps130 ?_
  repeat' (first | refine red ?_ | refine redv fun sv => ?_ | refine redq (fun hc => ?_) (fun hc => ?_) | fail)
  · subst hc
    exact ⟨_, rfl, ent_e⟩
  · exact ⟨_, rfl, ent_e⟩

instance Clone_ctr {Γ : List Atom} {av : Value} {xs : List Int} [h : HasRd (List Int) repList Γ [av] xs] :
    CtrC Tryz.prog 130 [av] Γ (xs.length ≤ 1048576) (Value) (fun p : Value => p) (fun p => .ow [p] xs :: Γ) := ⟨fun s w0 => Clone_spec s⟩

end Go.Proofs.YtbbdjjlnachnlaaGreatDoor
namespace Go.Proofs.YtbbdjjlnachnlaaGreatDoor
open Go Go.Eng
set_option linter.unusedVariables false
set_option linter.unusedSimpArgs false

/-! ### Where a term ends -/
def sigOk (a : List Int) : Bool := decide (1 ≤ a.length ∧ a.length ≤ 8) && a.all fun n => decide (0 ≤ n ∧ n ≤ 3)
def ar (a : List Int) (n : Int) : Int := if n < 0 then 0 else a.getD n.toNat 0
def badI (a : List Int) (x : Int) : Bool := decide ((a.length : Int) ≤ x)
def badS (a : List Int) (x : Int) : Bool := decide (x < -24 ∨ (a.length : Int) ≤ x)
/-- Read m terms, one behind the other: whether they are there, and how many numbers were read. -/
def skp (a : List Int) (bad : Int → Bool) : List Int → Nat → Bool × Nat
  | _, 0 => (true, 0)
  | [], _ + 1 => (false, 0)
  | x :: xs, m + 1 => if bad x then (false, 0) else ((skp a bad xs (m + (ar a x).toNat)).1, (skp a bad xs (m + (ar a x).toNat)).2 + 1)
def endOf (a : List Int) (bad : Int → Bool) (t : List Int) (at_ : Nat) : Int := if (skp a bad (t.drop at_) 1).1 then (at_ + (skp a bad (t.drop at_) 1).2 : Nat) else -1
def termOk (a t : List Int) : Bool := sigOk a && decide (1 ≤ t.length ∧ t.length ≤ 60) && decide (endOf a (badS a) t 0 = t.length)

theorem sigOk_len {a : List Int} (h : sigOk a = true) : 1 ≤ a.length ∧ a.length ≤ 8 := by
  simp only [sigOk, Bool.and_eq_true, decide_eq_true_eq] at h; exact h.1
theorem sigOk_get {a : List Int} (h : sigOk a = true) {k : Nat} (hk : k < a.length) : 0 ≤ a.getD k 0 ∧ a.getD k 0 ≤ 3 := by
  simp only [sigOk, Bool.and_eq_true, List.all_eq_true, decide_eq_true_eq] at h
  rw [List.getD_eq_getElem?_getD, List.getElem?_eq_getElem hk]
  exact h.2 _ (List.getElem_mem hk)
theorem ar_bounds {a : List Int} (h : sigOk a = true) {x : Int} (hx : x < a.length) : 0 ≤ ar a x ∧ ar a x ≤ 3 := by
  unfold ar
  split
  · omega
  · exact sigOk_get h (by omega)
theorem skp_le (a : List Int) (bad : Int → Bool) : ∀ (l : List Int) (m : Nat), (skp a bad l m).2 ≤ l.length
  | l, 0 => by simp [skp]
  | [], m + 1 => by simp [skp]
  | x :: xs, m + 1 => by
    simp only [skp]
    split
    · simp
    · have := skp_le a bad xs (m + (ar a x).toNat)
      simp only [List.length_cons]; omega
theorem skp_pos (a : List Int) (bad : Int → Bool) (l : List Int) (m : Nat) (h : (skp a bad l (m + 1)).1 = true) : 1 ≤ (skp a bad l (m + 1)).2 := by
  cases l with
  | nil => simp [skp] at h
  | cons x xs =>
    simp only [skp] at h ⊢
    split at h
    · simp at h
    · rename_i hb
      rw [if_neg hb]
      simp
theorem skp_split (a : List Int) (bad : Int → Bool) : ∀ (l : List Int) (m n : Nat), skp a bad l (m + n) =
    if (skp a bad l m).1 then ((skp a bad (l.drop (skp a bad l m).2) n).1, (skp a bad l m).2 + (skp a bad (l.drop (skp a bad l m).2) n).2) else skp a bad l m
  | l, 0, n => by simp [skp]
  | [], m + 1, n => by rw [Nat.add_right_comm]; simp [skp]
  | x :: xs, m + 1, n => by
    rw [Nat.add_right_comm]
    simp only [skp]
    by_cases hb : bad x = true
    · simp [hb]
    · simp only [hb, Bool.false_eq_true, if_false]
      have ih := skp_split a bad xs (m + (ar a x).toNat) n
      rw [show m + n + (ar a x).toNat = m + (ar a x).toNat + n by omega, ih]
      by_cases h1 : (skp a bad xs (m + (ar a x).toNat)).1 = true
      · simp only [h1, if_true, List.drop_succ_cons]
        ext <;> simp <;> omega
      · simp only [h1, Bool.false_eq_true, if_false]
/-- Behind i of the numbers that are read, at least one term is still to come. -/
theorem skp_mid (a : List Int) (bad : Int → Bool) : ∀ (l : List Int) (m i : Nat), (skp a bad l m).1 = true → i < (skp a bad l m).2 → ∃ m', (skp a bad (l.drop i) (m' + 1)).1 = true ∧ i + (skp a bad (l.drop i) (m' + 1)).2 = (skp a bad l m).2
  | l, 0, i, _, hi => by simp [skp] at hi
  | [], m + 1, i, h, _ => by simp [skp] at h
  | x :: xs, m + 1, 0, h, _ => ⟨m, by simpa using h, by simp⟩
  | x :: xs, m + 1, i + 1, h, hi => by
    simp only [skp] at h hi ⊢
    by_cases hb : bad x = true
    · simp [hb] at h
    · simp only [hb, Bool.false_eq_true, if_false] at h hi ⊢
      obtain ⟨m', h1, h2⟩ := skp_mid a bad xs _ i h (by omega)
      exact ⟨m', by simpa using h1, by simp only [List.drop_succ_cons]; omega⟩
theorem skp_one (a : List Int) (bad : Int → Bool) (l : List Int) (m : Nat) (h : (skp a bad l (m + 1)).1 = true) : (skp a bad l 1).1 = true ∧ (skp a bad l 1).2 ≤ (skp a bad l (m + 1)).2 := by
  have := skp_split a bad l 1 m
  rw [Nat.add_comm 1 m] at this
  rw [this] at h ⊢
  by_cases h1 : (skp a bad l 1).1 = true
  · simp [h1]
  · simp [h1] at h
theorem skp_weak {a : List Int} {bad bad' : Int → Bool} (hb : ∀ x, bad' x = true → bad x = true) : ∀ (l : List Int) (m : Nat), (skp a bad l m).1 = true → skp a bad' l m = skp a bad l m
  | l, 0, _ => by simp [skp]
  | [], m + 1, h => by simp [skp] at h
  | x :: xs, m + 1, h => by
    simp only [skp] at h ⊢
    by_cases h1 : bad x = true
    · simp [h1] at h
    · have h2 : ¬ bad' x = true := fun h => h1 (hb x h)
      simp only [h1, h2, Bool.false_eq_true, if_false] at h ⊢
      rw [skp_weak hb xs _ h]
theorem skp_all {a : List Int} {bad : Int → Bool} : ∀ (l : List Int) (m : Nat), (skp a bad l m).1 = true → ∀ x ∈ l.take (skp a bad l m).2, bad x = false
  | l, 0, _ => by simp [skp]
  | [], m + 1, h => by simp [skp] at h
  | x :: xs, m + 1, h => by
    simp only [skp] at h ⊢
    by_cases h1 : bad x = true
    · simp [h1] at h
    · simp only [h1, Bool.false_eq_true, if_false] at h ⊢
      intro y hy
      rw [List.take_succ_cons] at hy
      rcases List.mem_cons.1 hy with rfl | hy
      · simpa using h1
      · exact skp_all xs _ h y hy
theorem skp_same {a : List Int} {bad bad' : Int → Bool} : ∀ (l : List Int) (m : Nat), (∀ x ∈ l, bad x = bad' x) → skp a bad l m = skp a bad' l m
  | l, 0, _ => by simp [skp]
  | [], m + 1, h => by simp [skp]
  | x :: xs, m + 1, h => by
    simp only [skp]
    rw [h x (by simp), skp_same xs _ (fun y hy => h y (by simp [hy]))]
/-! ### Terms that are right -/
theorem termOk_iff {a t : List Int} : termOk a t = true ↔ sigOk a = true ∧ 1 ≤ t.length ∧ t.length ≤ 60 ∧ skp a (badS a) t 1 = (true, t.length) := by
  simp only [termOk, Bool.and_eq_true, decide_eq_true_eq, endOf, List.drop_zero, Nat.zero_add]
  constructor
  · rintro ⟨⟨h1, h2⟩, h3⟩
    refine ⟨h1, h2.1, h2.2, ?_⟩
    split at h3
    · rename_i h; ext
      · rw [h]
      · simp only at h3 ⊢; omega
    · omega
  · rintro ⟨h1, h2, h3, h4⟩
    rw [h4]
    exact ⟨⟨h1, h2, h3⟩, by simp⟩
theorem termOk_sig {a t : List Int} (h : termOk a t = true) : sigOk a = true := (termOk_iff.1 h).1
theorem termOk_len {a t : List Int} (h : termOk a t = true) : 1 ≤ t.length ∧ t.length ≤ 60 := ⟨(termOk_iff.1 h).2.1, (termOk_iff.1 h).2.2.1⟩
theorem termOk_mem {a t : List Int} (h : termOk a t = true) {x : Int} (hx : x ∈ t) : -24 ≤ x ∧ x < a.length := by
  have h4 := (termOk_iff.1 h).2.2.2
  have := skp_all t 1 (by rw [h4]) x (by rw [h4]; simpa using hx)
  simp only [badS, decide_eq_false_iff_not, not_or] at this
  omega
theorem getD_mem {t : List Int} {k : Nat} (hk : k < t.length) : t.getD k 0 ∈ t := by
  rw [List.getD_eq_getElem?_getD, List.getElem?_eq_getElem hk]; exact List.getElem_mem hk
theorem termOk_get {a t : List Int} (h : termOk a t = true) {k : Nat} (hk : k < t.length) : -24 ≤ t.getD k 0 ∧ t.getD k 0 < a.length := termOk_mem h (getD_mem hk)
/-- The number of numbers of the term that begins at k. -/
def sz (a t : List Int) (k : Nat) : Nat := (skp a (badS a) (t.drop k) 1).2
def subt (a t : List Int) (k : Nat) : List Int := (t.drop k).take (sz a t k)
theorem badI_S {a : List Int} (x : Int) (h : badI a x = true) : badS a x = true := by
  simp only [badI, badS, decide_eq_true_eq] at h ⊢; exact .inr h
theorem term_at {a t : List Int} (h : termOk a t = true) {k : Nat} (hk : k < t.length) : (skp a (badS a) (t.drop k) 1).1 = true ∧ 1 ≤ sz a t k ∧ k + sz a t k ≤ t.length := by
  have h4 := (termOk_iff.1 h).2.2.2
  obtain ⟨m, h1, h2⟩ := skp_mid a (badS a) t 1 k (by rw [h4]) (by rw [h4]; exact hk)
  obtain ⟨h5, h6⟩ := skp_one _ _ _ m h1
  rw [h4] at h2
  exact ⟨h5, skp_pos _ _ _ 0 h5, by unfold sz; simp only at h2; omega⟩
theorem end_S {a t : List Int} (h : termOk a t = true) {k : Nat} (hk : k < t.length) : endOf a (badS a) t k = (k + sz a t k : Nat) := by
  unfold endOf; rw [if_pos (term_at h hk).1]; rfl
theorem end_I {a t : List Int} (h : termOk a t = true) {k : Nat} (hk : k < t.length) : endOf a (badI a) t k = (k + sz a t k : Nat) := by
  unfold endOf; rw [skp_weak badI_S _ _ (term_at h hk).1, if_pos (term_at h hk).1]; rfl
theorem subt_len {a t : List Int} (h : termOk a t = true) {k : Nat} (hk : k < t.length) : (subt a t k).length = sz a t k := by
  unfold subt; rw [List.length_take, List.length_drop]; have := (term_at h hk).2.2; omega
theorem skp_take {a : List Int} {bad : Int → Bool} : ∀ (l : List Int) (m k : Nat), (skp a bad l m).2 ≤ k → (skp a bad l m).1 = true → skp a bad (l.take k) m = skp a bad l m
  | l, 0, k, _, _ => by simp [skp]
  | [], m + 1, k, _, h => by simp [skp] at h
  | x :: xs, m + 1, 0, h, h' => by
    have := skp_pos a bad (x :: xs) m h'
    omega
  | x :: xs, m + 1, k + 1, h, h' => by
    rw [List.take_succ_cons]
    simp only [skp] at h h' ⊢
    by_cases h1 : bad x = true
    · simp [h1]
    · simp only [h1, Bool.false_eq_true, if_false] at h h' ⊢
      rw [skp_take xs _ k (by omega) h']
theorem subt_ok {a t : List Int} (h : termOk a t = true) {k : Nat} (hk : k < t.length) : termOk a (subt a t k) = true := by
  obtain ⟨h1, h2, h3⟩ := term_at h hk
  have hl := subt_len h hk
  have h60 := termOk_len h
  refine termOk_iff.2 ⟨termOk_sig h, by omega, by omega, ?_⟩
  rw [hl]
  show skp a (badS a) ((t.drop k).take (skp a (badS a) (t.drop k) 1).2) 1 = _
  rw [skp_take _ _ _ (Nat.le_refl _) h1]
  ext
  · rw [h1]
  · rfl

/-- The program's own test: the least number, and the end without a look at it. -/
theorem termOk_min {a t : List Int} : termOk a t = (sigOk a && decide (0 < t.length) && decide (t.length ≤ 60) && decide (∀ x ∈ t, -24 ≤ x) && decide (endOf a (badI a) t 0 = t.length)) := by
  rw [Bool.eq_iff_iff]
  constructor
  · intro h
    have h2 := termOk_len h
    have h3 : endOf a (badI a) t 0 = t.length := by
      rw [end_I h (by omega)]
      have h4 := (termOk_iff.1 h).2.2.2
      unfold sz; rw [List.drop_zero, h4]; omega
    simp only [Bool.and_eq_true, decide_eq_true_eq]
    exact ⟨⟨⟨⟨termOk_sig h, by omega⟩, by omega⟩, fun x hx => (termOk_mem h hx).1⟩, h3⟩
  · simp only [Bool.and_eq_true, decide_eq_true_eq]
    rintro ⟨⟨⟨⟨h1, h2⟩, h3⟩, h4⟩, h5⟩
    have e : skp a (badI a) t 1 = skp a (badS a) t 1 := skp_same t 1 (fun x hx => by
      have := h4 x hx
      simp only [badI, badS]
      congr 1
      exact propext ⟨fun h => .inr h, fun h => by omega⟩)
    refine termOk_iff.2 ⟨h1, by omega, h3, ?_⟩
    unfold endOf at h5
    rw [List.drop_zero, e] at h5
    split at h5
    · rename_i h; ext
      · rw [h]
      · simp only at h5 ⊢; omega
    · omega

/-! ### Matching -/
def matchGo (a : List Int) : List Int → List Int → List (List Int) → Option (List (List Int))
  | [], _, b => some b
  | _ :: _, [], _ => none
  | n :: p, x :: ts, b =>
    if 0 ≤ n then (if x = n then matchGo a p ts b else none)
    else if b.getD (-1 - n).toNat [] = [] then matchGo a p ((x :: ts).drop (skp a (badS a) (x :: ts) 1).2) (b.set (-1 - n).toNat ((x :: ts).take (skp a (badS a) (x :: ts) 1).2))
    else if b.getD (-1 - n).toNat [] = (x :: ts).take (skp a (badS a) (x :: ts) 1).2 then matchGo a p ((x :: ts).drop (skp a (badS a) (x :: ts) 1).2) b else none
theorem drop_get {t : List Int} {k : Nat} (hk : k < t.length) : t.drop k = t.getD k 0 :: t.drop (k + 1) := by
  rw [List.drop_eq_getElem_cons hk, List.getD_eq_getElem?_getD, List.getElem?_eq_getElem hk]; rfl
theorem match_end {a p t : List Int} {b : List (List Int)} {i k : Nat} (hi : p.length ≤ i) : matchGo a (p.drop i) (t.drop k) b = some b := by
  rw [List.drop_of_length_le hi]; simp [matchGo]
theorem match_out {a p t : List Int} {b : List (List Int)} {i k : Nat} (hi : i < p.length) (hk : t.length ≤ k) : matchGo a (p.drop i) (t.drop k) b = none := by
  rw [drop_get hi, List.drop_of_length_le hk]; simp [matchGo]
theorem match_sym {a p t : List Int} {b : List (List Int)} {i k : Nat} (hi : i < p.length) (hk : k < t.length) (hn : 0 ≤ p.getD i 0) (he : t.getD k 0 = p.getD i 0) :
    matchGo a (p.drop i) (t.drop k) b = matchGo a (p.drop (i + 1)) (t.drop (k + 1)) b := by
  rw [drop_get hi, drop_get hk]; simp only [matchGo]; rw [if_pos hn, if_pos he]
theorem match_sym_ne {a p t : List Int} {b : List (List Int)} {i k : Nat} (hi : i < p.length) (hk : k < t.length) (hn : 0 ≤ p.getD i 0) (he : ¬ t.getD k 0 = p.getD i 0) :
    matchGo a (p.drop i) (t.drop k) b = none := by
  rw [drop_get hi, drop_get hk]; simp only [matchGo]; rw [if_pos hn, if_neg he]
theorem match_new {a p t : List Int} {b : List (List Int)} {i k : Nat} (hi : i < p.length) (hk : k < t.length) (hn : p.getD i 0 < 0) (he : b.getD (-1 - p.getD i 0).toNat [] = []) :
    matchGo a (p.drop i) (t.drop k) b = matchGo a (p.drop (i + 1)) (t.drop (k + sz a t k)) (b.set (-1 - p.getD i 0).toNat (subt a t k)) := by
  have e : t.drop (k + sz a t k) = (t.drop k).drop (sz a t k) := by rw [List.drop_drop]
  rw [e]
  unfold subt sz
  rw [drop_get hi, drop_get hk]
  simp only [matchGo]
  rw [if_neg (by omega), if_pos he]
theorem match_old {a p t : List Int} {b : List (List Int)} {i k : Nat} (hi : i < p.length) (hk : k < t.length) (hn : p.getD i 0 < 0) (he : ¬ b.getD (-1 - p.getD i 0).toNat [] = []) (hs : b.getD (-1 - p.getD i 0).toNat [] = subt a t k) :
    matchGo a (p.drop i) (t.drop k) b = matchGo a (p.drop (i + 1)) (t.drop (k + sz a t k)) b := by
  have e : t.drop (k + sz a t k) = (t.drop k).drop (sz a t k) := by rw [List.drop_drop]
  rw [e]
  unfold subt sz at *
  rw [drop_get hi, drop_get hk] at *
  simp only [matchGo]
  rw [if_neg (by omega), if_neg he, if_pos hs]
theorem match_old_ne {a p t : List Int} {b : List (List Int)} {i k : Nat} (hi : i < p.length) (hk : k < t.length) (hn : p.getD i 0 < 0) (he : ¬ b.getD (-1 - p.getD i 0).toNat [] = []) (hs : ¬ b.getD (-1 - p.getD i 0).toNat [] = subt a t k) :
    matchGo a (p.drop i) (t.drop k) b = none := by
  unfold subt sz at hs
  rw [drop_get hi, drop_get hk] at *
  simp only [matchGo]
  rw [if_neg (by omega), if_neg he, if_neg hs]

/-! ### The plain form of a substitution -/
def triv (i : Nat) (t : List Int) : List Int := if t = [] ∨ t = [-1 - (i : Int)] then [] else t
def trivL : Nat → List (List Int) → List (List Int)
  | _, [] => []
  | i, t :: ts => triv i t :: trivL (i + 1) ts
def strip : List (List Int) → List (List Int)
  | [] => []
  | x :: xs => if strip xs = [] ∧ x = [] then [] else x :: strip xs
def plainOf (ts : List (List Int)) : List (List Int) := strip (trivL 0 ts)
theorem trivL_len : ∀ (i : Nat) (ts : List (List Int)), (trivL i ts).length = ts.length
  | _, [] => rfl
  | i, t :: ts => by simp [trivL, trivL_len (i + 1) ts]
theorem trivL_snoc : ∀ (i : Nat) (ts : List (List Int)) (t : List Int), trivL i (ts ++ [t]) = trivL i ts ++ [triv (i + ts.length) t]
  | i, [], t => by simp [trivL]
  | i, s :: ts, t => by simp [trivL, trivL_snoc (i + 1) ts t, Nat.add_assoc, Nat.add_comm 1]
theorem trivL_take {ts : List (List Int)} {k : Nat} {t : List Int} (h : ts[k]? = some t) : trivL 0 (ts.take (k + 1)) = trivL 0 (ts.take k) ++ [triv k t] := by
  obtain ⟨hk, he⟩ := List.getElem?_eq_some_iff.1 h
  rw [List.take_succ_eq_append_getElem hk, trivL_snoc, he, List.length_take, Nat.min_eq_left (by omega), Nat.zero_add]
theorem strip_snoc_nil : ∀ (l : List (List Int)), strip (l ++ [[]]) = strip l
  | [] => by simp [strip]
  | x :: xs => by simp only [List.cons_append, strip, strip_snoc_nil xs]
theorem strip_snoc : ∀ (l : List (List Int)) (x : List Int), x ≠ [] → strip (l ++ [x]) = l ++ [x]
  | [], x, h => by simp [strip, h]
  | y :: ys, x, h => by
    simp only [List.cons_append, strip, strip_snoc ys x h]
    rw [if_neg (by simp)]
theorem strip_take_last {l : List (List Int)} {j : Nat} (hj : j < l.length) (h : l.getD j [] = []) : strip (l.take (j + 1)) = strip (l.take j) := by
  have : l.take (j + 1) = l.take j ++ [[]] := by
    rw [List.take_succ_eq_append_getElem hj]
    rw [List.getD_eq_getElem?_getD, List.getElem?_eq_getElem hj] at h
    simp only [Option.getD_some] at h
    rw [h]
  rw [this, strip_snoc_nil]
theorem strip_take_full {l : List (List Int)} {j : Nat} (hj : j < l.length) (h : l.getD j [] ≠ []) : strip (l.take (j + 1)) = l.take (j + 1) := by
  rw [List.take_succ_eq_append_getElem hj]
  apply strip_snoc
  rw [List.getD_eq_getElem?_getD, List.getElem?_eq_getElem hj] at h
  simpa using h
def matchOf (a p t : List Int) : Option (List (List Int)) := (matchGo a p t (List.replicate 24 [])).map plainOf
end Go.Proofs.YtbbdjjlnachnlaaGreatDoor
