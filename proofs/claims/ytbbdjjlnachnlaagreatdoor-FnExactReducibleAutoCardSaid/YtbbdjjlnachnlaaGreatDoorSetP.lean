/- The subset construction, plain. -/
import Derived.Test.YtbbdjjlnachnlaaGreatDoorStat
namespace Go.Proofs.YtbbdjjlnachnlaaGreatDoor
open Go Go.Eng
set_option linter.unusedVariables false
set_option linter.unusedSimpArgs false
/-- The digits of i to base n, k of them. -/
def dig (n : Nat) : Nat → Nat → List Int
  | 0, _ => []
  | k + 1, i => dig n k (i / n) ++ [((i % n : Nat) : Int)]
theorem dig_len (n : Nat) : ∀ k i, (dig n k i).length = k
  | 0, _ => rfl
  | k + 1, i => by unfold dig; rw [List.length_append, dig_len n k]; rfl
theorem dig_zero (n : Nat) : ∀ k, dig n k 0 = List.replicate k 0
  | 0 => rfl
  | k + 1 => by unfold dig; rw [Nat.zero_div, Nat.zero_mod, dig_zero n k, List.replicate_succ']; rfl
theorem dig_in {n : Nat} (hn : 0 < n) : ∀ k i, ∀ q ∈ dig n k i, 0 ≤ q ∧ q < n
  | 0, _, q, h => by cases h
  | k + 1, i, q, h => by
    unfold dig at h
    rcases List.mem_append.1 h with h1 | h1
    · exact dig_in hn k _ q h1
    · rw [List.mem_singleton] at h1
      have := Nat.mod_lt i hn
      omega
theorem dig_mul {n : Nat} (hn : 0 < n) (k : Nat) : ∀ j m, dig n (k + j) (m * n ^ j) = dig n k m ++ List.replicate j 0
  | 0, m => by simp
  | j + 1, m => by
    show dig n (k + j) (m * n ^ (j + 1) / n) ++ [((m * n ^ (j + 1) % n : Nat) : Int)] = _
    rw [Nat.pow_succ, ← Nat.mul_assoc, Nat.mul_div_cancel _ hn, Nat.mul_mod_left, dig_mul hn k j, List.replicate_succ', List.append_assoc]
    rfl
theorem dig_inc {n : Nat} (k m : Nat) (h : m % n + 1 < n) : dig n (k + 1) (m + 1) = dig n k (m / n) ++ [((m % n : Nat) : Int) + 1] := by
  have hn : 0 < n := by omega
  have h1 := Nat.div_add_mod m n
  have e : m + 1 = (m % n + 1) + n * (m / n) := by omega
  show dig n k ((m + 1) / n) ++ [(((m + 1) % n : Nat) : Int)] = _
  rw [e, Nat.add_mul_div_left _ _ hn, Nat.div_eq_of_lt h, Nat.zero_add, Nat.add_mul_mod_self_left, Nat.mod_eq_of_lt h]
  rfl
/-- Which states these sets lead to. -/
noncomputable def imgL (rs : List STrans) (sym : Int) (args : List (List Int)) : List Int := pL (Img rs rs.length sym (InL args) args.length)
theorem imgL_len (rs : List STrans) (sym : Int) (args : List (List Int)) : (imgL rs sym args).length ≤ 16 := pL_len _
theorem imgL_of {rs : List STrans} (hi : InS rs) {sym : Int} {args : List (List Int)} (r : ImgT rs sym (InL args) args.length) : r.1 = imgL rs sym args :=
  pL_of (fun q hq => img_in hi (Nat.le_refl _) hq) r.2.1 r.2.2
def listed (sets : List (List Int)) (l : List Int) : List (List Int) := l.map fun i => sets.getD i.toNat default
theorem listed_len (sets : List (List Int)) (l : List Int) : (listed sets l).length = l.length := by unfold listed; simp
def addNew (out : List (List Int)) (s : List Int) : List (List Int) := if s ∈ out then out else out ++ [s]
theorem addNew_len (out : List (List Int)) (s : List Int) : out.length ≤ (addNew out s).length ∧ (addNew out s).length ≤ out.length + 1 := by
  unfold addNew; split <;> simp
theorem addNew_pre (out : List (List Int)) (s : List Int) : out <+: addNew out s := by
  unfold addNew; split
  · exact List.prefix_rfl
  · exact List.prefix_append _ _
/-- A symbol's number of arguments. -/
def arN (ar : List Int) (f : Nat) : Nat := (ar.getD f 0).toNat
/-- A round: the first i lists of a symbol; the first f symbols. -/
noncomputable def rowS (rs : List STrans) (ar : List Int) (sets : List (List Int)) (f : Nat) (out : List (List Int)) : Nat → List (List Int)
  | 0 => out
  | i + 1 => addNew (rowS rs ar sets f out i) (imgL rs f (listed sets (dig sets.length (arN ar f) i)))
noncomputable def symS (rs : List STrans) (ar : List Int) (sets : List (List Int)) : Nat → List (List Int)
  | 0 => sets
  | f + 1 => rowS rs ar sets f (symS rs ar sets f) (sets.length ^ arN ar f)
theorem rowS_pre (rs : List STrans) (ar : List Int) (sets : List (List Int)) (f : Nat) (out : List (List Int)) (i : Nat) : ∀ j, rowS rs ar sets f out i <+: rowS rs ar sets f out (i + j)
  | 0 => List.prefix_rfl
  | j + 1 => (rowS_pre rs ar sets f out i j).trans (addNew_pre _ _)
theorem symS_pre (rs : List STrans) (ar : List Int) (sets : List (List Int)) (f : Nat) : ∀ j, symS rs ar sets f <+: symS rs ar sets (f + j)
  | 0 => List.prefix_rfl
  | j + 1 => (symS_pre rs ar sets f j).trans (by
    have := rowS_pre rs ar sets (f + j) (symS rs ar sets (f + j)) 0 (sets.length ^ arN ar (f + j))
    rw [Nat.zero_add] at this
    exact this)
noncomputable def rndS (rs : List STrans) (ar : List Int) (sets : List (List Int)) : List (List Int) := symS rs ar sets ar.length
theorem rndS_pre (rs : List STrans) (ar : List Int) (sets : List (List Int)) : sets <+: rndS rs ar sets := by
  have := symS_pre rs ar sets 0 ar.length
  rw [Nat.zero_add] at this
  exact this
theorem row_rnd {rs : List STrans} {ar : List Int} {sets : List (List Int)} {f i : Nat} (hf : f < ar.length) (hi : i ≤ sets.length ^ arN ar f) : rowS rs ar sets f (symS rs ar sets f) i <+: rndS rs ar sets := by
  have h1 := rowS_pre rs ar sets f (symS rs ar sets f) i (sets.length ^ arN ar f - i)
  rw [show i + (sets.length ^ arN ar f - i) = sets.length ^ arN ar f by omega] at h1
  have h2 := symS_pre rs ar sets (f + 1) (ar.length - (f + 1))
  rw [show f + 1 + (ar.length - (f + 1)) = ar.length by omega] at h2
  exact h1.trans h2
theorem rowS_sh (rs : List STrans) (ar : List Int) (sets : List (List Int)) (f : Nat) (out : List (List Int)) (i : Nat) : rowS rs ar sets f out (i + 1) = addNew (rowS rs ar sets f out i) (imgL rs f (listed sets (dig sets.length (arN ar f) i))) := rfl
/-- The rounds, as long as something new comes up and it is not too much. -/
noncomputable def fixS (rs : List STrans) (ar : List Int) : Nat → List (List Int) → Option (List (List Int))
  | 0, _ => none
  | k + 1, s => if 16 < (rndS rs ar s).length then none else if (rndS rs ar s).length = s.length then (if s = [] then none else some s) else fixS rs ar k (rndS rs ar s)
/-- The transitions. -/
noncomputable def placeOf (sets : List (List Int)) (s : List Int) : Int := if s ∈ sets then ((sets.idxOf s : Nat) : Int) else -1
noncomputable def toOf (rs : List STrans) (ar : List Int) (sets : List (List Int)) (f i : Nat) : Int := placeOf sets (imgL rs f (listed sets (dig sets.length (arN ar f) i)))
noncomputable def trR (rs : List STrans) (ar : List Int) (sets : List (List Int)) (f : Nat) (out : List STrans) : Nat → List STrans
  | 0 => out
  | i + 1 => trR rs ar sets f out i ++ [((f : Int), dig sets.length (arN ar f) i, toOf rs ar sets f i)]
noncomputable def trS (rs : List STrans) (ar : List Int) (sets : List (List Int)) : Nat → List STrans
  | 0 => []
  | f + 1 => trR rs ar sets f (trS rs ar sets f) (sets.length ^ arN ar f)
theorem trR_len (rs : List STrans) (ar : List Int) (sets : List (List Int)) (f : Nat) (out : List STrans) : ∀ i, (trR rs ar sets f out i).length = out.length + i
  | 0 => rfl
  | i + 1 => by unfold trR; rw [List.length_append, trR_len rs ar sets f out i]; rfl
theorem trS_mono (rs : List STrans) (ar : List Int) (sets : List (List Int)) (f : Nat) : ∀ j, (trS rs ar sets f).length ≤ (trS rs ar sets (f + j)).length
  | 0 => Nat.le_refl _
  | j + 1 => Nat.le_trans (trS_mono rs ar sets f j) (by
    show _ ≤ (trR rs ar sets (f + j) (trS rs ar sets (f + j)) (sets.length ^ arN ar (f + j))).length
    rw [trR_len]; omega)
noncomputable def allT (rs : List STrans) (ar : List Int) (sets : List (List Int)) : List STrans := trS rs ar sets ar.length
theorem row_all {rs : List STrans} {ar : List Int} {sets : List (List Int)} {f i : Nat} (hf : f < ar.length) (hi : i ≤ sets.length ^ arN ar f) : (trS rs ar sets f).length + i ≤ (allT rs ar sets).length := by
  have h2 := trS_mono rs ar sets (f + 1) (ar.length - (f + 1))
  rw [show f + 1 + (ar.length - (f + 1)) = ar.length by omega] at h2
  have h3 : (trS rs ar sets (f + 1)).length = (trS rs ar sets f).length + sets.length ^ arN ar f := trR_len _ _ _ _ _ _
  unfold allT
  omega
def meets (a b : List Int) : Bool := a.any fun q => decide (q ∈ b)
/-- The states that hold one of these. -/
def finN (sets : List (List Int)) (fs : List Int) : Nat → List Int
  | 0 => []
  | i + 1 => finN sets fs i ++ (if meets (sets.getD i default) fs = true then [(i : Int)] else [])
theorem finN_len (sets : List (List Int)) (fs : List Int) : ∀ i, (finN sets fs i).length ≤ i
  | 0 => Nat.le_refl _
  | i + 1 => by
    have := finN_len sets fs i
    unfold finN
    rw [List.length_append]
    split <;> simp <;> omega
/-- The sure automaton. -/
noncomputable def sureOf (ar : List Int) (x : SAuto) : Option SAuto :=
  if decC (AutoP ar x) = true then
    match fixS x.2.1 ar 17 [] with
    | none => none
    | some sets => if (allT x.2.1 ar sets).length ≤ 300 then some ((sets.length : Int), allT x.2.1 ar sets, finN sets x.2.2 sets.length) else none
  else none
theorem sure_no {ar : List Int} {x : SAuto} (h : ¬ AutoP ar x) : sureOf ar x = none := by
  unfold sureOf; rw [if_neg (by rw [decC_f h]; decide)]
theorem sure_none {ar : List Int} {x : SAuto} (h : fixS x.2.1 ar 17 [] = none) : sureOf ar x = none := by
  unfold sureOf; rw [h]; simp
theorem sure_many {ar : List Int} {x : SAuto} {sets : List (List Int)} (h : fixS x.2.1 ar 17 [] = some sets) (hm : 300 < (allT x.2.1 ar sets).length) : sureOf ar x = none := by
  unfold sureOf; rw [h]; simp only; rw [if_neg (Nat.not_le.2 hm)]; simp
theorem sure_some {ar : List Int} {x : SAuto} {sets : List (List Int)} (ha : AutoP ar x) (h : fixS x.2.1 ar 17 [] = some sets) (hm : (allT x.2.1 ar sets).length ≤ 300) : sureOf ar x = some ((sets.length : Int), allT x.2.1 ar sets, finN sets x.2.2 sets.length) := by
  unfold sureOf; rw [h]; simp only; rw [if_pos hm, if_pos (decC_t ha)]
theorem fixS_len {rs : List STrans} {ar : List Int} : ∀ (k : Nat) (s : List (List Int)), s.length ≤ 16 → ∀ t, fixS rs ar k s = some t → 1 ≤ t.length ∧ t.length ≤ 16
  | 0, s, hs, t, h => by cases h
  | k + 1, s, hs, t, h => by
    unfold fixS at h
    split at h
    · cases h
    · split at h
      · split at h
        · cases h
        · injection h with h
          subst h
          exact ⟨List.length_pos_iff.2 ‹_›, hs⟩
      · exact fixS_len k _ (by omega) t h
end Go.Proofs.YtbbdjjlnachnlaaGreatDoor
