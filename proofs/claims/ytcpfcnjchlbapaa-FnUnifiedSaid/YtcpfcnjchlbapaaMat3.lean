/- What a match gives is a right substitution that fills the pattern: no program in sight. -/
import Derived.Test.YtcpfcnjchlbapaaMat
namespace Go.Proofs.Ytcpfcnjchlbapaa
open Go Go.Eng
set_option linter.unusedVariables false
set_option linter.unusedSimpArgs false

theorem set_len {N m : Nat} {b : List (List Int)} {x : List Int} (hx : x.length ≤ N) (hb : ∀ i, (b.getD i []).length ≤ N) (i : Nat) : ((b.set m x).getD i []).length ≤ N := by
  by_cases e : i = m
  · subst e
    by_cases hl : i < b.length
    · rw [gd_set_self hl]; exact hx
    · rw [List.getD_eq_getElem?_getD, List.getElem?_eq_none (by rw [List.length_set]; omega)]
      simp
  · rw [gd_set_ne e]; exact hb i
theorem go_len {a : List Int} {N : Nat} : ∀ (p ts : List Int) (b b' : List (List Int)), matchGo a p ts b = some b' → ts.length ≤ N → (∀ i, (b.getD i []).length ≤ N) → ∀ i, (b'.getD i []).length ≤ N
  | [], ts, b, b', h, ht, hb => by
    simp only [matchGo, Option.some.injEq] at h
    subst h
    exact hb
  | _ :: _, [], b, b', h, ht, hb => by simp [matchGo] at h
  | n :: p, x :: ts, b, b', h, ht, hb => by
    simp only [List.length_cons] at ht
    simp only [matchGo] at h
    by_cases h0 : 0 ≤ n
    · rw [if_pos h0] at h
      by_cases hx : x = n
      · rw [if_pos hx] at h
        exact go_len p ts b b' h (by omega) hb
      · rw [if_neg hx] at h; cases h
    · rw [if_neg h0] at h
      have hd : ((x :: ts).drop (skp a (badS a) (x :: ts) 1).2).length ≤ N := by
        rw [List.length_drop]; simp only [List.length_cons]; omega
      have htk : ((x :: ts).take (skp a (badS a) (x :: ts) 1).2).length ≤ N := by
        rw [List.length_take]; simp only [List.length_cons]; omega
      by_cases he : b.getD (-1 - n).toNat [] = []
      · rw [if_pos he] at h
        exact go_len p _ _ b' h hd (set_len htk hb)
      · rw [if_neg he] at h
        by_cases hs : b.getD (-1 - n).toNat [] = (x :: ts).take (skp a (badS a) (x :: ts) 1).2
        · rw [if_pos hs] at h
          exact go_len p _ _ b' h hd hb
        · rw [if_neg hs] at h; cases h
/-- Every binding of a match is a right term. -/
theorem match_ok {a p t : List Int} {ts : List (List Int)} (hp : termOk a p = true) (ht : termOk a t = true) (h : matchOf a p t = some ts) : ts.length ≤ 24 ∧ ∀ x ∈ ts, x = [] ∨ termOk a x = true := by
  obtain ⟨b, hb, rfl, _, hg⟩ := match_some hp ht h
  have hsig := termOk_sig hp
  have hl := go_len (N := 60) p t _ b hg (termOk_len ht).2 (fun i => by
    rw [List.getD_eq_getElem?_getD, List.getElem?_replicate]
    split <;> simp)
  refine ⟨by have := plain_len b; rw [hb.len] at this; exact this, fun x hx => ?_⟩
  rcases plain_mem hx with h1 | h1
  · exact .inl h1
  · obtain ⟨i, hi, rfl⟩ := List.getElem_of_mem h1
    have e : b.getD i [] = b[i] := by rw [List.getD_eq_getElem?_getD, List.getElem?_eq_getElem hi, Option.getD_some]
    by_cases h0 : b[i] = []
    · exact .inl h0
    · have h2 := hb.tm i (by rw [e]; exact h0)
      have h3 := hl i
      rw [e] at h2 h3
      exact .inr (ok_tm hsig h2 h3)
end Go.Proofs.Ytcpfcnjchlbapaa
