/- Draws: terms, bent ones, substitutions. -/
import Derived.Test.YtbbdjjlnachnlaaGreatDraw
namespace Go.Proofs.YtbbdjjlnachnlaaGreat
open Go Go.Eng
set_option linter.unusedVariables false
set_option linter.unusedSimpArgs false
set_option synthInstance.maxHeartbeats 400000
set_option synthInstance.maxSize 1000


/-! ### Substitutions -/
structure ShB (n : Nat) (ts : List (Sh (List Int))) : Prop where
  len : ts.length ≤ n
  el : ∀ x ∈ ts, x.v.length ≤ 41
theorem ShB.nil (n : Nat) : ShB n [] := ⟨Nat.zero_le _, fun x hx => by cases hx⟩
theorem ShB.snoc {n : Nat} {ts : List (Sh (List Int))} {t : List Int} (h : ShB n ts) (ht : t.length ≤ 41) : ShB (n + 1) (ts ++ [Sh.mk t]) := ⟨by
  have := h.len
  simp only [List.length_append, List.length_cons, List.length_nil]; omega, fun x hx => by
  rcases List.mem_append.1 hx with h1 | h1
  · exact h.el x h1
  · rw [List.mem_singleton] at h1
    rw [h1]; exact ht⟩
theorem ShB.mono {n m : Nat} {ts : List (Sh (List Int))} (h : ShB n ts) (hm : n ≤ m) : ShB m ts := ⟨Nat.le_trans h.len hm, h.el⟩
structure TsB (n : Nat) (ts : List (List Int)) : Prop where
  len : ts.length ≤ n
  el : ∀ x ∈ ts, x.length ≤ 41
theorem ShB.un {n : Nat} {ts : List (Sh (List Int))} (h : ShB n ts) : TsB n (ts.map Sh.v) := ⟨by rw [List.length_map]; exact h.len, fun x hx => by
  obtain ⟨y, hy, e⟩ := List.mem_map.1 hx
  rw [← e]; exact h.el y hy⟩
theorem sh_back (ts : List (Sh (List Int))) : (ts.map Sh.v).map Sh.mk = ts := by
  rw [List.map_map]
  exact (List.map_congr_left (fun _ _ => rfl)).trans (List.map_id ts)
end Go.Proofs.YtbbdjjlnachnlaaGreat
