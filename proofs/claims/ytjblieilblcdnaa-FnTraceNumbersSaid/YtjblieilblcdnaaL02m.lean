/- Renamed terms; the most general of some patterns. -/
import Derived.Test.YtjblieilblcdnaaEngQ
import Derived.Test.YtjblieilblcdnaaL06
namespace Go.Proofs.Ytjblieilblcdnaa
open Go Go.Eng
set_option linter.unusedVariables false
set_option linter.unusedSimpArgs false

/-- The variables of the first k numbers, in the order in which they come first. -/
def ordTo (t : List Int) : Nat → List Int
  | 0 => []
  | k + 1 => if t.getD k 0 < 0 ∧ t.getD k 0 ∉ ordTo t k then ordTo t k ++ [t.getD k 0] else ordTo t k
theorem ordTo_new {t : List Int} {k : Nat} (h : t.getD k 0 < 0) (h' : t.getD k 0 ∉ ordTo t k) : ordTo t (k + 1) = ordTo t k ++ [t.getD k 0] := if_pos ⟨h, h'⟩
theorem ordTo_old {t : List Int} {k : Nat} (h : ¬ (t.getD k 0 < 0 ∧ t.getD k 0 ∉ ordTo t k)) : ordTo t (k + 1) = ordTo t k := if_neg h
theorem ordTo_len (t : List Int) : ∀ k, (ordTo t k).length ≤ k
  | 0 => Nat.le_refl _
  | k + 1 => by
    have := ordTo_len t k
    unfold ordTo
    split
    · simp only [List.length_append, List.length_cons, List.length_nil]; omega
    · omega
theorem l2Order_spec {w0 : World} {Γ : List Atom} {v : Value} {t : List Int} [h : HasRd (List Int) repList Γ [v] t] (hl : t.length ≤ 1048576) : CJ Try.prog 73 [v] w0 Γ (fun q : Value => q) (fun q => .ow [q] (ordTo t t.length) :: Γ) := by
  refine cj_lift (R := [.rd [v] t]) (A := fun q : Value => [.ow [q] (ordTo t t.length)]) (fun w1 => ?_) (reads_cons h (inferInstance)) (fun _ => inferInstance)
  simp only [List.cons_append, List.nil_append]
  refine cj_enter Try.func73 Try.ntmps73 ?_
  repeat' (first | refine red ?_ | refine redv fun sv => ?_ | fail)
  refine wc_loop_p [3, 4] [6, 7, 8, 9, 12, 13, 14, 15, 16, 17, 18, 19, 20, 21, 22, 23, 24, 25, 26, 27, 28, 29, 30, 31, 32, 10, 11] (ι := Nat × Value) (fun k => [k.2, .int .i64 k.1]) (fun k => [.ow [k.2] (ordTo t k.1)]) (fun k => k.1 ≤ t.length) (fun k => t.length - k.1) (0, sv) [.ow [sv] ([] : List Int)] (by kernel_rfl) (Nat.zero_le _) rfl ?_
  intro ⟨k, sw⟩ u l' hl' hk
  simp only [patch, List.map_cons, List.map_nil, List.set_cons_zero, List.set_cons_succ] at hl'
  subst hl'
  simp only [List.cons_append, List.nil_append] at hk ⊢
  have hol := ordTo_len t k
  repeat' (first | refine red ?_ | refine redf fun hbi => ?_ | refine reds ?_ | refine redc fun r => ?_ | refine redv fun sv => ?_ | (refine redi (fun hc => ?_) (fun hc => ?_) <;> try first | (exfalso; omega) | exact absurd rfl hc) | fail)
  · rw [← ordTo_new ‹t.getD k 0 < 0› hc]
    exact wq_next (k + 1, sv) (by simp only; omega) (by simp only; omega) (by kernel_rfl) ent_e
  · exact wq_next (k + 1, sw) (by simp only; omega) (by simp only; omega) (by kernel_rfl) (by simp only [ordTo_old (fun h => h.2 hc)]; exact ent_e)
  · exact wq_next (k + 1, sw) (by simp only; omega) (by simp only; omega) (by kernel_rfl) (by simp only [ordTo_old (t := t) (k := k) (fun h => by omega)]; exact ent_e)
  · rw [show t.length = k by omega]
    exact ⟨_, rfl, ent_e⟩
instance l2Order_ctr {Γ : List Atom} {v : Value} {t : List Int} [h : HasRd (List Int) repList Γ [v] t] :
    CtrC Try.prog 73 [v] Γ (t.length ≤ 1048576) (Value) (fun q : Value => q) (fun q => .ow [q] (ordTo t t.length) :: Γ) := ⟨fun s w0 => l2Order_spec s⟩

end Go.Proofs.Ytjblieilblcdnaa
