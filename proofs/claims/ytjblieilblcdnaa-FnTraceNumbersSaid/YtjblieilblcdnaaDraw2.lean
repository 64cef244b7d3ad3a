/- Draws: terms, bent ones, substitutions. -/
import Derived.Test.YtjblieilblcdnaaDraw
namespace Go.Proofs.Ytjblieilblcdnaa
open Go Go.Eng
set_option linter.unusedVariables false
set_option linter.unusedSimpArgs false
set_option synthInstance.maxHeartbeats 400000
set_option synthInstance.maxSize 1000

theorem l1DrawAny_spec {w0 : World} {Γ Δ : List Atom} {bc : Nat} {vb va : Value} {code : List UInt8} {p : CurS code} {a : List Int} [hb : PullBk Γ bc (cur vb p) Δ] [hv : HasRd (List UInt8) repList Δ [vb] code] [ha : HasRd (List Int) repList Δ [va] a] :
    CJ Try.prog 32 [.pointer (some ⟨bc, 0, none⟩), .agg #[va]] w0 Γ (fun q : { q : Value × List Int × CurS code // q.2.1.length ≤ 41 } => q.1.1) (fun q => .rd [q.1.1] q.1.2.1 :: .bk bc (cur vb q.1.2.2) :: Δ) := by
  refine cj_perm hb.perm ?_
  refine cj_len va fun hla => ?_
  refine cj_enter Try.func32 Try.ntmps32 ?_
  repeat' (first | refine red ?_ | refine reds ?_ | (refine redc fun r => ?_; try have hr := Subtype.property r) | refine redv fun sv => ?_ | refine redn fun b => ?_ | (refine redi (fun hc => ?_) (fun hc => ?_) <;> try first | (exfalso; omega) | exact absurd rfl hc) | ((refine wa_beginc 3 [false, false, false, false, false, false, false] [] ?_ <;> refine wa_p 0 ?_ <;> refine wa_p 1 ?_ <;> refine wa_p 2 ?_ <;> (refine wa_do 3 ?_ <;> (repeat' (first | refine red ?_ | (refine redc fun r => ?_; try have hr := Subtype.property r) | fail))) <;> (first | refine wa_p 4 ?_ | fail) <;> (refine wa_do 5 ?_ <;> (repeat' (first | refine red ?_ | (refine redc fun r => ?_; try have hr := Subtype.property r) | fail))) <;> refine wa_p 6 ?_) <;> (refine wa_end ?_)) | fail)
  · exact ⟨⟨(sv, [r.1.1], r.1.2), by simp⟩, rfl, ent_rd sv ent_e⟩
  · exact ⟨⟨(sv, [r.1.1], r.1.2), by simp⟩, rfl, ent_rd sv ent_e⟩
  · rename_i r1 hr1 _ _ _ _ _
    exact ⟨⟨(sv, r1.1.2.1 ++ [r.1.1], r.1.2), by simp only [List.length_append, List.length_cons, List.length_nil]; omega⟩, rfl, ent_rd sv ent_e⟩
  · rename_i r1 hr1 _ _ _ _ _ r2 _
    exact ⟨⟨(r1.1.1, r1.1.2.1.set r2.1.1.toNat r.1.1, r.1.2), by simp only [List.length_set]; omega⟩, rfl, ent_rd r1.1.1 ent_e⟩
  · rename_i r1 hr1 _ _ _ _
    refine wl_share r1.1.1 ?_
    repeat' (first | refine red ?_ | refine redv fun sv => ?_ | fail)
    exact ⟨⟨(sv, r1.1.2.1.drop 1, r.1.2), by simp only [List.length_drop]; omega⟩, rfl, ent_e⟩
  · rename_i r1 hr1 _ _ _ _ _ _ _ _
    exact ⟨⟨(sv, r1.1.2.1 ++ [r.1.1], r.1.2), by simp only [List.length_append, List.length_cons, List.length_nil]; omega⟩, rfl, ent_rd sv ent_e⟩
  · rename_i r1
    exact ⟨⟨(r1.1.1, r1.1.2.1, r.2), by simp only; omega⟩, rfl, ent_rd r1.1.1 ent_e⟩

instance l1DrawAny_ctr {Γ Δ : List Atom} {bc : Nat} {vb va : Value} {code : List UInt8} {p : CurS code} {a : List Int} [hb : PullBk Γ bc (cur vb p) Δ] [hv : HasRd (List UInt8) repList Δ [vb] code] [ha : HasRd (List Int) repList Δ [va] a] :
    CtrC Try.prog 32 [.pointer (some ⟨bc, 0, none⟩), .agg #[va]] Γ (True) ({ q : Value × List Int × CurS code // q.2.1.length ≤ 41 }) (fun q : { q : Value × List Int × CurS code // q.2.1.length ≤ 41 } => q.1.1) (fun q => .rd [q.1.1] q.1.2.1 :: .bk bc (cur vb q.1.2.2) :: Δ) := ⟨fun s w0 => l1DrawAny_spec⟩

/-! ### Substitutions -/
structure ShB (n : Nat) (ts : List (Sh (List Int))) : Prop where
  len : ts.length ≤ n
  el : ∀ x ∈ ts, x.v.length ≤ 41
theorem ShB.nil (n : Nat) : ShB n [] := ⟨Nat.zero_le _, fun x hx => by cases hx⟩
theorem ShB.snoc {n : Nat} {ts : List (Sh (List Int))} {t : List Int} (h : ShB n ts) (ht : t.length ≤ 41) : ShB (n + 1) (ts ++ [Sh.mk t]) := ⟨by
  have := h.len
  simp only [List.length_append, List.length_cons, List.length_nil]; omega, fun x hx => by
  rcases List.mem_append.1 hx with h1 | h1
  · exact h.el x h1
  · rw [List.mem_singleton] at h1
    rw [h1]; exact ht⟩
theorem ShB.mono {n m : Nat} {ts : List (Sh (List Int))} (h : ShB n ts) (hm : n ≤ m) : ShB m ts := ⟨Nat.le_trans h.len hm, h.el⟩
end Go.Proofs.Ytjblieilblcdnaa
