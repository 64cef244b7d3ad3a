/- Unification: the reference's functions. -/
import Derived.Test.YtimniaojfchoiaaUniS
namespace Go.Proofs.Ytimniaojfchoiaa
open Go Go.Eng
set_option linter.unusedVariables false
set_option linter.unusedSimpArgs false
set_option synthInstance.maxHeartbeats 400000
set_option synthInstance.maxSize 1000

noncomputable def unified (a s t : List Int) : Option (List (List Int)) := if termOk a s = true ∧ termOk a t = true then uniOf a s t else none
theorem un_yes {a s t : List Int} (h1 : termOk a s = true) (h2 : termOk a t = true) : unified a s t = uniOf a s t := if_pos ⟨h1, h2⟩
theorem un_no1 {a s t : List Int} (h1 : termOk a s = false) : unified a s t = none := if_neg (fun h => by rw [h1] at h; exact absurd h.1 (by simp))
theorem un_no2 {a s t : List Int} (h1 : termOk a t = false) : unified a s t = none := if_neg (fun h => by rw [h1] at h; exact absurd h.2 (by simp))
theorem spec_Unified_spec {w0 : World} {Γ : List Atom} {v vs vt : Value} {a s t : List Int} [h : HasRd (List Int) repList Γ [v] a] [h1 : HasRd (List Int) repList Γ [vs] s] [h2 : HasRd (List Int) repList Γ [vt] t] :
    CJ Try.prog 26 [.agg #[v], vs, vt] w0 Γ (fun q : Value => .tuple #[.agg #[q], .bool (unified a s t).isSome]) (fun q => .ow [q] ((unified a s t).getD []) :: Γ) := by
  refine cj_lift (R := [.rd [v] a, .rd [vs] s, .rd [vt] t]) (A := fun q => [.ow [q] ((unified a s t).getD [])]) (fun w1 => ?_) (reads_cons h (reads_cons h1 (reads_cons h2 (inferInstance)))) (fun _ => inferInstance)
  simp only [List.cons_append, List.nil_append]
  have hbd : ∀ q : UniT a s t, (q.1.getD []).length ≤ 48 ∧ ∀ x ∈ q.1.getD [], x.length ≤ 60 := fun q => q.2.2
  refine cj_enter Try.func26 Try.ntmps26 ?_
  repeat' (first
    | refine red ?_
    | refine redf fun hbi => ?_
    | refine reds ?_
    | refine redc fun r => ?_
    | refine redp (fun r => ?_) (fun r => ?_)
    | refine redv fun sv => ?_
    | refine redn fun b => ?_
    | refine redz fun zs => ?_
    | refine redq (fun hc => ?_) (fun hc => ?_)
    | with_reducible refine wq_blk_o rfl ?_
    | (refine redd fun p cs as_ hcs has hf => ?_; simp only [Un.cells, Un.atoms, Un.fact, List.cons_append, List.nil_append] at hcs has hf; subst hcs has)
    | (refine redi (fun hc => ?_) (fun hc => ?_) <;> try first | (exfalso; omega) | exact absurd rfl hc)
    | fail)
  · rw [un_no1 hc]
    simp only [Option.getD_none, Option.isSome_none]
    exact ⟨_, rfl, ent_e⟩
  · rw [un_no2 hc]
    simp only [Option.getD_none, Option.isSome_none]
    exact ⟨_, rfl, ent_e⟩
  · rename_i hs1 _ hs2
    have hun : unified a s t = r.2.1.map plainOf := by rw [un_yes hs1 hs2]; exact r.2.2.1.symm
    rw [hun]
    obtain ⟨r1, ⟨r2, hr2⟩⟩ := r
    cases r2 with
    | none => 
      simp only [Option.getD_none, Option.isSome_none, Option.map_none]
      exact ⟨_, rfl, ent_e⟩
    | some ts => cases hc
  · rename_i hs1 _ hs2
    have hun : unified a s t = some (plainOf (r.2.1.getD [])) := by
      rw [un_yes hs1 hs2]
      refine r.2.2.1.symm.trans ?_
      obtain ⟨ts, hts⟩ := Option.isSome_iff_exists.1 hc
      rw [hts]; rfl
    rw [hun]
    obtain ⟨hb1, hb2⟩ := hbd r.2
    repeat' (first
      | refine red ?_
      | refine redf fun hbi => ?_
      | refine reds ?_
      | refine redc fun r => ?_
      | refine redp (fun r => ?_) (fun r => ?_)
      | refine redv fun sv => ?_
      | refine redn fun b => ?_
      | refine redz fun zs => ?_
      | refine redq (fun hc => ?_) (fun hc => ?_)
      | with_reducible refine wq_blk_o rfl ?_
      | (refine redd fun p cs as_ hcs has hf => ?_; simp only [Un.cells, Un.atoms, Un.fact, List.cons_append, List.nil_append] at hcs has hf; subst hcs has)
      | (refine redi (fun hc => ?_) (fun hc => ?_) <;> try first | (exfalso; omega) | exact absurd rfl hc)
      | fail)
    simp only [Option.getD_some, Option.isSome_some]
    exact ⟨_, rfl, ent_e⟩
instance spec_Unified_ctr {Γ : List Atom} {v vs vt : Value} {a s t : List Int} [h : HasRd (List Int) repList Γ [v] a] [h1 : HasRd (List Int) repList Γ [vs] s] [h2 : HasRd (List Int) repList Γ [vt] t] :
    CtrC Try.prog 26 [.agg #[v], vs, vt] Γ (True) (Value) (fun q : Value => .tuple #[.agg #[q], .bool (unified a s t).isSome]) (fun q => .ow [q] ((unified a s t).getD []) :: Γ) := ⟨fun s w0 => spec_Unified_spec⟩

theorem spec_UnifiesIn_spec {w0 : World} {Γ : List Atom} {v vs vt : Value} {a s t : List Int} [h : HasRd (List Int) repList Γ [v] a] [h1 : HasRd (List Int) repList Γ [vs] s] [h2 : HasRd (List Int) repList Γ [vt] t] :
    CJ Try.prog 24 [.agg #[v], vs, vt] w0 Γ (fun _ : Unit => .bool (unified a s t).isSome) (fun _ => Γ) := by
  refine cj_lift (R := [.rd [v] a, .rd [vs] s, .rd [vt] t]) (A := fun _ => []) (fun w1 => ?_) (reads_cons h (reads_cons h1 (reads_cons h2 (inferInstance)))) (fun _ => inferInstance)
  simp only [List.cons_append, List.nil_append]
  refine cj_enter Try.func24 Try.ntmps24 ?_
  repeat' (first
    | refine red ?_
    | refine redf fun hbi => ?_
    | refine reds ?_
    | refine redc fun r => ?_
    | refine redp (fun r => ?_) (fun r => ?_)
    | refine redv fun sv => ?_
    | refine redn fun b => ?_
    | refine redz fun zs => ?_
    | refine redq (fun hc => ?_) (fun hc => ?_)
    | with_reducible refine wq_blk_o rfl ?_
    | (refine redd fun p cs as_ hcs has hf => ?_; simp only [Un.cells, Un.atoms, Un.fact, List.cons_append, List.nil_append] at hcs has hf; subst hcs has)
    | (refine redi (fun hc => ?_) (fun hc => ?_) <;> try first | (exfalso; omega) | exact absurd rfl hc)
    | fail)
  exact ⟨(), rfl, ent_e⟩
instance spec_UnifiesIn_ctr {Γ : List Atom} {v vs vt : Value} {a s t : List Int} [h : HasRd (List Int) repList Γ [v] a] [h1 : HasRd (List Int) repList Γ [vs] s] [h2 : HasRd (List Int) repList Γ [vt] t] :
    CtrC Try.prog 24 [.agg #[v], vs, vt] Γ (True) (Unit) (fun _ : Unit => .bool (unified a s t).isSome) (fun _ => Γ) := ⟨fun s w0 => spec_UnifiesIn_spec⟩

end Go.Proofs.Ytimniaojfchoiaa
