/- The names of the kinds of nodes. -/
import Derived.Test.YtcaljjkmaffedaaDoorNode
import Derived.Test.YtcaljjkmaffedaaDoorNum
namespace Go.Proofs.YtcaljjkmaffedaaDoor
open Go Go.Eng
set_option linter.unusedVariables false
set_option linter.unusedSimpArgs false
set_option synthInstance.maxHeartbeats 400000
set_option synthInstance.maxSize 1000
def kindNames : List ByteArray := [⟨#[110, 111, 114, 109, 97, 108]⟩, ⟨#[106, 111, 105, 110]⟩, ⟨#[114, 97, 110, 107]⟩, ⟨#[119, 101, 105, 103, 104, 116, 115]⟩, ⟨#[102, 111, 114, 109, 115]⟩, ⟨#[108, 111, 111, 112]⟩, ⟨#[106, 111, 105, 110, 115]⟩, ⟨#[102, 111, 114, 109]⟩, ⟨#[115, 112, 108, 105, 116]⟩, ⟨#[117, 110, 101, 113, 117, 97, 108]⟩, ⟨#[101, 113, 117, 97, 108]⟩, ⟨#[112, 97, 105, 114, 115]⟩]
theorem kn_len : kindNames.length = 12 := rfl
theorem kn_sz : ∀ s ∈ kindNames, s.size ≤ 7 := by decide
/-- The name of a kind. -/
def knT (k : Int) : ByteArray := if 1 ≤ k ∧ k ≤ 12 then kindNames.getD (k - 1).toNat ByteArray.empty else ByteArray.empty
theorem knT_sz (k : Int) : (knT k).size ≤ 7 := by
  unfold knT
  split
  · by_cases h : (k - 1).toNat < kindNames.length
    · rw [List.getD_eq_getElem?_getD, List.getElem?_eq_getElem h]; exact kn_sz _ (List.getElem_mem h)
    · rw [List.getD_eq_getElem?_getD, List.getElem?_eq_none (by omega)]; exact Nat.zero_le _
  · exact Nat.zero_le _
theorem spec_l32Names_spec {w0 : World} {Γ : List Atom} : CJ Tryd.prog 80 [] w0 Γ (fun r : Value => r) (fun r => .ow [r] kindNames :: Γ) := by
  refine cj_enter Tryd.func80 Tryd.ntmps80 ?_
  repeat' (first | refine red ?_ | refine redf fun hbi => ?_ | refine reds ?_ | refine redc fun r => ?_ | refine redp (fun r => ?_) (fun r => ?_) | refine redv fun sv => ?_ | refine redn fun b => ?_ | refine redz fun zs => ?_ | refine redq (fun hc => ?_) (fun hc => ?_) | with_reducible refine wq_blk_o rfl ?_ | (refine redi (fun hc => ?_) (fun hc => ?_) <;> try first | (exfalso; omega) | exact absurd rfl hc) | fail)
  refine redv (fun sv => ?_) (by decide)
  repeat' (first | refine red ?_ | refine redf fun hbi => ?_ | refine reds ?_ | refine redc fun r => ?_ | refine redp (fun r => ?_) (fun r => ?_) | refine redv fun sv => ?_ | refine redn fun b => ?_ | refine redz fun zs => ?_ | refine redq (fun hc => ?_) (fun hc => ?_) | with_reducible refine wq_blk_o rfl ?_ | (refine redi (fun hc => ?_) (fun hc => ?_) <;> try first | (exfalso; omega) | exact absurd rfl hc) | fail)
  exact ⟨sv, rfl, by unfold kindNames; exact ent_e⟩
instance spec_l32Names_ctr {Γ : List Atom} :
    CtrC Tryd.prog 80 [] Γ (True) (Value) (fun r : Value => r) (fun r => .ow [r] kindNames :: Γ) := ⟨fun s w0 => spec_l32Names_spec⟩

theorem kindNames_spec {w0 : World} {Γ : List Atom} : CJ Tryd.prog 89 [] w0 Γ (fun r : Value => r) (fun r => .ow [r] kindNames :: Γ) := by
  refine cj_enter Tryd.func89 Tryd.ntmps89 ?_
  repeat' (first | refine red ?_ | refine redf fun hbi => ?_ | refine reds ?_ | refine redc fun r => ?_ | refine redp (fun r => ?_) (fun r => ?_) | refine redv fun sv => ?_ | refine redn fun b => ?_ | refine redz fun zs => ?_ | refine redq (fun hc => ?_) (fun hc => ?_) | with_reducible refine wq_blk_o rfl ?_ | (refine redi (fun hc => ?_) (fun hc => ?_) <;> try first | (exfalso; omega) | exact absurd rfl hc) | fail)
  refine redv (fun sv => ?_) (by decide)
  repeat' (first | refine red ?_ | refine redf fun hbi => ?_ | refine reds ?_ | refine redc fun r => ?_ | refine redp (fun r => ?_) (fun r => ?_) | refine redv fun sv => ?_ | refine redn fun b => ?_ | refine redz fun zs => ?_ | refine redq (fun hc => ?_) (fun hc => ?_) | with_reducible refine wq_blk_o rfl ?_ | (refine redi (fun hc => ?_) (fun hc => ?_) <;> try first | (exfalso; omega) | exact absurd rfl hc) | fail)
  exact ⟨sv, rfl, by unfold kindNames; exact ent_e⟩
instance kindNames_ctr {Γ : List Atom} :
    CtrC Tryd.prog 89 [] Γ (True) (Value) (fun r : Value => r) (fun r => .ow [r] kindNames :: Γ) := ⟨fun s w0 => kindNames_spec⟩

theorem spec_KindName_spec {w0 : World} {Γ : List Atom} {k : Int} (hk : -9223372036854775808 ≤ k ∧ k ≤ 9223372036854775807) : CJ Tryd.prog 51 [.int .i64 k] w0 Γ (fun _ : Unit => .string (knT k)) (fun _ => Γ) := by
  have hl := kn_len
  refine cj_enter Tryd.func51 Tryd.ntmps51 ?_
  repeat' (first | refine red ?_ | refine redf fun hbi => ?_ | refine reds ?_ | refine redc fun r => ?_ | refine redp (fun r => ?_) (fun r => ?_) | refine redv fun sv => ?_ | refine redn fun b => ?_ | refine redz fun zs => ?_ | refine redq (fun hc => ?_) (fun hc => ?_) | with_reducible refine wq_blk_o rfl ?_ | (refine redd fun p cs as_ hcs has hf => ?_; simp only [Un.cells, Un.atoms, Un.fact, List.cons_append, List.nil_append] at hcs has hf; subst hcs has) | (refine redi (fun hc => ?_) (fun hc => ?_) <;> try first | (exfalso; omega) | exact absurd rfl hc) | fail)
  · exact ⟨(), by rw [knT, if_neg (by omega)]; rfl, ent_e⟩
  · exact ⟨(), by rw [knT, if_pos (by omega), Int.toNat_natCast], ent_e⟩
instance spec_KindName_ctr {Γ : List Atom} {k : Int} :
    CtrC Tryd.prog 51 [.int .i64 k] Γ (-9223372036854775808 ≤ k ∧ k ≤ 9223372036854775807) (Unit) (fun _ : Unit => .string (knT k)) (fun _ => Γ) := ⟨fun s w0 => spec_KindName_spec s⟩

theorem impl_KindName_spec {w0 : World} {Γ : List Atom} {k : Int} (hk : -9223372036854775808 ≤ k ∧ k ≤ 9223372036854775807) : CJ Tryd.prog 60 [.int .i64 k] w0 Γ (fun _ : Unit => .string (knT k)) (fun _ => Γ) := by
  have hl := kn_len
  refine cj_enter Tryd.func60 Tryd.ntmps60 ?_
  repeat' (first | refine red ?_ | refine redf fun hbi => ?_ | refine reds ?_ | refine redc fun r => ?_ | refine redp (fun r => ?_) (fun r => ?_) | refine redv fun sv => ?_ | refine redn fun b => ?_ | refine redz fun zs => ?_ | refine redq (fun hc => ?_) (fun hc => ?_) | with_reducible refine wq_blk_o rfl ?_ | (refine redd fun p cs as_ hcs has hf => ?_; simp only [Un.cells, Un.atoms, Un.fact, List.cons_append, List.nil_append] at hcs has hf; subst hcs has) | (refine redi (fun hc => ?_) (fun hc => ?_) <;> try first | (exfalso; omega) | exact absurd rfl hc) | fail)
  all_goals first
    | exact ⟨(), by rw [knT, if_neg (by omega)]; rfl, ent_e⟩
    | exact ⟨(), by rw [knT, if_pos (by omega), Int.toNat_natCast], ent_e⟩
instance impl_KindName_ctr {Γ : List Atom} {k : Int} :
    CtrC Tryd.prog 60 [.int .i64 k] Γ (-9223372036854775808 ≤ k ∧ k ≤ 9223372036854775807) (Unit) (fun _ : Unit => .string (knT k)) (fun _ => Γ) := ⟨fun s w0 => impl_KindName_spec s⟩

end Go.Proofs.YtcaljjkmaffedaaDoor
