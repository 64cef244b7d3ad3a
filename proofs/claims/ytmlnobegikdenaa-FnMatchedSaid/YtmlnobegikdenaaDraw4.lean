/- Draws of the laws on matching. -/
import Derived.Test.YtmlnobegikdenaaDraw3
namespace Go.Proofs.Ytmlnobegikdenaa
open Go Go.Eng
set_option linter.unusedVariables false
set_option linter.unusedSimpArgs false
set_option synthInstance.maxHeartbeats 400000
set_option synthInstance.maxSize 1000


theorem DrawEmbedsIn_spec {w0 : World} {Γ : List Atom} {v : Value} {code : List UInt8} [hv : HasRd (List UInt8) repList Γ [v] code] :
    CJ Try.prog 10 [v] w0 Γ (fun q : L3 => .tuple #[.agg #[q.1.1.1], q.1.2.1.1, q.1.2.2.1]) (fun q => .rd [q.1.1.1] q.1.1.2 :: .rd [q.1.2.1.1] q.1.2.1.2 :: .rd [q.1.2.2.1] q.1.2.2.2 :: Γ) := by
  refine cj_enter Try.func10 Try.ntmps10 ?_
  repeat' (first
    | refine red ?_
    | refine redf fun hbi => ?_
    | refine reds ?_
    | (refine redc fun r => ?_; try have hr := Subtype.property r)
    | refine redp (fun r => ?_) (fun r => ?_)
    | refine redv fun sv => ?_
    | refine redn fun b => ?_
    | refine redz fun zs => ?_
    | refine redq (fun hc => ?_) (fun hc => ?_)
    | with_reducible refine wq_blk_o rfl ?_
    | (refine redd fun p cs as_ hcs has hf => ?_; simp only [Un.cells, Un.atoms, Un.fact, List.cons_append, List.nil_append] at hcs has hf; subst hcs has)
    | (refine redi (fun hc => ?_) (fun hc => ?_) <;> try first | (exfalso; omega) | exact absurd rfl hc)
    | ((refine wa_beginc 4 [false, false, false, false, false, false, false, false, false, false, false, false, false] [] ?_ <;> (first | refine wa_f 0 fun hbi => ?_ | refine wa_p 0 ?_ | fail) <;> (first | refine wa_p 1 ?_ | refine wa_p0 1 ?_ | fail) <;> (first | refine wa_f 2 fun hbi => ?_ | refine wa_p 2 ?_ | fail) <;> (first | refine wa_p 4 ?_ | refine wa_p0 4 ?_ | fail) <;> (first | refine wa_p 6 ?_ | refine wa_p0 6 ?_ | fail) <;> (refine wa_do 3 ?_ <;> (repeat' (first | refine red ?_ | (refine redc fun r => ?_; try have hr := Subtype.property r) | refine redv fun sv => ?_ | refine redf fun hbi => ?_ | refine redn fun b => ?_ | refine reds ?_ | refine redi (fun hc => ?_) (fun hc => ?_) | refine redq (fun hc => ?_) (fun hc => ?_) | refine redp (fun r => ?_) (fun r => ?_) | refine wl_share sv ?_ | fail))) <;> (refine wa_do 5 ?_ <;> (repeat' (first | refine red ?_ | (refine redc fun r => ?_; try have hr := Subtype.property r) | refine redv fun sv => ?_ | refine redf fun hbi => ?_ | refine redn fun b => ?_ | refine reds ?_ | refine redi (fun hc => ?_) (fun hc => ?_) | refine redq (fun hc => ?_) (fun hc => ?_) | refine redp (fun r => ?_) (fun r => ?_) | refine wl_share sv ?_ | fail))) <;> (refine wa_do 7 ?_ <;> (repeat' (first | refine red ?_ | (refine redc fun r => ?_; try have hr := Subtype.property r) | refine redv fun sv => ?_ | refine redf fun hbi => ?_ | refine redn fun b => ?_ | refine reds ?_ | refine redi (fun hc => ?_) (fun hc => ?_) | refine redq (fun hc => ?_) (fun hc => ?_) | refine redp (fun r => ?_) (fun r => ?_) | refine wl_share sv ?_ | fail))) <;> (first | refine wa_p 8 ?_ | refine wa_p0 8 ?_ | (refine wa_do 8 ?_ <;> (repeat' (first | refine red ?_ | (refine redc fun r => ?_; try have hr := Subtype.property r) | refine redv fun sv => ?_ | refine redf fun hbi => ?_ | refine redn fun b => ?_ | refine reds ?_ | refine redi (fun hc => ?_) (fun hc => ?_) | refine redq (fun hc => ?_) (fun hc => ?_) | refine redp (fun r => ?_) (fun r => ?_) | refine wl_share sv ?_ | fail))) | fail) <;> (first | refine wa_p 9 ?_ | refine wa_p0 9 ?_ | fail) <;> (first | refine wa_p 10 ?_ | refine wa_p0 10 ?_ | fail) <;> (first | refine wa_p 11 ?_ | refine wa_p0 11 ?_ | (refine wa_do 11 ?_ <;> (repeat' (first | refine red ?_ | (refine redc fun r => ?_; try have hr := Subtype.property r) | refine redv fun sv => ?_ | refine redf fun hbi => ?_ | refine redn fun b => ?_ | refine reds ?_ | refine redi (fun hc => ?_) (fun hc => ?_) | refine redq (fun hc => ?_) (fun hc => ?_) | refine redp (fun r => ?_) (fun r => ?_) | refine wl_share sv ?_ | fail))) | fail) <;> (first | refine wa_p 12 ?_ | refine wa_p0 12 ?_ | (refine wa_do 12 ?_ <;> (repeat' (first | refine red ?_ | (refine redc fun r => ?_; try have hr := Subtype.property r) | refine redv fun sv => ?_ | refine redf fun hbi => ?_ | refine redn fun b => ?_ | refine reds ?_ | refine redi (fun hc => ?_) (fun hc => ?_) | refine redq (fun hc => ?_) (fun hc => ?_) | refine redp (fun r => ?_) (fun r => ?_) | refine wl_share sv ?_ | fail))) | fail)) <;> (first | refine wa_end ?_ | with_reducible refine wq_keep ?_))
    | fail)
  · rename_i r1 h1 _ _ _ _ _ _ _ _
    exact ⟨⟨(r1.1.1, r1.1.2.1, (r.1.1, r.1.2.1)), ⟨h1.1, h1.2.1, hr hc⟩⟩, rfl, ent_rd r.1.1 ent_e⟩
  · rename_i r1 h1 _ _ _ _ _ _ _ _
    exact ⟨⟨(r1.1.1, r1.1.2.1, r1.1.2.2.1), h1⟩, rfl, ent_e⟩
  · rename_i r1 _ _
    exact ⟨⟨(r1.1.1, r1.1.2.1, r1.1.2.2.1), r1.2⟩, rfl, ent_e⟩
  · rename_i r1
    exact ⟨⟨(r1.1.1, r1.1.2.1, r1.1.2.2.1), r1.2⟩, rfl, ent_e⟩
instance DrawEmbedsIn_ctr {Γ : List Atom} {v : Value} {code : List UInt8} [hv : HasRd (List UInt8) repList Γ [v] code] :
    CtrC Try.prog 10 [v] Γ (True) (L3) (fun q : L3 => .tuple #[.agg #[q.1.1.1], q.1.2.1.1, q.1.2.2.1]) (fun q => .rd [q.1.1.1] q.1.1.2 :: .rd [q.1.2.1.1] q.1.2.1.2 :: .rd [q.1.2.2.1] q.1.2.2.2 :: Γ) := ⟨fun s w0 => DrawEmbedsIn_spec⟩

abbrev L3s : Type := { q : (Value × List Int) × (Value × List (List Int)) × (Value × List Int) // q.1.2.length ≤ 9 ∧ TsB 25 q.2.1.2 ∧ q.2.2.2.length ≤ 41 }
theorem DrawFilled_spec {w0 : World} {Γ : List Atom} {v : Value} {code : List UInt8} [hv : HasRd (List UInt8) repList Γ [v] code] :
    CJ Try.prog 21 [v] w0 Γ (fun q : L3s => .tuple #[.agg #[q.1.1.1], .agg #[q.1.2.1.1], q.1.2.2.1]) (fun q => .rd [q.1.1.1] q.1.1.2 :: .rd [q.1.2.1.1] q.1.2.1.2 :: .rd [q.1.2.2.1] q.1.2.2.2 :: Γ) := by
  refine cj_enter Try.func21 Try.ntmps21 ?_
  repeat' (first
    | refine red ?_
    | refine redf fun hbi => ?_
    | refine reds ?_
    | (refine redc fun r => ?_; try have hr := Subtype.property r)
    | refine redp (fun r => ?_) (fun r => ?_)
    | refine redv fun sv => ?_
    | refine redn fun b => ?_
    | refine redz fun zs => ?_
    | refine redq (fun hc => ?_) (fun hc => ?_)
    | with_reducible refine wq_blk_o rfl ?_
    | (refine redd fun p cs as_ hcs has hf => ?_; simp only [Un.cells, Un.atoms, Un.fact, List.cons_append, List.nil_append] at hcs has hf; subst hcs has)
    | (refine redi (fun hc => ?_) (fun hc => ?_) <;> try first | (exfalso; omega) | exact absurd rfl hc)
    | ((refine wa_beginc 4 [false, false, false, false, false, false, false, false] [5, 6] ?_ <;> (first | refine wa_f 0 fun hbi => ?_ | refine wa_p 0 ?_ | fail) <;> (first | refine wa_f 1 fun hbi => ?_ | refine wa_p 1 ?_ | fail) <;> (first | refine wa_p 2 ?_ | refine wa_p0 2 ?_ | fail) <;> (first | refine wa_f 3 fun hbi => ?_ | refine wa_p 3 ?_ | (refine wa_do 3 ?_ <;> (repeat' (first | refine red ?_ | (refine redc fun r => ?_; try have hr := Subtype.property r) | refine redv fun sv => ?_ | refine redf fun hbi => ?_ | refine redn fun b => ?_ | refine reds ?_ | refine redi (fun hc => ?_) (fun hc => ?_) | refine redq (fun hc => ?_) (fun hc => ?_) | refine redp (fun r => ?_) (fun r => ?_) | refine wl_share sv ?_ | fail))) | fail) <;> (refine wa_do 4 ?_ <;> (repeat' (first | refine red ?_ | (refine redc fun r => ?_; try have hr := Subtype.property r) | refine redv fun sv => ?_ | refine redf fun hbi => ?_ | refine redn fun b => ?_ | refine reds ?_ | refine redi (fun hc => ?_) (fun hc => ?_) | refine redq (fun hc => ?_) (fun hc => ?_) | refine redp (fun r => ?_) (fun r => ?_) | refine wl_share sv ?_ | fail))) <;> (refine wa_do 5 ?_ <;> (repeat' (first | refine red ?_ | (refine redc fun r => ?_; try have hr := Subtype.property r) | refine redv fun sv => ?_ | refine redf fun hbi => ?_ | refine redn fun b => ?_ | refine reds ?_ | refine redi (fun hc => ?_) (fun hc => ?_) | refine redq (fun hc => ?_) (fun hc => ?_) | refine redp (fun r => ?_) (fun r => ?_) | refine wl_share sv ?_ | fail))) <;> (refine wa_do 6 ?_ <;> (repeat' (first | refine red ?_ | (refine redc fun r => ?_; try have hr := Subtype.property r) | refine redv fun sv => ?_ | refine redf fun hbi => ?_ | refine redn fun b => ?_ | refine reds ?_ | refine redi (fun hc => ?_) (fun hc => ?_) | refine redq (fun hc => ?_) (fun hc => ?_) | refine redp (fun r => ?_) (fun r => ?_) | refine wl_share sv ?_ | fail))) <;> (first | refine wa_p 7 ?_ | refine wa_p0 7 ?_ | (refine wa_do 7 ?_ <;> (repeat' (first | refine red ?_ | (refine redc fun r => ?_; try have hr := Subtype.property r) | refine redv fun sv => ?_ | refine redf fun hbi => ?_ | refine redn fun b => ?_ | refine reds ?_ | refine redi (fun hc => ?_) (fun hc => ?_) | refine redq (fun hc => ?_) (fun hc => ?_) | refine redp (fun r => ?_) (fun r => ?_) | refine wl_share sv ?_ | fail))) | fail)) <;> (first | refine wa_end ?_ | with_reducible refine wq_keep ?_))
    | fail)
  ((refine wa_begind 4 [false, false, false, false, false, false, false, false] [] ?_ <;> (first | refine wa_f 0 fun hbi => ?_ | refine wa_p 0 ?_ | fail) <;> (first | refine wa_f 1 fun hbi => ?_ | refine wa_p 1 ?_ | fail) <;> (first | refine wa_p 2 ?_ | refine wa_p0 2 ?_ | fail) <;> (first | refine wa_f 3 fun hbi => ?_ | refine wa_p 3 ?_ | (refine wa_do 3 ?_ <;> (repeat' (first | refine red ?_ | (refine redc fun r => ?_; try have hr := Subtype.property r) | refine redv fun sv => ?_ | refine redf fun hbi => ?_ | refine redn fun b => ?_ | refine reds ?_ | refine redi (fun hc => ?_) (fun hc => ?_) | refine redq (fun hc => ?_) (fun hc => ?_) | refine redp (fun r => ?_) (fun r => ?_) | refine wl_share sv ?_ | fail))) | fail) <;> (refine wa_do 4 ?_ <;> (repeat' (first | refine red ?_ | (refine redc fun r => ?_; try have hr := Subtype.property r) | refine redv fun sv => ?_ | refine redf fun hbi => ?_ | refine redn fun b => ?_ | refine reds ?_ | refine redi (fun hc => ?_) (fun hc => ?_) | refine redq (fun hc => ?_) (fun hc => ?_) | refine redp (fun r => ?_) (fun r => ?_) | refine wl_share sv ?_ | fail))) <;> (refine wa_do 5 ?_ <;> (repeat' (first | refine red ?_ | (refine redc fun r => ?_; try have hr := Subtype.property r) | refine redv fun sv => ?_ | refine redf fun hbi => ?_ | refine redn fun b => ?_ | refine reds ?_ | refine redi (fun hc => ?_) (fun hc => ?_) | refine redq (fun hc => ?_) (fun hc => ?_) | refine redp (fun r => ?_) (fun r => ?_) | refine wl_share sv ?_ | fail))) <;> (refine wa_do 6 ?_ <;> (repeat' (first | refine red ?_ | (refine redc fun r => ?_; try have hr := Subtype.property r) | refine redv fun sv => ?_ | refine redf fun hbi => ?_ | refine redn fun b => ?_ | refine reds ?_ | refine redi (fun hc => ?_) (fun hc => ?_) | refine redq (fun hc => ?_) (fun hc => ?_) | refine redp (fun r => ?_) (fun r => ?_) | refine wl_share sv ?_ | fail))) <;> (first | refine wa_p 7 ?_ | refine wa_p0 7 ?_ | (refine wa_do 7 ?_ <;> (repeat' (first | refine red ?_ | (refine redc fun r => ?_; try have hr := Subtype.property r) | refine redv fun sv => ?_ | refine redf fun hbi => ?_ | refine redn fun b => ?_ | refine reds ?_ | refine redi (fun hc => ?_) (fun hc => ?_) | refine redq (fun hc => ?_) (fun hc => ?_) | refine redp (fun r => ?_) (fun r => ?_) | refine wl_share sv ?_ | fail))) | fail)) <;> (first | refine wa_end ?_ | with_reducible refine wq_keep ?_))
  repeat' (first
    | refine red ?_
    | refine redf fun hbi => ?_
    | refine reds ?_
    | (refine redc fun r => ?_; try have hr := Subtype.property r)
    | refine redp (fun r => ?_) (fun r => ?_)
    | refine redv fun sv => ?_
    | refine redn fun b => ?_
    | refine redz fun zs => ?_
    | refine redq (fun hc => ?_) (fun hc => ?_)
    | with_reducible refine wq_blk_o rfl ?_
    | (refine redd fun p cs as_ hcs has hf => ?_; simp only [Un.cells, Un.atoms, Un.fact, List.cons_append, List.nil_append] at hcs has hf; subst hcs has)
    | (refine redi (fun hc => ?_) (fun hc => ?_) <;> try first | (exfalso; omega) | exact absurd rfl hc)
    | ((refine wa_beginc 4 [false, false, false, false, false, false, false, false] [5, 6] ?_ <;> (first | refine wa_f 0 fun hbi => ?_ | refine wa_p 0 ?_ | fail) <;> (first | refine wa_f 1 fun hbi => ?_ | refine wa_p 1 ?_ | fail) <;> (first | refine wa_p 2 ?_ | refine wa_p0 2 ?_ | fail) <;> (first | refine wa_f 3 fun hbi => ?_ | refine wa_p 3 ?_ | (refine wa_do 3 ?_ <;> (repeat' (first | refine red ?_ | (refine redc fun r => ?_; try have hr := Subtype.property r) | refine redv fun sv => ?_ | refine redf fun hbi => ?_ | refine redn fun b => ?_ | refine reds ?_ | refine redi (fun hc => ?_) (fun hc => ?_) | refine redq (fun hc => ?_) (fun hc => ?_) | refine redp (fun r => ?_) (fun r => ?_) | refine wl_share sv ?_ | fail))) | fail) <;> (refine wa_do 4 ?_ <;> (repeat' (first | refine red ?_ | (refine redc fun r => ?_; try have hr := Subtype.property r) | refine redv fun sv => ?_ | refine redf fun hbi => ?_ | refine redn fun b => ?_ | refine reds ?_ | refine redi (fun hc => ?_) (fun hc => ?_) | refine redq (fun hc => ?_) (fun hc => ?_) | refine redp (fun r => ?_) (fun r => ?_) | refine wl_share sv ?_ | fail))) <;> (refine wa_do 5 ?_ <;> (repeat' (first | refine red ?_ | (refine redc fun r => ?_; try have hr := Subtype.property r) | refine redv fun sv => ?_ | refine redf fun hbi => ?_ | refine redn fun b => ?_ | refine reds ?_ | refine redi (fun hc => ?_) (fun hc => ?_) | refine redq (fun hc => ?_) (fun hc => ?_) | refine redp (fun r => ?_) (fun r => ?_) | refine wl_share sv ?_ | fail))) <;> (refine wa_do 6 ?_ <;> (repeat' (first | refine red ?_ | (refine redc fun r => ?_; try have hr := Subtype.property r) | refine redv fun sv => ?_ | refine redf fun hbi => ?_ | refine redn fun b => ?_ | refine reds ?_ | refine redi (fun hc => ?_) (fun hc => ?_) | refine redq (fun hc => ?_) (fun hc => ?_) | refine redp (fun r => ?_) (fun r => ?_) | refine wl_share sv ?_ | fail))) <;> (first | refine wa_p 7 ?_ | refine wa_p0 7 ?_ | (refine wa_do 7 ?_ <;> (repeat' (first | refine red ?_ | (refine redc fun r => ?_; try have hr := Subtype.property r) | refine redv fun sv => ?_ | refine redf fun hbi => ?_ | refine redn fun b => ?_ | refine reds ?_ | refine redi (fun hc => ?_) (fun hc => ?_) | refine redq (fun hc => ?_) (fun hc => ?_) | refine redp (fun r => ?_) (fun r => ?_) | refine wl_share sv ?_ | fail))) | fail)) <;> (first | refine wa_end ?_ | with_reducible refine wq_keep ?_))
    | fail)
  rename_i r1 h1 _ r2 h2
  exact ⟨⟨((r1.1.1, r1.1.2.1), (r2.1.1, r2.1.2.1), (r.1.1, r.1.2.1)), ⟨h1, h2, hr⟩⟩, rfl, ent_rd r1.1.1 ent_e⟩
instance DrawFilled_ctr {Γ : List Atom} {v : Value} {code : List UInt8} [hv : HasRd (List UInt8) repList Γ [v] code] :
    CtrC Try.prog 21 [v] Γ (True) (L3s) (fun q : L3s => .tuple #[.agg #[q.1.1.1], .agg #[q.1.2.1.1], q.1.2.2.1]) (fun q => .rd [q.1.1.1] q.1.1.2 :: .rd [q.1.2.1.1] q.1.2.1.2 :: .rd [q.1.2.2.1] q.1.2.2.2 :: Γ) := ⟨fun s w0 => DrawFilled_spec⟩

abbrev L2s : Type := { q : (Value × List Int) × (Value × List (List Int)) // q.1.2.length ≤ 9 ∧ TsB 13 q.2.2 }
theorem DrawMostGeneral_spec {w0 : World} {Γ : List Atom} {v : Value} {code : List UInt8} [hv : HasRd (List UInt8) repList Γ [v] code] :
    CJ Try.prog 25 [v] w0 Γ (fun q : L2s => .tuple #[.agg #[q.1.1.1], q.1.2.1]) (fun q => .rd [q.1.1.1] q.1.1.2 :: .rd [q.1.2.1] q.1.2.2 :: Γ) := by
  refine cj_enter Try.func25 Try.ntmps25 ?_
  repeat' (first
    | refine red ?_
    | refine redf fun hbi => ?_
    | refine reds ?_
    | (refine redc fun r => ?_; try have hr := Subtype.property r)
    | refine redp (fun r => ?_) (fun r => ?_)
    | refine redv fun sv => ?_
    | refine redn fun b => ?_
    | refine redz fun zs => ?_
    | refine redq (fun hc => ?_) (fun hc => ?_)
    | with_reducible refine wq_blk_o rfl ?_
    | (refine redd fun p cs as_ hcs has hf => ?_; simp only [Un.cells, Un.atoms, Un.fact, List.cons_append, List.nil_append] at hcs has hf; subst hcs has)
    | (refine redi (fun hc => ?_) (fun hc => ?_) <;> try first | (exfalso; omega) | exact absurd rfl hc)
    | ((refine wa_beginc 3 [false, false, false, false, false, false] [4] ?_ <;> (first | refine wa_f 0 fun hbi => ?_ | refine wa_p 0 ?_ | fail) <;> (first | refine wa_p 1 ?_ | refine wa_p0 1 ?_ | fail) <;> (first | refine wa_f 2 fun hbi => ?_ | refine wa_p 2 ?_ | (refine wa_do 2 ?_ <;> (repeat' (first | refine red ?_ | (refine redc fun r => ?_; try have hr := Subtype.property r) | refine redv fun sv => ?_ | refine redf fun hbi => ?_ | refine redn fun b => ?_ | refine reds ?_ | refine redi (fun hc => ?_) (fun hc => ?_) | refine redq (fun hc => ?_) (fun hc => ?_) | refine redp (fun r => ?_) (fun r => ?_) | refine wl_share sv ?_ | fail))) | fail) <;> (refine wa_do 3 ?_ <;> (repeat' (first | refine red ?_ | (refine redc fun r => ?_; try have hr := Subtype.property r) | refine redv fun sv => ?_ | refine redf fun hbi => ?_ | refine redn fun b => ?_ | refine reds ?_ | refine redi (fun hc => ?_) (fun hc => ?_) | refine redq (fun hc => ?_) (fun hc => ?_) | refine redp (fun r => ?_) (fun r => ?_) | refine wl_share sv ?_ | fail))) <;> (refine wa_do 4 ?_ <;> (repeat' (first | refine red ?_ | (refine redc fun r => ?_; try have hr := Subtype.property r) | refine redv fun sv => ?_ | refine redf fun hbi => ?_ | refine redn fun b => ?_ | refine reds ?_ | refine redi (fun hc => ?_) (fun hc => ?_) | refine redq (fun hc => ?_) (fun hc => ?_) | refine redp (fun r => ?_) (fun r => ?_) | refine wl_share sv ?_ | fail))) <;> (first | refine wa_p 5 ?_ | refine wa_p0 5 ?_ | (refine wa_do 5 ?_ <;> (repeat' (first | refine red ?_ | (refine redc fun r => ?_; try have hr := Subtype.property r) | refine redv fun sv => ?_ | refine redf fun hbi => ?_ | refine redn fun b => ?_ | refine reds ?_ | refine redi (fun hc => ?_) (fun hc => ?_) | refine redq (fun hc => ?_) (fun hc => ?_) | refine redp (fun r => ?_) (fun r => ?_) | refine wl_share sv ?_ | fail))) | fail)) <;> (first | refine wa_end ?_ | with_reducible refine wq_keep ?_))
    | fail)
  rename_i r1 h1
  exact ⟨⟨((r1.1.1, r1.1.2.1), (r.1.1, r.1.2.1)), ⟨h1, hr⟩⟩, rfl, ent_rd r1.1.1 ent_e⟩
instance DrawMostGeneral_ctr {Γ : List Atom} {v : Value} {code : List UInt8} [hv : HasRd (List UInt8) repList Γ [v] code] :
    CtrC Try.prog 25 [v] Γ (True) (L2s) (fun q : L2s => .tuple #[.agg #[q.1.1.1], q.1.2.1]) (fun q => .rd [q.1.1.1] q.1.1.2 :: .rd [q.1.2.1] q.1.2.2 :: Γ) := ⟨fun s w0 => DrawMostGeneral_spec⟩

theorem big_spec {w0 : World} {Γ : List Atom} {v : Value} {code : List UInt8} [hv : HasRd (List UInt8) repList Γ [v] code] :
    CJ Try.prog 9 [v] w0 Γ (fun _ : Unit => .bool (decide (4096 < code.length))) (fun _ => Γ) := by
  refine cj_len v fun hlx => ?_
  refine cj_enter Try.func9 Try.ntmps9 ?_
  repeat' (first
    | refine red ?_
    | refine redf fun hbi => ?_
    | refine reds ?_
    | (refine redc fun r => ?_; try have hr := Subtype.property r)
    | refine redp (fun r => ?_) (fun r => ?_)
    | refine redv fun sv => ?_
    | refine redn fun b => ?_
    | refine redz fun zs => ?_
    | refine redq (fun hc => ?_) (fun hc => ?_)
    | with_reducible refine wq_blk_o rfl ?_
    | (refine redd fun p cs as_ hcs has hf => ?_; simp only [Un.cells, Un.atoms, Un.fact, List.cons_append, List.nil_append] at hcs has hf; subst hcs has)
    | (refine redi (fun hc => ?_) (fun hc => ?_) <;> try first | (exfalso; omega) | exact absurd rfl hc)
    | fail)
  exact ⟨(), ret_bool (by congr 1; simp only [eq_iff_iff]; omega), ent_e⟩
instance big_ctr {Γ : List Atom} {v : Value} {code : List UInt8} [hv : HasRd (List UInt8) repList Γ [v] code] :
    CtrC Try.prog 9 [v] Γ (True) (Unit) (fun _ : Unit => .bool (decide (4096 < code.length))) (fun _ => Γ) := ⟨fun s w0 => big_spec⟩

end Go.Proofs.Ytmlnobegikdenaa
