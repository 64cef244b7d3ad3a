/- Functional programs: the program's side, and the law. -/
import Derived.Test.YtimniaojfchoiaaFront
namespace Go.Proofs.Ytimniaojfchoiaa
open Go Go.Eng
set_option linter.unusedVariables false
set_option linter.unusedSimpArgs false
set_option synthInstance.maxHeartbeats 400000
set_option synthInstance.maxSize 1000

theorem impl_linear_spec {w0 : World} {Γ : List Atom} {v : Value} {t : List Int} [h : HasRd (List Int) repList Γ [v] t] : CJ Try.prog 167 [v] w0 Γ (fun _ : Unit => .bool (decC (LinP t t.length))) (fun _ => Γ) := by
  refine cj_lift (R := [.rd [v] t]) (A := fun _ => []) (fun w1 => ?_) (reads_cons h inferInstance) (fun _ => inferInstance)
  simp only [List.cons_append, List.nil_append]
  refine cj_len v fun hlx => ?_
  refine cj_enter Try.func167 Try.ntmps167 ?_
  repeat' (first
    | refine red ?_
    | refine redf fun hbi => ?_
    | refine reds ?_
    | refine redc fun r => ?_
    | refine redp (fun r => ?_) (fun r => ?_)
    | refine redv fun sv => ?_
    | refine redn fun b => ?_
    | refine redz fun zs => ?_
    | refine redq (fun hc => ?_) (fun hc => ?_)
    | with_reducible refine wq_blk_o rfl ?_
    | (refine redd fun p cs as_ hcs has hf => ?_; simp only [Un.cells, Un.atoms, Un.fact, List.cons_append, List.nil_append] at hcs has hf; subst hcs has)
    | (refine redi (fun hc => ?_) (fun hc => ?_) <;> try first | (exfalso; omega) | exact absurd rfl hc)
    | fail)
  refine wc_loop_c [7] [8, 9, 10, 11, 3, 4, 12, 13, 14, 15, 16, 17, 18, 19, 20, 2, 21] (ι := Nat) (fun k => [.int .i64 k]) (fun k => k ≤ t.length ∧ LinP t k) (fun k => t.length - k) 0 (by kernel_rfl) ⟨Nat.zero_le _, fun i hi => by omega⟩ ?_
  intro k u l' hl' ⟨hk, hkk⟩
  simp only [patch, List.map_cons, List.map_nil, List.set_cons_zero, List.set_cons_succ] at hl'
  subst hl'
  repeat' (first
    | refine red ?_
    | refine redf fun hbi => ?_
    | refine reds ?_
    | refine redc fun r => ?_
    | refine redp (fun r => ?_) (fun r => ?_)
    | refine redv fun sv => ?_
    | refine redn fun b => ?_
    | refine redz fun zs => ?_
    | refine redq (fun hc => ?_) (fun hc => ?_)
    | with_reducible refine wq_blk_o rfl ?_
    | (refine redd fun p cs as_ hcs has hf => ?_; simp only [Un.cells, Un.atoms, Un.fact, List.cons_append, List.nil_append] at hcs has hf; subst hcs has)
    | (refine redi (fun hc => ?_) (fun hc => ?_) <;> try first | (exfalso; omega) | exact absurd rfl hc)
    | fail)
  · exact ⟨(), ret_bool (decC_f fun h => h k (by omega) (by assumption) hc), ent_e⟩
  · exact wq_next (k + 1) ⟨by omega, lin_next hkk (fun _ => hc)⟩ (by omega) (by kernel_rfl) ent_e
  · exact wq_next (k + 1) ⟨by omega, lin_next hkk (fun h => by omega)⟩ (by omega) (by kernel_rfl) ent_e
  · exact ⟨(), ret_bool (decC_t (by rw [show t.length = k by omega]; exact hkk)), ent_e⟩
instance impl_linear_ctr {Γ : List Atom} {v : Value} {t : List Int} [h : HasRd (List Int) repList Γ [v] t] :
    CtrC Try.prog 167 [v] Γ (True) (Unit) (fun _ : Unit => .bool (decC (LinP t t.length))) (fun _ => Γ) := ⟨fun s w0 => impl_linear_spec⟩

theorem left_spec {w0 : World} {Γ : List Atom} {v0 v1 : Value} {x : SLine} [h0 : HasRd (List (List Int)) repList Γ [v0] x.2.1] [h1 : HasRd (List Int) repList Γ [v1] x.2.2] (hx : ShortL x) : CJ Try.prog 134 [.agg #[.int .i64 x.1, v0, v1]] w0 Γ (fun q : Value => q) (fun q => .ow [q] (leftL x) :: Γ) := by
  refine cj_lift (R := [.rd [v0] x.2.1, .rd [v1] x.2.2]) (A := fun q => [.ow [q] (leftL x)]) (fun w1 => ?_) (reads_cons h0 (reads_cons h1 (inferInstance))) (fun _ => inferInstance)
  simp only [List.cons_append, List.nil_append]
  have hn := hx.n
  have hv := hx.v
  have hfl := flat_len hx.l x.2.1.length
  rw [List.take_length] at hfl
  have hfl2 : ([[x.1], x.2.1.flatten] : List (List Int)).flatten.length ≤ 1099511627776 := by
    simp only [List.flatten_cons, List.flatten_nil, List.append_nil, List.length_append, List.length_singleton]
    omega
  have hfe : ([[x.1], x.2.1.flatten] : List (List Int)).flatten = leftL x := by simp [leftL]
  refine cj_enter Try.func134 Try.ntmps134 ?_
  repeat' (first
    | refine red ?_
    | refine redf fun hbi => ?_
    | refine reds ?_
    | refine redc fun r => ?_
    | refine redp (fun r => ?_) (fun r => ?_)
    | refine redv fun sv => ?_
    | refine redn fun b => ?_
    | refine redz fun zs => ?_
    | refine redq (fun hc => ?_) (fun hc => ?_)
    | with_reducible refine wq_blk_o rfl ?_
    | (refine redd fun p cs as_ hcs has hf => ?_; simp only [Un.cells, Un.atoms, Un.fact, List.cons_append, List.nil_append] at hcs has hf; subst hcs has)
    | (refine redi (fun hc => ?_) (fun hc => ?_) <;> try first | (exfalso; omega) | exact absurd rfl hc)
    | ((refine wa_begin 1 [false, false, false, false, false, false, false, false, false] [] ?_ <;> (first | refine wa_p 0 ?_ | refine wa_p0 0 ?_ | fail) <;> (first | refine wa_f 1 fun hbi => ?_ | refine wa_p 1 ?_ | fail) <;> (first | refine wa_p 3 ?_ | refine wa_p0 3 ?_ | fail) <;> (first | refine wa_f 4 fun hbi => ?_ | refine wa_p 4 ?_ | fail) <;> (refine wa_two 2 5 ?_ ?_; rotate_right; (focus ((repeat' (first | refine red ?_ | refine redc fun r => ?_ | refine redv fun sv => ?_ | refine redf fun hbi => ?_ | refine redn fun b => ?_ | refine reds ?_ | refine redi (fun hc => ?_) (fun hc => ?_) | refine redq (fun hc => ?_) (fun hc => ?_) | refine redp (fun r => ?_) (fun r => ?_) | fail)) <;> (refine wa_do 2 ?_ <;> (repeat' (first | refine red ?_ | refine redc fun r => ?_ | refine redv fun sv => ?_ | refine redf fun hbi => ?_ | refine redn fun b => ?_ | refine reds ?_ | refine redi (fun hc => ?_) (fun hc => ?_) | refine redq (fun hc => ?_) (fun hc => ?_) | refine redp (fun r => ?_) (fun r => ?_) | fail))) <;> (refine wa_do 6 ?_ <;> (repeat' (first | refine red ?_ | refine redc fun r => ?_ | refine redv fun sv => ?_ | refine redf fun hbi => ?_ | refine redn fun b => ?_ | refine reds ?_ | refine redi (fun hc => ?_) (fun hc => ?_) | refine redq (fun hc => ?_) (fun hc => ?_) | refine redp (fun r => ?_) (fun r => ?_) | fail))) <;> (refine wa_do 7 ?_ <;> (repeat' (first | refine red ?_ | refine redc fun r => ?_ | refine redv fun sv => ?_ | refine redf fun hbi => ?_ | refine redn fun b => ?_ | refine reds ?_ | refine redi (fun hc => ?_) (fun hc => ?_) | refine redq (fun hc => ?_) (fun hc => ?_) | refine redp (fun r => ?_) (fun r => ?_) | fail))) <;> (first | refine wa_p 8 ?_ | refine wa_p0 8 ?_ | (refine wa_do 8 ?_ <;> (repeat' (first | refine red ?_ | refine redc fun r => ?_ | refine redv fun sv => ?_ | refine redf fun hbi => ?_ | refine redn fun b => ?_ | refine reds ?_ | refine redi (fun hc => ?_) (fun hc => ?_) | refine redq (fun hc => ?_) (fun hc => ?_) | refine redp (fun r => ?_) (fun r => ?_) | fail))) | fail))); rotate_right; (focus ((repeat' (first | refine red ?_ | refine redc fun r => ?_ | refine redv fun sv => ?_ | refine redf fun hbi => ?_ | refine redn fun b => ?_ | refine reds ?_ | refine redi (fun hc => ?_) (fun hc => ?_) | refine redq (fun hc => ?_) (fun hc => ?_) | refine redp (fun r => ?_) (fun r => ?_) | fail)) <;> (refine wa_do 5 ?_ <;> (repeat' (first | refine red ?_ | refine redc fun r => ?_ | refine redv fun sv => ?_ | refine redf fun hbi => ?_ | refine redn fun b => ?_ | refine reds ?_ | refine redi (fun hc => ?_) (fun hc => ?_) | refine redq (fun hc => ?_) (fun hc => ?_) | refine redp (fun r => ?_) (fun r => ?_) | fail))) <;> (refine wa_do 6 ?_ <;> (repeat' (first | refine red ?_ | refine redc fun r => ?_ | refine redv fun sv => ?_ | refine redf fun hbi => ?_ | refine redn fun b => ?_ | refine reds ?_ | refine redi (fun hc => ?_) (fun hc => ?_) | refine redq (fun hc => ?_) (fun hc => ?_) | refine redp (fun r => ?_) (fun r => ?_) | fail))) <;> (refine wa_do 7 ?_ <;> (repeat' (first | refine red ?_ | refine redc fun r => ?_ | refine redv fun sv => ?_ | refine redf fun hbi => ?_ | refine redn fun b => ?_ | refine reds ?_ | refine redi (fun hc => ?_) (fun hc => ?_) | refine redq (fun hc => ?_) (fun hc => ?_) | refine redp (fun r => ?_) (fun r => ?_) | fail))) <;> (first | refine wa_p 8 ?_ | refine wa_p0 8 ?_ | (refine wa_do 8 ?_ <;> (repeat' (first | refine red ?_ | refine redc fun r => ?_ | refine redv fun sv => ?_ | refine redf fun hbi => ?_ | refine redn fun b => ?_ | refine reds ?_ | refine redi (fun hc => ?_) (fun hc => ?_) | refine redq (fun hc => ?_) (fun hc => ?_) | refine redp (fun r => ?_) (fun r => ?_) | fail))) | fail))))) <;> (first | refine wa_end ?_ | with_reducible refine wq_keep ?_))
    | ((refine wa_begin1 1 [false, false, false, false, false, false, false, false, false] [] ?_ <;> (first | refine wa_p 0 ?_ | refine wa_p0 0 ?_ | fail) <;> (first | refine wa_f 1 fun hbi => ?_ | refine wa_p 1 ?_ | fail) <;> (first | refine wa_p 3 ?_ | refine wa_p0 3 ?_ | fail) <;> (first | refine wa_f 4 fun hbi => ?_ | refine wa_p 4 ?_ | fail) <;> (refine wa_two 2 5 ?_ ?_; rotate_right; (focus ((repeat' (first | refine red ?_ | refine redc fun r => ?_ | refine redv fun sv => ?_ | refine redf fun hbi => ?_ | refine redn fun b => ?_ | refine reds ?_ | refine redi (fun hc => ?_) (fun hc => ?_) | refine redq (fun hc => ?_) (fun hc => ?_) | refine redp (fun r => ?_) (fun r => ?_) | fail)) <;> (refine wa_do 2 ?_ <;> (repeat' (first | refine red ?_ | refine redc fun r => ?_ | refine redv fun sv => ?_ | refine redf fun hbi => ?_ | refine redn fun b => ?_ | refine reds ?_ | refine redi (fun hc => ?_) (fun hc => ?_) | refine redq (fun hc => ?_) (fun hc => ?_) | refine redp (fun r => ?_) (fun r => ?_) | fail))) <;> (refine wa_do 6 ?_ <;> (repeat' (first | refine red ?_ | refine redc fun r => ?_ | refine redv fun sv => ?_ | refine redf fun hbi => ?_ | refine redn fun b => ?_ | refine reds ?_ | refine redi (fun hc => ?_) (fun hc => ?_) | refine redq (fun hc => ?_) (fun hc => ?_) | refine redp (fun r => ?_) (fun r => ?_) | fail))) <;> (refine wa_do 7 ?_ <;> (repeat' (first | refine red ?_ | refine redc fun r => ?_ | refine redv fun sv => ?_ | refine redf fun hbi => ?_ | refine redn fun b => ?_ | refine reds ?_ | refine redi (fun hc => ?_) (fun hc => ?_) | refine redq (fun hc => ?_) (fun hc => ?_) | refine redp (fun r => ?_) (fun r => ?_) | fail))) <;> (first | refine wa_p 8 ?_ | refine wa_p0 8 ?_ | (refine wa_do 8 ?_ <;> (repeat' (first | refine red ?_ | refine redc fun r => ?_ | refine redv fun sv => ?_ | refine redf fun hbi => ?_ | refine redn fun b => ?_ | refine reds ?_ | refine redi (fun hc => ?_) (fun hc => ?_) | refine redq (fun hc => ?_) (fun hc => ?_) | refine redp (fun r => ?_) (fun r => ?_) | fail))) | fail))); rotate_right; (focus ((repeat' (first | refine red ?_ | refine redc fun r => ?_ | refine redv fun sv => ?_ | refine redf fun hbi => ?_ | refine redn fun b => ?_ | refine reds ?_ | refine redi (fun hc => ?_) (fun hc => ?_) | refine redq (fun hc => ?_) (fun hc => ?_) | refine redp (fun r => ?_) (fun r => ?_) | fail)) <;> (refine wa_do 5 ?_ <;> (repeat' (first | refine red ?_ | refine redc fun r => ?_ | refine redv fun sv => ?_ | refine redf fun hbi => ?_ | refine redn fun b => ?_ | refine reds ?_ | refine redi (fun hc => ?_) (fun hc => ?_) | refine redq (fun hc => ?_) (fun hc => ?_) | refine redp (fun r => ?_) (fun r => ?_) | fail))) <;> (refine wa_do 6 ?_ <;> (repeat' (first | refine red ?_ | refine redc fun r => ?_ | refine redv fun sv => ?_ | refine redf fun hbi => ?_ | refine redn fun b => ?_ | refine reds ?_ | refine redi (fun hc => ?_) (fun hc => ?_) | refine redq (fun hc => ?_) (fun hc => ?_) | refine redp (fun r => ?_) (fun r => ?_) | fail))) <;> (refine wa_do 7 ?_ <;> (repeat' (first | refine red ?_ | refine redc fun r => ?_ | refine redv fun sv => ?_ | refine redf fun hbi => ?_ | refine redn fun b => ?_ | refine reds ?_ | refine redi (fun hc => ?_) (fun hc => ?_) | refine redq (fun hc => ?_) (fun hc => ?_) | refine redp (fun r => ?_) (fun r => ?_) | fail))) <;> (first | refine wa_p 8 ?_ | refine wa_p0 8 ?_ | (refine wa_do 8 ?_ <;> (repeat' (first | refine red ?_ | refine redc fun r => ?_ | refine redv fun sv => ?_ | refine redf fun hbi => ?_ | refine redn fun b => ?_ | refine reds ?_ | refine redi (fun hc => ?_) (fun hc => ?_) | refine redq (fun hc => ?_) (fun hc => ?_) | refine redp (fun r => ?_) (fun r => ?_) | fail))) | fail))))) <;> (first | refine wa_end ?_ | with_reducible refine wq_keep ?_))
    | fail)
  all_goals
    rw [hfe]
    exact ⟨_, rfl, ent_e⟩
instance left_ctr {Γ : List Atom} {v0 v1 : Value} {x : SLine} [h0 : HasRd (List (List Int)) repList Γ [v0] x.2.1] [h1 : HasRd (List Int) repList Γ [v1] x.2.2] :
    CtrC Try.prog 134 [.agg #[.int .i64 x.1, v0, v1]] Γ (ShortL x) (Value) (fun q : Value => q) (fun q => .ow [q] (leftL x) :: Γ) := ⟨fun s w0 => left_spec s⟩

/-! The function symbols that stand in a term. -/
def HitP (t s : List Int) (k : Nat) : Prop := ∃ i, i < k ∧ t.getD i 0 ∈ s
theorem hit_wo {t s : List Int} {k : Nat} : HitP t s k ↔ ¬ WoP t s k := by
  constructor
  · rintro ⟨i, hi, h⟩ hw
    exact hw i hi h
  · intro h
    apply Classical.byContradiction
    intro hn
    exact h fun i hi hm => hn ⟨i, hi, hm⟩
theorem calls1_spec {w0 : World} {Γ Δ : List Atom} {b : Nat} {n : Int} {va vf vl : Value} {s : List Int} [hb : PullBk Γ b [va, vf, vl] Δ] [h : HasRd (List Int) repList Δ [vf] s] : CJ Try.prog 168 [.int .i64 n, .pointer (some ⟨b, 0, none⟩)] w0 Γ (fun _ : Unit => .bool (decide (n ∈ s))) (fun _ => .bk b [va, vf, vl] :: Δ) := by
  refine cj_perm hb.perm ?_
  refine cj_enter Try.func168 Try.ntmps168 ?_
  repeat' (first
    | refine red ?_
    | refine redf fun hbi => ?_
    | refine reds ?_
    | refine redc fun r => ?_
    | refine redp (fun r => ?_) (fun r => ?_)
    | refine redv fun sv => ?_
    | refine redn fun b => ?_
    | refine redz fun zs => ?_
    | refine redq (fun hc => ?_) (fun hc => ?_)
    | with_reducible refine wq_blk_o rfl ?_
    | (refine redd fun p cs as_ hcs has hf => ?_; simp only [Un.cells, Un.atoms, Un.fact, List.cons_append, List.nil_append] at hcs has hf; subst hcs has)
    | (refine redi (fun hc => ?_) (fun hc => ?_) <;> try first | (exfalso; omega) | exact absurd rfl hc)
    | fail)
  exact ⟨(), rfl, ent_e⟩
instance calls1_ctr {Γ Δ : List Atom} {b : Nat} {n : Int} {va vf vl : Value} {s : List Int} [hb : PullBk Γ b [va, vf, vl] Δ] [h : HasRd (List Int) repList Δ [vf] s] :
    CtrC Try.prog 168 [.int .i64 n, .pointer (some ⟨b, 0, none⟩)] Γ (True) (Unit) (fun _ : Unit => .bool (decide (n ∈ s))) (fun _ => .bk b [va, vf, vl] :: Δ) := ⟨fun s w0 => calls1_spec⟩

theorem IndexFuncC_spec {w0 : World} {Γ Δ : List Atom} {b : Nat} {v va vf vl : Value} {s t : List Int} [hb : PullBk Γ b [va, vf, vl] Δ] [h : HasRd (List Int) repList Δ [vf] s] [h1 : HasRd (List Int) repList Δ [v] t] : CJ Try.prog 173 [v, .func (.func 168) #[] #[.pointer (some ⟨b, 0, none⟩)]] w0 Γ (fun q : { m : Int // 0 ≤ m ↔ HitP t s t.length } => .int .i64 q.1) (fun _ => .bk b [va, vf, vl] :: Δ) := by
  refine cj_perm hb.perm ?_
  refine cj_len v fun hlx => ?_
  refine cj_enter Try.func173 Try.ntmps173 ?_
  repeat' (first
    | refine red ?_
    | refine redf fun hbi => ?_
    | refine reds ?_
    | refine redc fun r => ?_
    | refine redp (fun r => ?_) (fun r => ?_)
    | refine redv fun sv => ?_
    | refine redn fun b => ?_
    | refine redz fun zs => ?_
    | refine redq (fun hc => ?_) (fun hc => ?_)
    | with_reducible refine wq_blk_o rfl ?_
    | (refine redd fun p cs as_ hcs has hf => ?_; simp only [Un.cells, Un.atoms, Un.fact, List.cons_append, List.nil_append] at hcs has hf; subst hcs has)
    | (refine redi (fun hc => ?_) (fun hc => ?_) <;> try first | (exfalso; omega) | exact absurd rfl hc)
    | fail)
  refine wc_loop_c [8] [9, 10, 5, 11, 12, 13, 14, 15, 16, 17, 4, 18] (ι := Nat) (fun k => [.int .i64 k]) (fun k => k ≤ t.length ∧ ¬ HitP t s k) (fun k => t.length - k) 0 (by kernel_rfl) ⟨Nat.zero_le _, fun ⟨i, hi, _⟩ => by omega⟩ ?_
  intro k u l' hl' ⟨hk, hkk⟩
  simp only [patch, List.map_cons, List.map_nil, List.set_cons_zero, List.set_cons_succ] at hl'
  subst hl'
  repeat' (first
    | refine red ?_
    | refine redf fun hbi => ?_
    | refine reds ?_
    | refine redc fun r => ?_
    | refine redp (fun r => ?_) (fun r => ?_)
    | refine redv fun sv => ?_
    | refine redn fun b => ?_
    | refine redz fun zs => ?_
    | refine redq (fun hc => ?_) (fun hc => ?_)
    | with_reducible refine wq_blk_o rfl ?_
    | (refine redd fun p cs as_ hcs has hf => ?_; simp only [Un.cells, Un.atoms, Un.fact, List.cons_append, List.nil_append] at hcs has hf; subst hcs has)
    | (refine redi (fun hc => ?_) (fun hc => ?_) <;> try first | (exfalso; omega) | exact absurd rfl hc)
    | fail)
  · exact ⟨⟨(k : Int), ⟨fun _ => ⟨k, by omega, hc⟩, fun _ => by omega⟩⟩, rfl, ent_e⟩
  · refine wq_next (k + 1) ⟨by omega, fun ⟨i, hi, h⟩ => ?_⟩ (by omega) (by kernel_rfl) ent_e
    by_cases e : i = k
    · rw [e] at h; exact hc h
    · exact hkk ⟨i, by omega, h⟩
  · exact ⟨⟨-1, ⟨fun h => by omega, fun h => absurd (by rw [show t.length = k by omega] at h; exact h) hkk⟩⟩, rfl, ent_e⟩
instance IndexFuncC_ctr {Γ Δ : List Atom} {b : Nat} {v va vf vl : Value} {s t : List Int} [hb : PullBk Γ b [va, vf, vl] Δ] [h : HasRd (List Int) repList Δ [vf] s] [h1 : HasRd (List Int) repList Δ [v] t] :
    CtrC Try.prog 173 [v, .func (.func 168) #[] #[.pointer (some ⟨b, 0, none⟩)]] Γ (True) ({ m : Int // 0 ≤ m ↔ HitP t s t.length }) (fun q : { m : Int // 0 ≤ m ↔ HitP t s t.length } => .int .i64 q.1) (fun _ => .bk b [va, vf, vl] :: Δ) := ⟨fun s w0 => IndexFuncC_spec⟩

theorem ContainsFuncC_spec {w0 : World} {Γ Δ : List Atom} {b : Nat} {v va vf vl : Value} {s t : List Int} [hb : PullBk Γ b [va, vf, vl] Δ] [h : HasRd (List Int) repList Δ [vf] s] [h1 : HasRd (List Int) repList Δ [v] t] : CJ Try.prog 146 [v, .func (.func 168) #[] #[.pointer (some ⟨b, 0, none⟩)]] w0 Γ (fun _ : Unit => .bool (decC (HitP t s t.length))) (fun _ => .bk b [va, vf, vl] :: Δ) := by
  refine cj_perm hb.perm ?_
  refine cj_enter Try.func146 Try.ntmps146 ?_
  repeat' (first
    | refine red ?_
    | refine redf fun hbi => ?_
    | refine reds ?_
    | refine redc fun r => ?_
    | refine redp (fun r => ?_) (fun r => ?_)
    | refine redv fun sv => ?_
    | refine redn fun b => ?_
    | refine redz fun zs => ?_
    | refine redq (fun hc => ?_) (fun hc => ?_)
    | with_reducible refine wq_blk_o rfl ?_
    | (refine redd fun p cs as_ hcs has hf => ?_; simp only [Un.cells, Un.atoms, Un.fact, List.cons_append, List.nil_append] at hcs has hf; subst hcs has)
    | (refine redi (fun hc => ?_) (fun hc => ?_) <;> try first | (exfalso; omega) | exact absurd rfl hc)
    | fail)
  exact ⟨(), ret_bool (decC_of r.2).symm, ent_e⟩
instance ContainsFuncC_ctr {Γ Δ : List Atom} {b : Nat} {v va vf vl : Value} {s t : List Int} [hb : PullBk Γ b [va, vf, vl] Δ] [h : HasRd (List Int) repList Δ [vf] s] [h1 : HasRd (List Int) repList Δ [v] t] :
    CtrC Try.prog 146 [v, .func (.func 168) #[] #[.pointer (some ⟨b, 0, none⟩)]] Γ (True) (Unit) (fun _ : Unit => .bool (decC (HitP t s t.length))) (fun _ => .bk b [va, vf, vl] :: Δ) := ⟨fun s w0 => ContainsFuncC_spec⟩

theorem calls_spec {w0 : World} {Γ : List Atom} {va vf vl vt : Value} {f : SFront} {t : List Int} [hf : HasRd (List Int) repList Γ [vf] f.2.1] [ha : HasRd (List Int) repList Γ [va] f.1] [hl : HasRd (List SLine) repList Γ [vl] f.2.2] [ht : HasRd (List Int) repList Γ [vt] t] : CJ Try.prog 130 [.agg #[va, vf, vl], vt] w0 Γ (fun _ : Unit => .bool (decC (HitP t f.2.1 t.length))) (fun _ => Γ) := by
  refine cj_lift (R := [.rd [vf] f.2.1, .rd [va] f.1, .rd [vl] f.2.2, .rd [vt] t]) (A := fun _ => []) (fun w1 => ?_) (reads_cons hf (reads_cons ha (reads_cons hl (reads_cons ht (inferInstance))))) (fun _ => inferInstance)
  simp only [List.cons_append, List.nil_append]
  refine cj_enter Try.func130 Try.ntmps130 ?_
  repeat' (first
    | refine red ?_
    | refine redf fun hbi => ?_
    | refine reds ?_
    | refine redc fun r => ?_
    | refine redp (fun r => ?_) (fun r => ?_)
    | refine redv fun sv => ?_
    | refine redn fun b => ?_
    | refine redz fun zs => ?_
    | refine redq (fun hc => ?_) (fun hc => ?_)
    | with_reducible refine wq_blk_o rfl ?_
    | (refine redd fun p cs as_ hcs has hf => ?_; simp only [Un.cells, Un.atoms, Un.fact, List.cons_append, List.nil_append] at hcs has hf; subst hcs has)
    | (refine redi (fun hc => ?_) (fun hc => ?_) <;> try first | (exfalso; omega) | exact absurd rfl hc)
    | fail)
  exact ⟨(), rfl, ent_e⟩
instance calls_ctr {Γ : List Atom} {va vf vl vt : Value} {f : SFront} {t : List Int} [hf : HasRd (List Int) repList Γ [vf] f.2.1] [ha : HasRd (List Int) repList Γ [va] f.1] [hl : HasRd (List SLine) repList Γ [vl] f.2.2] [ht : HasRd (List Int) repList Γ [vt] t] :
    CtrC Try.prog 130 [.agg #[va, vf, vl], vt] Γ (True) (Unit) (fun _ : Unit => .bool (decC (HitP t f.2.1 t.length))) (fun _ => Γ) := ⟨fun s w0 => calls_spec⟩

theorem impl_RuleOk2_spec {w0 : World} {Γ : List Atom} {v v0 v1 : Value} {a l r : List Int} [h : HasRd (List Int) repList Γ [v] a] [h0 : HasRd (List Int) repList Γ [v0] l] [h1 : HasRd (List Int) repList Γ [v1] r] : CJ Try.prog 166 [.agg #[v], .agg #[v0, v1]] w0 Γ (fun _ : Unit => .bool (ruleOk a (l, r))) (fun _ => Γ) := by
  exact impl_RuleOk_spec (x := (l, r))
instance impl_RuleOk2_ctr {Γ : List Atom} {v v0 v1 : Value} {a l r : List Int} [h : HasRd (List Int) repList Γ [v] a] [h0 : HasRd (List Int) repList Γ [v0] l] [h1 : HasRd (List Int) repList Γ [v1] r] :
    CtrC Try.prog 166 [.agg #[v], .agg #[v0, v1]] Γ (True) (Unit) (fun _ : Unit => .bool (ruleOk a (l, r))) (fun _ => Γ) := ⟨fun s w0 => impl_RuleOk2_spec⟩

theorem lineOk_spec {w0 : World} {Γ : List Atom} {va vf vl v0 v1 : Value} {f : SFront} {x : SLine} [ha : HasRd (List Int) repList Γ [va] f.1] [hf : HasRd (List Int) repList Γ [vf] f.2.1] [hl : HasRd (List SLine) repList Γ [vl] f.2.2] [h0 : HasRd (List (List Int)) repList Γ [v0] x.2.1] [h1 : HasRd (List Int) repList Γ [v1] x.2.2] (hs : Fr0 f) : CJ Try.prog 128 [.agg #[va, vf, vl], .agg #[.int .i64 x.1, v0, v1]] w0 Γ (fun _ : Unit => .bool (decC (LineP f x))) (fun _ => Γ) := by
  refine cj_lift (R := [.rd [va] f.1, .rd [vf] f.2.1, .rd [vl] f.2.2, .rd [v0] x.2.1, .rd [v1] x.2.2]) (A := fun _ => []) (fun w1 => ?_) (reads_cons ha (reads_cons hf (reads_cons hl (reads_cons h0 (reads_cons h1 (inferInstance)))))) (fun _ => inferInstance)
  simp only [List.cons_append, List.nil_append]
  refine cj_len v0 fun hlx => ?_
  by_cases hfun : x.1 ∈ f.2.1
  · have hin := fr_in hs hfun
    have har := fr_ar hs hfun
    have hsl8 := sigOk_len hs.sig
    refine cj_enter Try.func128 Try.ntmps128 ?_
    repeat' (first
      | refine red ?_
      | refine redf fun hbi => ?_
      | refine reds ?_
      | refine redc fun r => ?_
      | refine redp (fun r => ?_) (fun r => ?_)
      | refine redv fun sv => ?_
      | refine redn fun b => ?_
      | refine redz fun zs => ?_
      | refine redq (fun hc => ?_) (fun hc => ?_)
      | with_reducible refine wq_blk_o rfl ?_
      | (refine redd fun p cs as_ hcs has hf => ?_; simp only [Un.cells, Un.atoms, Un.fact, List.cons_append, List.nil_append] at hcs has hf; subst hcs has)
      | (refine redi (fun hc => ?_) (fun hc => ?_) <;> try first | (exfalso; omega) | exact absurd rfl hc)
      | ((refine wa_begin 1 [false, false, false, false, false, false, false, false, false, false, false, false, false, false, false, false, false, false, false] [] ?_ <;> (first | refine wa_p 0 ?_ | refine wa_p0 0 ?_ | fail) <;> (first | refine wa_f 1 fun hbi => ?_ | refine wa_p 1 ?_ | fail) <;> (first | refine wa_p 2 ?_ | refine wa_p0 2 ?_ | (refine wa_do 2 ?_ <;> (repeat' (first | refine red ?_ | refine redc fun r => ?_ | refine redv fun sv => ?_ | refine redf fun hbi => ?_ | refine redn fun b => ?_ | refine reds ?_ | refine redi (fun hc => ?_) (fun hc => ?_) | refine redq (fun hc => ?_) (fun hc => ?_) | refine redp (fun r => ?_) (fun r => ?_) | fail))) | fail) <;> (first | refine wa_f 3 fun hbi => ?_ | refine wa_p 3 ?_ | (refine wa_do 3 ?_ <;> (repeat' (first | refine red ?_ | refine redc fun r => ?_ | refine redv fun sv => ?_ | refine redf fun hbi => ?_ | refine redn fun b => ?_ | refine reds ?_ | refine redi (fun hc => ?_) (fun hc => ?_) | refine redq (fun hc => ?_) (fun hc => ?_) | refine redp (fun r => ?_) (fun r => ?_) | fail))) | fail) <;> (refine wa_do 4 ?_ <;> (repeat' (first | refine red ?_ | refine redc fun r => ?_ | refine redv fun sv => ?_ | refine redf fun hbi => ?_ | refine redn fun b => ?_ | refine reds ?_ | refine redi (fun hc => ?_) (fun hc => ?_) | refine redq (fun hc => ?_) (fun hc => ?_) | refine redp (fun r => ?_) (fun r => ?_) | fail))) <;> (first | refine wa_p 5 ?_ | refine wa_p0 5 ?_ | (refine wa_do 5 ?_ <;> (repeat' (first | refine red ?_ | refine redc fun r => ?_ | refine redv fun sv => ?_ | refine redf fun hbi => ?_ | refine redn fun b => ?_ | refine reds ?_ | refine redi (fun hc => ?_) (fun hc => ?_) | refine redq (fun hc => ?_) (fun hc => ?_) | refine redp (fun r => ?_) (fun r => ?_) | fail))) | fail) <;> (first | refine wa_p 6 ?_ | refine wa_p0 6 ?_ | (refine wa_do 6 ?_ <;> (repeat' (first | refine red ?_ | refine redc fun r => ?_ | refine redv fun sv => ?_ | refine redf fun hbi => ?_ | refine redn fun b => ?_ | refine reds ?_ | refine redi (fun hc => ?_) (fun hc => ?_) | refine redq (fun hc => ?_) (fun hc => ?_) | refine redp (fun r => ?_) (fun r => ?_) | fail))) | fail) <;> (first | refine wa_pg 7 ?_ | refine wa_no 7 ?_ | (refine wa_if 13 (fun hc => ?_) (fun hc => ?_) <;> (try first | (exfalso; omega) | exact absurd rfl hc) <;> first | refine wa_pg 7 ?_ | refine wa_no 7 ?_) | fail) <;> (first | refine wa_pg 8 ?_ | refine wa_no 8 ?_ | fail) <;> (first | refine wa_pg 9 ?_ | refine wa_no 9 ?_ | fail) <;> (first | refine wa_pg 10 ?_ | refine wa_no 10 ?_ | fail) <;> (first | refine wa_pg 11 ?_ | refine wa_no 11 ?_ | fail) <;> (first | refine wa_pg 12 ?_ | refine wa_no 12 ?_ | fail) <;> (first | refine wa_pg 13 ?_ | refine wa_no 13 ?_ | (refine wa_do 13 ?_ <;> (repeat' (first | refine red ?_ | refine redc fun r => ?_ | refine redv fun sv => ?_ | refine redf fun hbi => ?_ | refine redn fun b => ?_ | refine reds ?_ | refine redi (fun hc => ?_) (fun hc => ?_) | refine redq (fun hc => ?_) (fun hc => ?_) | refine redp (fun r => ?_) (fun r => ?_) | fail))) | fail) <;> (first | refine wa_pg 14 ?_ | refine wa_no 14 ?_ | (refine wa_do 14 ?_ <;> (repeat' (first | refine red ?_ | refine redc fun r => ?_ | refine redv fun sv => ?_ | refine redf fun hbi => ?_ | refine redn fun b => ?_ | refine reds ?_ | refine redi (fun hc => ?_) (fun hc => ?_) | refine redq (fun hc => ?_) (fun hc => ?_) | refine redp (fun r => ?_) (fun r => ?_) | fail))) | fail) <;> (first | refine wa_pg 15 ?_ | refine wa_no 15 ?_ | (refine wa_do 15 ?_ <;> (repeat' (first | refine red ?_ | refine redc fun r => ?_ | refine redv fun sv => ?_ | refine redf fun hbi => ?_ | refine redn fun b => ?_ | refine reds ?_ | refine redi (fun hc => ?_) (fun hc => ?_) | refine redq (fun hc => ?_) (fun hc => ?_) | refine redp (fun r => ?_) (fun r => ?_) | fail))) | fail) <;> (first | refine wa_pg 16 ?_ | refine wa_no 16 ?_ | (refine wa_do 16 ?_ <;> (repeat' (first | refine red ?_ | refine redc fun r => ?_ | refine redv fun sv => ?_ | refine redf fun hbi => ?_ | refine redn fun b => ?_ | refine reds ?_ | refine redi (fun hc => ?_) (fun hc => ?_) | refine redq (fun hc => ?_) (fun hc => ?_) | refine redp (fun r => ?_) (fun r => ?_) | fail))) | fail) <;> (first | refine wa_pg 17 ?_ | refine wa_no 17 ?_ | (refine wa_do 17 ?_ <;> (repeat' (first | refine red ?_ | refine redc fun r => ?_ | refine redv fun sv => ?_ | refine redf fun hbi => ?_ | refine redn fun b => ?_ | refine reds ?_ | refine redi (fun hc => ?_) (fun hc => ?_) | refine redq (fun hc => ?_) (fun hc => ?_) | refine redp (fun r => ?_) (fun r => ?_) | fail))) | fail) <;> (first | refine wa_p 18 ?_ | refine wa_p0 18 ?_ | (refine wa_do 18 ?_ <;> (repeat' (first | refine red ?_ | refine redc fun r => ?_ | refine redv fun sv => ?_ | refine redf fun hbi => ?_ | refine redn fun b => ?_ | refine reds ?_ | refine redi (fun hc => ?_) (fun hc => ?_) | refine redq (fun hc => ?_) (fun hc => ?_) | refine redp (fun r => ?_) (fun r => ?_) | fail))) | fail)) <;> (first | refine wa_end ?_ | with_reducible refine wq_keep ?_))
      | ((refine wa_begin 9 [false, false, false, false, false, false, false, false, false, false, false, false, false, false] [] ?_ <;> (first | refine wa_p 0 ?_ | refine wa_p0 0 ?_ | fail) <;> (first | refine wa_f 1 fun hbi => ?_ | refine wa_p 1 ?_ | fail) <;> (first | refine wa_f 2 fun hbi => ?_ | refine wa_p 2 ?_ | fail) <;> (first | refine wa_p 4 ?_ | refine wa_p0 4 ?_ | fail) <;> (first | refine wa_f 5 fun hbi => ?_ | refine wa_p 5 ?_ | fail) <;> (refine wa_do 3 ?_ <;> (repeat' (first | refine red ?_ | refine redc fun r => ?_ | refine redv fun sv => ?_ | refine redf fun hbi => ?_ | refine redn fun b => ?_ | refine reds ?_ | refine redi (fun hc => ?_) (fun hc => ?_) | refine redq (fun hc => ?_) (fun hc => ?_) | refine redp (fun r => ?_) (fun r => ?_) | fail))) <;> (refine wa_do 6 ?_ <;> (repeat' (first | refine red ?_ | refine redc fun r => ?_ | refine redv fun sv => ?_ | refine redf fun hbi => ?_ | refine redn fun b => ?_ | refine reds ?_ | refine redi (fun hc => ?_) (fun hc => ?_) | refine redq (fun hc => ?_) (fun hc => ?_) | refine redp (fun r => ?_) (fun r => ?_) | fail))) <;> (refine wa_do 7 ?_ <;> (repeat' (first | refine red ?_ | refine redc fun r => ?_ | refine redv fun sv => ?_ | refine redf fun hbi => ?_ | refine redn fun b => ?_ | refine reds ?_ | refine redi (fun hc => ?_) (fun hc => ?_) | refine redq (fun hc => ?_) (fun hc => ?_) | refine redp (fun r => ?_) (fun r => ?_) | fail))) <;> (first | refine wa_p 8 ?_ | refine wa_p0 8 ?_ | (refine wa_do 8 ?_ <;> (repeat' (first | refine red ?_ | refine redc fun r => ?_ | refine redv fun sv => ?_ | refine redf fun hbi => ?_ | refine redn fun b => ?_ | refine reds ?_ | refine redi (fun hc => ?_) (fun hc => ?_) | refine redq (fun hc => ?_) (fun hc => ?_) | refine redp (fun r => ?_) (fun r => ?_) | fail))) | fail) <;> (first | refine wa_pg 9 ?_ | refine wa_no 9 ?_ | (refine wa_if 52 (fun hc => ?_) (fun hc => ?_) <;> (try first | (exfalso; omega) | exact absurd rfl hc) <;> first | refine wa_pg 9 ?_ | refine wa_no 9 ?_) | fail) <;> (refine wa_do 10 ?_ <;> (repeat' (first | refine red ?_ | refine redc fun r => ?_ | refine redv fun sv => ?_ | refine redf fun hbi => ?_ | refine redn fun b => ?_ | refine reds ?_ | refine redi (fun hc => ?_) (fun hc => ?_) | refine redq (fun hc => ?_) (fun hc => ?_) | refine redp (fun r => ?_) (fun r => ?_) | fail))) <;> (refine wa_do 11 ?_ <;> (repeat' (first | refine red ?_ | refine redc fun r => ?_ | refine redv fun sv => ?_ | refine redf fun hbi => ?_ | refine redn fun b => ?_ | refine reds ?_ | refine redi (fun hc => ?_) (fun hc => ?_) | refine redq (fun hc => ?_) (fun hc => ?_) | refine redp (fun r => ?_) (fun r => ?_) | fail))) <;> (first | refine wa_p 12 ?_ | refine wa_p0 12 ?_ | (refine wa_do 12 ?_ <;> (repeat' (first | refine red ?_ | refine redc fun r => ?_ | refine redv fun sv => ?_ | refine redf fun hbi => ?_ | refine redn fun b => ?_ | refine reds ?_ | refine redi (fun hc => ?_) (fun hc => ?_) | refine redq (fun hc => ?_) (fun hc => ?_) | refine redp (fun r => ?_) (fun r => ?_) | fail))) | fail) <;> (first | refine wa_p 13 ?_ | refine wa_p0 13 ?_ | (refine wa_do 13 ?_ <;> (repeat' (first | refine red ?_ | refine redc fun r => ?_ | refine redv fun sv => ?_ | refine redf fun hbi => ?_ | refine redn fun b => ?_ | refine reds ?_ | refine redi (fun hc => ?_) (fun hc => ?_) | refine redq (fun hc => ?_) (fun hc => ?_) | refine redp (fun r => ?_) (fun r => ?_) | fail))) | fail)) <;> (first | refine wa_end ?_ | with_reducible refine wq_keep ?_))
      | fail)
    all_goals first
      | (exfalso; exact ‹¬ x.1 ∈ f.2.1› hfun)
      | exact ⟨(), ret_bool (decC_f fun h => hc h.2.1), ent_e⟩
      | skip
    have hlen : (x.2.1.length : Int) = f.1.getD x.1.toNat 0 := by assumption
    refine wc_loop_c [29] [30, 31, 32, 6, 33, 34, 35, 36, 37, 38, 39, 40, 41, 42, 4, 43] (ι := Nat) (fun k => [.int .i64 k]) (fun k => k ≤ x.2.1.length ∧ PatP f x k) (fun k => x.2.1.length - k) 0 (by kernel_rfl) ⟨Nat.zero_le _, fun i hi => by omega⟩ ?_
    intro k u l' hl' ⟨hk, hkk⟩
    simp only [patch, List.map_cons, List.map_nil, List.set_cons_zero, List.set_cons_succ] at hl'
    subst hl'
    by_cases hlt : k < x.2.1.length
    · repeat' (first
        | refine red ?_
        | refine redf fun hbi => ?_
        | refine reds ?_
        | refine redc fun r => ?_
        | refine redp (fun r => ?_) (fun r => ?_)
        | refine redv fun sv => ?_
        | refine redn fun b => ?_
        | refine redz fun zs => ?_
        | refine redq (fun hc => ?_) (fun hc => ?_)
        | with_reducible refine wq_blk_o rfl ?_
        | (refine redd fun p cs as_ hcs has hf => ?_; simp only [Un.cells, Un.atoms, Un.fact, List.cons_append, List.nil_append] at hcs has hf; subst hcs has)
        | (refine redi (fun hc => ?_) (fun hc => ?_) <;> try first | (exfalso; omega) | exact absurd rfl hc)
        | ((refine wa_begin 1 [false, false, false, false, false, false, false, false, false, false, false, false, false, false, false, false, false, false, false] [] ?_ <;> (first | refine wa_p 0 ?_ | refine wa_p0 0 ?_ | fail) <;> (first | refine wa_f 1 fun hbi => ?_ | refine wa_p 1 ?_ | fail) <;> (first | refine wa_p 2 ?_ | refine wa_p0 2 ?_ | (refine wa_do 2 ?_ <;> (repeat' (first | refine red ?_ | refine redc fun r => ?_ | refine redv fun sv => ?_ | refine redf fun hbi => ?_ | refine redn fun b => ?_ | refine reds ?_ | refine redi (fun hc => ?_) (fun hc => ?_) | refine redq (fun hc => ?_) (fun hc => ?_) | refine redp (fun r => ?_) (fun r => ?_) | fail))) | fail) <;> (first | refine wa_f 3 fun hbi => ?_ | refine wa_p 3 ?_ | (refine wa_do 3 ?_ <;> (repeat' (first | refine red ?_ | refine redc fun r => ?_ | refine redv fun sv => ?_ | refine redf fun hbi => ?_ | refine redn fun b => ?_ | refine reds ?_ | refine redi (fun hc => ?_) (fun hc => ?_) | refine redq (fun hc => ?_) (fun hc => ?_) | refine redp (fun r => ?_) (fun r => ?_) | fail))) | fail) <;> (refine wa_do 4 ?_ <;> (repeat' (first | refine red ?_ | refine redc fun r => ?_ | refine redv fun sv => ?_ | refine redf fun hbi => ?_ | refine redn fun b => ?_ | refine reds ?_ | refine redi (fun hc => ?_) (fun hc => ?_) | refine redq (fun hc => ?_) (fun hc => ?_) | refine redp (fun r => ?_) (fun r => ?_) | fail))) <;> (first | refine wa_p 5 ?_ | refine wa_p0 5 ?_ | (refine wa_do 5 ?_ <;> (repeat' (first | refine red ?_ | refine redc fun r => ?_ | refine redv fun sv => ?_ | refine redf fun hbi => ?_ | refine redn fun b => ?_ | refine reds ?_ | refine redi (fun hc => ?_) (fun hc => ?_) | refine redq (fun hc => ?_) (fun hc => ?_) | refine redp (fun r => ?_) (fun r => ?_) | fail))) | fail) <;> (first | refine wa_p 6 ?_ | refine wa_p0 6 ?_ | (refine wa_do 6 ?_ <;> (repeat' (first | refine red ?_ | refine redc fun r => ?_ | refine redv fun sv => ?_ | refine redf fun hbi => ?_ | refine redn fun b => ?_ | refine reds ?_ | refine redi (fun hc => ?_) (fun hc => ?_) | refine redq (fun hc => ?_) (fun hc => ?_) | refine redp (fun r => ?_) (fun r => ?_) | fail))) | fail) <;> (first | refine wa_pg 7 ?_ | refine wa_no 7 ?_ | (refine wa_if 13 (fun hc => ?_) (fun hc => ?_) <;> (try first | (exfalso; omega) | exact absurd rfl hc) <;> first | refine wa_pg 7 ?_ | refine wa_no 7 ?_) | fail) <;> (first | refine wa_pg 8 ?_ | refine wa_no 8 ?_ | fail) <;> (first | refine wa_pg 9 ?_ | refine wa_no 9 ?_ | fail) <;> (first | refine wa_pg 10 ?_ | refine wa_no 10 ?_ | fail) <;> (first | refine wa_pg 11 ?_ | refine wa_no 11 ?_ | fail) <;> (first | refine wa_pg 12 ?_ | refine wa_no 12 ?_ | fail) <;> (first | refine wa_pg 13 ?_ | refine wa_no 13 ?_ | (refine wa_do 13 ?_ <;> (repeat' (first | refine red ?_ | refine redc fun r => ?_ | refine redv fun sv => ?_ | refine redf fun hbi => ?_ | refine redn fun b => ?_ | refine reds ?_ | refine redi (fun hc => ?_) (fun hc => ?_) | refine redq (fun hc => ?_) (fun hc => ?_) | refine redp (fun r => ?_) (fun r => ?_) | fail))) | fail) <;> (first | refine wa_pg 14 ?_ | refine wa_no 14 ?_ | (refine wa_do 14 ?_ <;> (repeat' (first | refine red ?_ | refine redc fun r => ?_ | refine redv fun sv => ?_ | refine redf fun hbi => ?_ | refine redn fun b => ?_ | refine reds ?_ | refine redi (fun hc => ?_) (fun hc => ?_) | refine redq (fun hc => ?_) (fun hc => ?_) | refine redp (fun r => ?_) (fun r => ?_) | fail))) | fail) <;> (first | refine wa_pg 15 ?_ | refine wa_no 15 ?_ | (refine wa_do 15 ?_ <;> (repeat' (first | refine red ?_ | refine redc fun r => ?_ | refine redv fun sv => ?_ | refine redf fun hbi => ?_ | refine redn fun b => ?_ | refine reds ?_ | refine redi (fun hc => ?_) (fun hc => ?_) | refine redq (fun hc => ?_) (fun hc => ?_) | refine redp (fun r => ?_) (fun r => ?_) | fail))) | fail) <;> (first | refine wa_pg 16 ?_ | refine wa_no 16 ?_ | (refine wa_do 16 ?_ <;> (repeat' (first | refine red ?_ | refine redc fun r => ?_ | refine redv fun sv => ?_ | refine redf fun hbi => ?_ | refine redn fun b => ?_ | refine reds ?_ | refine redi (fun hc => ?_) (fun hc => ?_) | refine redq (fun hc => ?_) (fun hc => ?_) | refine redp (fun r => ?_) (fun r => ?_) | fail))) | fail) <;> (first | refine wa_pg 17 ?_ | refine wa_no 17 ?_ | (refine wa_do 17 ?_ <;> (repeat' (first | refine red ?_ | refine redc fun r => ?_ | refine redv fun sv => ?_ | refine redf fun hbi => ?_ | refine redn fun b => ?_ | refine reds ?_ | refine redi (fun hc => ?_) (fun hc => ?_) | refine redq (fun hc => ?_) (fun hc => ?_) | refine redp (fun r => ?_) (fun r => ?_) | fail))) | fail) <;> (first | refine wa_p 18 ?_ | refine wa_p0 18 ?_ | (refine wa_do 18 ?_ <;> (repeat' (first | refine red ?_ | refine redc fun r => ?_ | refine redv fun sv => ?_ | refine redf fun hbi => ?_ | refine redn fun b => ?_ | refine reds ?_ | refine redi (fun hc => ?_) (fun hc => ?_) | refine redq (fun hc => ?_) (fun hc => ?_) | refine redp (fun r => ?_) (fun r => ?_) | fail))) | fail)) <;> (first | refine wa_end ?_ | with_reducible refine wq_keep ?_))
        | ((refine wa_begin 9 [false, false, false, false, false, false, false, false, false, false, false, false, false, false] [] ?_ <;> (first | refine wa_p 0 ?_ | refine wa_p0 0 ?_ | fail) <;> (first | refine wa_f 1 fun hbi => ?_ | refine wa_p 1 ?_ | fail) <;> (first | refine wa_f 2 fun hbi => ?_ | refine wa_p 2 ?_ | fail) <;> (first | refine wa_p 4 ?_ | refine wa_p0 4 ?_ | fail) <;> (first | refine wa_f 5 fun hbi => ?_ | refine wa_p 5 ?_ | fail) <;> (refine wa_do 3 ?_ <;> (repeat' (first | refine red ?_ | refine redc fun r => ?_ | refine redv fun sv => ?_ | refine redf fun hbi => ?_ | refine redn fun b => ?_ | refine reds ?_ | refine redi (fun hc => ?_) (fun hc => ?_) | refine redq (fun hc => ?_) (fun hc => ?_) | refine redp (fun r => ?_) (fun r => ?_) | fail))) <;> (refine wa_do 6 ?_ <;> (repeat' (first | refine red ?_ | refine redc fun r => ?_ | refine redv fun sv => ?_ | refine redf fun hbi => ?_ | refine redn fun b => ?_ | refine reds ?_ | refine redi (fun hc => ?_) (fun hc => ?_) | refine redq (fun hc => ?_) (fun hc => ?_) | refine redp (fun r => ?_) (fun r => ?_) | fail))) <;> (refine wa_do 7 ?_ <;> (repeat' (first | refine red ?_ | refine redc fun r => ?_ | refine redv fun sv => ?_ | refine redf fun hbi => ?_ | refine redn fun b => ?_ | refine reds ?_ | refine redi (fun hc => ?_) (fun hc => ?_) | refine redq (fun hc => ?_) (fun hc => ?_) | refine redp (fun r => ?_) (fun r => ?_) | fail))) <;> (first | refine wa_p 8 ?_ | refine wa_p0 8 ?_ | (refine wa_do 8 ?_ <;> (repeat' (first | refine red ?_ | refine redc fun r => ?_ | refine redv fun sv => ?_ | refine redf fun hbi => ?_ | refine redn fun b => ?_ | refine reds ?_ | refine redi (fun hc => ?_) (fun hc => ?_) | refine redq (fun hc => ?_) (fun hc => ?_) | refine redp (fun r => ?_) (fun r => ?_) | fail))) | fail) <;> (first | refine wa_pg 9 ?_ | refine wa_no 9 ?_ | (refine wa_if 52 (fun hc => ?_) (fun hc => ?_) <;> (try first | (exfalso; omega) | exact absurd rfl hc) <;> first | refine wa_pg 9 ?_ | refine wa_no 9 ?_) | fail) <;> (refine wa_do 10 ?_ <;> (repeat' (first | refine red ?_ | refine redc fun r => ?_ | refine redv fun sv => ?_ | refine redf fun hbi => ?_ | refine redn fun b => ?_ | refine reds ?_ | refine redi (fun hc => ?_) (fun hc => ?_) | refine redq (fun hc => ?_) (fun hc => ?_) | refine redp (fun r => ?_) (fun r => ?_) | fail))) <;> (refine wa_do 11 ?_ <;> (repeat' (first | refine red ?_ | refine redc fun r => ?_ | refine redv fun sv => ?_ | refine redf fun hbi => ?_ | refine redn fun b => ?_ | refine reds ?_ | refine redi (fun hc => ?_) (fun hc => ?_) | refine redq (fun hc => ?_) (fun hc => ?_) | refine redp (fun r => ?_) (fun r => ?_) | fail))) <;> (first | refine wa_p 12 ?_ | refine wa_p0 12 ?_ | (refine wa_do 12 ?_ <;> (repeat' (first | refine red ?_ | refine redc fun r => ?_ | refine redv fun sv => ?_ | refine redf fun hbi => ?_ | refine redn fun b => ?_ | refine reds ?_ | refine redi (fun hc => ?_) (fun hc => ?_) | refine redq (fun hc => ?_) (fun hc => ?_) | refine redp (fun r => ?_) (fun r => ?_) | fail))) | fail) <;> (first | refine wa_p 13 ?_ | refine wa_p0 13 ?_ | (refine wa_do 13 ?_ <;> (repeat' (first | refine red ?_ | refine redc fun r => ?_ | refine redv fun sv => ?_ | refine redf fun hbi => ?_ | refine redn fun b => ?_ | refine reds ?_ | refine redi (fun hc => ?_) (fun hc => ?_) | refine redq (fun hc => ?_) (fun hc => ?_) | refine redp (fun r => ?_) (fun r => ?_) | fail))) | fail)) <;> (first | refine wa_end ?_ | with_reducible refine wq_keep ?_))
        | fail)
      · exact ⟨(), ret_bool (decC_f fun h => by have := (h.2.2.1 k hlt).1; rw [hc] at this; cases this), ent_e⟩
      · exact ⟨(), ret_bool (decC_f fun h => hit_wo.1 hc (h.2.2.1 k hlt).2), ent_e⟩
      · refine wq_next (k + 1) ⟨by omega, pat_next hkk (by assumption) ?_⟩ (by omega) (by kernel_rfl) ent_e
        apply Classical.byContradiction
        intro h
        exact hc (hit_wo.2 h)
    · have hall : PatP f x x.2.1.length := by rw [show x.2.1.length = k by omega]; exact hkk
      have hsh : ShortL x := ⟨by have h3 := har.2; rw [← hlen] at h3; omega, fun p hp => by
        obtain ⟨i, hi, rfl⟩ := List.getElem_of_mem hp
        have := (hall i hi).1
        rw [List.getD_eq_getElem?_getD, List.getElem?_eq_getElem hi] at this
        exact (termOk_len this).2, by omega⟩
      have hll := leftL_len hsh
      repeat' (first
        | refine red ?_
        | refine redf fun hbi => ?_
        | refine reds ?_
        | refine redc fun r => ?_
        | refine redp (fun r => ?_) (fun r => ?_)
        | refine redv fun sv => ?_
        | refine redn fun b => ?_
        | refine redz fun zs => ?_
        | refine redq (fun hc => ?_) (fun hc => ?_)
        | with_reducible refine wq_blk_o rfl ?_
        | (refine redd fun p cs as_ hcs has hf => ?_; simp only [Un.cells, Un.atoms, Un.fact, List.cons_append, List.nil_append] at hcs has hf; subst hcs has)
        | (refine redi (fun hc => ?_) (fun hc => ?_) <;> try first | (exfalso; omega) | exact absurd rfl hc)
        | ((refine wa_begin 1 [false, false, false, false, false, false, false, false, false, false, false, false, false, false, false, false, false, false, false] [] ?_ <;> (first | refine wa_p 0 ?_ | refine wa_p0 0 ?_ | fail) <;> (first | refine wa_f 1 fun hbi => ?_ | refine wa_p 1 ?_ | fail) <;> (first | refine wa_p 2 ?_ | refine wa_p0 2 ?_ | (refine wa_do 2 ?_ <;> (repeat' (first | refine red ?_ | refine redc fun r => ?_ | refine redv fun sv => ?_ | refine redf fun hbi => ?_ | refine redn fun b => ?_ | refine reds ?_ | refine redi (fun hc => ?_) (fun hc => ?_) | refine redq (fun hc => ?_) (fun hc => ?_) | refine redp (fun r => ?_) (fun r => ?_) | fail))) | fail) <;> (first | refine wa_f 3 fun hbi => ?_ | refine wa_p 3 ?_ | (refine wa_do 3 ?_ <;> (repeat' (first | refine red ?_ | refine redc fun r => ?_ | refine redv fun sv => ?_ | refine redf fun hbi => ?_ | refine redn fun b => ?_ | refine reds ?_ | refine redi (fun hc => ?_) (fun hc => ?_) | refine redq (fun hc => ?_) (fun hc => ?_) | refine redp (fun r => ?_) (fun r => ?_) | fail))) | fail) <;> (refine wa_do 4 ?_ <;> (repeat' (first | refine red ?_ | refine redc fun r => ?_ | refine redv fun sv => ?_ | refine redf fun hbi => ?_ | refine redn fun b => ?_ | refine reds ?_ | refine redi (fun hc => ?_) (fun hc => ?_) | refine redq (fun hc => ?_) (fun hc => ?_) | refine redp (fun r => ?_) (fun r => ?_) | fail))) <;> (first | refine wa_p 5 ?_ | refine wa_p0 5 ?_ | (refine wa_do 5 ?_ <;> (repeat' (first | refine red ?_ | refine redc fun r => ?_ | refine redv fun sv => ?_ | refine redf fun hbi => ?_ | refine redn fun b => ?_ | refine reds ?_ | refine redi (fun hc => ?_) (fun hc => ?_) | refine redq (fun hc => ?_) (fun hc => ?_) | refine redp (fun r => ?_) (fun r => ?_) | fail))) | fail) <;> (first | refine wa_p 6 ?_ | refine wa_p0 6 ?_ | (refine wa_do 6 ?_ <;> (repeat' (first | refine red ?_ | refine redc fun r => ?_ | refine redv fun sv => ?_ | refine redf fun hbi => ?_ | refine redn fun b => ?_ | refine reds ?_ | refine redi (fun hc => ?_) (fun hc => ?_) | refine redq (fun hc => ?_) (fun hc => ?_) | refine redp (fun r => ?_) (fun r => ?_) | fail))) | fail) <;> (first | refine wa_pg 7 ?_ | refine wa_no 7 ?_ | (refine wa_if 13 (fun hc => ?_) (fun hc => ?_) <;> (try first | (exfalso; omega) | exact absurd rfl hc) <;> first | refine wa_pg 7 ?_ | refine wa_no 7 ?_) | fail) <;> (first | refine wa_pg 8 ?_ | refine wa_no 8 ?_ | fail) <;> (first | refine wa_pg 9 ?_ | refine wa_no 9 ?_ | fail) <;> (first | refine wa_pg 10 ?_ | refine wa_no 10 ?_ | fail) <;> (first | refine wa_pg 11 ?_ | refine wa_no 11 ?_ | fail) <;> (first | refine wa_pg 12 ?_ | refine wa_no 12 ?_ | fail) <;> (first | refine wa_pg 13 ?_ | refine wa_no 13 ?_ | (refine wa_do 13 ?_ <;> (repeat' (first | refine red ?_ | refine redc fun r => ?_ | refine redv fun sv => ?_ | refine redf fun hbi => ?_ | refine redn fun b => ?_ | refine reds ?_ | refine redi (fun hc => ?_) (fun hc => ?_) | refine redq (fun hc => ?_) (fun hc => ?_) | refine redp (fun r => ?_) (fun r => ?_) | fail))) | fail) <;> (first | refine wa_pg 14 ?_ | refine wa_no 14 ?_ | (refine wa_do 14 ?_ <;> (repeat' (first | refine red ?_ | refine redc fun r => ?_ | refine redv fun sv => ?_ | refine redf fun hbi => ?_ | refine redn fun b => ?_ | refine reds ?_ | refine redi (fun hc => ?_) (fun hc => ?_) | refine redq (fun hc => ?_) (fun hc => ?_) | refine redp (fun r => ?_) (fun r => ?_) | fail))) | fail) <;> (first | refine wa_pg 15 ?_ | refine wa_no 15 ?_ | (refine wa_do 15 ?_ <;> (repeat' (first | refine red ?_ | refine redc fun r => ?_ | refine redv fun sv => ?_ | refine redf fun hbi => ?_ | refine redn fun b => ?_ | refine reds ?_ | refine redi (fun hc => ?_) (fun hc => ?_) | refine redq (fun hc => ?_) (fun hc => ?_) | refine redp (fun r => ?_) (fun r => ?_) | fail))) | fail) <;> (first | refine wa_pg 16 ?_ | refine wa_no 16 ?_ | (refine wa_do 16 ?_ <;> (repeat' (first | refine red ?_ | refine redc fun r => ?_ | refine redv fun sv => ?_ | refine redf fun hbi => ?_ | refine redn fun b => ?_ | refine reds ?_ | refine redi (fun hc => ?_) (fun hc => ?_) | refine redq (fun hc => ?_) (fun hc => ?_) | refine redp (fun r => ?_) (fun r => ?_) | fail))) | fail) <;> (first | refine wa_pg 17 ?_ | refine wa_no 17 ?_ | (refine wa_do 17 ?_ <;> (repeat' (first | refine red ?_ | refine redc fun r => ?_ | refine redv fun sv => ?_ | refine redf fun hbi => ?_ | refine redn fun b => ?_ | refine reds ?_ | refine redi (fun hc => ?_) (fun hc => ?_) | refine redq (fun hc => ?_) (fun hc => ?_) | refine redp (fun r => ?_) (fun r => ?_) | fail))) | fail) <;> (first | refine wa_p 18 ?_ | refine wa_p0 18 ?_ | (refine wa_do 18 ?_ <;> (repeat' (first | refine red ?_ | refine redc fun r => ?_ | refine redv fun sv => ?_ | refine redf fun hbi => ?_ | refine redn fun b => ?_ | refine reds ?_ | refine redi (fun hc => ?_) (fun hc => ?_) | refine redq (fun hc => ?_) (fun hc => ?_) | refine redp (fun r => ?_) (fun r => ?_) | fail))) | fail)) <;> (first | refine wa_end ?_ | with_reducible refine wq_keep ?_))
        | ((refine wa_begin 9 [false, false, false, false, false, false, false, false, false, false, false, false, false, false] [] ?_ <;> (first | refine wa_p 0 ?_ | refine wa_p0 0 ?_ | fail) <;> (first | refine wa_f 1 fun hbi => ?_ | refine wa_p 1 ?_ | fail) <;> (first | refine wa_f 2 fun hbi => ?_ | refine wa_p 2 ?_ | fail) <;> (first | refine wa_p 4 ?_ | refine wa_p0 4 ?_ | fail) <;> (first | refine wa_f 5 fun hbi => ?_ | refine wa_p 5 ?_ | fail) <;> (refine wa_do 3 ?_ <;> (repeat' (first | refine red ?_ | refine redc fun r => ?_ | refine redv fun sv => ?_ | refine redf fun hbi => ?_ | refine redn fun b => ?_ | refine reds ?_ | refine redi (fun hc => ?_) (fun hc => ?_) | refine redq (fun hc => ?_) (fun hc => ?_) | refine redp (fun r => ?_) (fun r => ?_) | fail))) <;> (refine wa_do 6 ?_ <;> (repeat' (first | refine red ?_ | refine redc fun r => ?_ | refine redv fun sv => ?_ | refine redf fun hbi => ?_ | refine redn fun b => ?_ | refine reds ?_ | refine redi (fun hc => ?_) (fun hc => ?_) | refine redq (fun hc => ?_) (fun hc => ?_) | refine redp (fun r => ?_) (fun r => ?_) | fail))) <;> (refine wa_do 7 ?_ <;> (repeat' (first | refine red ?_ | refine redc fun r => ?_ | refine redv fun sv => ?_ | refine redf fun hbi => ?_ | refine redn fun b => ?_ | refine reds ?_ | refine redi (fun hc => ?_) (fun hc => ?_) | refine redq (fun hc => ?_) (fun hc => ?_) | refine redp (fun r => ?_) (fun r => ?_) | fail))) <;> (first | refine wa_p 8 ?_ | refine wa_p0 8 ?_ | (refine wa_do 8 ?_ <;> (repeat' (first | refine red ?_ | refine redc fun r => ?_ | refine redv fun sv => ?_ | refine redf fun hbi => ?_ | refine redn fun b => ?_ | refine reds ?_ | refine redi (fun hc => ?_) (fun hc => ?_) | refine redq (fun hc => ?_) (fun hc => ?_) | refine redp (fun r => ?_) (fun r => ?_) | fail))) | fail) <;> (first | refine wa_pg 9 ?_ | refine wa_no 9 ?_ | (refine wa_if 52 (fun hc => ?_) (fun hc => ?_) <;> (try first | (exfalso; omega) | exact absurd rfl hc) <;> first | refine wa_pg 9 ?_ | refine wa_no 9 ?_) | fail) <;> (refine wa_do 10 ?_ <;> (repeat' (first | refine red ?_ | refine redc fun r => ?_ | refine redv fun sv => ?_ | refine redf fun hbi => ?_ | refine redn fun b => ?_ | refine reds ?_ | refine redi (fun hc => ?_) (fun hc => ?_) | refine redq (fun hc => ?_) (fun hc => ?_) | refine redp (fun r => ?_) (fun r => ?_) | fail))) <;> (refine wa_do 11 ?_ <;> (repeat' (first | refine red ?_ | refine redc fun r => ?_ | refine redv fun sv => ?_ | refine redf fun hbi => ?_ | refine redn fun b => ?_ | refine reds ?_ | refine redi (fun hc => ?_) (fun hc => ?_) | refine redq (fun hc => ?_) (fun hc => ?_) | refine redp (fun r => ?_) (fun r => ?_) | fail))) <;> (first | refine wa_p 12 ?_ | refine wa_p0 12 ?_ | (refine wa_do 12 ?_ <;> (repeat' (first | refine red ?_ | refine redc fun r => ?_ | refine redv fun sv => ?_ | refine redf fun hbi => ?_ | refine redn fun b => ?_ | refine reds ?_ | refine redi (fun hc => ?_) (fun hc => ?_) | refine redq (fun hc => ?_) (fun hc => ?_) | refine redp (fun r => ?_) (fun r => ?_) | fail))) | fail) <;> (first | refine wa_p 13 ?_ | refine wa_p0 13 ?_ | (refine wa_do 13 ?_ <;> (repeat' (first | refine red ?_ | refine redc fun r => ?_ | refine redv fun sv => ?_ | refine redf fun hbi => ?_ | refine redn fun b => ?_ | refine reds ?_ | refine redi (fun hc => ?_) (fun hc => ?_) | refine redq (fun hc => ?_) (fun hc => ?_) | refine redp (fun r => ?_) (fun r => ?_) | fail))) | fail)) <;> (first | refine wa_end ?_ | with_reducible refine wq_keep ?_))
        | fail)
      · exact ⟨(), ret_bool (decC_iff_eq ⟨fun h => h.2.2.2.2, fun h => ⟨hfun, hlen, hall, hc, h⟩⟩), ent_e⟩
      · exact ⟨(), ret_bool (decC_f fun h => by rw [h.2.2.2.1] at hc; cases hc), ent_e⟩
  · haveI hno : ∀ (Δ : List Atom) [HasRd (List Int) repList Δ [vf] f.2.1], CtrC Try.prog 129 [vf, .int .i64 x.1] Δ True Unit (fun _ => .bool (decide ((0 : Int) = 1))) (fun _ => Δ) := fun Δ _ => ⟨fun _ w0 => by
      have := Contains_spec (w0 := w0) (Γ := Δ) (sv := vf) (xs := f.2.1) (n := x.1)
      rwa [decide_eq_false hfun] at this⟩
    refine cj_enter Try.func128 Try.ntmps128 ?_
    repeat' (first
      | refine red ?_
      | refine redf fun hbi => ?_
      | refine reds ?_
      | refine redc fun r => ?_
      | refine redp (fun r => ?_) (fun r => ?_)
      | refine redv fun sv => ?_
      | refine redn fun b => ?_
      | refine redz fun zs => ?_
      | refine redq (fun hc => ?_) (fun hc => ?_)
      | with_reducible refine wq_blk_o rfl ?_
      | (refine redd fun p cs as_ hcs has hf => ?_; simp only [Un.cells, Un.atoms, Un.fact, List.cons_append, List.nil_append] at hcs has hf; subst hcs has)
      | (refine redi (fun hc => ?_) (fun hc => ?_) <;> try first | (exfalso; omega) | exact absurd rfl hc)
      | ((refine wa_begin 1 [false, false, false, false, false, false, false, false, false, false, false, false, false, false, false, false, false, false, false] [] ?_ <;> (first | refine wa_p 0 ?_ | refine wa_p0 0 ?_ | fail) <;> (first | refine wa_f 1 fun hbi => ?_ | refine wa_p 1 ?_ | fail) <;> (first | refine wa_p 2 ?_ | refine wa_p0 2 ?_ | (refine wa_do 2 ?_ <;> (repeat' (first | refine red ?_ | refine redc fun r => ?_ | refine redv fun sv => ?_ | refine redf fun hbi => ?_ | refine redn fun b => ?_ | refine reds ?_ | refine redi (fun hc => ?_) (fun hc => ?_) | refine redq (fun hc => ?_) (fun hc => ?_) | refine redp (fun r => ?_) (fun r => ?_) | fail))) | fail) <;> (first | refine wa_f 3 fun hbi => ?_ | refine wa_p 3 ?_ | (refine wa_do 3 ?_ <;> (repeat' (first | refine red ?_ | refine redc fun r => ?_ | refine redv fun sv => ?_ | refine redf fun hbi => ?_ | refine redn fun b => ?_ | refine reds ?_ | refine redi (fun hc => ?_) (fun hc => ?_) | refine redq (fun hc => ?_) (fun hc => ?_) | refine redp (fun r => ?_) (fun r => ?_) | fail))) | fail) <;> (refine wa_do 4 ?_ <;> (repeat' (first | refine red ?_ | refine redc fun r => ?_ | refine redv fun sv => ?_ | refine redf fun hbi => ?_ | refine redn fun b => ?_ | refine reds ?_ | refine redi (fun hc => ?_) (fun hc => ?_) | refine redq (fun hc => ?_) (fun hc => ?_) | refine redp (fun r => ?_) (fun r => ?_) | fail))) <;> (first | refine wa_p 5 ?_ | refine wa_p0 5 ?_ | (refine wa_do 5 ?_ <;> (repeat' (first | refine red ?_ | refine redc fun r => ?_ | refine redv fun sv => ?_ | refine redf fun hbi => ?_ | refine redn fun b => ?_ | refine reds ?_ | refine redi (fun hc => ?_) (fun hc => ?_) | refine redq (fun hc => ?_) (fun hc => ?_) | refine redp (fun r => ?_) (fun r => ?_) | fail))) | fail) <;> (first | refine wa_p 6 ?_ | refine wa_p0 6 ?_ | (refine wa_do 6 ?_ <;> (repeat' (first | refine red ?_ | refine redc fun r => ?_ | refine redv fun sv => ?_ | refine redf fun hbi => ?_ | refine redn fun b => ?_ | refine reds ?_ | refine redi (fun hc => ?_) (fun hc => ?_) | refine redq (fun hc => ?_) (fun hc => ?_) | refine redp (fun r => ?_) (fun r => ?_) | fail))) | fail) <;> (first | refine wa_pg 7 ?_ | refine wa_no 7 ?_ | (refine wa_if 13 (fun hc => ?_) (fun hc => ?_) <;> (try first | (exfalso; omega) | exact absurd rfl hc) <;> first | refine wa_pg 7 ?_ | refine wa_no 7 ?_) | fail) <;> (first | refine wa_pg 8 ?_ | refine wa_no 8 ?_ | fail) <;> (first | refine wa_pg 9 ?_ | refine wa_no 9 ?_ | fail) <;> (first | refine wa_pg 10 ?_ | refine wa_no 10 ?_ | fail) <;> (first | refine wa_pg 11 ?_ | refine wa_no 11 ?_ | fail) <;> (first | refine wa_pg 12 ?_ | refine wa_no 12 ?_ | fail) <;> (first | refine wa_pg 13 ?_ | refine wa_no 13 ?_ | (refine wa_do 13 ?_ <;> (repeat' (first | refine red ?_ | refine redc fun r => ?_ | refine redv fun sv => ?_ | refine redf fun hbi => ?_ | refine redn fun b => ?_ | refine reds ?_ | refine redi (fun hc => ?_) (fun hc => ?_) | refine redq (fun hc => ?_) (fun hc => ?_) | refine redp (fun r => ?_) (fun r => ?_) | fail))) | fail) <;> (first | refine wa_pg 14 ?_ | refine wa_no 14 ?_ | (refine wa_do 14 ?_ <;> (repeat' (first | refine red ?_ | refine redc fun r => ?_ | refine redv fun sv => ?_ | refine redf fun hbi => ?_ | refine redn fun b => ?_ | refine reds ?_ | refine redi (fun hc => ?_) (fun hc => ?_) | refine redq (fun hc => ?_) (fun hc => ?_) | refine redp (fun r => ?_) (fun r => ?_) | fail))) | fail) <;> (first | refine wa_pg 15 ?_ | refine wa_no 15 ?_ | (refine wa_do 15 ?_ <;> (repeat' (first | refine red ?_ | refine redc fun r => ?_ | refine redv fun sv => ?_ | refine redf fun hbi => ?_ | refine redn fun b => ?_ | refine reds ?_ | refine redi (fun hc => ?_) (fun hc => ?_) | refine redq (fun hc => ?_) (fun hc => ?_) | refine redp (fun r => ?_) (fun r => ?_) | fail))) | fail) <;> (first | refine wa_pg 16 ?_ | refine wa_no 16 ?_ | (refine wa_do 16 ?_ <;> (repeat' (first | refine red ?_ | refine redc fun r => ?_ | refine redv fun sv => ?_ | refine redf fun hbi => ?_ | refine redn fun b => ?_ | refine reds ?_ | refine redi (fun hc => ?_) (fun hc => ?_) | refine redq (fun hc => ?_) (fun hc => ?_) | refine redp (fun r => ?_) (fun r => ?_) | fail))) | fail) <;> (first | refine wa_pg 17 ?_ | refine wa_no 17 ?_ | (refine wa_do 17 ?_ <;> (repeat' (first | refine red ?_ | refine redc fun r => ?_ | refine redv fun sv => ?_ | refine redf fun hbi => ?_ | refine redn fun b => ?_ | refine reds ?_ | refine redi (fun hc => ?_) (fun hc => ?_) | refine redq (fun hc => ?_) (fun hc => ?_) | refine redp (fun r => ?_) (fun r => ?_) | fail))) | fail) <;> (first | refine wa_p 18 ?_ | refine wa_p0 18 ?_ | (refine wa_do 18 ?_ <;> (repeat' (first | refine red ?_ | refine redc fun r => ?_ | refine redv fun sv => ?_ | refine redf fun hbi => ?_ | refine redn fun b => ?_ | refine reds ?_ | refine redi (fun hc => ?_) (fun hc => ?_) | refine redq (fun hc => ?_) (fun hc => ?_) | refine redp (fun r => ?_) (fun r => ?_) | fail))) | fail)) <;> (first | refine wa_end ?_ | with_reducible refine wq_keep ?_))
      | ((refine wa_begin 9 [false, false, false, false, false, false, false, false, false, false, false, false, false, false] [] ?_ <;> (first | refine wa_p 0 ?_ | refine wa_p0 0 ?_ | fail) <;> (first | refine wa_f 1 fun hbi => ?_ | refine wa_p 1 ?_ | fail) <;> (first | refine wa_f 2 fun hbi => ?_ | refine wa_p 2 ?_ | fail) <;> (first | refine wa_p 4 ?_ | refine wa_p0 4 ?_ | fail) <;> (first | refine wa_f 5 fun hbi => ?_ | refine wa_p 5 ?_ | fail) <;> (refine wa_do 3 ?_ <;> (repeat' (first | refine red ?_ | refine redc fun r => ?_ | refine redv fun sv => ?_ | refine redf fun hbi => ?_ | refine redn fun b => ?_ | refine reds ?_ | refine redi (fun hc => ?_) (fun hc => ?_) | refine redq (fun hc => ?_) (fun hc => ?_) | refine redp (fun r => ?_) (fun r => ?_) | fail))) <;> (refine wa_do 6 ?_ <;> (repeat' (first | refine red ?_ | refine redc fun r => ?_ | refine redv fun sv => ?_ | refine redf fun hbi => ?_ | refine redn fun b => ?_ | refine reds ?_ | refine redi (fun hc => ?_) (fun hc => ?_) | refine redq (fun hc => ?_) (fun hc => ?_) | refine redp (fun r => ?_) (fun r => ?_) | fail))) <;> (refine wa_do 7 ?_ <;> (repeat' (first | refine red ?_ | refine redc fun r => ?_ | refine redv fun sv => ?_ | refine redf fun hbi => ?_ | refine redn fun b => ?_ | refine reds ?_ | refine redi (fun hc => ?_) (fun hc => ?_) | refine redq (fun hc => ?_) (fun hc => ?_) | refine redp (fun r => ?_) (fun r => ?_) | fail))) <;> (first | refine wa_p 8 ?_ | refine wa_p0 8 ?_ | (refine wa_do 8 ?_ <;> (repeat' (first | refine red ?_ | refine redc fun r => ?_ | refine redv fun sv => ?_ | refine redf fun hbi => ?_ | refine redn fun b => ?_ | refine reds ?_ | refine redi (fun hc => ?_) (fun hc => ?_) | refine redq (fun hc => ?_) (fun hc => ?_) | refine redp (fun r => ?_) (fun r => ?_) | fail))) | fail) <;> (first | refine wa_pg 9 ?_ | refine wa_no 9 ?_ | (refine wa_if 52 (fun hc => ?_) (fun hc => ?_) <;> (try first | (exfalso; omega) | exact absurd rfl hc) <;> first | refine wa_pg 9 ?_ | refine wa_no 9 ?_) | fail) <;> (refine wa_do 10 ?_ <;> (repeat' (first | refine red ?_ | refine redc fun r => ?_ | refine redv fun sv => ?_ | refine redf fun hbi => ?_ | refine redn fun b => ?_ | refine reds ?_ | refine redi (fun hc => ?_) (fun hc => ?_) | refine redq (fun hc => ?_) (fun hc => ?_) | refine redp (fun r => ?_) (fun r => ?_) | fail))) <;> (refine wa_do 11 ?_ <;> (repeat' (first | refine red ?_ | refine redc fun r => ?_ | refine redv fun sv => ?_ | refine redf fun hbi => ?_ | refine redn fun b => ?_ | refine reds ?_ | refine redi (fun hc => ?_) (fun hc => ?_) | refine redq (fun hc => ?_) (fun hc => ?_) | refine redp (fun r => ?_) (fun r => ?_) | fail))) <;> (first | refine wa_p 12 ?_ | refine wa_p0 12 ?_ | (refine wa_do 12 ?_ <;> (repeat' (first | refine red ?_ | refine redc fun r => ?_ | refine redv fun sv => ?_ | refine redf fun hbi => ?_ | refine redn fun b => ?_ | refine reds ?_ | refine redi (fun hc => ?_) (fun hc => ?_) | refine redq (fun hc => ?_) (fun hc => ?_) | refine redp (fun r => ?_) (fun r => ?_) | fail))) | fail) <;> (first | refine wa_p 13 ?_ | refine wa_p0 13 ?_ | (refine wa_do 13 ?_ <;> (repeat' (first | refine red ?_ | refine redc fun r => ?_ | refine redv fun sv => ?_ | refine redf fun hbi => ?_ | refine redn fun b => ?_ | refine reds ?_ | refine redi (fun hc => ?_) (fun hc => ?_) | refine redq (fun hc => ?_) (fun hc => ?_) | refine redp (fun r => ?_) (fun r => ?_) | fail))) | fail)) <;> (first | refine wa_end ?_ | with_reducible refine wq_keep ?_))
      | fail)
    all_goals exact ⟨(), ret_bool (decC_f fun h => hfun h.1), ent_e⟩
instance lineOk_ctr {Γ : List Atom} {va vf vl v0 v1 : Value} {f : SFront} {x : SLine} [ha : HasRd (List Int) repList Γ [va] f.1] [hf : HasRd (List Int) repList Γ [vf] f.2.1] [hl : HasRd (List SLine) repList Γ [vl] f.2.2] [h0 : HasRd (List (List Int)) repList Γ [v0] x.2.1] [h1 : HasRd (List Int) repList Γ [v1] x.2.2] :
    CtrC Try.prog 128 [.agg #[va, vf, vl], .agg #[.int .i64 x.1, v0, v1]] Γ (Fr0 f) (Unit) (fun _ : Unit => .bool (decC (LineP f x))) (fun _ => Γ) := ⟨fun s w0 => lineOk_spec s⟩

def BadL (f : SFront) (k : Nat) : Prop := ∃ i, i < k ∧ ¬ LineP f (f.2.2.getD i default)
theorem bad_lines {f : SFront} {k : Nat} : BadL f k ↔ ¬ LinesP f k := by
  constructor
  · rintro ⟨i, hi, h⟩ hw
    exact h (hw i hi)
  · intro h
    apply Classical.byContradiction
    intro hn
    exact h fun i hi => Classical.byContradiction fun hm => hn ⟨i, hi, hm⟩
theorem FrontOk1_spec {w0 : World} {Γ : List Atom} {b : Nat} {va vf vl v0 v1 : Value} {f : SFront} {x : SLine} [hb : HasPt Γ ⟨b, 0, none⟩ [va, vf, vl]] [ha : HasRd (List Int) repList Γ [va] f.1] [hf : HasRd (List Int) repList Γ [vf] f.2.1] [hl : HasRd (List SLine) repList Γ [vl] f.2.2] [h0 : HasRd (List (List Int)) repList Γ [v0] x.2.1] [h1 : HasRd (List Int) repList Γ [v1] x.2.2] (hs : Fr0 f) : CJ Try.prog 127 [.agg #[.int .i64 x.1, v0, v1], .pointer (some ⟨b, 0, none⟩)] w0 Γ (fun _ : Unit => .bool (!decC (LineP f x))) (fun _ => Γ) := by
  refine cj_lift (R := [.pt ⟨b, 0, none⟩ [va, vf, vl], .rd [va] f.1, .rd [vf] f.2.1, .rd [vl] f.2.2, .rd [v0] x.2.1, .rd [v1] x.2.2]) (A := fun _ => []) (fun w1 => ?_) (reads_pt hb (reads_cons ha (reads_cons hf (reads_cons hl (reads_cons h0 (reads_cons h1 inferInstance)))))) (fun _ => inferInstance)
  simp only [List.cons_append, List.nil_append]
  refine cj_enter Try.func127 Try.ntmps127 ?_
  repeat' (first
    | refine red ?_
    | refine redf fun hbi => ?_
    | refine reds ?_
    | refine redc fun r => ?_
    | refine redp (fun r => ?_) (fun r => ?_)
    | refine redv fun sv => ?_
    | refine redn fun b => ?_
    | refine redz fun zs => ?_
    | refine redq (fun hc => ?_) (fun hc => ?_)
    | with_reducible refine wq_blk_o rfl ?_
    | (refine redd fun p cs as_ hcs has hf => ?_; simp only [Un.cells, Un.atoms, Un.fact, List.cons_append, List.nil_append] at hcs has hf; subst hcs has)
    | (refine redi (fun hc => ?_) (fun hc => ?_) <;> try first | (exfalso; omega) | exact absurd rfl hc)
    | fail)
  exact ⟨(), rfl, ent_e⟩
instance FrontOk1_ctr {Γ : List Atom} {b : Nat} {va vf vl v0 v1 : Value} {f : SFront} {x : SLine} [hb : HasPt Γ ⟨b, 0, none⟩ [va, vf, vl]] [ha : HasRd (List Int) repList Γ [va] f.1] [hf : HasRd (List Int) repList Γ [vf] f.2.1] [hl : HasRd (List SLine) repList Γ [vl] f.2.2] [h0 : HasRd (List (List Int)) repList Γ [v0] x.2.1] [h1 : HasRd (List Int) repList Γ [v1] x.2.2] :
    CtrC Try.prog 127 [.agg #[.int .i64 x.1, v0, v1], .pointer (some ⟨b, 0, none⟩)] Γ (Fr0 f) (Unit) (fun _ : Unit => .bool (!decC (LineP f x))) (fun _ => Γ) := ⟨fun s w0 => FrontOk1_spec s⟩

theorem IndexFuncL_spec {w0 : World} {Γ : List Atom} {b : Nat} {va vf vl : Value} {f : SFront} [hb : HasPt Γ ⟨b, 0, none⟩ [va, vf, vl]] [ha : HasRd (List Int) repList Γ [va] f.1] [hf : HasRd (List Int) repList Γ [vf] f.2.1] [hl : HasRd (List SLine) repList Γ [vl] f.2.2] (hs : Fr0 f) : CJ Try.prog 131 [vl, .func (.func 127) #[] #[.pointer (some ⟨b, 0, none⟩)]] w0 Γ (fun q : { m : Int // 0 ≤ m ↔ BadL f f.2.2.length } => .int .i64 q.1) (fun _ => Γ) := by
  refine cj_lift (R := [.pt ⟨b, 0, none⟩ [va, vf, vl], .rd [va] f.1, .rd [vf] f.2.1, .rd [vl] f.2.2]) (A := fun _ => []) (fun w1 => ?_) (reads_pt hb (reads_cons ha (reads_cons hf (reads_cons hl inferInstance)))) (fun _ => inferInstance)
  simp only [List.cons_append, List.nil_append]
  refine cj_len vl fun hlx => ?_
  refine cj_enter Try.func131 Try.ntmps131 ?_
  repeat' (first
    | refine red ?_
    | refine redf fun hbi => ?_
    | refine reds ?_
    | refine redc fun r => ?_
    | refine redp (fun r => ?_) (fun r => ?_)
    | refine redv fun sv => ?_
    | refine redn fun b => ?_
    | refine redz fun zs => ?_
    | refine redq (fun hc => ?_) (fun hc => ?_)
    | with_reducible refine wq_blk_o rfl ?_
    | (refine redd fun p cs as_ hcs has hf => ?_; simp only [Un.cells, Un.atoms, Un.fact, List.cons_append, List.nil_append] at hcs has hf; subst hcs has)
    | (refine redi (fun hc => ?_) (fun hc => ?_) <;> try first | (exfalso; omega) | exact absurd rfl hc)
    | fail)
  refine wc_loop_c [8] [9, 10, 5, 11, 12, 13, 14, 15, 16, 17, 4, 18] (ι := Nat) (fun k => [.int .i64 k]) (fun k => k ≤ f.2.2.length ∧ ¬ BadL f k) (fun k => f.2.2.length - k) 0 (by kernel_rfl) ⟨Nat.zero_le _, fun ⟨i, hi, _⟩ => by omega⟩ ?_
  intro k u l' hl' ⟨hk, hkk⟩
  simp only [patch, List.map_cons, List.map_nil, List.set_cons_zero, List.set_cons_succ] at hl'
  subst hl'
  repeat' (first
    | refine red ?_
    | refine redf fun hbi => ?_
    | refine reds ?_
    | refine redc fun r => ?_
    | refine redp (fun r => ?_) (fun r => ?_)
    | refine redv fun sv => ?_
    | refine redn fun b => ?_
    | refine redz fun zs => ?_
    | refine redq (fun hc => ?_) (fun hc => ?_)
    | with_reducible refine wq_blk_o rfl ?_
    | (refine redd fun p cs as_ hcs has hf => ?_; simp only [Un.cells, Un.atoms, Un.fact, List.cons_append, List.nil_append] at hcs has hf; subst hcs has)
    | (refine redi (fun hc => ?_) (fun hc => ?_) <;> try first | (exfalso; omega) | exact absurd rfl hc)
    | fail)
  · exact ⟨⟨(k : Int), ⟨fun _ => ⟨k, by omega, by simpa using hc⟩, fun _ => by omega⟩⟩, rfl, ent_e⟩
  · refine wq_next (k + 1) ⟨by omega, fun ⟨i, hi, h⟩ => ?_⟩ (by omega) (by kernel_rfl) ent_e
    by_cases e : i = k
    · rw [e] at h
      first | exact h (by assumption) | exact hc h
    · exact hkk ⟨i, by omega, h⟩
  · exact ⟨⟨-1, ⟨fun h => by omega, fun h => absurd (by rw [show f.2.2.length = k by omega] at h; exact h) hkk⟩⟩, rfl, ent_e⟩
instance IndexFuncL_ctr {Γ : List Atom} {b : Nat} {va vf vl : Value} {f : SFront} [hb : HasPt Γ ⟨b, 0, none⟩ [va, vf, vl]] [ha : HasRd (List Int) repList Γ [va] f.1] [hf : HasRd (List Int) repList Γ [vf] f.2.1] [hl : HasRd (List SLine) repList Γ [vl] f.2.2] :
    CtrC Try.prog 131 [vl, .func (.func 127) #[] #[.pointer (some ⟨b, 0, none⟩)]] Γ (Fr0 f) ({ m : Int // 0 ≤ m ↔ BadL f f.2.2.length }) (fun q : { m : Int // 0 ≤ m ↔ BadL f f.2.2.length } => .int .i64 q.1) (fun _ => Γ) := ⟨fun s w0 => IndexFuncL_spec s⟩

theorem ContainsFuncL_spec {w0 : World} {Γ : List Atom} {b : Nat} {va vf vl : Value} {f : SFront} [hb : HasPt Γ ⟨b, 0, none⟩ [va, vf, vl]] [ha : HasRd (List Int) repList Γ [va] f.1] [hf : HasRd (List Int) repList Γ [vf] f.2.1] [hl : HasRd (List SLine) repList Γ [vl] f.2.2] (hs : Fr0 f) : CJ Try.prog 126 [vl, .func (.func 127) #[] #[.pointer (some ⟨b, 0, none⟩)]] w0 Γ (fun _ : Unit => .bool (decC (BadL f f.2.2.length))) (fun _ => Γ) := by
  refine cj_lift (R := [.pt ⟨b, 0, none⟩ [va, vf, vl], .rd [va] f.1, .rd [vf] f.2.1, .rd [vl] f.2.2]) (A := fun _ => []) (fun w1 => ?_) (reads_pt hb (reads_cons ha (reads_cons hf (reads_cons hl inferInstance)))) (fun _ => inferInstance)
  simp only [List.cons_append, List.nil_append]
  refine cj_enter Try.func126 Try.ntmps126 ?_
  repeat' (first
    | refine red ?_
    | refine redf fun hbi => ?_
    | refine reds ?_
    | refine redc fun r => ?_
    | refine redp (fun r => ?_) (fun r => ?_)
    | refine redv fun sv => ?_
    | refine redn fun b => ?_
    | refine redz fun zs => ?_
    | refine redq (fun hc => ?_) (fun hc => ?_)
    | with_reducible refine wq_blk_o rfl ?_
    | (refine redd fun p cs as_ hcs has hf => ?_; simp only [Un.cells, Un.atoms, Un.fact, List.cons_append, List.nil_append] at hcs has hf; subst hcs has)
    | (refine redi (fun hc => ?_) (fun hc => ?_) <;> try first | (exfalso; omega) | exact absurd rfl hc)
    | fail)
  exact ⟨(), ret_bool (decC_of r.2).symm, ent_e⟩
instance ContainsFuncL_ctr {Γ : List Atom} {b : Nat} {va vf vl : Value} {f : SFront} [hb : HasPt Γ ⟨b, 0, none⟩ [va, vf, vl]] [ha : HasRd (List Int) repList Γ [va] f.1] [hf : HasRd (List Int) repList Γ [vf] f.2.1] [hl : HasRd (List SLine) repList Γ [vl] f.2.2] :
    CtrC Try.prog 126 [vl, .func (.func 127) #[] #[.pointer (some ⟨b, 0, none⟩)]] Γ (Fr0 f) (Unit) (fun _ : Unit => .bool (decC (BadL f f.2.2.length))) (fun _ => Γ) := ⟨fun s w0 => ContainsFuncL_spec s⟩

theorem impl_FrontOk_spec {w0 : World} {Γ : List Atom} {va vf vl : Value} {f : SFront} [ha : HasRd (List Int) repList Γ [va] f.1] [hf : HasRd (List Int) repList Γ [vf] f.2.1] [hl : HasRd (List SLine) repList Γ [vl] f.2.2] : CJ Try.prog 75 [.agg #[va, vf, vl]] w0 Γ (fun _ : Unit => .bool (decC (FrontP f))) (fun _ => Γ) := by
  refine cj_lift (R := [.rd [va] f.1, .rd [vf] f.2.1, .rd [vl] f.2.2]) (A := fun _ => []) (fun w1 => ?_) (reads_cons ha (reads_cons hf (reads_cons hl (inferInstance)))) (fun _ => inferInstance)
  simp only [List.cons_append, List.nil_append]
  refine cj_len vl fun hlx => ?_
  refine cj_len va fun hlz => ?_
  refine cj_len vf fun hly => ?_
  refine cj_enter Try.func75 Try.ntmps75 ?_
  repeat' (first
    | refine red ?_
    | refine redf fun hbi => ?_
    | refine reds ?_
    | refine redc fun r => ?_
    | refine redp (fun r => ?_) (fun r => ?_)
    | refine redv fun sv => ?_
    | refine redn fun b => ?_
    | refine redz fun zs => ?_
    | refine redq (fun hc => ?_) (fun hc => ?_)
    | with_reducible refine wq_blk_o rfl ?_
    | (refine redd fun p cs as_ hcs has hf => ?_; simp only [Un.cells, Un.atoms, Un.fact, List.cons_append, List.nil_append] at hcs has hf; subst hcs has)
    | (refine redi (fun hc => ?_) (fun hc => ?_) <;> try first | (exfalso; omega) | exact absurd rfl hc)
    | fail)
  · exact ⟨(), ret_bool (decC_f fun h => by rw [h.1] at hc; cases hc), ent_e⟩
  · exact ⟨(), ret_bool (decC_f fun h => by have := h.2.2.1; omega), ent_e⟩
  have hsig : sigOk f.1 = true := by assumption
  refine wc_loop_c [18] [19, 20, 21, 22, 3, 4, 23, 24, 25, 26, 27, 28, 29, 30, 31, 32, 33, 34, 35, 36, 37, 38, 39, 40, 41, 42, 43, 44, 45, 46, 2, 47] (ι := Nat) (fun k => [.int .i64 k]) (fun k => k ≤ f.2.1.length ∧ SetP f.1.length f.2.1 k) (fun k => f.2.1.length - k) 0 (by kernel_rfl) ⟨Nat.zero_le _, fun i hi => by omega⟩ ?_
  intro k u l' hl' ⟨hk, hkk⟩
  simp only [patch, List.map_cons, List.map_nil, List.set_cons_zero, List.set_cons_succ] at hl'
  subst hl'
  by_cases hlt : k < f.2.1.length
  · repeat' (first
      | refine red ?_
      | refine redf fun hbi => ?_
      | refine reds ?_
      | refine redc fun r => ?_
      | refine redp (fun r => ?_) (fun r => ?_)
      | refine redv fun sv => ?_
      | refine redn fun b => ?_
      | refine redz fun zs => ?_
      | refine redq (fun hc => ?_) (fun hc => ?_)
      | with_reducible refine wq_blk_o rfl ?_
      | (refine redd fun p cs as_ hcs has hf => ?_; simp only [Un.cells, Un.atoms, Un.fact, List.cons_append, List.nil_append] at hcs has hf; subst hcs has)
      | (refine redi (fun hc => ?_) (fun hc => ?_) <;> try first | (exfalso; omega) | exact absurd rfl hc)
      | fail)
    · exact ⟨(), ret_bool (decC_f fun h => by have := (h.2.1 k hlt).1; omega), ent_e⟩
    · exact ⟨(), ret_bool (decC_f fun h => by have := (h.2.1 k hlt).1; omega), ent_e⟩
    · exact ⟨(), ret_bool (decC_f fun h => by have := (h.2.1 k hlt).2 (by omega); omega), ent_e⟩
    · exact wq_next (k + 1) ⟨by omega, setP_next hkk (by omega) (fun _ => by omega)⟩ (by omega) (by kernel_rfl) ent_e
    · exact wq_next (k + 1) ⟨by omega, setP_next hkk (by omega) (fun _ => by omega)⟩ (by omega) (by kernel_rfl) ent_e
  · have hset : SetP f.1.length f.2.1 f.2.1.length := by rw [show f.2.1.length = k by omega]; exact hkk
    have hfr : Fr0 f := ⟨hsig, hset⟩
    repeat' (first
      | refine red ?_
      | refine redf fun hbi => ?_
      | refine reds ?_
      | refine redc fun r => ?_
      | refine redp (fun r => ?_) (fun r => ?_)
      | refine redv fun sv => ?_
      | refine redn fun b => ?_
      | refine redz fun zs => ?_
      | refine redq (fun hc => ?_) (fun hc => ?_)
      | with_reducible refine wq_blk_o rfl ?_
      | (refine redd fun p cs as_ hcs has hf => ?_; simp only [Un.cells, Un.atoms, Un.fact, List.cons_append, List.nil_append] at hcs has hf; subst hcs has)
      | (refine redi (fun hc => ?_) (fun hc => ?_) <;> try first | (exfalso; omega) | exact absurd rfl hc)
      | fail)
    refine ⟨(), ret_bool (decC_of' ⟨fun h => ?_, fun h => ⟨hsig, hset, by omega, ?_⟩⟩), ent_e⟩
    · rw [decC_f (fun h' => bad_lines.1 h' h.2.2.2)]; rfl
    · apply Classical.byContradiction
      intro h'
      rw [decC_t (bad_lines.2 h')] at h
      cases h
instance impl_FrontOk_ctr {Γ : List Atom} {va vf vl : Value} {f : SFront} [ha : HasRd (List Int) repList Γ [va] f.1] [hf : HasRd (List Int) repList Γ [vf] f.2.1] [hl : HasRd (List SLine) repList Γ [vl] f.2.2] :
    CtrC Try.prog 75 [.agg #[va, vf, vl]] Γ (True) (Unit) (fun _ : Unit => .bool (decC (FrontP f))) (fun _ => Γ) := ⟨fun s w0 => impl_FrontOk_spec⟩

theorem isCall_spec {w0 : World} {Γ : List Atom} {va vf vl vt : Value} {f : SFront} {t : List Int} [ha : HasRd (List Int) repList Γ [va] f.1] [hf : HasRd (List Int) repList Γ [vf] f.2.1] [hl : HasRd (List SLine) repList Γ [vl] f.2.2] [ht : HasRd (List Int) repList Γ [vt] t] (hs : 1 ≤ t.length) : CJ Try.prog 76 [.agg #[va, vf, vl], vt] w0 Γ (fun _ : Unit => .bool (decC (CallP f t))) (fun _ => Γ) := by
  refine cj_lift (R := [.rd [va] f.1, .rd [vf] f.2.1, .rd [vl] f.2.2, .rd [vt] t]) (A := fun _ => []) (fun w1 => ?_) (reads_cons ha (reads_cons hf (reads_cons hl (reads_cons ht (inferInstance))))) (fun _ => inferInstance)
  simp only [List.cons_append, List.nil_append]
  refine cj_enter Try.func76 Try.ntmps76 ?_
  repeat' (first
    | refine red ?_
    | refine redf fun hbi => ?_
    | refine reds ?_
    | refine redc fun r => ?_
    | refine redp (fun r => ?_) (fun r => ?_)
    | refine redv fun sv => ?_
    | refine redn fun b => ?_
    | refine redz fun zs => ?_
    | refine redq (fun hc => ?_) (fun hc => ?_)
    | with_reducible refine wq_blk_o rfl ?_
    | (refine redd fun p cs as_ hcs has hf => ?_; simp only [Un.cells, Un.atoms, Un.fact, List.cons_append, List.nil_append] at hcs has hf; subst hcs has)
    | (refine redi (fun hc => ?_) (fun hc => ?_) <;> try first | (exfalso; omega) | exact absurd rfl hc)
    | ((refine wa_begin 1 [false, false, false, false, false, false, false, false, false, false, false, false, false, false] [] ?_ <;> (first | refine wa_p 0 ?_ | refine wa_p0 0 ?_ | fail) <;> (first | refine wa_f 1 fun hbi => ?_ | refine wa_p 1 ?_ | fail) <;> (first | refine wa_p 2 ?_ | refine wa_p0 2 ?_ | (refine wa_do 2 ?_ <;> (repeat' (first | refine red ?_ | refine redc fun r => ?_ | refine redv fun sv => ?_ | refine redf fun hbi => ?_ | refine redn fun b => ?_ | refine reds ?_ | refine redi (fun hc => ?_) (fun hc => ?_) | refine redq (fun hc => ?_) (fun hc => ?_) | refine redp (fun r => ?_) (fun r => ?_) | fail))) | fail) <;> (first | refine wa_p 3 ?_ | (refine wa_deep 3 fun p cs as_ asb_ hcs has hasb hf => ?_; simp only [Un.cells, Un.atoms, Un.fact, List.cons_append, List.nil_append] at hcs has hasb hf; subst hcs has hasb) | fail) <;> (first | refine wa_f 4 fun hbi => ?_ | refine wa_p 4 ?_ | (refine wa_do 4 ?_ <;> (repeat' (first | refine red ?_ | refine redc fun r => ?_ | refine redv fun sv => ?_ | refine redf fun hbi => ?_ | refine redn fun b => ?_ | refine reds ?_ | refine redi (fun hc => ?_) (fun hc => ?_) | refine redq (fun hc => ?_) (fun hc => ?_) | refine redp (fun r => ?_) (fun r => ?_) | fail))) | fail) <;> (refine wa_do 5 ?_ <;> (repeat' (first | refine red ?_ | refine redc fun r => ?_ | refine redv fun sv => ?_ | refine redf fun hbi => ?_ | refine redn fun b => ?_ | refine reds ?_ | refine redi (fun hc => ?_) (fun hc => ?_) | refine redq (fun hc => ?_) (fun hc => ?_) | refine redp (fun r => ?_) (fun r => ?_) | fail))) <;> (first | refine wa_p 6 ?_ | refine wa_p0 6 ?_ | (refine wa_do 6 ?_ <;> (repeat' (first | refine red ?_ | refine redc fun r => ?_ | refine redv fun sv => ?_ | refine redf fun hbi => ?_ | refine redn fun b => ?_ | refine reds ?_ | refine redi (fun hc => ?_) (fun hc => ?_) | refine redq (fun hc => ?_) (fun hc => ?_) | refine redp (fun r => ?_) (fun r => ?_) | fail))) | fail) <;> (first | refine wa_pg 7 ?_ | refine wa_no 7 ?_ | (refine wa_if 11 (fun hc => ?_) (fun hc => ?_) <;> (try first | (exfalso; omega) | exact absurd rfl hc) <;> first | refine wa_pg 7 ?_ | refine wa_no 7 ?_) | fail) <;> (first | refine wa_pg 8 ?_ | refine wa_no 8 ?_ | (refine wa_do 8 ?_ <;> (repeat' (first | refine red ?_ | refine redc fun r => ?_ | refine redv fun sv => ?_ | refine redf fun hbi => ?_ | refine redn fun b => ?_ | refine reds ?_ | refine redi (fun hc => ?_) (fun hc => ?_) | refine redq (fun hc => ?_) (fun hc => ?_) | refine redp (fun r => ?_) (fun r => ?_) | fail))) | fail) <;> (refine wa_do 9 ?_ <;> (repeat' (first | refine red ?_ | refine redc fun r => ?_ | refine redv fun sv => ?_ | refine redf fun hbi => ?_ | refine redn fun b => ?_ | refine reds ?_ | refine redi (fun hc => ?_) (fun hc => ?_) | refine redq (fun hc => ?_) (fun hc => ?_) | refine redp (fun r => ?_) (fun r => ?_) | fail))) <;> (refine wa_do 10 ?_ <;> (repeat' (first | refine red ?_ | refine redc fun r => ?_ | refine redv fun sv => ?_ | refine redf fun hbi => ?_ | refine redn fun b => ?_ | refine reds ?_ | refine redi (fun hc => ?_) (fun hc => ?_) | refine redq (fun hc => ?_) (fun hc => ?_) | refine redp (fun r => ?_) (fun r => ?_) | fail))) <;> (first | refine wa_pg 11 ?_ | refine wa_no 11 ?_ | (refine wa_do 11 ?_ <;> (repeat' (first | refine red ?_ | refine redc fun r => ?_ | refine redv fun sv => ?_ | refine redf fun hbi => ?_ | refine redn fun b => ?_ | refine reds ?_ | refine redi (fun hc => ?_) (fun hc => ?_) | refine redq (fun hc => ?_) (fun hc => ?_) | refine redp (fun r => ?_) (fun r => ?_) | fail))) | fail) <;> (first | refine wa_p 12 ?_ | refine wa_p0 12 ?_ | (refine wa_do 12 ?_ <;> (repeat' (first | refine red ?_ | refine redc fun r => ?_ | refine redv fun sv => ?_ | refine redf fun hbi => ?_ | refine redn fun b => ?_ | refine reds ?_ | refine redi (fun hc => ?_) (fun hc => ?_) | refine redq (fun hc => ?_) (fun hc => ?_) | refine redp (fun r => ?_) (fun r => ?_) | fail))) | fail) <;> (first | refine wa_p 13 ?_ | refine wa_p0 13 ?_ | (refine wa_do 13 ?_ <;> (repeat' (first | refine red ?_ | refine redc fun r => ?_ | refine redv fun sv => ?_ | refine redf fun hbi => ?_ | refine redn fun b => ?_ | refine reds ?_ | refine redi (fun hc => ?_) (fun hc => ?_) | refine redq (fun hc => ?_) (fun hc => ?_) | refine redp (fun r => ?_) (fun r => ?_) | fail))) | fail)) <;> (first | refine wa_end ?_ | with_reducible refine wq_keep ?_))
    | fail)
  · refine ⟨(), ret_bool (decC_of' ⟨fun h => ?_, fun h => ⟨hc, ?_⟩⟩), ent_e⟩
    · rw [decC_f (fun h' => hit_wo.1 h' h.2)]; rfl
    · apply Classical.byContradiction
      intro h'
      rw [decC_t (hit_wo.2 h')] at h
      cases h
  · exact ⟨(), ret_bool (decC_f fun h => hc h.1), ent_e⟩
instance isCall_ctr {Γ : List Atom} {va vf vl vt : Value} {f : SFront} {t : List Int} [ha : HasRd (List Int) repList Γ [va] f.1] [hf : HasRd (List Int) repList Γ [vf] f.2.1] [hl : HasRd (List SLine) repList Γ [vl] f.2.2] [ht : HasRd (List Int) repList Γ [vt] t] :
    CtrC Try.prog 76 [.agg #[va, vf, vl], vt] Γ (1 ≤ t.length) (Unit) (fun _ : Unit => .bool (decC (CallP f t))) (fun _ => Γ) := ⟨fun s w0 => isCall_spec s⟩

theorem pu_load_pt_part {P : Program} {l : List Value} {Γ : List Atom} {ty : TypeId} {T k b m : Nat} {x : Operand} {cs out : List Value} [h : Ev l x (.pointer (some ⟨b, m, none⟩))] [hT : Ag P T k] [hp : HasPt Γ ⟨b, 0, none⟩ cs] [hv : Tk cs m k out] (w0 : World) : Pu P w0 l Γ (.load T x) ty (.agg out.toArray) :=
  pu_of (s := Instr.loadAt T (.pointer (some ⟨b, m, none⟩))) (fun o ho _ => by unfold execOp; rw [ho]; simp only [h.eq]) (fun w hs => by
    have hcp : CellsP w ⟨b, 0, none⟩ cs := by
      obtain ⟨_, F, _, _, hsep⟩ := hs
      exact hp.get hsep
    obtain ⟨h1, h2⟩ := hv.eq
    have hk : out.length = k := by rw [← h1]; simp; omega
    have hc := Go.Eng.run_loadCells (P := P) (w := w) (p := ⟨b, m, none⟩) (cs := out) 0 #[] (fun j hj => by
      rw [add_lit, Nat.zero_add]
      have e : out[j]? = cs[m + j]? := by rw [← h1, List.getElem?_take, if_pos (by omega), List.getElem?_drop]
      have h3 := hcp (m + j) (by omega)
      rw [add_lit, Nat.zero_add] at h3
      rw [h3, e])
    rw [hk] at hc
    simp only [Instr.loadAt, Instr.sureAddr, loadVar, Sem.run_bind, Sem.run_pure, Result.andThen_ok, hT.agg, if_true, hT.size, loadCells, hc]
    simp)
instance (priority := 300) {P : Program} {l : List Value} {Γ : List Atom} {ty : TypeId} {T k b m : Nat} {x : Operand} {cs out : List Value} [h : Ev l x (.pointer (some ⟨b, m, none⟩))] [hT : Ag P T k] [hp : HasPt Γ ⟨b, 0, none⟩ cs] [hv : Tk cs m k out] : PuC P l Γ (.load T x) ty (.agg out.toArray) := ⟨fun w0 => pu_load_pt_part w0⟩
theorem firstLine1_spec {w0 : World} {Γ : List Atom} {b b2 : Nat} {va vf vl v0 v1 vt : Value} {f : SFront} {x : SLine} {t : List Int} [hb : HasPt Γ ⟨b, 0, none⟩ [va, vf, vl]] [hb2 : HasPt Γ ⟨b2, 0, none⟩ [vt]] [ha : HasRd (List Int) repList Γ [va] f.1] [h0 : HasRd (List (List Int)) repList Γ [v0] x.2.1] [h1 : HasRd (List Int) repList Γ [v1] x.2.2] [ht : HasRd (List Int) repList Γ [vt] t] (hs : ShortL x ∧ termOk f.1 (leftL x) = true ∧ termOk f.1 t = true) : CJ Try.prog 132 [.agg #[.int .i64 x.1, v0, v1], .pointer (some ⟨b, 0, none⟩), .pointer (some ⟨b2, 0, none⟩)] w0 Γ (fun _ : Unit => .bool (instOf f.1 (leftL x) t)) (fun _ => Γ) := by
  refine cj_lift (R := [.pt ⟨b, 0, none⟩ [va, vf, vl], .pt ⟨b2, 0, none⟩ [vt], .rd [va] f.1, .rd [v0] x.2.1, .rd [v1] x.2.2, .rd [vt] t]) (A := fun _ => []) (fun w1 => ?_) (reads_pt hb (reads_pt hb2 (reads_cons ha (reads_cons h0 (reads_cons h1 (reads_cons ht inferInstance)))))) (fun _ => inferInstance)
  simp only [List.cons_append, List.nil_append]
  obtain ⟨hs1, hs2, hs3⟩ := hs
  refine cj_enter Try.func132 Try.ntmps132 ?_
  repeat' (first
    | refine red ?_
    | refine redf fun hbi => ?_
    | refine reds ?_
    | refine redc fun r => ?_
    | refine redp (fun r => ?_) (fun r => ?_)
    | refine redv fun sv => ?_
    | refine redn fun b => ?_
    | refine redz fun zs => ?_
    | refine redq (fun hc => ?_) (fun hc => ?_)
    | with_reducible refine wq_blk_o rfl ?_
    | (refine redd fun p cs as_ hcs has hf => ?_; simp only [Un.cells, Un.atoms, Un.fact, List.cons_append, List.nil_append] at hcs has hf; subst hcs has)
    | (refine redi (fun hc => ?_) (fun hc => ?_) <;> try first | (exfalso; omega) | exact absurd rfl hc)
    | ((refine wa_begin 1 [false, false, false, false, false, false, false] [] ?_ <;> (first | refine wa_p 0 ?_ | refine wa_p0 0 ?_ | fail) <;> (first | refine wa_f 1 fun hbi => ?_ | refine wa_p 1 ?_ | fail) <;> (first | refine wa_f 2 fun hbi => ?_ | refine wa_p 2 ?_ | fail) <;> (first | refine wa_f 4 fun hbi => ?_ | refine wa_p 4 ?_ | fail) <;> (refine wa_do 3 ?_ <;> (repeat' (first | refine red ?_ | refine redc fun r => ?_ | refine redv fun sv => ?_ | refine redf fun hbi => ?_ | refine redn fun b => ?_ | refine reds ?_ | refine redi (fun hc => ?_) (fun hc => ?_) | refine redq (fun hc => ?_) (fun hc => ?_) | refine redp (fun r => ?_) (fun r => ?_) | fail))) <;> (refine wa_do 5 ?_ <;> (repeat' (first | refine red ?_ | refine redc fun r => ?_ | refine redv fun sv => ?_ | refine redf fun hbi => ?_ | refine redn fun b => ?_ | refine reds ?_ | refine redi (fun hc => ?_) (fun hc => ?_) | refine redq (fun hc => ?_) (fun hc => ?_) | refine redp (fun r => ?_) (fun r => ?_) | fail))) <;> (first | refine wa_p 6 ?_ | refine wa_p0 6 ?_ | (refine wa_do 6 ?_ <;> (repeat' (first | refine red ?_ | refine redc fun r => ?_ | refine redv fun sv => ?_ | refine redf fun hbi => ?_ | refine redn fun b => ?_ | refine reds ?_ | refine redi (fun hc => ?_) (fun hc => ?_) | refine redq (fun hc => ?_) (fun hc => ?_) | refine redp (fun r => ?_) (fun r => ?_) | fail))) | fail)) <;> (first | refine wa_end ?_ | with_reducible refine wq_keep ?_))
    | fail)
  exact ⟨(), rfl, ent_e⟩
instance firstLine1_ctr {Γ : List Atom} {b b2 : Nat} {va vf vl v0 v1 vt : Value} {f : SFront} {x : SLine} {t : List Int} [hb : HasPt Γ ⟨b, 0, none⟩ [va, vf, vl]] [hb2 : HasPt Γ ⟨b2, 0, none⟩ [vt]] [ha : HasRd (List Int) repList Γ [va] f.1] [h0 : HasRd (List (List Int)) repList Γ [v0] x.2.1] [h1 : HasRd (List Int) repList Γ [v1] x.2.2] [ht : HasRd (List Int) repList Γ [vt] t] :
    CtrC Try.prog 132 [.agg #[.int .i64 x.1, v0, v1], .pointer (some ⟨b, 0, none⟩), .pointer (some ⟨b2, 0, none⟩)] Γ (ShortL x ∧ termOk f.1 (leftL x) = true ∧ termOk f.1 t = true) (Unit) (fun _ : Unit => .bool (instOf f.1 (leftL x) t)) (fun _ => Γ) := ⟨fun s w0 => firstLine1_spec s⟩

structure FL0 (f : SFront) (t : List Int) : Prop where
  fr : Fr0 f
  ls : LinesP f f.2.2.length
  ok : termOk f.1 t = true
theorem IndexFuncF_spec {w0 : World} {Γ : List Atom} {b b2 : Nat} {va vf vl vt : Value} {f : SFront} {t : List Int} [hb : HasPt Γ ⟨b, 0, none⟩ [va, vf, vl]] [hb2 : HasPt Γ ⟨b2, 0, none⟩ [vt]] [ha : HasRd (List Int) repList Γ [va] f.1] [hf : HasRd (List Int) repList Γ [vf] f.2.1] [hl : HasRd (List SLine) repList Γ [vl] f.2.2] [ht : HasRd (List Int) repList Γ [vt] t] (hs : FL0 f t) : CJ Try.prog 131 [vl, .func (.func 132) #[] #[.pointer (some ⟨b, 0, none⟩), .pointer (some ⟨b2, 0, none⟩)]] w0 Γ (fun _ : Unit => .int .i64 (firstTo (FitL f t) f.2.2.length)) (fun _ => Γ) := by
  refine cj_lift (R := [.pt ⟨b, 0, none⟩ [va, vf, vl], .pt ⟨b2, 0, none⟩ [vt], .rd [va] f.1, .rd [vf] f.2.1, .rd [vl] f.2.2, .rd [vt] t]) (A := fun _ => []) (fun w1 => ?_) (reads_pt hb (reads_pt hb2 (reads_cons ha (reads_cons hf (reads_cons hl (reads_cons ht inferInstance)))))) (fun _ => inferInstance)
  simp only [List.cons_append, List.nil_append]
  have hto := hs.ok
  refine cj_len vl fun hlx => ?_
  refine cj_enter Try.func131 Try.ntmps131 ?_
  repeat' (first
    | refine red ?_
    | refine redf fun hbi => ?_
    | refine reds ?_
    | refine redc fun r => ?_
    | refine redp (fun r => ?_) (fun r => ?_)
    | refine redv fun sv => ?_
    | refine redn fun b => ?_
    | refine redz fun zs => ?_
    | refine redq (fun hc => ?_) (fun hc => ?_)
    | with_reducible refine wq_blk_o rfl ?_
    | (refine redd fun p cs as_ hcs has hf => ?_; simp only [Un.cells, Un.atoms, Un.fact, List.cons_append, List.nil_append] at hcs has hf; subst hcs has)
    | (refine redi (fun hc => ?_) (fun hc => ?_) <;> try first | (exfalso; omega) | exact absurd rfl hc)
    | fail)
  refine wc_loop_c [8] [9, 10, 5, 11, 12, 13, 14, 15, 16, 17, 4, 18] (ι := Nat) (fun k => [.int .i64 k]) (fun k => k ≤ f.2.2.length ∧ ∀ i, i < k → ¬ FitL f t i) (fun k => f.2.2.length - k) 0 (by kernel_rfl) ⟨Nat.zero_le _, fun i hi => by omega⟩ ?_
  intro k u l' hl' ⟨hk, hkk⟩
  simp only [patch, List.map_cons, List.map_nil, List.set_cons_zero, List.set_cons_succ] at hl'
  subst hl'
  by_cases hlt : k < f.2.2.length
  · have hlk := hs.ls k hlt
    have hsh := line_short hs.fr hlk
    have hlo := ruleOk_left hlk.2.2.2.1
    repeat' (first
      | refine red ?_
      | refine redf fun hbi => ?_
      | refine reds ?_
      | refine redc fun r => ?_
      | refine redp (fun r => ?_) (fun r => ?_)
      | refine redv fun sv => ?_
      | refine redn fun b => ?_
      | refine redz fun zs => ?_
      | refine redq (fun hc => ?_) (fun hc => ?_)
      | with_reducible refine wq_blk_o rfl ?_
      | (refine redd fun p cs as_ hcs has hf => ?_; simp only [Un.cells, Un.atoms, Un.fact, List.cons_append, List.nil_append] at hcs has hf; subst hcs has)
      | (refine redi (fun hc => ?_) (fun hc => ?_) <;> try first | (exfalso; omega) | exact absurd rfl hc)
      | fail)
    · exact ⟨(), ret_int (first_some (p := FitL f t) hc hkk hlt), ent_e⟩
    · refine wq_next (k + 1) ⟨by omega, fun i hi => ?_⟩ (by omega) (by kernel_rfl) ent_e
      by_cases e : i = k
      · rw [e]; unfold FitL; rw [hc]; decide
      · exact hkk i (by omega)
  · repeat' (first
      | refine red ?_
      | refine redf fun hbi => ?_
      | refine reds ?_
      | refine redc fun r => ?_
      | refine redp (fun r => ?_) (fun r => ?_)
      | refine redv fun sv => ?_
      | refine redn fun b => ?_
      | refine redz fun zs => ?_
      | refine redq (fun hc => ?_) (fun hc => ?_)
      | with_reducible refine wq_blk_o rfl ?_
      | (refine redd fun p cs as_ hcs has hf => ?_; simp only [Un.cells, Un.atoms, Un.fact, List.cons_append, List.nil_append] at hcs has hf; subst hcs has)
      | (refine redi (fun hc => ?_) (fun hc => ?_) <;> try first | (exfalso; omega) | exact absurd rfl hc)
      | fail)
    exact ⟨(), ret_int (first_none (by rw [show f.2.2.length = k by omega]; exact hkk)), ent_e⟩
instance IndexFuncF_ctr {Γ : List Atom} {b b2 : Nat} {va vf vl vt : Value} {f : SFront} {t : List Int} [hb : HasPt Γ ⟨b, 0, none⟩ [va, vf, vl]] [hb2 : HasPt Γ ⟨b2, 0, none⟩ [vt]] [ha : HasRd (List Int) repList Γ [va] f.1] [hf : HasRd (List Int) repList Γ [vf] f.2.1] [hl : HasRd (List SLine) repList Γ [vl] f.2.2] [ht : HasRd (List Int) repList Γ [vt] t] :
    CtrC Try.prog 131 [vl, .func (.func 132) #[] #[.pointer (some ⟨b, 0, none⟩), .pointer (some ⟨b2, 0, none⟩)]] Γ (FL0 f t) (Unit) (fun _ : Unit => .int .i64 (firstTo (FitL f t) f.2.2.length)) (fun _ => Γ) := ⟨fun s w0 => IndexFuncF_spec s⟩

theorem firstLine_spec {w0 : World} {Γ : List Atom} {va vf vl vt : Value} {f : SFront} {t : List Int} [ha : HasRd (List Int) repList Γ [va] f.1] [hf : HasRd (List Int) repList Γ [vf] f.2.1] [hl : HasRd (List SLine) repList Γ [vl] f.2.2] [ht : HasRd (List Int) repList Γ [vt] t] (hs : FL0 f t) : CJ Try.prog 77 [.agg #[va, vf, vl], vt] w0 Γ (fun _ : Unit => .int .i64 (firstTo (FitL f t) f.2.2.length)) (fun _ => Γ) := by
  refine cj_lift (R := [.rd [va] f.1, .rd [vf] f.2.1, .rd [vl] f.2.2, .rd [vt] t]) (A := fun _ => []) (fun w1 => ?_) (reads_cons ha (reads_cons hf (reads_cons hl (reads_cons ht (inferInstance))))) (fun _ => inferInstance)
  simp only [List.cons_append, List.nil_append]
  refine cj_enter Try.func77 Try.ntmps77 ?_
  repeat' (first
    | refine red ?_
    | refine redf fun hbi => ?_
    | refine reds ?_
    | refine redc fun r => ?_
    | refine redp (fun r => ?_) (fun r => ?_)
    | refine redv fun sv => ?_
    | refine redn fun b => ?_
    | refine redz fun zs => ?_
    | refine redq (fun hc => ?_) (fun hc => ?_)
    | with_reducible refine wq_blk_o rfl ?_
    | (refine redd fun p cs as_ hcs has hf => ?_; simp only [Un.cells, Un.atoms, Un.fact, List.cons_append, List.nil_append] at hcs has hf; subst hcs has)
    | (refine redi (fun hc => ?_) (fun hc => ?_) <;> try first | (exfalso; omega) | exact absurd rfl hc)
    | fail)
  exact ⟨(), rfl, ent_e⟩
instance firstLine_ctr {Γ : List Atom} {va vf vl vt : Value} {f : SFront} {t : List Int} [ha : HasRd (List Int) repList Γ [va] f.1] [hf : HasRd (List Int) repList Γ [vf] f.2.1] [hl : HasRd (List SLine) repList Γ [vl] f.2.2] [ht : HasRd (List Int) repList Γ [vt] t] :
    CtrC Try.prog 77 [.agg #[va, vf, vl], vt] Γ (FL0 f t) (Unit) (fun _ : Unit => .int .i64 (firstTo (FitL f t) f.2.2.length)) (fun _ => Γ) := ⟨fun s w0 => firstLine_spec s⟩

theorem impl_FirstLine_spec {w0 : World} {Γ : List Atom} {va vf vl vt : Value} {f : SFront} {t : List Int} [ha : HasRd (List Int) repList Γ [va] f.1] [hf : HasRd (List Int) repList Γ [vf] f.2.1] [hl : HasRd (List SLine) repList Γ [vl] f.2.2] [ht : HasRd (List Int) repList Γ [vt] t] : CJ Try.prog 38 [.agg #[va, vf, vl], vt] w0 Γ (fun _ : Unit => .int .i64 (firstLine f t)) (fun _ => Γ) := by
  refine cj_lift (R := [.rd [va] f.1, .rd [vf] f.2.1, .rd [vl] f.2.2, .rd [vt] t]) (A := fun _ => []) (fun w1 => ?_) (reads_cons ha (reads_cons hf (reads_cons hl (reads_cons ht (inferInstance))))) (fun _ => inferInstance)
  simp only [List.cons_append, List.nil_append]
  have hyes : FrontP f → GrP f.1 t → CallP f t → firstLine f t = firstTo (FitL f t) f.2.2.length := fun h1 h2 h3 => if_pos (decC_t ⟨h1, h2, h3⟩)
  have hno : ¬ (FrontP f ∧ GrP f.1 t ∧ CallP f t) → firstLine f t = -1 := fun h => if_neg (by rw [decC_f h]; decide)
  by_cases hok : FrontP f ∧ GrP f.1 t
  · obtain ⟨h1, h2⟩ := hok
    have hto := h2.1
    have htl := termOk_len hto
    have hfl : FL0 f t := ⟨⟨h1.1, h1.2.1⟩, h1.2.2.2, hto⟩
    refine cj_enter Try.func38 Try.ntmps38 ?_
    repeat' (first
      | refine red ?_
      | refine redf fun hbi => ?_
      | refine reds ?_
      | refine redc fun r => ?_
      | refine redp (fun r => ?_) (fun r => ?_)
      | refine redv fun sv => ?_
      | refine redn fun b => ?_
      | refine redz fun zs => ?_
      | refine redq (fun hc => ?_) (fun hc => ?_)
      | with_reducible refine wq_blk_o rfl ?_
      | (refine redd fun p cs as_ hcs has hf => ?_; simp only [Un.cells, Un.atoms, Un.fact, List.cons_append, List.nil_append] at hcs has hf; subst hcs has)
      | (refine redi (fun hc => ?_) (fun hc => ?_) <;> try first | (exfalso; omega) | exact absurd rfl hc)
      | fail)
    · exact absurd h1 hc
    · exact absurd h2 hc
    · exact ⟨(), ret_int (hno fun h => hc h.2.2), ent_e⟩
    · exact ⟨(), ret_int (hyes h1 h2 hc), ent_e⟩
  · rw [hno (fun h => hok ⟨h.1, h.2.1⟩)]
    refine cj_enter Try.func38 Try.ntmps38 ?_
    repeat' (first
      | refine red ?_
      | refine redf fun hbi => ?_
      | refine reds ?_
      | refine redc fun r => ?_
      | refine redp (fun r => ?_) (fun r => ?_)
      | refine redv fun sv => ?_
      | refine redn fun b => ?_
      | refine redz fun zs => ?_
      | refine redq (fun hc => ?_) (fun hc => ?_)
      | with_reducible refine wq_blk_o rfl ?_
      | (refine redd fun p cs as_ hcs has hf => ?_; simp only [Un.cells, Un.atoms, Un.fact, List.cons_append, List.nil_append] at hcs has hf; subst hcs has)
      | (refine redi (fun hc => ?_) (fun hc => ?_) <;> try first | (exfalso; omega) | exact absurd rfl hc)
      | fail)
    · exact ⟨(), rfl, ent_e⟩
    · exact ⟨(), rfl, ent_e⟩
    · exact absurd ⟨by assumption, hc⟩ hok
instance impl_FirstLine_ctr {Γ : List Atom} {va vf vl vt : Value} {f : SFront} {t : List Int} [ha : HasRd (List Int) repList Γ [va] f.1] [hf : HasRd (List Int) repList Γ [vf] f.2.1] [hl : HasRd (List SLine) repList Γ [vl] f.2.2] [ht : HasRd (List Int) repList Γ [vt] t] :
    CtrC Try.prog 38 [.agg #[va, vf, vl], vt] Γ (True) (Unit) (fun _ : Unit => .int .i64 (firstLine f t)) (fun _ => Γ) := ⟨fun s w0 => impl_FirstLine_spec⟩

set_option maxHeartbeats 0 in
set_option synthInstance.maxHeartbeats 400000 in
set_option synthInstance.maxSize 1000 in
theorem FnExactFirstLine_law {w0 : World} {Γ : List Atom} {x0 : SFront} {x1 : List Int} {v0_0 v0_1 v0_2 v1_0 : Value} [h0_0 : HasRd (List Int) repList Γ [v0_0] x0.1] [h0_1 : HasRd (List Int) repList Γ [v0_1] x0.2.1] [h0_2 : HasRd (List SLine) repList Γ [v0_2] x0.2.2] [h1_0 : HasRd (List Int) repList Γ [v1_0] x1] (hf0 : (x0.1.length ≤ 9223372036854775807) ∧ (x0.2.1.length ≤ 9223372036854775807) ∧ x0.2.2.length ≤ 9223372036854775807) (hf1 : x1.length ≤ 9223372036854775807) :
    CJ Try.prog 8 [.agg #[v0_0, v0_1, v0_2], v1_0] w0 Γ (fun _ : Unit => .bool true) (fun _ => Γ) := by
  have hz0 := lft_spec 1048576 (Siz.size x0)
  have hs0 : Siz.size x0 = Siz.size x0.1 + Siz.size x0.2.1 + Siz.size x0.2.2 := by simp only [siz_pair, siz_int, siz_bool, siz_str] <;> omega
  have hb0_0 := cntL_le x0.1
  have hl0_0 := siz_ints x0.1
  have hb0_1 := cntL_le x0.2.1
  have hl0_1 := siz_ints x0.2.1
  have hb0_2 := cntL_le x0.2.2
  have hb1_0 := cntL_le x1
  have hl1_0 := siz_ints x1
  refine cj_enter Try.func8 Try.ntmps8 ?_
  repeat' (first
    | refine red ?_
    | refine redf fun hbi => ?_
    | refine reds ?_
    | refine redc fun r => ?_
    | refine redp (fun r => ?_) (fun r => ?_)
    | refine redv fun sv => ?_
    | refine redn fun b => ?_
    | refine redz fun zs => ?_
    | refine redq (fun hc => ?_) (fun hc => ?_)
    | with_reducible refine wq_blk_o rfl ?_
    | (refine redd fun p cs as_ hcs has hf => ?_; simp only [Un.cells, Un.atoms, Un.fact, List.cons_append, List.nil_append] at hcs has hf; subst hcs has)
    | (refine redi (fun hc => ?_) (fun hc => ?_) <;> try first | (exfalso; omega) | exact absurd rfl hc)
    | ((refine wa_begin 13 [false, false, false, false, false] [] ?_ <;> (first | refine wa_f 0 fun hbi => ?_ | refine wa_p 0 ?_ | fail) <;> (first | refine wa_f 1 fun hbi => ?_ | refine wa_p 1 ?_ | (refine wa_do 1 ?_ <;> (repeat' (first | refine red ?_ | refine redc fun r => ?_ | refine redv fun sv => ?_ | refine redf fun hbi => ?_ | refine redn fun b => ?_ | refine reds ?_ | refine redi (fun hc => ?_) (fun hc => ?_) | refine redq (fun hc => ?_) (fun hc => ?_) | refine redp (fun r => ?_) (fun r => ?_) | fail))) | fail) <;> (refine wa_do 2 ?_ <;> (repeat' (first | refine red ?_ | refine redc fun r => ?_ | refine redv fun sv => ?_ | refine redf fun hbi => ?_ | refine redn fun b => ?_ | refine reds ?_ | refine redi (fun hc => ?_) (fun hc => ?_) | refine redq (fun hc => ?_) (fun hc => ?_) | refine redp (fun r => ?_) (fun r => ?_) | fail))) <;> (refine wa_do 3 ?_ <;> (repeat' (first | refine red ?_ | refine redc fun r => ?_ | refine redv fun sv => ?_ | refine redf fun hbi => ?_ | refine redn fun b => ?_ | refine reds ?_ | refine redi (fun hc => ?_) (fun hc => ?_) | refine redq (fun hc => ?_) (fun hc => ?_) | refine redp (fun r => ?_) (fun r => ?_) | fail))) <;> (first | refine wa_p 4 ?_ | refine wa_p0 4 ?_ | (refine wa_do 4 ?_ <;> (repeat' (first | refine red ?_ | refine redc fun r => ?_ | refine redv fun sv => ?_ | refine redf fun hbi => ?_ | refine redn fun b => ?_ | refine reds ?_ | refine redi (fun hc => ?_) (fun hc => ?_) | refine redq (fun hc => ?_) (fun hc => ?_) | refine redp (fun r => ?_) (fun r => ?_) | fail))) | fail)) <;> (first | refine wa_end ?_ | with_reducible refine wq_keep ?_))
    | fail)
  all_goals exact ⟨(), rfl, ent_e⟩

end Go.Proofs.Ytimniaojfchoiaa
