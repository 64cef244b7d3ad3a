/- Steps. -/
import Derived.Test.YtfdpmkilhllkoaaL03
namespace Go.Proofs.Ytfdpmkilhllkoaa
open Go Go.Eng
set_option linter.unusedVariables false
set_option linter.unusedSimpArgs false

def putL (a t : List Int) (k : Nat) (u : List Int) : List Int := t.take k ++ u ++ t.drop (k + sz a t k)
def putOf (a t : List Int) (k : Nat) (u : List Int) : Option (List Int) := if (putL a t k u).length ≤ 60 then some (putL a t k u) else none
theorem put_no {a t : List Int} {k : Nat} {u : List Int} (h : ¬ (putL a t k u).length ≤ 60) : putOf a t k u = none := if_neg h
theorem put_yes {a t : List Int} {k : Nat} {u : List Int} (h : (putL a t k u).length ≤ 60) : putOf a t k u = some (putL a t k u) := if_pos h
theorem put_len {a t : List Int} {k : Nat} {u : List Int} (ht : termOk a t = true) (hk : k < t.length) (hu : u.length ≤ 60) : (putL a t k u).length ≤ 120 := by
  have := termOk_len ht
  have := (term_at ht hk).2
  unfold putL
  simp only [List.length_append, List.length_take, List.length_drop]
  omega
theorem put_spec {w0 : World} {Γ : List Atom} {va vt vu : Value} {a t u : List Int} {at_ : Int} {m : Nat} [hm : ToN at_ m] [h0 : HasRd (List Int) repList Γ [va] a] [h1 : HasRd (List Int) repList Γ [vt] t] [h2 : HasRd (List Int) repList Γ [vu] u] (hs : termOk a t = true ∧ 0 ≤ at_ ∧ at_ < t.length) (hu : u.length ≤ 60) :
    CJ Try.prog 175 [.agg #[va], vt, .int .i64 at_, vu] w0 Γ (fun q : Value => .tuple #[q, .bool (putOf a t m u).isSome]) (fun q => .ow [q] ((putOf a t m u).getD []) :: Γ) := by
  obtain ⟨hs1, hs2, hs3⟩ := hs
  obtain rfl : at_ = (m : Int) := by have := hm.eq; omega
  have hsig := termOk_sig hs1
  have htl := termOk_len hs1
  have he := end_I hs1 (k := m) (by omega)
  have hta := (term_at hs1 (k := m) (by omega)).2
  have e : [List.take ((m : Int)).toNat t, u, List.drop (endOf a (badI a) t m).toNat t].flatten = putL a t m u := by
    rw [he]
    simp only [putL, Int.toNat_natCast, List.flatten_cons, List.flatten_nil, List.append_nil, List.append_assoc]
  have hpl := put_len hs1 (k := m) (by omega) hu
  have hfl : [List.take ((m : Int)).toNat t, u, List.drop (endOf a (badI a) t m).toNat t].flatten.length ≤ 1099511627776 := by rw [e]; omega
  refine cj_lift (R := [.rd [va] a, .rd [vt] t, .rd [vu] u]) (A := fun q : Value => [.ow [q] ((putOf a t m u).getD [])]) (fun w1 => ?_) (reads_cons h0 (reads_cons h1 (reads_cons h2 (inferInstance)))) (fun _ => inferInstance)
  simp only [List.cons_append, List.nil_append]
  refine cj_enter Try.func175 Try.ntmps175 ?_
  repeat' (first | refine red ?_ | refine redf fun hbi => ?_ | refine reds ?_ | refine redc fun r => ?_ | refine redp (fun r => ?_) (fun r => ?_) | refine redv fun sv => ?_ | refine redn fun b => ?_ | refine redz fun zs => ?_ | refine redq (fun hc => ?_) (fun hc => ?_) | with_reducible refine wq_blk_o rfl ?_ | (refine redi (fun hc => ?_) (fun hc => ?_) <;> try first | (exfalso; omega) | exact absurd rfl hc) | ((refine wa_begin 1 [false, false, false, false, false, false, false, false, false, false, false, false, false] [] ?_ <;> (first | refine wa_p 0 ?_ | refine wa_p0 0 ?_) <;> (first | refine wa_p 1 ?_ | refine wa_p0 1 ?_) <;> (first | refine wa_p 3 ?_ | refine wa_p0 3 ?_) <;> (first | refine wa_p 4 ?_ | refine wa_p0 4 ?_) <;> refine wa_p 5 ?_ <;> (first | refine wa_p 6 ?_ | refine wa_p0 6 ?_) <;> (first | refine wa_p 7 ?_ | refine wa_p0 7 ?_) <;> (refine wa_two 2 8 ?_ ?_; rotate_right; (focus ((repeat' (first | refine red ?_ | refine redc fun r => ?_ | refine redv fun sv => ?_ | refine redf fun hbi => ?_ | refine redn fun b => ?_ | refine reds ?_ | refine redi (fun hc => ?_) (fun hc => ?_) | refine redq (fun hc => ?_) (fun hc => ?_) | refine redp (fun r => ?_) (fun r => ?_) | fail)) <;> (refine wa_two 2 9 ?_ ?_; rotate_right; (focus ((repeat' (first | refine red ?_ | refine redc fun r => ?_ | refine redv fun sv => ?_ | refine redf fun hbi => ?_ | refine redn fun b => ?_ | refine reds ?_ | refine redi (fun hc => ?_) (fun hc => ?_) | refine redq (fun hc => ?_) (fun hc => ?_) | refine redp (fun r => ?_) (fun r => ?_) | fail)) <;> (refine wa_do 2 ?_ <;> (repeat' (first | refine red ?_ | refine redc fun r => ?_ | refine redv fun sv => ?_ | refine redf fun hbi => ?_ | refine redn fun b => ?_ | refine reds ?_ | refine redi (fun hc => ?_) (fun hc => ?_) | refine redq (fun hc => ?_) (fun hc => ?_) | refine redp (fun r => ?_) (fun r => ?_) | fail))) <;> (refine wa_do 10 ?_ <;> (repeat' (first | refine red ?_ | refine redc fun r => ?_ | refine redv fun sv => ?_ | refine redf fun hbi => ?_ | refine redn fun b => ?_ | refine reds ?_ | refine redi (fun hc => ?_) (fun hc => ?_) | refine redq (fun hc => ?_) (fun hc => ?_) | refine redp (fun r => ?_) (fun r => ?_) | fail))) <;> (refine wa_do 11 ?_ <;> (repeat' (first | refine red ?_ | refine redc fun r => ?_ | refine redv fun sv => ?_ | refine redf fun hbi => ?_ | refine redn fun b => ?_ | refine reds ?_ | refine redi (fun hc => ?_) (fun hc => ?_) | refine redq (fun hc => ?_) (fun hc => ?_) | refine redp (fun r => ?_) (fun r => ?_) | fail))) <;> (first | refine wa_p 12 ?_ | refine wa_p0 12 ?_))); rotate_right; (focus ((repeat' (first | refine red ?_ | refine redc fun r => ?_ | refine redv fun sv => ?_ | refine redf fun hbi => ?_ | refine redn fun b => ?_ | refine reds ?_ | refine redi (fun hc => ?_) (fun hc => ?_) | refine redq (fun hc => ?_) (fun hc => ?_) | refine redp (fun r => ?_) (fun r => ?_) | fail)) <;> (refine wa_do 9 ?_ <;> (repeat' (first | refine red ?_ | refine redc fun r => ?_ | refine redv fun sv => ?_ | refine redf fun hbi => ?_ | refine redn fun b => ?_ | refine reds ?_ | refine redi (fun hc => ?_) (fun hc => ?_) | refine redq (fun hc => ?_) (fun hc => ?_) | refine redp (fun r => ?_) (fun r => ?_) | fail))) <;> (refine wa_do 10 ?_ <;> (repeat' (first | refine red ?_ | refine redc fun r => ?_ | refine redv fun sv => ?_ | refine redf fun hbi => ?_ | refine redn fun b => ?_ | refine reds ?_ | refine redi (fun hc => ?_) (fun hc => ?_) | refine redq (fun hc => ?_) (fun hc => ?_) | refine redp (fun r => ?_) (fun r => ?_) | fail))) <;> (refine wa_do 11 ?_ <;> (repeat' (first | refine red ?_ | refine redc fun r => ?_ | refine redv fun sv => ?_ | refine redf fun hbi => ?_ | refine redn fun b => ?_ | refine reds ?_ | refine redi (fun hc => ?_) (fun hc => ?_) | refine redq (fun hc => ?_) (fun hc => ?_) | refine redp (fun r => ?_) (fun r => ?_) | fail))) <;> (first | refine wa_p 12 ?_ | refine wa_p0 12 ?_)))))); rotate_right; (focus ((repeat' (first | refine red ?_ | refine redc fun r => ?_ | refine redv fun sv => ?_ | refine redf fun hbi => ?_ | refine redn fun b => ?_ | refine reds ?_ | refine redi (fun hc => ?_) (fun hc => ?_) | refine redq (fun hc => ?_) (fun hc => ?_) | refine redp (fun r => ?_) (fun r => ?_) | fail)) <;> (refine wa_do 8 ?_ <;> (repeat' (first | refine red ?_ | refine redc fun r => ?_ | refine redv fun sv => ?_ | refine redf fun hbi => ?_ | refine redn fun b => ?_ | refine reds ?_ | refine redi (fun hc => ?_) (fun hc => ?_) | refine redq (fun hc => ?_) (fun hc => ?_) | refine redp (fun r => ?_) (fun r => ?_) | fail))) <;> (refine wa_do 9 ?_ <;> (repeat' (first | refine red ?_ | refine redc fun r => ?_ | refine redv fun sv => ?_ | refine redf fun hbi => ?_ | refine redn fun b => ?_ | refine reds ?_ | refine redi (fun hc => ?_) (fun hc => ?_) | refine redq (fun hc => ?_) (fun hc => ?_) | refine redp (fun r => ?_) (fun r => ?_) | fail))) <;> (refine wa_do 10 ?_ <;> (repeat' (first | refine red ?_ | refine redc fun r => ?_ | refine redv fun sv => ?_ | refine redf fun hbi => ?_ | refine redn fun b => ?_ | refine reds ?_ | refine redi (fun hc => ?_) (fun hc => ?_) | refine redq (fun hc => ?_) (fun hc => ?_) | refine redp (fun r => ?_) (fun r => ?_) | fail))) <;> (refine wa_do 11 ?_ <;> (repeat' (first | refine red ?_ | refine redc fun r => ?_ | refine redv fun sv => ?_ | refine redf fun hbi => ?_ | refine redn fun b => ?_ | refine reds ?_ | refine redi (fun hc => ?_) (fun hc => ?_) | refine redq (fun hc => ?_) (fun hc => ?_) | refine redp (fun r => ?_) (fun r => ?_) | fail))) <;> (first | refine wa_p 12 ?_ | refine wa_p0 12 ?_))))) <;> (first | refine wa_end ?_ | with_reducible refine wq_keep ?_)) | fail)
  all_goals first
    | (rw [e] at hc
       rw [put_no (by omega)]
       simp only [Option.getD_none, Option.isSome_none]
       exact ⟨_, rfl, ent_e⟩)
    | (rw [e] at hc ⊢
       rw [put_yes (by omega)]
       simp only [Option.getD_some, Option.isSome_some]
       exact ⟨_, rfl, ent_e⟩)
    | fail
instance put_ctr {Γ : List Atom} {va vt vu : Value} {a t u : List Int} {at_ : Int} {m : Nat} [hm : ToN at_ m] [h0 : HasRd (List Int) repList Γ [va] a] [h1 : HasRd (List Int) repList Γ [vt] t] [h2 : HasRd (List Int) repList Γ [vu] u] :
    CtrC Try.prog 175 [.agg #[va], vt, .int .i64 at_, vu] Γ ((termOk a t = true ∧ 0 ≤ at_ ∧ at_ < t.length) ∧ (u.length ≤ 60)) (Value) (fun q : Value => .tuple #[q, .bool (putOf a t m u).isSome]) (fun q => .ow [q] ((putOf a t m u).getD []) :: Γ) := ⟨fun s w0 => put_spec s.1 s.2⟩

theorem l3Put_spec {w0 : World} {Γ : List Atom} {va vt vu : Value} {a t u : List Int} {at_ : Int} {m : Nat} [hm : ToN at_ m] [h0 : HasRd (List Int) repList Γ [va] a] [h1 : HasRd (List Int) repList Γ [vt] t] [h2 : HasRd (List Int) repList Γ [vu] u] (hs : termOk a t = true ∧ 0 ≤ at_ ∧ at_ < t.length) (hu : u.length ≤ 60) :
    CJ Try.prog 170 [.agg #[va], vt, .int .i64 at_, vu] w0 Γ (fun q : Value => .tuple #[q, .bool (putOf a t m u).isSome]) (fun q => .ow [q] ((putOf a t m u).getD []) :: Γ) := by
  obtain ⟨hs1, hs2, hs3⟩ := hs
  obtain rfl : at_ = (m : Int) := by have := hm.eq; omega
  have hsig := termOk_sig hs1
  have htl := termOk_len hs1
  have he := end_S hs1 (k := m) (by omega)
  have hta := (term_at hs1 (k := m) (by omega)).2
  have e : List.take ((m : Int)).toNat t ++ u ++ List.drop (endOf a (badS a) t m).toNat t = putL a t m u := by
    rw [he]
    simp only [putL, Int.toNat_natCast]
  refine cj_lift (R := [.rd [va] a, .rd [vt] t, .rd [vu] u]) (A := fun q : Value => [.ow [q] ((putOf a t m u).getD [])]) (fun w1 => ?_) (reads_cons h0 (reads_cons h1 (reads_cons h2 (inferInstance)))) (fun _ => inferInstance)
  simp only [List.cons_append, List.nil_append]
  refine cj_enter Try.func170 Try.ntmps170 ?_
  repeat' (first | refine red ?_ | refine redf fun hbi => ?_ | refine reds ?_ | refine redc fun r => ?_ | refine redp (fun r => ?_) (fun r => ?_) | refine redv fun sv => ?_ | refine redn fun b => ?_ | refine redz fun zs => ?_ | refine redq (fun hc => ?_) (fun hc => ?_) | with_reducible refine wq_blk_o rfl ?_ | (refine redi (fun hc => ?_) (fun hc => ?_) <;> try first | (exfalso; omega) | exact absurd rfl hc) | fail)
  all_goals first
    | (rw [e] at hc
       rw [put_no (by omega)]
       simp only [Option.getD_none, Option.isSome_none]
       exact ⟨_, rfl, ent_e⟩)
    | (rw [e] at hc ⊢
       rw [put_yes (by omega)]
       simp only [Option.getD_some, Option.isSome_some]
       exact ⟨_, rfl, ent_e⟩)
    | fail

instance l3Put_ctr {Γ : List Atom} {va vt vu : Value} {a t u : List Int} {at_ : Int} {m : Nat} [hm : ToN at_ m] [h0 : HasRd (List Int) repList Γ [va] a] [h1 : HasRd (List Int) repList Γ [vt] t] [h2 : HasRd (List Int) repList Γ [vu] u] :
    CtrC Try.prog 170 [.agg #[va], vt, .int .i64 at_, vu] Γ ((termOk a t = true ∧ 0 ≤ at_ ∧ at_ < t.length) ∧ (u.length ≤ 60)) (Value) (fun q : Value => .tuple #[q, .bool (putOf a t m u).isSome]) (fun q => .ow [q] ((putOf a t m u).getD []) :: Γ) := ⟨fun s w0 => l3Put_spec s.1 s.2⟩

def stepOf (x : SSystem) (t : List Int) (k r : Nat) : Option (List Int) :=
  match matchOf x.1 (x.2.getD r default).1 (subt x.1 t k) with
  | none => none
  | some s => match fillOf s (x.2.getD r default).2 with
    | none => none
    | some u => putOf x.1 t k u
theorem match_le {a p t : List Int} (ht : termOk a t = true) : ∀ x ∈ (matchOf a p t).getD [], x.length ≤ 60 := by
  unfold matchOf
  cases hg : matchGo a p t (List.replicate 24 []) with
  | none => simp
  | some ys =>
    obtain ⟨h1, h2⟩ := match_bound p t _ ys hg (termOk_len ht).2 rep_le
    simp only [Option.map_some, Option.getD_some]
    intro x hx
    rcases plain_mem hx with h | h
    · rw [h]; simp
    · exact h2 x h
theorem fill_le (ts : List (List Int)) (t : List Int) : ((fillOf ts t).getD []).length ≤ 60 := by
  unfold fillOf
  split
  · simpa
  · simp
theorem putOf_le (a t : List Int) (k : Nat) (u : List Int) : ((putOf a t k u).getD []).length ≤ 60 := by
  unfold putOf
  split
  · simpa
  · simp
theorem term_min {a t : List Int} (h : termOk a t = true) : ∀ n ∈ t, -24 ≤ n := by
  rw [termOk_min] at h
  simp only [Bool.and_eq_true, decide_eq_true_eq] at h
  exact h.1.2
theorem step_no {x : SSystem} {t : List Int} {k r : Nat} (h : (matchOf x.1 (x.2.getD r default).1 (subt x.1 t k)).isSome = false) : stepOf x t k r = none := by
  unfold stepOf
  cases hm : matchOf x.1 (x.2.getD r default).1 (subt x.1 t k) with
  | none => rfl
  | some s => rw [hm] at h; cases h
theorem step_no2 {x : SSystem} {t : List Int} {k r : Nat} (h : (fillOf ((matchOf x.1 (x.2.getD r default).1 (subt x.1 t k)).getD []) (x.2.getD r default).2).isSome = false) : stepOf x t k r = none := by
  unfold stepOf
  cases hm : matchOf x.1 (x.2.getD r default).1 (subt x.1 t k) with
  | none => rfl
  | some s =>
    rw [hm] at h
    simp only [Option.getD_some] at h
    cases hf : fillOf s (x.2.getD r default).2 with
    | none => simp only [hf]
    | some u => rw [hf] at h; cases h
theorem step_yes {x : SSystem} {t : List Int} {k r : Nat} (h : (matchOf x.1 (x.2.getD r default).1 (subt x.1 t k)).isSome = true) (h2 : (fillOf ((matchOf x.1 (x.2.getD r default).1 (subt x.1 t k)).getD []) (x.2.getD r default).2).isSome = true) :
    stepOf x t k r = putOf x.1 t k ((fillOf ((matchOf x.1 (x.2.getD r default).1 (subt x.1 t k)).getD []) (x.2.getD r default).2).getD []) := by
  unfold stepOf
  cases hm : matchOf x.1 (x.2.getD r default).1 (subt x.1 t k) with
  | none => rw [hm] at h; cases h
  | some s =>
    rw [hm] at h2
    simp only [Option.getD_some] at h2 ⊢
    cases hf : fillOf s (x.2.getD r default).2 with
    | none => rw [hf] at h2; cases h2
    | some u => simp only [hf, Option.getD_some]
theorem step_spec {w0 : World} {Γ : List Atom} {v0 v1 v : Value} {x : SSystem} {t : List Int} {at_ rule : Int} [h0 : HasRd (List Int) repList Γ [v0] x.1] [h1 : HasRd (List SRule) repList Γ [v1] x.2] [h2 : HasRd (List Int) repList Γ [v] t] (hs : RedP x t at_ rule) : CJ Try.prog 127 [.agg #[v0, v1], v, .int .i64 at_, .int .i64 rule] w0 Γ (fun q : Value => .tuple #[q, .bool (stepOf x t at_.toNat rule.toNat).isSome]) (fun q => .ow [q] ((stepOf x t at_.toNat rule.toNat).getD []) :: Γ) := by
  obtain ⟨hs1, hs2, hs5, hs6⟩ := hs
  have hL := sys_left hs1 (k := rule.toNat) (by omega)
  have hR := sys_right hs1 (k := rule.toNat) (by omega)
  have hT := subt_ok hs2.1 (k := at_.toNat) (by omega)
  have hle := match_le (p := (x.2.getD rule.toNat default).1) hT
  have hfl := fill_le ((matchOf x.1 (x.2.getD rule.toNat default).1 (subt x.1 t at_.toNat)).getD []) (x.2.getD rule.toNat default).2
  have hRl := (termOk_len hR).2
  have hRm := term_min hR
  have hs21 := hs2.1
  refine cj_lift (R := [.rd [v0] x.1, .rd [v1] x.2, .rd [v] t]) (A := fun q : Value => [.ow [q] ((stepOf x t at_.toNat rule.toNat).getD [])]) (fun w1 => ?_) (reads_cons h0 (reads_cons h1 (reads_cons h2 (inferInstance)))) (fun _ => inferInstance)
  simp only [List.cons_append, List.nil_append]
  refine cj_enter Try.func127 Try.ntmps127 ?_
  repeat' (first | refine red ?_ | refine redf fun hbi => ?_ | refine reds ?_ | refine redc fun r => ?_ | refine redp (fun r => ?_) (fun r => ?_) | refine redv fun sv => ?_ | refine redn fun b => ?_ | refine redz fun zs => ?_ | refine redq (fun hc => ?_) (fun hc => ?_) | with_reducible refine wq_blk_o rfl ?_ | (refine redd fun p cs as_ hcs has hf => ?_; simp only [Un.cells, Un.atoms, Un.fact, List.cons_append, List.nil_append] at hcs has hf; subst hcs has) | (refine redi (fun hc => ?_) (fun hc => ?_) <;> try first | (exfalso; omega) | exact absurd rfl hc) | ((refine wa_begin 1 [false, false, false, false, false, false, false, false, false, false, false, false, false, false, false, false, false, false, false, false] [] ?_ <;> (first | refine wa_p 0 ?_ | refine wa_p0 0 ?_ | fail) <;> refine wa_p 1 ?_ <;> (first | refine wa_p 2 ?_ | refine wa_p0 2 ?_ | fail) <;> (first | refine wa_f 3 fun hbi => ?_ | refine wa_p 3 ?_ | fail) <;> (first | refine wa_p 4 ?_ | refine wa_p0 4 ?_) <;> (first | refine wa_p 5 ?_ | (refine wa_deep 5 fun p cs as_ asb_ hcs has hasb hf => ?_; simp only [Un.cells, Un.atoms, Un.fact, List.cons_append, List.nil_append] at hcs has hasb hf; subst hcs has hasb) | fail) <;> (first | refine wa_p 6 ?_ | refine wa_p0 6 ?_ | fail) <;> (first | refine wa_f 7 fun hbi => ?_ | refine wa_p 7 ?_ | fail) <;> (first | refine wa_p 8 ?_ | refine wa_p0 8 ?_ | fail) <;> refine wa_p 9 ?_ <;> (first | refine wa_p 10 ?_ | refine wa_p0 10 ?_) <;> (first | refine wa_p 11 ?_ | refine wa_p0 11 ?_) <;> (refine wa_two 12 17 ?_ ?_; rotate_right; (focus ((repeat' (first | refine red ?_ | refine redc fun r => ?_ | refine redv fun sv => ?_ | refine redf fun hbi => ?_ | refine redn fun b => ?_ | refine reds ?_ | refine redi (fun hc => ?_) (fun hc => ?_) | refine redq (fun hc => ?_) (fun hc => ?_) | refine redp (fun r => ?_) (fun r => ?_) | fail)) <;> (refine wa_do 12 ?_ <;> (repeat' (first | refine red ?_ | refine redc fun r => ?_ | refine redv fun sv => ?_ | refine redf fun hbi => ?_ | refine redn fun b => ?_ | refine reds ?_ | refine redi (fun hc => ?_) (fun hc => ?_) | refine redq (fun hc => ?_) (fun hc => ?_) | refine redp (fun r => ?_) (fun r => ?_) | fail))) <;> (refine wa_do 13 ?_ <;> (repeat' (first | refine red ?_ | refine redc fun r => ?_ | refine redv fun sv => ?_ | refine redf fun hbi => ?_ | refine redn fun b => ?_ | refine reds ?_ | refine redi (fun hc => ?_) (fun hc => ?_) | refine redq (fun hc => ?_) (fun hc => ?_) | refine redp (fun r => ?_) (fun r => ?_) | fail))) <;> (first | refine wa_p 14 ?_ | refine wa_p0 14 ?_) <;> (first | refine wa_p 15 ?_ | refine wa_p0 15 ?_) <;> (first | refine wa_p 16 ?_ | refine wa_p0 16 ?_) <;> (refine wa_do 18 ?_ <;> (repeat' (first | refine red ?_ | refine redc fun r => ?_ | refine redv fun sv => ?_ | refine redf fun hbi => ?_ | refine redn fun b => ?_ | refine reds ?_ | refine redi (fun hc => ?_) (fun hc => ?_) | refine redq (fun hc => ?_) (fun hc => ?_) | refine redp (fun r => ?_) (fun r => ?_) | fail))) <;> (first | refine wa_p 19 ?_ | refine wa_p0 19 ?_))); rotate_right; (focus ((repeat' (first | refine red ?_ | refine redc fun r => ?_ | refine redv fun sv => ?_ | refine redf fun hbi => ?_ | refine redn fun b => ?_ | refine reds ?_ | refine redi (fun hc => ?_) (fun hc => ?_) | refine redq (fun hc => ?_) (fun hc => ?_) | refine redp (fun r => ?_) (fun r => ?_) | fail)) <;> (refine wa_two 13 17 ?_ ?_; rotate_right; (focus ((repeat' (first | refine red ?_ | refine redc fun r => ?_ | refine redv fun sv => ?_ | refine redf fun hbi => ?_ | refine redn fun b => ?_ | refine reds ?_ | refine redi (fun hc => ?_) (fun hc => ?_) | refine redq (fun hc => ?_) (fun hc => ?_) | refine redp (fun r => ?_) (fun r => ?_) | fail)) <;> (refine wa_do 13 ?_ <;> (repeat' (first | refine red ?_ | refine redc fun r => ?_ | refine redv fun sv => ?_ | refine redf fun hbi => ?_ | refine redn fun b => ?_ | refine reds ?_ | refine redi (fun hc => ?_) (fun hc => ?_) | refine redq (fun hc => ?_) (fun hc => ?_) | refine redp (fun r => ?_) (fun r => ?_) | fail))) <;> (first | refine wa_p 14 ?_ | refine wa_p0 14 ?_) <;> (first | refine wa_p 15 ?_ | refine wa_p0 15 ?_) <;> (first | refine wa_p 16 ?_ | refine wa_p0 16 ?_) <;> (refine wa_do 18 ?_ <;> (repeat' (first | refine red ?_ | refine redc fun r => ?_ | refine redv fun sv => ?_ | refine redf fun hbi => ?_ | refine redn fun b => ?_ | refine reds ?_ | refine redi (fun hc => ?_) (fun hc => ?_) | refine redq (fun hc => ?_) (fun hc => ?_) | refine redp (fun r => ?_) (fun r => ?_) | fail))) <;> (first | refine wa_p 19 ?_ | refine wa_p0 19 ?_))); rotate_right; (focus ((repeat' (first | refine red ?_ | refine redc fun r => ?_ | refine redv fun sv => ?_ | refine redf fun hbi => ?_ | refine redn fun b => ?_ | refine reds ?_ | refine redi (fun hc => ?_) (fun hc => ?_) | refine redq (fun hc => ?_) (fun hc => ?_) | refine redp (fun r => ?_) (fun r => ?_) | fail)) <;> (first | refine wa_p 14 ?_ | refine wa_p0 14 ?_) <;> (first | refine wa_p 15 ?_ | refine wa_p0 15 ?_) <;> (first | refine wa_p 16 ?_ | refine wa_p0 16 ?_) <;> (refine wa_do 17 ?_ <;> (repeat' (first | refine red ?_ | refine redc fun r => ?_ | refine redv fun sv => ?_ | refine redf fun hbi => ?_ | refine redn fun b => ?_ | refine reds ?_ | refine redi (fun hc => ?_) (fun hc => ?_) | refine redq (fun hc => ?_) (fun hc => ?_) | refine redp (fun r => ?_) (fun r => ?_) | fail))) <;> (refine wa_do 18 ?_ <;> (repeat' (first | refine red ?_ | refine redc fun r => ?_ | refine redv fun sv => ?_ | refine redf fun hbi => ?_ | refine redn fun b => ?_ | refine reds ?_ | refine redi (fun hc => ?_) (fun hc => ?_) | refine redq (fun hc => ?_) (fun hc => ?_) | refine redp (fun r => ?_) (fun r => ?_) | fail))) <;> (first | refine wa_p 19 ?_ | refine wa_p0 19 ?_)))))))) <;> (first | refine wa_end ?_ | with_reducible refine wq_keep ?_)) | ((refine wa_begin 4 [false, false, false, false, false, false, false, false, false, false, false, false, false] [] ?_ <;> (first | refine wa_f 0 fun hbi => ?_ | refine wa_p 0 ?_ | fail) <;> (first | refine wa_p 1 ?_ | refine wa_p0 1 ?_ | fail) <;> (first | refine wa_f 2 fun hbi => ?_ | refine wa_p 2 ?_ | fail) <;> (first | refine wa_p 3 ?_ | refine wa_p0 3 ?_) <;> (first | refine wa_p 4 ?_ | (refine wa_deep 4 fun p cs as_ asb_ hcs has hasb hf => ?_; simp only [Un.cells, Un.atoms, Un.fact, List.cons_append, List.nil_append] at hcs has hasb hf; subst hcs has hasb) | fail) <;> (first | refine wa_p 5 ?_ | refine wa_p0 5 ?_ | (refine wa_do 5 ?_ <;> (repeat' (first | refine red ?_ | refine redc fun r => ?_ | refine redv fun sv => ?_ | refine redf fun hbi => ?_ | refine redn fun b => ?_ | refine reds ?_ | refine redi (fun hc => ?_) (fun hc => ?_) | refine redq (fun hc => ?_) (fun hc => ?_) | refine redp (fun r => ?_) (fun r => ?_) | fail))) | fail) <;> (first | refine wa_f 6 fun hbi => ?_ | refine wa_p 6 ?_ | (refine wa_do 6 ?_ <;> (repeat' (first | refine red ?_ | refine redc fun r => ?_ | refine redv fun sv => ?_ | refine redf fun hbi => ?_ | refine redn fun b => ?_ | refine reds ?_ | refine redi (fun hc => ?_) (fun hc => ?_) | refine redq (fun hc => ?_) (fun hc => ?_) | refine redp (fun r => ?_) (fun r => ?_) | fail))) | fail) <;> (refine wa_do 7 ?_ <;> (repeat' (first | refine red ?_ | refine redc fun r => ?_ | refine redv fun sv => ?_ | refine redf fun hbi => ?_ | refine redn fun b => ?_ | refine reds ?_ | refine redi (fun hc => ?_) (fun hc => ?_) | refine redq (fun hc => ?_) (fun hc => ?_) | refine redp (fun r => ?_) (fun r => ?_) | fail))) <;> (first | refine wa_p 8 ?_ | refine wa_p0 8 ?_) <;> (first | refine wa_p 9 ?_ | refine wa_p0 9 ?_) <;> (first | refine wa_p 10 ?_ | refine wa_p0 10 ?_) <;> (first | refine wa_p 11 ?_ | refine wa_p0 11 ?_) <;> (first | refine wa_p 12 ?_ | refine wa_p0 12 ?_)) <;> (first | refine wa_end ?_ | with_reducible refine wq_keep ?_)) | fail)
  all_goals first
    | (rw [step_no ‹(matchOf _ _ _).isSome = false›]
       simp only [Option.getD_none, Option.isSome_none]
       exact ⟨_, rfl, ent_e⟩)
    | (rw [step_no2 ‹(fillOf _ _).isSome = false›]
       simp only [Option.getD_none, Option.isSome_none]
       exact ⟨_, rfl, ent_e⟩)
    | (rw [step_yes ‹(matchOf _ _ _).isSome = true› ‹(fillOf _ _).isSome = true›]
       exact ⟨_, rfl, ent_e⟩)
    | fail
instance step_ctr {Γ : List Atom} {v0 v1 v : Value} {x : SSystem} {t : List Int} {at_ rule : Int} [h0 : HasRd (List Int) repList Γ [v0] x.1] [h1 : HasRd (List SRule) repList Γ [v1] x.2] [h2 : HasRd (List Int) repList Γ [v] t] :
    CtrC Try.prog 127 [.agg #[v0, v1], v, .int .i64 at_, .int .i64 rule] Γ (RedP x t at_ rule) (Value) (fun q : Value => .tuple #[q, .bool (stepOf x t at_.toNat rule.toNat).isSome]) (fun q => .ow [q] ((stepOf x t at_.toNat rule.toNat).getD []) :: Γ) := ⟨fun s w0 => step_spec s⟩

theorem l7Step_spec {w0 : World} {Γ : List Atom} {v0 v1 v : Value} {x : SSystem} {t : List Int} {at_ rule : Int} [h0 : HasRd (List Int) repList Γ [v0] x.1] [h1 : HasRd (List SRule) repList Γ [v1] x.2] [h2 : HasRd (List Int) repList Γ [v] t] (hs : RedP x t at_ rule) : CJ Try.prog 122 [.agg #[v0, v1], v, .int .i64 at_, .int .i64 rule] w0 Γ (fun q : Value => .tuple #[q, .bool (stepOf x t at_.toNat rule.toNat).isSome]) (fun q => .ow [q] ((stepOf x t at_.toNat rule.toNat).getD []) :: Γ) := by
  obtain ⟨hs1, hs2, hs5, hs6⟩ := hs
  have hL := sys_left hs1 (k := rule.toNat) (by omega)
  have hR := sys_right hs1 (k := rule.toNat) (by omega)
  have hT := subt_ok hs2.1 (k := at_.toNat) (by omega)
  have hle := match_le (p := (x.2.getD rule.toNat default).1) hT
  have hfl := fill_le ((matchOf x.1 (x.2.getD rule.toNat default).1 (subt x.1 t at_.toNat)).getD []) (x.2.getD rule.toNat default).2
  have hRl := (termOk_len hR).2
  have hRm := term_min hR
  have hs21 := hs2.1
  refine cj_lift (R := [.rd [v0] x.1, .rd [v1] x.2, .rd [v] t]) (A := fun q : Value => [.ow [q] ((stepOf x t at_.toNat rule.toNat).getD [])]) (fun w1 => ?_) (reads_cons h0 (reads_cons h1 (reads_cons h2 (inferInstance)))) (fun _ => inferInstance)
  simp only [List.cons_append, List.nil_append]
  refine cj_enter Try.func122 Try.ntmps122 ?_
  repeat' (first | refine red ?_ | refine redf fun hbi => ?_ | refine reds ?_ | refine redc fun r => ?_ | refine redp (fun r => ?_) (fun r => ?_) | refine redv fun sv => ?_ | refine redn fun b => ?_ | refine redz fun zs => ?_ | refine redq (fun hc => ?_) (fun hc => ?_) | with_reducible refine wq_blk_o rfl ?_ | (refine redd fun p cs as_ hcs has hf => ?_; simp only [Un.cells, Un.atoms, Un.fact, List.cons_append, List.nil_append] at hcs has hf; subst hcs has) | (refine redi (fun hc => ?_) (fun hc => ?_) <;> try first | (exfalso; omega) | exact absurd rfl hc) | ((refine wa_begin 2 [false, false, false, false, false, false, false, false, false, false, false, false, false, false, false, false] [] ?_ <;> (first | refine wa_p 0 ?_ | refine wa_p0 0 ?_ | fail) <;> refine wa_p 1 ?_ <;> (first | refine wa_p 2 ?_ | refine wa_p0 2 ?_ | fail) <;> (first | refine wa_f 3 fun hbi => ?_ | refine wa_p 3 ?_ | fail) <;> (first | refine wa_p 4 ?_ | refine wa_p0 4 ?_ | fail) <;> refine wa_p 5 ?_ <;> (first | refine wa_p 6 ?_ | refine wa_p0 6 ?_) <;> (first | refine wa_p 7 ?_ | refine wa_p0 7 ?_) <;> (refine wa_two 8 13 ?_ ?_; rotate_right; (focus ((repeat' (first | refine red ?_ | refine redc fun r => ?_ | refine redv fun sv => ?_ | refine redf fun hbi => ?_ | refine redn fun b => ?_ | refine reds ?_ | refine redi (fun hc => ?_) (fun hc => ?_) | refine redq (fun hc => ?_) (fun hc => ?_) | refine redp (fun r => ?_) (fun r => ?_) | fail)) <;> (refine wa_do 8 ?_ <;> (repeat' (first | refine red ?_ | refine redc fun r => ?_ | refine redv fun sv => ?_ | refine redf fun hbi => ?_ | refine redn fun b => ?_ | refine reds ?_ | refine redi (fun hc => ?_) (fun hc => ?_) | refine redq (fun hc => ?_) (fun hc => ?_) | refine redp (fun r => ?_) (fun r => ?_) | fail))) <;> (refine wa_do 9 ?_ <;> (repeat' (first | refine red ?_ | refine redc fun r => ?_ | refine redv fun sv => ?_ | refine redf fun hbi => ?_ | refine redn fun b => ?_ | refine reds ?_ | refine redi (fun hc => ?_) (fun hc => ?_) | refine redq (fun hc => ?_) (fun hc => ?_) | refine redp (fun r => ?_) (fun r => ?_) | fail))) <;> (first | refine wa_p 10 ?_ | refine wa_p0 10 ?_) <;> (first | refine wa_p 11 ?_ | refine wa_p0 11 ?_) <;> (first | refine wa_p 12 ?_ | refine wa_p0 12 ?_) <;> (refine wa_do 14 ?_ <;> (repeat' (first | refine red ?_ | refine redc fun r => ?_ | refine redv fun sv => ?_ | refine redf fun hbi => ?_ | refine redn fun b => ?_ | refine reds ?_ | refine redi (fun hc => ?_) (fun hc => ?_) | refine redq (fun hc => ?_) (fun hc => ?_) | refine redp (fun r => ?_) (fun r => ?_) | fail))) <;> (first | refine wa_p 15 ?_ | refine wa_p0 15 ?_))); rotate_right; (focus ((repeat' (first | refine red ?_ | refine redc fun r => ?_ | refine redv fun sv => ?_ | refine redf fun hbi => ?_ | refine redn fun b => ?_ | refine reds ?_ | refine redi (fun hc => ?_) (fun hc => ?_) | refine redq (fun hc => ?_) (fun hc => ?_) | refine redp (fun r => ?_) (fun r => ?_) | fail)) <;> (refine wa_two 9 13 ?_ ?_; rotate_right; (focus ((repeat' (first | refine red ?_ | refine redc fun r => ?_ | refine redv fun sv => ?_ | refine redf fun hbi => ?_ | refine redn fun b => ?_ | refine reds ?_ | refine redi (fun hc => ?_) (fun hc => ?_) | refine redq (fun hc => ?_) (fun hc => ?_) | refine redp (fun r => ?_) (fun r => ?_) | fail)) <;> (refine wa_do 9 ?_ <;> (repeat' (first | refine red ?_ | refine redc fun r => ?_ | refine redv fun sv => ?_ | refine redf fun hbi => ?_ | refine redn fun b => ?_ | refine reds ?_ | refine redi (fun hc => ?_) (fun hc => ?_) | refine redq (fun hc => ?_) (fun hc => ?_) | refine redp (fun r => ?_) (fun r => ?_) | fail))) <;> (first | refine wa_p 10 ?_ | refine wa_p0 10 ?_) <;> (first | refine wa_p 11 ?_ | refine wa_p0 11 ?_) <;> (first | refine wa_p 12 ?_ | refine wa_p0 12 ?_) <;> (refine wa_do 14 ?_ <;> (repeat' (first | refine red ?_ | refine redc fun r => ?_ | refine redv fun sv => ?_ | refine redf fun hbi => ?_ | refine redn fun b => ?_ | refine reds ?_ | refine redi (fun hc => ?_) (fun hc => ?_) | refine redq (fun hc => ?_) (fun hc => ?_) | refine redp (fun r => ?_) (fun r => ?_) | fail))) <;> (first | refine wa_p 15 ?_ | refine wa_p0 15 ?_))); rotate_right; (focus ((repeat' (first | refine red ?_ | refine redc fun r => ?_ | refine redv fun sv => ?_ | refine redf fun hbi => ?_ | refine redn fun b => ?_ | refine reds ?_ | refine redi (fun hc => ?_) (fun hc => ?_) | refine redq (fun hc => ?_) (fun hc => ?_) | refine redp (fun r => ?_) (fun r => ?_) | fail)) <;> (first | refine wa_p 10 ?_ | refine wa_p0 10 ?_) <;> (first | refine wa_p 11 ?_ | refine wa_p0 11 ?_) <;> (first | refine wa_p 12 ?_ | refine wa_p0 12 ?_) <;> (refine wa_do 13 ?_ <;> (repeat' (first | refine red ?_ | refine redc fun r => ?_ | refine redv fun sv => ?_ | refine redf fun hbi => ?_ | refine redn fun b => ?_ | refine reds ?_ | refine redi (fun hc => ?_) (fun hc => ?_) | refine redq (fun hc => ?_) (fun hc => ?_) | refine redp (fun r => ?_) (fun r => ?_) | fail))) <;> (refine wa_do 14 ?_ <;> (repeat' (first | refine red ?_ | refine redc fun r => ?_ | refine redv fun sv => ?_ | refine redf fun hbi => ?_ | refine redn fun b => ?_ | refine reds ?_ | refine redi (fun hc => ?_) (fun hc => ?_) | refine redq (fun hc => ?_) (fun hc => ?_) | refine redp (fun r => ?_) (fun r => ?_) | fail))) <;> (first | refine wa_p 15 ?_ | refine wa_p0 15 ?_)))))))) <;> (first | refine wa_end ?_ | with_reducible refine wq_keep ?_)) | fail)
  all_goals first
    | (rw [step_no ‹(matchOf _ _ _).isSome = false›]
       simp only [Option.getD_none, Option.isSome_none]
       exact ⟨_, rfl, ent_e⟩)
    | (rw [step_no2 ‹(fillOf _ _).isSome = false›]
       simp only [Option.getD_none, Option.isSome_none]
       exact ⟨_, rfl, ent_e⟩)
    | (rw [step_yes ‹(matchOf _ _ _).isSome = true› ‹(fillOf _ _).isSome = true›]
       exact ⟨_, rfl, ent_e⟩)
    | trace_state
instance l7Step_ctr {Γ : List Atom} {v0 v1 v : Value} {x : SSystem} {t : List Int} {at_ rule : Int} [h0 : HasRd (List Int) repList Γ [v0] x.1] [h1 : HasRd (List SRule) repList Γ [v1] x.2] [h2 : HasRd (List Int) repList Γ [v] t] :
    CtrC Try.prog 122 [.agg #[v0, v1], v, .int .i64 at_, .int .i64 rule] Γ (RedP x t at_ rule) (Value) (fun q : Value => .tuple #[q, .bool (stepOf x t at_.toNat rule.toNat).isSome]) (fun q => .ow [q] ((stepOf x t at_.toNat rule.toNat).getD []) :: Γ) := ⟨fun s w0 => l7Step_spec s⟩

def stepAt (x : SSystem) (t : List Int) (at_ rule : Int) : Option (List Int) := if RedP x t at_ rule then stepOf x t at_.toNat rule.toNat else none
theorem stepAt_no {x : SSystem} {t : List Int} {at_ rule : Int} (h : ¬ RedP x t at_ rule) : stepAt x t at_ rule = none := if_neg h
theorem stepAt_yes {x : SSystem} {t : List Int} {at_ rule : Int} (h : RedP x t at_ rule) : stepAt x t at_ rule = stepOf x t at_.toNat rule.toNat := if_pos h
theorem stepOf_le (x : SSystem) (t : List Int) (k r : Nat) : ((stepOf x t k r).getD []).length ≤ 60 := by
  unfold stepOf
  split
  · simp
  · split
    · simp
    · exact putOf_le _ _ _ _
theorem stepAt_le (x : SSystem) (t : List Int) (at_ rule : Int) : ((stepAt x t at_ rule).getD []).length ≤ 60 := by
  unfold stepAt
  split
  · exact stepOf_le _ _ _ _
  · simp
end Go.Proofs.Ytfdpmkilhllkoaa
