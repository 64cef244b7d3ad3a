/- The law FnEmbeds: an embedding stands where the subterm is an instance. -/
import Derived.Test.YtmlnobegikdenaaDraw4
namespace Go.Proofs.Ytmlnobegikdenaa
open Go Go.Eng
set_option linter.unusedVariables false
set_option linter.unusedSimpArgs false
set_option synthInstance.maxHeartbeats 400000
set_option synthInstance.maxSize 1000

theorem sel_pre {f : Nat → Bool} (m : Nat) : ∀ j, ∃ s, selTo f (m + j) = selTo f m ++ s
  | 0 => ⟨[], by simp⟩
  | j + 1 => by
    obtain ⟨s, hs⟩ := sel_pre (f := f) m j
    rw [show m + (j + 1) = (m + j) + 1 by omega]
    by_cases h : f (m + j) = true
    · refine ⟨s ++ [((m + j : Nat) : Int)], ?_⟩
      have e : selTo f (m + j + 1) = selTo f (m + j) ++ [((m + j : Nat) : Int)] := if_pos h
      rw [e, hs, List.append_assoc]
    · have e : selTo f (m + j + 1) = selTo f (m + j) := if_neg h
      exact ⟨s, by rw [e, hs]⟩
theorem sel_at {f : Nat → Bool} {m n : Nat} (h : m < n) (hf : f m = true) : (selTo f m).length < (selTo f n).length ∧ (selTo f n).getD (selTo f m).length 0 = (m : Int) := by
  obtain ⟨s, hs⟩ := sel_pre (f := f) (m + 1) (n - (m + 1))
  rw [show m + 1 + (n - (m + 1)) = n by omega] at hs
  have e : selTo f (m + 1) = selTo f m ++ [(m : Int)] := by
    exact if_pos hf
  rw [hs, e]
  constructor
  · simp only [List.length_append, List.length_cons, List.length_nil]; omega
  · rw [List.getD_eq_getElem?_getD, List.append_assoc, List.getElem?_append_right (Nat.le_refl _), Nat.sub_self]
    rfl
theorem sel_in {f : Nat → Bool} {x : Int} : ∀ m, x ∈ selTo f m → 0 ≤ x ∧ x < m ∧ f x.toNat = true
  | 0, h => by cases h
  | m + 1, h => by
    unfold selTo at h
    split at h
    · rcases List.mem_append.1 h with h1 | h1
      · have := sel_in m h1
        exact ⟨this.1, by omega, this.2.2⟩
      · rw [List.mem_singleton] at h1
        subst h1
        exact ⟨by omega, by omega, by simpa using ‹f m = true›⟩
    · have := sel_in m h
      exact ⟨this.1, by omega, this.2.2⟩
theorem sel_not {f : Nat → Bool} {m n : Nat} (hf : f m = false) {k : Nat} (hk : k < (selTo f n).length) : (selTo f n).getD k 0 ≠ (m : Int) := fun e => by
  have := sel_in n (getD_mem hk)
  rw [e] at this
  have h2 := this.2.2
  rw [Int.toNat_natCast, hf] at h2
  cases h2
theorem sel_yes {f : Nat → Bool} {m : Nat} (hf : f m = true) : selTo f (m + 1) = selTo f m ++ [(m : Int)] := if_pos hf
theorem sel_no {f : Nat → Bool} {m : Nat} (hf : f m = false) : selTo f (m + 1) = selTo f m := if_neg (by rw [hf]; decide)
theorem inst_sub {a p t : List Int} {m : Nat} (hp : termOk a p = true) (ht : termOk a t = true) (hm : m < t.length) : instanceIn a p (subt a t m) = instOf a p (subt a t m) := by
  unfold instanceIn instOf
  rw [matched_yes hp (subt_ok ht hm)]
theorem FnEmbeds_spec {w0 : World} {Γ : List Atom} {v : Value} {code : List UInt8} [hv : HasRd (List UInt8) repList Γ [v] code] :
    CJ Try.prog 3 [v] w0 Γ (fun _ : Unit => .bool true) (fun _ => Γ) := by
  refine cj_enter Try.func3 Try.ntmps3 ?_
  repeat' (first
    | refine red ?_
    | refine redf fun hbi => ?_
    | refine reds ?_
    | (refine redc fun r => ?_; try have hr := Subtype.property r)
    | refine redp (fun r => ?_) (fun r => ?_)
    | refine redv fun sv => ?_
    | refine redn fun b => ?_
    | refine redz fun zs => ?_
    | refine redq (fun hc => ?_) (fun hc => ?_)
    | with_reducible refine wq_blk_o rfl ?_
    | (refine redd fun p cs as_ hcs has hf => ?_; simp only [Un.cells, Un.atoms, Un.fact, List.cons_append, List.nil_append] at hcs has hf; subst hcs has)
    | (refine redi (fun hc => ?_) (fun hc => ?_) <;> try first | (exfalso; omega) | exact absurd rfl hc)
    | ((refine wa_begin 13 [false, false, false, false, false, false, false, false] [] ?_ <;> (first | refine wa_f 0 fun hbi => ?_ | refine wa_p 0 ?_ | fail) <;> (first | refine wa_p 1 ?_ | refine wa_p0 1 ?_ | fail) <;> (first | refine wa_f 2 fun hbi => ?_ | refine wa_p 2 ?_ | fail) <;> (first | refine wa_p 3 ?_ | refine wa_p0 3 ?_ | fail) <;> (first | refine wa_p 4 ?_ | refine wa_p0 4 ?_ | (refine wa_do 4 ?_ <;> (repeat' (first | refine red ?_ | (refine redc fun r => ?_; try have hr := Subtype.property r) | refine redv fun sv => ?_ | refine redf fun hbi => ?_ | refine redn fun b => ?_ | refine reds ?_ | refine redi (fun hc => ?_) (fun hc => ?_) | refine redq (fun hc => ?_) (fun hc => ?_) | refine redp (fun r => ?_) (fun r => ?_) | fail))) | fail) <;> (refine wa_do 5 ?_ <;> (repeat' (first | refine red ?_ | (refine redc fun r => ?_; try have hr := Subtype.property r) | refine redv fun sv => ?_ | refine redf fun hbi => ?_ | refine redn fun b => ?_ | refine reds ?_ | refine redi (fun hc => ?_) (fun hc => ?_) | refine redq (fun hc => ?_) (fun hc => ?_) | refine redp (fun r => ?_) (fun r => ?_) | fail))) <;> (refine wa_do 6 ?_ <;> (repeat' (first | refine red ?_ | (refine redc fun r => ?_; try have hr := Subtype.property r) | refine redv fun sv => ?_ | refine redf fun hbi => ?_ | refine redn fun b => ?_ | refine reds ?_ | refine redi (fun hc => ?_) (fun hc => ?_) | refine redq (fun hc => ?_) (fun hc => ?_) | refine redp (fun r => ?_) (fun r => ?_) | fail))) <;> (first | refine wa_p 7 ?_ | refine wa_p0 7 ?_ | (refine wa_do 7 ?_ <;> (repeat' (first | refine red ?_ | (refine redc fun r => ?_; try have hr := Subtype.property r) | refine redv fun sv => ?_ | refine redf fun hbi => ?_ | refine redn fun b => ?_ | refine reds ?_ | refine redi (fun hc => ?_) (fun hc => ?_) | refine redq (fun hc => ?_) (fun hc => ?_) | refine redp (fun r => ?_) (fun r => ?_) | fail))) | fail)) <;> (first | refine wa_end ?_ | with_reducible refine wq_keep ?_))
    | fail)
  · exact ⟨(), rfl, ent_e⟩
  · rw [embeds_no1 hc]
    exact ⟨(), rfl, ent_e⟩
  · rw [embeds_no2 hc]
    exact ⟨(), rfl, ent_e⟩
  · rename_i r1 v1 v2 _ _ _ hp
    obtain ⟨⟨⟨va, a⟩, ⟨vp, p⟩, ⟨vt, t⟩⟩, hr1, hr2, hr3⟩ := r1
    simp only at hr1 hr2 hr3 hc hp ⊢
    rw [embeds_yes hp hc]
    generalize hfe : (fun k => instOf a p (subt a t k)) = f
    have hsl := selTo_len f t.length
    refine wc_loop_c [7, 8] [42, 43, 44, 45, 48, 49, 50, 51, 52, 53, 54, 9, 55, 56, 57, 58, 59, 60, 61, 62, 63, 64, 65, 66, 67, 68, 2, 69, 70, 71, 46, 47] (ι := Nat) (fun m => [.int .i64 ((selTo f m).length : Int), .int .i64 m]) (fun m => m ≤ t.length) (fun m => t.length - m) 0 (by kernel_rfl) (Nat.zero_le _) ?_
    intro m u l' hl' hm
    simp only [patch, List.map_cons, List.map_nil, List.set_cons_zero, List.set_cons_succ] at hl'
    subst hl'
    have hml := selTo_len f m
    have hI : m < t.length → instanceIn a p (subt a t m) = f m := fun h => by rw [inst_sub hp ‹_› h, ← hfe]
    have hT : m < t.length → f m = true → (selTo f m).length < (selTo f t.length).length ∧ (selTo f t.length).getD (selTo f m).length 0 = (m : Int) := fun h h' => sel_at h h'
    have hF : f m = false → ∀ k, k < (selTo f t.length).length → (selTo f t.length).getD k 0 ≠ (m : Int) := fun h k hk => sel_not h hk
    repeat' (first
      | refine red ?_
      | refine redf fun hbi => ?_
      | refine reds ?_
      | (refine redc fun r => ?_; try have hr := Subtype.property r)
      | refine redp (fun r => ?_) (fun r => ?_)
      | refine redv fun sv => ?_
      | refine redn fun b => ?_
      | refine redz fun zs => ?_
      | refine redq (fun hc => ?_) (fun hc => ?_)
      | with_reducible refine wq_blk_o rfl ?_
      | (refine redd fun p cs as_ hcs has hf => ?_; simp only [Un.cells, Un.atoms, Un.fact, List.cons_append, List.nil_append] at hcs has hf; subst hcs has)
      | (refine redi (fun hc => ?_) (fun hc => ?_) <;> try first | (exfalso; omega) | exact absurd rfl hc)
      | ((refine wa_begin 13 [false, false, false, false, false, false, false, false] [] ?_ <;> (first | refine wa_f 0 fun hbi => ?_ | refine wa_p 0 ?_ | fail) <;> (first | refine wa_p 1 ?_ | refine wa_p0 1 ?_ | fail) <;> (first | refine wa_f 2 fun hbi => ?_ | refine wa_p 2 ?_ | fail) <;> (first | refine wa_p 3 ?_ | refine wa_p0 3 ?_ | fail) <;> (first | refine wa_p 4 ?_ | refine wa_p0 4 ?_ | (refine wa_do 4 ?_ <;> (repeat' (first | refine red ?_ | (refine redc fun r => ?_; try have hr := Subtype.property r) | refine redv fun sv => ?_ | refine redf fun hbi => ?_ | refine redn fun b => ?_ | refine reds ?_ | refine redi (fun hc => ?_) (fun hc => ?_) | refine redq (fun hc => ?_) (fun hc => ?_) | refine redp (fun r => ?_) (fun r => ?_) | fail))) | fail) <;> (refine wa_do 5 ?_ <;> (repeat' (first | refine red ?_ | (refine redc fun r => ?_; try have hr := Subtype.property r) | refine redv fun sv => ?_ | refine redf fun hbi => ?_ | refine redn fun b => ?_ | refine reds ?_ | refine redi (fun hc => ?_) (fun hc => ?_) | refine redq (fun hc => ?_) (fun hc => ?_) | refine redp (fun r => ?_) (fun r => ?_) | fail))) <;> (refine wa_do 6 ?_ <;> (repeat' (first | refine red ?_ | (refine redc fun r => ?_; try have hr := Subtype.property r) | refine redv fun sv => ?_ | refine redf fun hbi => ?_ | refine redn fun b => ?_ | refine reds ?_ | refine redi (fun hc => ?_) (fun hc => ?_) | refine redq (fun hc => ?_) (fun hc => ?_) | refine redp (fun r => ?_) (fun r => ?_) | fail))) <;> (first | refine wa_p 7 ?_ | refine wa_p0 7 ?_ | (refine wa_do 7 ?_ <;> (repeat' (first | refine red ?_ | (refine redc fun r => ?_; try have hr := Subtype.property r) | refine redv fun sv => ?_ | refine redf fun hbi => ?_ | refine redn fun b => ?_ | refine reds ?_ | refine redi (fun hc => ?_) (fun hc => ?_) | refine redq (fun hc => ?_) (fun hc => ?_) | refine redp (fun r => ?_) (fun r => ?_) | fail))) | fail)) <;> (first | refine wa_end ?_ | with_reducible refine wq_keep ?_))
      | fail)
    all_goals first
      | (exfalso
         rw [hI (by omega)] at hc
         cases hfm : f m with
         | true => exact hc (by rw [hfm, decide_eq_true (hT (by omega) hfm).2])
         | false => exact hc (by rw [hfm, decide_eq_false (hF hfm _ (by omega))]))
      | (rw [hI (by omega)] at hc
         rw [show ((selTo f m).length : Int) + 1 = ((selTo f (m + 1)).length : Int) by rw [sel_yes hc]; simp]
         exact wq_next (m + 1) (by omega) (by omega) (by kernel_rfl) ent_e)
      | (rw [hI (by omega)] at hc
         rw [← sel_no hc]
         exact wq_next (m + 1) (by omega) (by omega) (by kernel_rfl) ent_e)
      | skip
    · exfalso
      rw [hI (by omega)] at hc
      have := (hT (by omega) (by simpa using hc)).1
      omega
    · rw [show m = t.length by omega]
      exact ⟨(), ret_bool (by simp), ent_e⟩
instance FnEmbeds_ctr {Γ : List Atom} {v : Value} {code : List UInt8} [hv : HasRd (List UInt8) repList Γ [v] code] :
    CtrC Try.prog 3 [v] Γ (True) (Unit) (fun _ : Unit => .bool true) (fun _ => Γ) := ⟨fun s w0 => FnEmbeds_spec⟩

theorem FnEmbeds_law {w0 : World} {Γ : List Atom} {x0 : List UInt8} {v0_0 : Value} [h0_0 : HasRd (List UInt8) repList Γ [v0_0] x0] (hf0 : x0.length ≤ 9223372036854775807) :
    CJ Try.prog 3 [v0_0] w0 Γ (fun _ : Unit => .bool true) (fun _ => Γ) := FnEmbeds_spec
end Go.Proofs.Ytmlnobegikdenaa
