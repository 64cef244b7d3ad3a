/- The least term that an automaton takes: the reference's walk. -/
import Derived.Test.YtfdpmkilhllkoaaLea6
namespace Go.Proofs.Ytfdpmkilhllkoaa
open Go Go.Eng
set_option linter.unusedVariables false
set_option linter.unusedSimpArgs false
set_option synthInstance.maxHeartbeats 400000
set_option synthInstance.maxSize 1000
set_option maxHeartbeats 2000000
set_option maxRecDepth 20000


/-- What the rules must be. -/
structure RuS (rs : List STrans) (n : Int) : Prop where
  hn : 1 ≤ n ∧ n ≤ 16
  len : rs.length ≤ 300
  sym : ∀ r ∈ rs, 0 ≤ r.1 ∧ r.1 < 8
  args : ∀ k, k < rs.length → (rs.getD k default).2.1.length ≤ 3 ∧ (∀ c ∈ (rs.getD k default).2.1, 0 ≤ c ∧ c < n) ∧ 0 ≤ (rs.getD k default).2.2 ∧ (rs.getD k default).2.2 < n
theorem wc_ent' {P : Program} {Q : Exit → Act → World → Prop} {w0 : World} {l : List Value} {Γ Δ : List Atom} {c : Code} (he : Go.Eng.Ent w0 Γ Δ) (h : WC P Q w0 c l Δ) : WC P Q w0 c l Γ := fun w hs => h w (he w hs)
abbrev ShL2 := List (Sh (List Int))
abbrev unS (ys : ShL2) : List (List Int) := ys.map Sh.v
theorem unS_get (ys : ShL2) (m : Nat) : (ys.getD m default).v = (unS ys).getD m default := by
  rw [List.getD_eq_getElem?_getD, List.getD_eq_getElem?_getD, List.getElem?_map]
  cases ys[m]? <;> rfl
theorem unS_len (ys : ShL2) : (unS ys).length = ys.length := List.length_map _
theorem bok_len {rs : List STrans} {best : List (List Int)} (h : BOk rs best) (m : Nat) : (best.getD m default).length ≤ 60 := by
  by_cases hm : m < best.length
  · rcases h m hm with h | ⟨_, h⟩
    · rw [h]; exact Nat.zero_le _
    · exact h
  · rw [List.getD_eq_getElem?_getD, List.getElem?_eq_none (by omega)]
    exact Nat.zero_le _
theorem tms_catB {rs : List STrans} {best : List (List Int)} (h : BOk rs best) : ∀ {cs : List Int}, (∀ c ∈ cs, (0 ≤ c ∧ c < best.length) ∧ bAt best c ≠ []) → Tms rs cs (catB best cs)
  | [], _ => .nil
  | c :: cs, hc => by
    obtain ⟨⟨h1, h2⟩, h3⟩ := hc c List.mem_cons_self
    rw [catB_cons]
    refine tms_cons.2 ⟨_, _, rfl, ?_, tms_catB h fun d hd => hc d (List.mem_cons_of_mem _ hd)⟩
    rcases h c.toNat (by omega) with h4 | ⟨h4, _⟩
    · exact absurd h4 h3
    · rwa [Int.toNat_of_nonneg h1] at h4
theorem fires_all {best : List (List Int)} {cs : List Int} (h : firesTo best cs cs.length) {c : Int} (hc : c ∈ cs) : bAt best c ≠ [] := by
  obtain ⟨j, hj, rfl⟩ := List.getElem_of_mem hc
  have := (h j hj).1
  rwa [List.getD_eq_getElem?_getD, List.getElem?_eq_getElem hj] at this
theorem bok_dig {rs : List STrans} {best : List (List Int)} (hr : ∀ r ∈ rs, 0 ≤ r.1 ∧ r.1 < 8) (h : BOk rs best) (m : Nat) : ∀ d ∈ best.getD m default, 0 ≤ d ∧ d < 8 := by
  by_cases hm : m < best.length
  · rcases h m hm with h | ⟨h, _⟩
    · rw [h]; intro d hd; cases hd
    · exact tms_dig hr h
  · rw [List.getD_eq_getElem?_getD, List.getElem?_eq_none (by omega)]
    intro d hd; cases hd
/-- A rule brings something less. -/
theorem best_set {rs : List STrans} {best : List (List Int)} (hr : ∀ r ∈ rs, 0 ≤ r.1 ∧ r.1 < 8) (h : BOk rs best) {r : STrans} (hm : r ∈ rs) (ha : ∀ c ∈ r.2.1, 0 ≤ c ∧ c < best.length) (hto : 0 ≤ r.2.2 ∧ r.2.2 < best.length) (hf : firesTo best r.2.1 r.2.1.length)
    (hl : (r.1 :: catB best r.2.1).length ≤ 60) (hlt : bAt best r.2.2 = [] ∨ ltT (r.1 :: catB best r.2.1) (bAt best r.2.2)) : BOk rs (best.set r.2.2.toNat (r.1 :: catB best r.2.1)) ∧ rkS (best.set r.2.2.toNat (r.1 :: catB best r.2.1)) < rkS best := by
  have ht : Tms rs [r.2.2] (r.1 :: catB best r.2.1) := tms_one.2 ⟨r.1, r.2.1, _, hm, tms_catB h (fun c hc => ⟨ha c hc, fires_all hf hc⟩), rfl⟩
  constructor
  · intro q hq
    rw [List.length_set] at hq
    rw [List.getD_eq_getElem?_getD, List.getElem?_set]
    by_cases e : r.2.2.toNat = q
    · rw [if_pos e, if_pos (by omega)]
      refine .inr ⟨?_, hl⟩
      rw [← e, Int.toNat_of_nonneg hto.1]
      exact ht
    · rw [if_neg e, ← List.getD_eq_getElem?_getD]
      exact h q hq
  · refine rkS_set (by omega) (rk_lt (tms_dig hr ht) (bok_dig hr h _) (by simp) hl ?_)
    rcases hlt with h1 | h1
    · exact .inl h1
    · exact .inr ⟨bok_len h _, h1⟩
theorem l23Least_spec {w0 : World} {Γ : List Atom} {v0 v1 : Value} {x : SAuto} [h0 : HasIm (List STrans) repList Γ [v0] x.2.1] [h1 : HasIm (List Int) repList Γ [v1] x.2.2] (hs : RuS x.2.1 x.1) :
    CJ Try.prog 56 [.agg #[.int .i64 x.1, v0, v1]] w0 Γ (fun q : { q : Value × ShL2 // FixB x.2.1 x.1 (unS q.2) } => q.1.1) (fun q => .ow [q.1.1] q.1.2 :: Γ) := by
  obtain ⟨hn, hrl, hsym, hargs⟩ := hs
  refine cj_dup (i := repList) (cs := [v1]) (x := x.2.2) ?_
  refine cj_dup (i := repList) (cs := [v0]) (x := x.2.1) ?_
  refine cj_enter Try.func56 Try.ntmps56 ?_
  repeat' (first | refine red ?_ | refine redf fun hbi => ?_ | refine reds ?_ | (refine redc fun r => ?_; try have hr := Subtype.property r) | refine redp (fun r => ?_) (fun r => ?_) | refine redv fun sv => ?_ | refine redn fun b => ?_ | refine redz fun zs => ?_ | refine redq (fun hc => ?_) (fun hc => ?_) | with_reducible refine wq_blk_o rfl ?_ | (refine redd fun p cs as_ hcs has hf => ?_; simp only [Un.cells, Un.atoms, Un.fact, List.cons_append, List.nil_append] at hcs has hf; subst hcs has) | (refine redi (fun hc => ?_) (fun hc => ?_) <;> try first | (exfalso; omega) | with_reducible first | exact absurd rfl hc | exact absurd hc Bool.false_ne_true | exact absurd hc Bool.false_ne_true.symm) | fail)
  refine wc_ent' (ent_toSh sv) ?_
  refine wc_loop_p [4] [13, 5, 14, 15, 16, 17, 18, 21, 22, 23, 24, 25, 6, 26, 27, 28, 7, 8, 9, 29, 30, 31, 32, 33, 34, 35, 36, 39, 40, 41, 42, 43, 44, 45, 46, 47, 48, 49, 50, 51, 52, 53, 54, 55, 56, 57, 58, 59, 60, 61, 62, 63, 64, 65, 66, 67, 68, 69, 70, 71, 72, 73, 74, 37, 38, 75, 76, 77, 78, 79, 80, 81, 82, 83, 84, 85, 86, 87, 88, 89, 90, 91, 92, 93, 94, 95, 96, 97, 98, 19, 20] (ι := Bool × ShL2) (fun s => [.bool s.1]) (fun s => [.ow [sv] s.2]) (fun s => s.2.length = x.1.toNat ∧ BOk x.2.1 (unS s.2) ∧ (s.1 = false → ∀ r ∈ x.2.1, ClosedAt (unS s.2) r)) (fun s => 2 * rkS (unS s.2) + (if s.1 = true then 1 else 0)) (true, (List.replicate x.1.toNat (default : List Int)).map Sh.mk) [.ow [sv] ((List.replicate x.1.toNat (default : List Int)).map Sh.mk)] (by kernel_rfl) ⟨by rw [List.length_map, List.length_replicate], fun q hq => .inl (by
    rw [← unS_get]
    rw [List.getD_eq_getElem?_getD, List.getElem?_map, List.getElem?_replicate]
    split <;> rfl), fun h => by cases h⟩ rfl ?_
  intro ⟨more, best⟩ u l' hl' ⟨hbl, hbo, hcl⟩
  simp only [patch, List.map_cons, List.map_nil, List.set_cons_zero, List.set_cons_succ] at hl'
  subst hl'
  simp only [List.cons_append, List.nil_append] at hbl hbo hcl ⊢
  cases more with
  | false =>
    repeat' (first | refine red ?_ | refine redf fun hbi => ?_ | refine reds ?_ | (refine redc fun r => ?_; try have hr := Subtype.property r) | refine redp (fun r => ?_) (fun r => ?_) | refine redv fun sv => ?_ | refine redn fun b => ?_ | refine redz fun zs => ?_ | refine redq (fun hc => ?_) (fun hc => ?_) | with_reducible refine wq_blk_o rfl ?_ | (refine redd fun p cs as_ hcs has hf => ?_; simp only [Un.cells, Un.atoms, Un.fact, List.cons_append, List.nil_append] at hcs has hf; subst hcs has) | (refine redi (fun hc => ?_) (fun hc => ?_) <;> try first | (exfalso; omega) | with_reducible first | exact absurd rfl hc | exact absurd hc Bool.false_ne_true | exact absurd hc Bool.false_ne_true.symm) | fail)
    exact ⟨⟨(sv, best), ⟨by rw [unS_len]; exact hbl, hbo, hcl rfl⟩⟩, rfl, ent_e⟩
  | true =>
    repeat' (first | refine red ?_ | refine redf fun hbi => ?_ | refine reds ?_ | (refine redc fun r => ?_; try have hr := Subtype.property r) | refine redp (fun r => ?_) (fun r => ?_) | refine redv fun sv => ?_ | refine redn fun b => ?_ | refine redz fun zs => ?_ | refine redq (fun hc => ?_) (fun hc => ?_) | with_reducible refine wq_blk_o rfl ?_ | (refine redd fun p cs as_ hcs has hf => ?_; simp only [Un.cells, Un.atoms, Un.fact, List.cons_append, List.nil_append] at hcs has hf; subst hcs has) | (refine redi (fun hc => ?_) (fun hc => ?_) <;> try first | (exfalso; omega) | with_reducible first | exact absurd rfl hc | exact absurd hc Bool.false_ne_true | exact absurd hc Bool.false_ne_true.symm) | fail)
    refine wc_loop_p [4, 5] [14, 15, 16, 17, 18, 21, 22, 23, 24, 25, 6, 26, 27, 28, 7, 8, 9, 29, 30, 31, 32, 33, 34, 35, 36, 39, 40, 41, 42, 43, 44, 45, 46, 47, 48, 49, 50, 51, 52, 53, 54, 55, 56, 57, 58, 59, 60, 61, 62, 63, 64, 65, 66, 67, 68, 69, 70, 71, 72, 73, 74, 37, 38, 75, 76, 77, 78, 79, 80, 81, 82, 83, 84, 85, 86, 87, 88, 89, 90, 91, 92, 93, 94, 95, 96, 97, 98, 19, 20] (ι := Bool × Nat × ShL2) (fun s => [.bool s.1, .int .i64 s.2.1]) (fun s => [.ow [sv] s.2.2]) (fun s => s.2.1 ≤ x.2.1.length ∧ s.2.2.length = x.1.toNat ∧ BOk x.2.1 (unS s.2.2) ∧ ((s.1 = false ∧ s.2.2 = best ∧ ∀ k, k < s.2.1 → ClosedAt (unS best) (x.2.1.getD k default)) ∨ (s.1 = true ∧ rkS (unS s.2.2) < rkS (unS best)))) (fun s => x.2.1.length - s.2.1) (false, 0, best) [.ow [sv] best] (by kernel_rfl) ⟨Nat.zero_le _, hbl, hbo, .inl ⟨rfl, rfl, fun k hk => absurd hk (Nat.not_lt_zero _)⟩⟩ rfl ?_
    intro ⟨more, i, best2⟩ u2 l2 hl2 ⟨hi, hbl2, hbo2, hor⟩
    simp only [patch, List.map_cons, List.map_nil, List.set_cons_zero, List.set_cons_succ] at hl2
    subst hl2
    simp only [List.cons_append, List.nil_append] at hi hbl2 hbo2 hor ⊢
    by_cases hil : i < x.2.1.length
    · obtain ⟨ha1, ha2, ha3, ha4⟩ := hargs i hil
      have hgm : (x.2.1.getD i default) ∈ x.2.1 := getT hil
      have hto : 0 ≤ (x.2.1.getD i default).2.2 ∧ (x.2.1.getD i default).2.2 < best2.length := by omega
      have hub := unS_get best2
      repeat' (first | refine red ?_ | refine redf fun hbi => ?_ | refine reds ?_ | (refine redc fun r => ?_; try have hr := Subtype.property r) | refine redp (fun r => ?_) (fun r => ?_) | refine redv fun sv => ?_ | refine redn fun b => ?_ | refine redz fun zs => ?_ | refine redq (fun hc => ?_) (fun hc => ?_) | with_reducible refine wq_blk_o rfl ?_ | (refine redd fun p cs as_ hcs has hf => ?_; simp only [Un.cells, Un.atoms, Un.fact, List.cons_append, List.nil_append] at hcs has hf; subst hcs has) | (refine redi (fun hc => ?_) (fun hc => ?_) <;> try first | (exfalso; omega) | with_reducible first | exact absurd rfl hc | exact absurd hc Bool.false_ne_true | exact absurd hc Bool.false_ne_true.symm) | fail)
      rename_i ab bv
      generalize hrr : x.2.1.getD i default = r at *
      refine wc_loop [7, 8, 9] [29, 30, 31, 32, 33, 34, 35, 36, 39, 40, 41, 42, 43, 44, 45, 46, 47, 48, 49, 50, 51, 52, 53, 54, 55, 56, 57, 58, 59, 60, 61, 62, 63, 64, 65, 66, 67, 68, 69, 70, 71, 72, 73, 74, 37, 38] (ι := Value × List Int × Bool × Nat) (fun s => [s.1, .bool s.2.2.1, .int .i64 s.2.2.2]) (fun s => .ow [s.1] s.2.1 :: .bk b [.int .i64 r.1, p.2.1, .int .i64 r.2.2] :: .rd [p.2.1] r.2.1 :: .ow [bv] best2 :: .bk ab [.int .i64 x.1, v0, v1] :: .rd [v0] x.2.1 :: .rd [v1] x.2.2 :: Γ)
        (fun s => s.2.2.2 ≤ r.2.1.length ∧ s.2.1.length ≤ 60 ∧ ((s.2.2.1 = true ∧ s.2.1 = r.1 :: catB (unS best2) (r.2.1.take s.2.2.2) ∧ firesTo (unS best2) r.2.1 s.2.2.2) ∨ (s.2.2.1 = false ∧ ¬ firesTo (unS best2) r.2.1 r.2.1.length))) (fun s => r.2.1.length - s.2.2.2) (sv, [r.1], true, 0) (by kernel_rfl) ⟨Nat.zero_le _, by simp, .inl ⟨rfl, rfl, fun j hj => absurd hj (Nat.not_lt_zero _)⟩⟩ ent_e ?_
      intro ⟨tv, t, is, k⟩ u3 l3 hl3 ⟨hk, htl, hti⟩
      simp only [patch, List.map_cons, List.map_nil, List.set_cons_zero, List.set_cons_succ] at hl3
      subst hl3
      simp only at hk htl hti ⊢
      cases is with
      | false =>
        have hnf := (hti.resolve_left (fun h => by cases h.1)).2
        have hcr : ClosedAt (unS best2) r := fun h => absurd h hnf
        have hdone : (more = false ∧ best2 = best ∧ ∀ k, k < i + 1 → ClosedAt (unS best) (x.2.1.getD k default)) ∨ (more = true ∧ rkS (unS best2) < rkS (unS best)) := by
          rcases hor with ⟨h1, h2, h3⟩ | h
          · refine .inl ⟨h1, h2, fun j hj => ?_⟩
            by_cases e : j = i
            · rw [e, hrr, ← h2]; exact hcr
            · exact h3 j (by omega)
          · exact .inr h
        repeat' (first | refine red ?_ | refine redf fun hbi => ?_ | refine reds ?_ | (refine redc fun r => ?_; try have hr := Subtype.property r) | refine redp (fun r => ?_) (fun r => ?_) | refine redv fun sv => ?_ | refine redn fun b => ?_ | refine redz fun zs => ?_ | refine redq (fun hc => ?_) (fun hc => ?_) | with_reducible refine wq_blk_o rfl ?_ | (refine redd fun p cs as_ hcs has hf => ?_; simp only [Un.cells, Un.atoms, Un.fact, List.cons_append, List.nil_append] at hcs has hf; subst hcs has) | (refine redi (fun hc => ?_) (fun hc => ?_) <;> try first | (exfalso; omega) | with_reducible first | exact absurd rfl hc | exact absurd hc Bool.false_ne_true | exact absurd hc Bool.false_ne_true.symm) | fail)
        all_goals exact wq_next (more, i + 1, best2) ⟨by simp only; omega, hbl2, hbo2, hdone⟩ (by simp only; omega) (by kernel_rfl) ent_e
      | true =>
        obtain ⟨-, ht, hfi⟩ : True ∧ _ := ⟨trivial, (hti.resolve_right (fun h => by cases h.1)).2⟩
        by_cases hka : k < r.2.1.length
        · have hck : 0 ≤ r.2.1.getD k 0 ∧ r.2.1.getD k 0 < best2.length := by
            have hm : r.2.1.getD k 0 ∈ r.2.1 := by
              rw [List.getD_eq_getElem?_getD, List.getElem?_eq_getElem hka]
              exact List.getElem_mem hka
            have := ha2 _ hm
            omega
          have hct := catB_take (best := unS best2) hka
          have hbk : bAt (unS best2) (r.2.1.getD k 0) = (best2.getD (r.2.1.getD k 0).toNat default).v := (hub _).symm
          rw [hbk] at hct
          have htl2 : t.length = 1 + (catB (unS best2) (r.2.1.take k)).length := by rw [ht, List.length_cons]; omega
          have hbe : (best2.getD (r.2.1.getD k 0).toNat default).v.length ≤ 60 := by rw [hub]; exact bok_len hbo2 _
          have hcl2 := congrArg List.length hct
          rw [List.length_append] at hcl2
          have hta : t ++ (best2.getD (r.2.1.getD k 0).toNat default).v = r.1 :: catB (unS best2) (r.2.1.take (k + 1)) := by rw [ht, hct]; rfl
          repeat' (first | refine red ?_ | refine redf fun hbi => ?_ | refine reds ?_ | (refine redc fun r => ?_; try have hr := Subtype.property r) | refine redp (fun r => ?_) (fun r => ?_) | refine redv fun sv => ?_ | refine redn fun b => ?_ | refine redz fun zs => ?_ | refine redq (fun hc => ?_) (fun hc => ?_) | with_reducible refine wq_blk_o rfl ?_ | (refine redd fun p cs as_ hcs has hf => ?_; simp only [Un.cells, Un.atoms, Un.fact, List.cons_append, List.nil_append] at hcs has hf; subst hcs has) | (refine redi (fun hc => ?_) (fun hc => ?_) <;> try first | (exfalso; omega) | with_reducible first | exact absurd rfl hc | exact absurd hc Bool.false_ne_true | exact absurd hc Bool.false_ne_true.symm) | fail)
          · have hne : bAt (unS best2) (r.2.1.getD k 0) ≠ [] := by
              rw [hbk]
              intro e
              have h9 := congrArg List.length e
              simp only [List.length_nil] at h9
              omega
            exact wq_next (sv, _, decide ((t.length : Int) + ((best2.getD (r.2.1.getD k 0).toNat default).v.length : Int) ≤ 60), k + 1) ⟨by simp only; omega, by simp only [List.length_append]; omega, .inl ⟨decide_eq_true hc, hta, fires_next hfi hne (by omega)⟩⟩ (by simp only; omega) (by kernel_rfl) ent_e
          · exact wq_next (tv, t, decide ((t.length : Int) + ((best2.getD (r.2.1.getD k 0).toNat default).v.length : Int) ≤ 60), k + 1) ⟨by simp only; omega, htl, .inr ⟨decide_eq_false (by omega), fun h => by
              have h1 := (h k hka).2
              omega⟩⟩ (by simp only; omega) (by kernel_rfl) ent_e
          · refine wq_next (tv, t, false, k + 1) ⟨by simp only; omega, htl, .inr ⟨rfl, fun h => ?_⟩⟩ (by simp only; omega) (by kernel_rfl) ent_e
            have h1 := (h k hka).1
            rw [hbk] at h1
            exact h1 (List.eq_nil_of_length_eq_zero (by omega))
        · have hkr : k = r.2.1.length := by omega
          subst hkr
          rw [List.take_length] at ht
          have hbto : bAt (unS best2) r.2.2 = (best2.getD r.2.2.toNat default).v := (hub _).symm
          have hset := best_set (best := unS best2) hsym hbo2 hgm (fun c hc => by rw [unS_len]; have := ha2 c hc; omega) (by rw [unS_len]; exact hto) hfi (by rw [← ht]; exact htl)
          rw [← ht, hbto] at hset
          have hun : ∀ m, unS (best2.set m (Sh.mk t)) = (unS best2).set m t := fun m => by
            unfold unS; rw [List.map_set]
          have hrle : rkS (unS best2) ≤ rkS (unS best) := by
            rcases hor with ⟨_, h, _⟩ | ⟨_, h⟩
            · rw [h]; exact Nat.le_refl _
            · omega
          have hclo : (best2.getD r.2.2.toNat default).v ≠ [] → ¬ ltT t (best2.getD r.2.2.toNat default).v → ((more = false ∧ best2 = best ∧ ∀ k, k < i + 1 → ClosedAt (unS best) (x.2.1.getD k default)) ∨ (more = true ∧ rkS (unS best2) < rkS (unS best))) := fun a b => by
            have hcr : ClosedAt (unS best2) r := fun _ => ⟨by rw [hbto]; exact a, by rw [← ht, hbto]; exact b⟩
            rcases hor with ⟨h1, h2, h3⟩ | h
            · refine .inl ⟨h1, h2, fun j hj => ?_⟩
              by_cases e : j = i
              · rw [e, hrr, ← h2]; exact hcr
              · exact h3 j (by omega)
            · exact .inr h
          repeat' (first | refine red ?_ | refine redf fun hbi => ?_ | refine reds ?_ | (refine redc fun r => ?_; try have hr := Subtype.property r) | refine redp (fun r => ?_) (fun r => ?_) | refine redv fun sv => ?_ | refine redn fun b => ?_ | refine redz fun zs => ?_ | refine redq (fun hc => ?_) (fun hc => ?_) | with_reducible refine wq_blk_o rfl ?_ | (refine redd fun p cs as_ hcs has hf => ?_; simp only [Un.cells, Un.atoms, Un.fact, List.cons_append, List.nil_append] at hcs has hf; subst hcs has) | (refine redi (fun hc => ?_) (fun hc => ?_) <;> try first | (exfalso; omega) | with_reducible first | exact absurd rfl hc | exact absurd hc Bool.false_ne_true | exact absurd hc Bool.false_ne_true.symm) | fail)
          · obtain ⟨hs1, hs2⟩ := hset (.inl (List.eq_nil_of_length_eq_zero (by omega)))
            refine wl_share tv ?_
            repeat' (first | refine red ?_ | refine redf fun hbi => ?_ | refine reds ?_ | (refine redc fun r => ?_; try have hr := Subtype.property r) | refine redp (fun r => ?_) (fun r => ?_) | refine redv fun sv => ?_ | refine redn fun b => ?_ | refine redz fun zs => ?_ | refine redq (fun hc => ?_) (fun hc => ?_) | with_reducible refine wq_blk_o rfl ?_ | (refine redd fun p cs as_ hcs has hf => ?_; simp only [Un.cells, Un.atoms, Un.fact, List.cons_append, List.nil_append] at hcs has hf; subst hcs has) | (refine redi (fun hc => ?_) (fun hc => ?_) <;> try first | (exfalso; omega) | with_reducible first | exact absurd rfl hc | exact absurd hc Bool.false_ne_true | exact absurd hc Bool.false_ne_true.symm) | fail)
            exact wq_next (true, i + 1, best2.set _ (Sh.mk t)) ⟨by simp only; omega, by simp only [List.length_set]; exact hbl2, by simp only; rw [hun]; exact hs1, .inr ⟨rfl, by simp only; rw [hun]; omega⟩⟩ (by simp only; omega) (by kernel_rfl) ent_e
          · obtain ⟨hs1, hs2⟩ := hset (.inr hc)
            refine wl_share tv ?_
            repeat' (first | refine red ?_ | refine redf fun hbi => ?_ | refine reds ?_ | (refine redc fun r => ?_; try have hr := Subtype.property r) | refine redp (fun r => ?_) (fun r => ?_) | refine redv fun sv => ?_ | refine redn fun b => ?_ | refine redz fun zs => ?_ | refine redq (fun hc => ?_) (fun hc => ?_) | with_reducible refine wq_blk_o rfl ?_ | (refine redd fun p cs as_ hcs has hf => ?_; simp only [Un.cells, Un.atoms, Un.fact, List.cons_append, List.nil_append] at hcs has hf; subst hcs has) | (refine redi (fun hc => ?_) (fun hc => ?_) <;> try first | (exfalso; omega) | with_reducible first | exact absurd rfl hc | exact absurd hc Bool.false_ne_true | exact absurd hc Bool.false_ne_true.symm) | fail)
            exact wq_next (true, i + 1, best2.set _ (Sh.mk t)) ⟨by simp only; omega, by simp only [List.length_set]; exact hbl2, by simp only; rw [hun]; exact hs1, .inr ⟨rfl, by simp only; rw [hun]; omega⟩⟩ (by simp only; omega) (by kernel_rfl) ent_e
          · exact wq_next (more, i + 1, best2) ⟨by simp only; omega, hbl2, hbo2, hclo (fun e => by
              have h9 := congrArg List.length e
              simp only [List.length_nil] at h9
              omega) hc⟩ (by simp only; omega) (by kernel_rfl) ent_e
    · repeat' (first | refine red ?_ | refine redf fun hbi => ?_ | refine reds ?_ | (refine redc fun r => ?_; try have hr := Subtype.property r) | refine redp (fun r => ?_) (fun r => ?_) | refine redv fun sv => ?_ | refine redn fun b => ?_ | refine redz fun zs => ?_ | refine redq (fun hc => ?_) (fun hc => ?_) | with_reducible refine wq_blk_o rfl ?_ | (refine redd fun p cs as_ hcs has hf => ?_; simp only [Un.cells, Un.atoms, Un.fact, List.cons_append, List.nil_append] at hcs has hf; subst hcs has) | (refine redi (fun hc => ?_) (fun hc => ?_) <;> try first | (exfalso; omega) | with_reducible first | exact absurd rfl hc | exact absurd hc Bool.false_ne_true | exact absurd hc Bool.false_ne_true.symm) | fail)
      refine wq_next (more, best2) ⟨hbl2, hbo2, fun hm r hr => ?_⟩ ?_ (by kernel_rfl) ent_e
      · rcases hor with ⟨_, rfl, h⟩ | ⟨h, _⟩
        · obtain ⟨j, hj, rfl⟩ := List.getElem_of_mem hr
          have := h j (by omega)
          rwa [List.getD_eq_getElem?_getD, List.getElem?_eq_getElem hj] at this
        · rw [h] at hm; cases hm
      · rcases hor with ⟨rfl, rfl, _⟩ | ⟨_, h⟩
        · simp
        · simp only [if_true]
          split <;> omega
instance l23Least_ctr {Γ : List Atom} {v0 v1 : Value} {x : SAuto} [h0 : HasIm (List STrans) repList Γ [v0] x.2.1] [h1 : HasIm (List Int) repList Γ [v1] x.2.2] :
    CtrC Try.prog 56 [.agg #[.int .i64 x.1, v0, v1]] Γ (RuS x.2.1 x.1) ({ q : Value × ShL2 // FixB x.2.1 x.1 (unS q.2) }) (fun q : { q : Value × ShL2 // FixB x.2.1 x.1 (unS q.2) } => q.1.1) (fun q => .ow [q.1.1] q.1.2 :: Γ) := ⟨fun s w0 => l23Least_spec s⟩

end Go.Proofs.Ytfdpmkilhllkoaa
