/- The automaton of normal forms: shapes and forms, the program's side. -/
import Derived.Test.YtbbdjjlnachnlaaGreatDoorNrmS
import Derived.Test.YtbbdjjlnachnlaaGreatDoorIfc
namespace Go.Proofs.YtbbdjjlnachnlaaGreatDoor
open Go Go.Eng
set_option linter.unusedVariables false
set_option linter.unusedSimpArgs false
set_option synthInstance.maxHeartbeats 400000
set_option synthInstance.maxSize 1000
set_option maxHeartbeats 4000000
set_option maxRecDepth 20000

theorem leftsOf_spec {w0 : World} {Γ : List Atom} {v1 : Value} {x : SSystem} [h1 : HasRd (List SRule) repList Γ [v1] x.2] (hs : LsC x.1 (leftsL x)) : CJ Tryz.prog 79 [v1] w0 Γ (fun q : Value => q) (fun q => .ow [q] (leftsL x) :: Γ) := by
  refine cj_lift (R := [.rd [v1] x.2]) (A := fun q : Value => [.ow [q] (leftsL x)]) (fun w1 => ?_) (reads_cons h1 (inferInstance)) (fun _ => inferInstance)
  simp only [List.cons_append, List.nil_append]
  have hsl := hs.len
  rw [leftsL_len] at hsl
  have hok := fun (k : Nat) (hk : k < x.2.length) => termOk_len (hs.ok k (by rw [leftsL_len]; exact hk))
  refine cj_enter Tryz.func79 Tryz.ntmps79 ?_
  repeat' (first | refine red ?_ | fail)
  refine wc_loop_p [3, 10] [11, 12, 13, 5, 14, 15, 21, 22, 23, 6, 24, 25, 26, 27, 28, 29, 7, 16, 17, 18, 19, 20, 30] (ι := Value × Nat) (fun k => [k.1, .int .i64 k.2]) (fun k => [.ow [k.1] ((leftsL x).take k.2)]) (fun k => k.2 ≤ x.2.length) (fun k => x.2.length - k.2) (.slice none 0 0, 0) [.ow [.slice none 0 0] ([] : List (List Int))] (by kernel_rfl) (Nat.zero_le _) rfl ?_
  intro ⟨so, k⟩ u l' hl' hk
  simp only [patch, List.map_cons, List.map_nil, List.set_cons_zero, List.set_cons_succ] at hl'
  subst hl'
  simp only [List.cons_append, List.nil_append] at hk ⊢
  have hll := leftsL_len x
  have hle : ((leftsL x).take k).length = k := by rw [List.length_take]; omega
  by_cases hkl : k < x.2.length
  · have hk1 := hok k hkl
    rw [leftsL_get hkl] at hk1
    repeat' (first | refine red ?_ | refine reds ?_ | (refine redc fun r => ?_; try have hr := Subtype.property r) | refine redv fun sv => ?_ | refine redn fun b => ?_ | (refine redd fun p cs as_ hcs has hf => ?_; simp only [Un.cells, Un.atoms, Un.fact, List.cons_append, List.nil_append] at hcs has hf; subst hcs has) | (refine redi (fun hc => ?_) (fun hc => ?_) <;> try first | (exfalso; omega) | with_reducible first | exact absurd rfl hc | exact absurd hc Bool.false_ne_true | exact absurd hc Bool.false_ne_true.symm) | fail)
    rw [← leftsL_take hkl]
    exact wq_next (sv, k + 1) (by simp only; omega) (by simp only; omega) (by kernel_rfl) ent_e
  · repeat' (first | refine red ?_ | (refine redi (fun hc => ?_) (fun hc => ?_) <;> try first | (exfalso; omega) | with_reducible first | exact absurd rfl hc | exact absurd hc Bool.false_ne_true | exact absurd hc Bool.false_ne_true.symm) | fail)
    rw [List.take_of_length_le (by omega)]
    exact ⟨so, rfl, ent_e⟩
instance leftsOf_ctr {Γ : List Atom} {v1 : Value} {x : SSystem} [h1 : HasRd (List SRule) repList Γ [v1] x.2] :
    CtrC Tryz.prog 79 [v1] Γ (LsC x.1 (leftsL x)) (Value) (fun q : Value => q) (fun q => .ow [q] (leftsL x) :: Γ) := ⟨fun s w0 => leftsOf_spec s⟩

/-! ### Is it there; where -/
theorem shapesOf1_spec {w0 : World} {Γ : List Atom} {b : Nat} {v v1 : Value} {t s : List Int} [hb : HasPt Γ ⟨b, 0, none⟩ [v1]] [h : HasRd (List Int) repList Γ [v] t] [h1 : HasRd (List Int) repList Γ [v1] s] : CJ Tryz.prog 134 [v, .pointer (some ⟨b, 0, none⟩)] w0 Γ (fun _ : Unit => .bool (decide (t = s))) (fun _ => Γ) := by
  refine cj_enter Tryz.func134 Tryz.ntmps134 ?_
  repeat' (first | refine red ?_ | (refine redc fun r => ?_; try have hr := Subtype.property r) | fail)
  exact ⟨(), rfl, ent_e⟩
instance shapesOf1_ctr {Γ : List Atom} {b : Nat} {v v1 : Value} {t s : List Int} [hb : HasPt Γ ⟨b, 0, none⟩ [v1]] [h : HasRd (List Int) repList Γ [v] t] [h1 : HasRd (List Int) repList Γ [v1] s] :
    CtrC Tryz.prog 134 [v, .pointer (some ⟨b, 0, none⟩)] Γ (True) (Unit) (fun _ : Unit => .bool (decide (t = s))) (fun _ => Γ) := ⟨fun s w0 => shapesOf1_spec⟩

theorem formOf1_spec {w0 : World} {Γ : List Atom} {b : Nat} {v v1 : Value} {t s : List Int} [hb : HasPt Γ ⟨b, 0, none⟩ [v1]] [h : HasRd (List Int) repList Γ [v] t] [h1 : HasRd (List Int) repList Γ [v1] s] : CJ Tryz.prog 165 [v, .pointer (some ⟨b, 0, none⟩)] w0 Γ (fun _ : Unit => .bool (decide (t = s))) (fun _ => Γ) := by
  refine cj_enter Tryz.func165 Tryz.ntmps165 ?_
  repeat' (first | refine red ?_ | (refine redc fun r => ?_; try have hr := Subtype.property r) | fail)
  exact ⟨(), rfl, ent_e⟩
instance formOf1_ctr {Γ : List Atom} {b : Nat} {v v1 : Value} {t s : List Int} [hb : HasPt Γ ⟨b, 0, none⟩ [v1]] [h : HasRd (List Int) repList Γ [v] t] [h1 : HasRd (List Int) repList Γ [v1] s] :
    CtrC Tryz.prog 165 [v, .pointer (some ⟨b, 0, none⟩)] Γ (True) (Unit) (fun _ : Unit => .bool (decide (t = s))) (fun _ => Γ) := ⟨fun s w0 => formOf1_spec⟩

theorem IdxS_spec {w0 : World} {Γ : List Atom} {b : Nat} {v v1 : Value} {ts : List (List Int)} {s : List Int} [hb : HasPt Γ ⟨b, 0, none⟩ [v1]] [h : HasRd (List (List Int)) repList Γ [v] ts] [h1 : HasRd (List Int) repList Γ [v1] s] : CJ Tryz.prog 162 [v, .func (.func 134) #[] #[.pointer (some ⟨b, 0, none⟩)]] w0 Γ (fun _ : Unit => .int .i64 (placeOf ts s)) (fun _ => Γ) := by
  refine cj_lift (R := [.pt ⟨b, 0, none⟩ [v1], .rd [v] ts, .rd [v1] s]) (A := fun _ => []) (fun w1 => ?_) (reads_pt hb (reads_cons h (reads_cons h1 inferInstance))) (fun _ => inferInstance)
  simp only [List.cons_append, List.nil_append]
  refine cj_len v fun hlx => ?_
  refine cj_enter Tryz.func162 Tryz.ntmps162 ?_
  repeat' (first | refine red ?_ | fail)
  refine wc_loop_c [8] [9, 10, 5, 11, 12, 13, 14, 15, 16, 17, 4, 18] (ι := Nat) (fun k => [.int .i64 k]) (fun k => k ≤ ts.length ∧ s ∉ ts.take k) (fun k => ts.length - k) 0 (by kernel_rfl) ⟨Nat.zero_le _, by simp⟩ ?_
  intro k u l' hl' ⟨hk, hkk⟩
  simp only [patch, List.map_cons, List.map_nil, List.set_cons_zero, List.set_cons_succ] at hl'
  subst hl'
  repeat' (first | refine red ?_ | refine reds ?_ | (refine redc fun r => ?_; try have hr := Subtype.property r) | (refine redd fun p cs as_ hcs has hf => ?_; simp only [Un.cells, Un.atoms, Un.fact, List.cons_append, List.nil_append] at hcs has hf; subst hcs has) | (refine redi (fun hc => ?_) (fun hc => ?_) <;> try first | (exfalso; omega) | with_reducible first | exact absurd rfl hc | exact absurd hc Bool.false_ne_true | exact absurd hc Bool.false_ne_true.symm) | fail)
  · refine ⟨(), ?_, ent_e⟩
    have hm : s ∈ ts := List.mem_of_mem_take ((mem_takeL (k := k) (by omega)).2 (.inl hc.symm))
    unfold placeOf
    rw [if_pos hm, idx_atL (by omega) hkk hc]
  · exact wq_next (k + 1) ⟨by omega, fun hm => by rcases (mem_takeL (by omega)).1 hm with h | h; exact hc h.symm; exact hkk h⟩ (by omega) (by kernel_rfl) ent_e
  · refine ⟨(), ?_, ent_e⟩
    unfold placeOf
    rw [if_neg (by rw [List.take_of_length_le (by omega)] at hkk; exact hkk)]
instance IdxS_ctr {Γ : List Atom} {b : Nat} {v v1 : Value} {ts : List (List Int)} {s : List Int} [hb : HasPt Γ ⟨b, 0, none⟩ [v1]] [h : HasRd (List (List Int)) repList Γ [v] ts] [h1 : HasRd (List Int) repList Γ [v1] s] :
    CtrC Tryz.prog 162 [v, .func (.func 134) #[] #[.pointer (some ⟨b, 0, none⟩)]] Γ (True) (Unit) (fun _ : Unit => .int .i64 (placeOf ts s)) (fun _ => Γ) := ⟨fun s w0 => IdxS_spec⟩

theorem IdxF_spec {w0 : World} {Γ : List Atom} {b : Nat} {v v1 : Value} {ts : List (List Int)} {s : List Int} [hb : HasPt Γ ⟨b, 0, none⟩ [v1]] [h : HasRd (List (List Int)) repList Γ [v] ts] [h1 : HasRd (List Int) repList Γ [v1] s] : CJ Tryz.prog 162 [v, .func (.func 165) #[] #[.pointer (some ⟨b, 0, none⟩)]] w0 Γ (fun _ : Unit => .int .i64 (placeOf ts s)) (fun _ => Γ) := by
  refine cj_lift (R := [.pt ⟨b, 0, none⟩ [v1], .rd [v] ts, .rd [v1] s]) (A := fun _ => []) (fun w1 => ?_) (reads_pt hb (reads_cons h (reads_cons h1 inferInstance))) (fun _ => inferInstance)
  simp only [List.cons_append, List.nil_append]
  refine cj_len v fun hlx => ?_
  refine cj_enter Tryz.func162 Tryz.ntmps162 ?_
  repeat' (first | refine red ?_ | fail)
  refine wc_loop_c [8] [9, 10, 5, 11, 12, 13, 14, 15, 16, 17, 4, 18] (ι := Nat) (fun k => [.int .i64 k]) (fun k => k ≤ ts.length ∧ s ∉ ts.take k) (fun k => ts.length - k) 0 (by kernel_rfl) ⟨Nat.zero_le _, by simp⟩ ?_
  intro k u l' hl' ⟨hk, hkk⟩
  simp only [patch, List.map_cons, List.map_nil, List.set_cons_zero, List.set_cons_succ] at hl'
  subst hl'
  repeat' (first | refine red ?_ | refine reds ?_ | (refine redc fun r => ?_; try have hr := Subtype.property r) | (refine redd fun p cs as_ hcs has hf => ?_; simp only [Un.cells, Un.atoms, Un.fact, List.cons_append, List.nil_append] at hcs has hf; subst hcs has) | (refine redi (fun hc => ?_) (fun hc => ?_) <;> try first | (exfalso; omega) | with_reducible first | exact absurd rfl hc | exact absurd hc Bool.false_ne_true | exact absurd hc Bool.false_ne_true.symm) | fail)
  · refine ⟨(), ?_, ent_e⟩
    have hm : s ∈ ts := List.mem_of_mem_take ((mem_takeL (k := k) (by omega)).2 (.inl hc.symm))
    unfold placeOf
    rw [if_pos hm, idx_atL (by omega) hkk hc]
  · exact wq_next (k + 1) ⟨by omega, fun hm => by rcases (mem_takeL (by omega)).1 hm with h | h; exact hc h.symm; exact hkk h⟩ (by omega) (by kernel_rfl) ent_e
  · refine ⟨(), ?_, ent_e⟩
    unfold placeOf
    rw [if_neg (by rw [List.take_of_length_le (by omega)] at hkk; exact hkk)]
instance IdxF_ctr {Γ : List Atom} {b : Nat} {v v1 : Value} {ts : List (List Int)} {s : List Int} [hb : HasPt Γ ⟨b, 0, none⟩ [v1]] [h : HasRd (List (List Int)) repList Γ [v] ts] [h1 : HasRd (List Int) repList Γ [v1] s] :
    CtrC Tryz.prog 162 [v, .func (.func 165) #[] #[.pointer (some ⟨b, 0, none⟩)]] Γ (True) (Unit) (fun _ : Unit => .int .i64 (placeOf ts s)) (fun _ => Γ) := ⟨fun s w0 => IdxF_spec⟩

theorem sh_bk (ts : List (Sh (List Int))) : (ts.map Sh.v).map Sh.mk = ts := by
  rw [List.map_map]
  exact (List.map_congr_left (fun _ _ => rfl)).trans (List.map_id ts)
theorem rd_unshL {Γ : List Atom} {v : Value} {ys : List (Sh (List Int))} (h : HasRd (List (Sh (List Int))) repList Γ [v] ys) : HasRd (List (List Int)) repList Γ [v] (ys.map Sh.v) := ⟨fun hs => rd_unsh (by
  have := h.get hs
  rw [List.map_map, show (Sh.mk ∘ Sh.v : Sh (List Int) → Sh (List Int)) = id from rfl, List.map_id]
  exact this)⟩
theorem place_pos {xs : List (List Int)} {t : List Int} : 0 ≤ placeOf xs t ↔ t ∈ xs := by
  have := place_neg (xs := xs) (t := t)
  constructor
  · intro h; exact Classical.byContradiction fun hn => by have := this.2 hn; omega
  · intro h
    by_cases h2 : placeOf xs t < 0
    · exact absurd h (this.1 h2)
    · omega
theorem place_bd' (xs : List (List Int)) (t : List Int) : -1 ≤ placeOf xs t ∧ placeOf xs t ≤ xs.length := by
  unfold placeOf
  split
  · rename_i h
    have := List.idxOf_lt_length_of_mem h
    omega
  · omega
theorem ContS_spec {w0 : World} {Γ : List Atom} {b : Nat} {v v1 : Value} {ts : List (List Int)} {s : List Int} [hb : HasPt Γ ⟨b, 0, none⟩ [v1]] [h : HasRd (List (List Int)) repList Γ [v] ts] [h1 : HasRd (List Int) repList Γ [v1] s] : CJ Tryz.prog 133 [v, .func (.func 134) #[] #[.pointer (some ⟨b, 0, none⟩)]] w0 Γ (fun _ : Unit => .bool (decide (s ∈ ts))) (fun _ => Γ) := by
  refine cj_lift (R := [.pt ⟨b, 0, none⟩ [v1], .rd [v] ts, .rd [v1] s]) (A := fun _ => []) (fun w1 => ?_) (reads_pt hb (reads_cons h (reads_cons h1 inferInstance))) (fun _ => inferInstance)
  simp only [List.cons_append, List.nil_append]
  have hpl := place_bd' ts s
  refine cj_enter Tryz.func133 Tryz.ntmps133 ?_
  repeat' (first | refine red ?_ | (refine redc fun r => ?_; try have hr := Subtype.property r) | fail)
  exact ⟨(), ret_bool (decide_eq_decide.2 place_pos.symm), ent_e⟩
theorem ContSh_spec {w0 : World} {Γ : List Atom} {b : Nat} {v v1 : Value} {ys : List (Sh (List Int))} {s : List Int} [hb : HasPt Γ ⟨b, 0, none⟩ [v1]] [h : HasRd (List (Sh (List Int))) repList Γ [v] ys] [h1 : HasRd (List Int) repList Γ [v1] s] : CJ Tryz.prog 133 [v, .func (.func 134) #[] #[.pointer (some ⟨b, 0, none⟩)]] w0 Γ (fun _ : Unit => .bool (decide (s ∈ ys.map Sh.v))) (fun _ => Γ) := by
  haveI := rd_unshL h
  exact ContS_spec
instance ContSh_ctr {Γ : List Atom} {b : Nat} {v v1 : Value} {ys : List (Sh (List Int))} {s : List Int} [hb : HasPt Γ ⟨b, 0, none⟩ [v1]] [h : HasRd (List (Sh (List Int))) repList Γ [v] ys] [h1 : HasRd (List Int) repList Γ [v1] s] :
    CtrC Tryz.prog 133 [v, .func (.func 134) #[] #[.pointer (some ⟨b, 0, none⟩)]] Γ (True) (Unit) (fun _ : Unit => .bool (decide (s ∈ ys.map Sh.v))) (fun _ => Γ) := ⟨fun s w0 => ContSh_spec⟩

/-! ### The sort -/
theorem hc_terms (w0 : World) (cx cy : List Value) (x y : Sh (List Int)) : CJ Tryz.prog 137 [cx[0]!, cy[0]!] w0 [.rd cx x, .rd cy y] (fun _ : Unit => .int .i64 (cmpS x.v y.v)) (fun _ => []) := fun w hs => by
  obtain ⟨hb, F, hn, hl, f1, g1, rfl, ⟨rfl, hx⟩, f2, g2, rfl, ⟨rfl, hy⟩, rfl⟩ := hs
  have hx' : Rep.rd (α := List Int) _ w cx x.v := hx
  have hy' : Rep.rd (α := List Int) _ w cy y.v := hy
  obtain ⟨v, rfl, hv⟩ := rd_one_l hx'
  obtain ⟨v', rfl, hv'⟩ := rd_one_l hy'
  have hs : Sat w0 w [.rd [v] x.v, .rd [v'] y.v] := ⟨hb, [], by simp, by simp, [], [], rfl, ⟨rfl, hv⟩, [], [], rfl, ⟨rfl, hv'⟩, rfl⟩
  refine (compareTerms_spec (xs := x.v) (ys := y.v) (v := v) (v1 := v') w hs).mono fun e w' ⟨p, he, hs'⟩ => ⟨p, he, ?_⟩
  exact (hs'.drop).drop
theorem cmpSv_swo : Go.Sort.SWO (Go.Proofs.ltOf fun (a b : Sh (List Int)) => cmpS a.v b.v) := swo_of (fun a b => cmpS_neg a.v b.v) (fun _ _ _ => cmpS_trans) (fun a b h c => by rw [cmpS_eq h])
abbrev LeSh (a b : Sh (List Int)) : Prop := 0 ≤ cmpS b.v a.v
theorem SortS_spec {w0 : World} {Γ Δ : List Atom} {sv : Value} {xs : List (Sh (List Int))} [hp : PullOw (List (Sh (List Int))) repList Γ [sv] xs Δ] (hl : xs.length ≤ 100000) : CJ Tryz.prog 136 [sv, .func (.func 137) #[] #[]] w0 Γ (fun _ : { ys : List (Sh (List Int)) // ys.Perm xs ∧ ys.Pairwise LeSh } => .tuple #[]) (fun q => .ow [sv] q.1 :: Δ) := by
  exact cj_sort (sortH_1 Tryz.laysSlF6_f136 (enters_of Tryz.func137 (by kernel_rfl) rfl)) (fun (a b : Sh (List Int)) => cmpS a.v b.v) cmpSv_swo hc_terms (by omega)
instance SortS_ctr {Γ Δ : List Atom} {sv : Value} {xs : List (Sh (List Int))} [hp : PullOw (List (Sh (List Int))) repList Γ [sv] xs Δ] :
    CtrC Tryz.prog 136 [sv, .func (.func 137) #[] #[]] Γ (xs.length ≤ 100000) ({ ys : List (Sh (List Int)) // ys.Perm xs ∧ ys.Pairwise LeSh }) (fun _ : { ys : List (Sh (List Int)) // ys.Perm xs ∧ ys.Pairwise LeSh } => .tuple #[]) (fun q => .ow [sv] q.1 :: Δ) := ⟨fun s w0 => SortS_spec s⟩

/-! ### The shapes -/
structure ShM (a : List Int) (ls : List (List Int)) (i at_ : Nat) (ys : List (List Int)) : Prop where
  nd : ys.Nodup
  mem : ∀ s, s ∈ ys ↔ IsShK a ls i at_ s
  len : ys.length ≤ 60 * i + at_
theorem shM_zero {a : List Int} {ls : List (List Int)} : ShM a ls 0 1 [] := ⟨List.nodup_nil, shK_zero.mem, by simp⟩
theorem shM_row {a : List Int} {ls ys : List (List Int)} {i at_ : Nat} (h : ShM a ls i at_ ys) (h60 : at_ ≤ 60) (hat : (ls.getD i default).length ≤ at_) : ShM a ls (i + 1) 1 ys := ⟨h.nd, fun s => (h.mem s).trans (by
  constructor
  · rintro (⟨j, hj, h1⟩ | ⟨k, h1, h2, h3⟩)
    · exact .inl ⟨j, by omega, h1⟩
    · exact .inl ⟨i, by omega, k, h1, h3⟩
  · rintro (⟨j, hj, h1⟩ | ⟨k, h1, h2, h3⟩)
    · by_cases e : j = i
      · subst e
        obtain ⟨k, h2, h3, h4⟩ := h1
        exact .inr ⟨k, h2, by omega, h3, h4⟩
      · exact .inl ⟨j, by omega, h1⟩
    · omega), by have := h.len; omega⟩
theorem shM_old {a : List Int} {ls ys : List (List Int)} {i at_ : Nat} (h : ShM a ls i at_ ys) (h1 : 1 ≤ at_) (h2 : at_ < (ls.getD i default).length) (hn : 0 ≤ (ls.getD i default).getD at_ 0 → renOf (subt a (ls.getD i default) at_) ∈ ys) : ShM a ls i (at_ + 1) ys := ⟨h.nd, fun s => by
  rw [isShK_next h1 h2, h.mem s]
  constructor
  · exact .inl
  · rintro (h3 | ⟨h3, h4⟩)
    · exact h3
    · rw [h4]; exact (h.mem _).1 (hn h3), by have := h.len; omega⟩
theorem shM_new {a : List Int} {ls ys : List (List Int)} {i at_ : Nat} (h : ShM a ls i at_ ys) (h1 : 1 ≤ at_) (h2 : at_ < (ls.getD i default).length) (h0 : 0 ≤ (ls.getD i default).getD at_ 0) (hn : renOf (subt a (ls.getD i default) at_) ∉ ys) : ShM a ls i (at_ + 1) (ys ++ [renOf (subt a (ls.getD i default) at_)]) := ⟨by
  rw [List.nodup_append]
  exact ⟨h.nd, by simp, fun x hx y hy e => by rw [List.mem_singleton] at hy; rw [e, hy] at hx; exact hn hx⟩, fun s => by
  rw [isShK_next h1 h2, List.mem_append, List.mem_singleton, h.mem s]
  constructor
  · rintro (h3 | h3)
    · exact .inl h3
    · exact .inr ⟨h0, h3⟩
  · rintro (h3 | ⟨_, h3⟩)
    · exact .inl h3
    · exact .inr h3, by have := h.len; rw [List.length_append, List.length_singleton]; omega⟩
theorem shM_sort {a : List Int} {ls ys zs : List (List Int)} (h : ShM a ls ls.length 1 ys) (hp : zs.Perm ys) (hs : zs.Pairwise (fun a b => 0 ≤ cmpS b a)) : zs = shapesOf a ls := by
  refine (shapes_is ⟨?_, fun s => ?_⟩).symm
  · have hnd : zs.Nodup := hp.symm.nodup h.nd
    have h2 := List.Pairwise.and hs (List.nodup_iff_pairwise_ne.1 hnd)
    exact h2.imp fun {x y} hxy => by
      have h3 := cmpS_neg x y
      have h4 : cmpS x y ≠ 0 := fun e => hxy.2 (cmpS_eq e)
      omega
  · rw [hp.mem_iff, h.mem s]
    constructor
    · rintro (⟨j, hj, k, h1, h2, h3⟩ | ⟨k, h1, h2, h3⟩)
      · exact ⟨_, getD_memD hj, k, h1, h2, h3⟩
      · omega
    · rintro ⟨l, hl, k, h1, h2, h3⟩
      obtain ⟨j, hj, rfl⟩ := List.getElem_of_mem hl
      refine .inl ⟨j, hj, k, ?_⟩
      rw [show ls.getD j default = ls[j] by rw [List.getD_eq_getElem?_getD, List.getElem?_eq_getElem hj]; rfl]
      exact ⟨h1, h2, h3⟩
theorem impl_shapesOf_spec {w0 : World} {Γ : List Atom} {v vl : Value} {a : List Int} {ls : List (List Int)} [h0 : HasRd (List Int) repList Γ [v] a] [h2 : HasIm (List (List Int)) repList Γ [vl] ls] (hs : LsC a ls) : CJ Tryz.prog 80 [.agg #[v], vl] w0 Γ (fun q : Value => q) (fun q => .rd [q] (shapesOf a ls) :: Γ) := by
  have hsl := hs.len
  have hsa := hs.ok
  refine cj_enter Tryz.func80 Tryz.ntmps80 ?_
  repeat' (first | refine red ?_ | refine redn fun b => ?_ | fail)
  refine wc_loop_p [5, 12] [13, 14, 15, 7, 8, 16, 17, 18, 19, 22, 23, 24, 25, 26, 27, 28, 29, 30, 31, 9, 32, 33, 34, 35, 36, 37, 38, 39, 20, 21, 40] (ι := Value × List (Sh (List Int)) × Nat) (fun k => [k.1, .int .i64 k.2.2]) (fun k => [.ow [k.1] k.2.1]) (fun k => k.2.2 ≤ ls.length ∧ ShM a ls k.2.2 1 (k.2.1.map Sh.v)) (fun k => ls.length - k.2.2) (.slice none 0 0, [], 0) [.ow [.slice none 0 0] ([] : List (Sh (List Int)))] (by kernel_rfl) ⟨Nat.zero_le _, shM_zero⟩ rfl ?_
  intro ⟨so, ys, i⟩ u l' hl' ⟨hi, hy⟩
  simp only [patch, List.map_cons, List.map_nil, List.set_cons_zero, List.set_cons_succ] at hl'
  subst hl'
  simp only [List.cons_append, List.nil_append] at hi hy ⊢
  have hyl0 := hy.len
  rw [List.length_map] at hyl0
  by_cases hil : i < ls.length
  · have hok := hsa i hil
    have hll := termOk_len hok
    repeat' (first | refine red ?_ | (refine redd fun p cs as_ hcs has hf => ?_; simp only [Un.cells, Un.atoms, Un.fact, List.cons_append, List.nil_append] at hcs has hf; subst hcs has) | (refine redi (fun hc => ?_) (fun hc => ?_) <;> try first | (exfalso; omega) | with_reducible first | exact absurd rfl hc | exact absurd hc Bool.false_ne_true | exact absurd hc Bool.false_ne_true.symm) | fail)
    refine wc_loop_p [5, 8] [16, 17, 18, 19, 22, 23, 24, 25, 26, 27, 28, 29, 30, 31, 9, 32, 33, 34, 35, 36, 37, 38, 39, 20, 21] (ι := Value × List (Sh (List Int)) × Nat) (fun k => [k.1, .int .i64 k.2.2]) (fun k => [.ow [k.1] k.2.1]) (fun k => (1 ≤ k.2.2 ∧ k.2.2 ≤ (ls.getD i default).length) ∧ ShM a ls i k.2.2 (k.2.1.map Sh.v)) (fun k => (ls.getD i default).length - k.2.2) (so, ys, 1) [.ow [so] ys] (by kernel_rfl) ⟨⟨Nat.le_refl _, hll.1⟩, hy⟩ rfl ?_
    intro ⟨so, ys, k⟩ u l' hl' ⟨⟨hk1, hk2⟩, hy⟩
    simp only [patch, List.map_cons, List.map_nil, List.set_cons_zero, List.set_cons_succ] at hl'
    subst hl'
    simp only [List.cons_append, List.nil_append] at hk1 hk2 hy ⊢
    have hyl := hy.len
    rw [List.length_map] at hyl
    by_cases hkl : k < (ls.getD i default).length
    · have hsl2 := subt_len hok hkl
      have hst := term_at hok hkl
      have hrl := renOf_len2 (subt a (ls.getD i default) k)
      repeat' (first | refine red ?_ | refine redf fun hbi => ?_ | refine reds ?_ | (refine redc fun r => ?_; try have hr := Subtype.property r) | refine redv fun sv => ?_ | refine redn fun b => ?_ | (refine redi (fun hc => ?_) (fun hc => ?_) <;> try first | (exfalso; omega) | with_reducible first | exact absurd rfl hc | exact absurd hc Bool.false_ne_true | exact absurd hc Bool.false_ne_true.symm) | fail)
      · exact wq_next (so, ys, k + 1) ⟨⟨by simp only; omega, by simp only; omega⟩, shM_old hy hk1 hkl (fun h => by omega)⟩ (by simp only; omega) (by kernel_rfl) ent_e
      · simp only [List.map_cons, List.map_nil]
        exact wq_next (sv, ys ++ [Sh.mk (renOf (subt a (ls.getD i default) k))], k + 1) ⟨⟨by simp only; omega, by simp only; omega⟩, by simp only [List.map_append, List.map_cons, List.map_nil]; exact shM_new hy hk1 hkl (by assumption) hc⟩ (by simp only; omega) (by kernel_rfl) ent_e
      · exact wq_next (so, ys, k + 1) ⟨⟨by simp only; omega, by simp only; omega⟩, shM_old hy hk1 hkl (fun _ => hc)⟩ (by simp only; omega) (by kernel_rfl) ent_e
    · repeat' (first | refine red ?_ | refine reds ?_ | (refine redi (fun hc => ?_) (fun hc => ?_) <;> try first | (exfalso; omega) | with_reducible first | exact absurd rfl hc | exact absurd hc Bool.false_ne_true | exact absurd hc Bool.false_ne_true.symm) | fail)
      exact wq_next (so, ys, i + 1) ⟨by simp only; omega, shM_row hy (by omega) (by omega)⟩ (by simp only; omega) (by kernel_rfl) ent_e
  · obtain rfl : i = ls.length := by omega
    repeat' (first | refine red ?_ | (refine redc fun r => ?_; try have hr := Subtype.property r) | (refine redi (fun hc => ?_) (fun hc => ?_) <;> try first | (exfalso; omega) | with_reducible first | exact absurd rfl hc | exact absurd hc Bool.false_ne_true | exact absurd hc Bool.false_ne_true.symm) | fail)
    have hz := shM_sort hy (hr.1.map Sh.v) (List.pairwise_map.2 hr.2)
    refine ⟨so, rfl, ?_⟩
    rw [← hz]
    have h2 : Ent w0 (.ow [so] ((r.1.map Sh.v).map Sh.mk) :: .bk b [v] :: Γ) (.rd [so] (r.1.map Sh.v) :: Γ) := ent_unsh (ys := r.1.map Sh.v) so ent_e
    rw [sh_bk] at h2
    exact h2
instance impl_shapesOf_ctr {Γ : List Atom} {v vl : Value} {a : List Int} {ls : List (List Int)} [h0 : HasRd (List Int) repList Γ [v] a] [h2 : HasIm (List (List Int)) repList Γ [vl] ls] :
    CtrC Tryz.prog 80 [.agg #[v], vl] Γ (LsC a ls) (Value) (fun q : Value => q) (fun q => .rd [q] (shapesOf a ls) :: Γ) := ⟨fun s w0 => impl_shapesOf_spec s⟩

/-! ### Forms -/
structure FmC (a : List Int) (sh : List (List Int)) (t : List Int) : Prop where
  ok : termOk a t = true
  hd : 0 ≤ t.getD 0 0
theorem formOf_spec {w0 : World} {Γ : List Atom} {v vh vt : Value} {a : List Int} {sh : List (List Int)} {t : List Int} [h0 : HasRd (List Int) repList Γ [v] a] [h1 : HasRd (List (List Int)) repList Γ [vh] sh] [h2 : HasIm (List Int) repList Γ [vt] t] (hs : FmC a sh t) : CJ Tryz.prog 138 [.agg #[v], vh, vt] w0 Γ (fun q : Value => .agg #[.int .i64 (formP a sh t).1, q]) (fun q => .ow [q] (formP a sh t).2 :: Γ) := by
  have hok := hs.ok
  have hl := termOk_len hok
  have h0t := hs.hd
  have hak := (arK_le hok (k := 0) (by omega)).1
  refine cj_len vh fun hlh => ?_
  have h1l := fun (i : Nat) (hi : i < arK a t 0) => kid_lt hok (k := 0) (by omega) hi
  have h2l := fun (i : Nat) (hi : i < arK a t 0) => kidT_ok hok hi
  have hkll := kidL_len a t 0 (arK a t 0)
  refine cj_enter Tryz.func138 Tryz.ntmps138 ?_
  repeat' (first | refine red ?_ | refine redf fun hbi => ?_ | refine reds ?_ | (refine redc fun r => ?_; try have hr := Subtype.property r) | refine redn fun b => ?_ | fail)
  refine wc_loop_p [20] [21, 22, 23, 9, 10, 24, 25, 26, 27, 28, 29, 30, 31, 32, 33, 11, 34, 35, 36, 37, 38, 39, 40, 41, 42, 43] (ι := Value × Nat) (fun k => [.int .i64 k.2]) (fun k => [.bk b [.int .i64 (t.getD 0 0), k.1], .ow [k.1] (idxL a sh t k.2)]) (fun k => k.2 ≤ arK a t 0) (fun k => arK a t 0 - k.2) (.slice none 0 0, 0) [.bk b [.int .i64 (t.getD 0 0), .slice none 0 0], .ow [.slice none 0 0] ([] : List Int)] (by kernel_rfl) (Nat.zero_le _) rfl ?_
  intro ⟨so, k⟩ u l' hl' hk
  simp only [patch, List.map_cons, List.map_nil, List.set_cons_zero, List.set_cons_succ] at hl'
  subst hl'
  simp only [List.cons_append, List.nil_append] at hk ⊢
  have hil := idxL_len a sh t k
  by_cases hka : k < arK a t 0
  · have hkg : (kidL a t 0 (arK a t 0)).getD k 0 = ((kidN a t 1 k : Nat) : Int) := kidL_get hka
    have hkl := h1l k hka
    rw [Nat.zero_add] at hkl
    have hkt := h2l k hka
    have hkt2 := termOk_len hkt.1
    have hkh := kidT_get hok hka
    have hrl := renOf_len2 (subt a t (kidN a t 1 k))
    have hsl : (subt a t (kidN a t 1 k)).length = (kidT a t k).length := rfl
    have hpb := place_bd' sh (renOf (subt a t (kidN a t 1 k)))
    haveI : ToN ((kidL a t 0 (arK a t 0)).getD k 0) (kidN a t 1 k) := ⟨by omega⟩
    repeat' (first | refine red ?_ | refine redf fun hbi => ?_ | refine reds ?_ | (refine redc fun r => ?_; try have hr := Subtype.property r) | refine redv fun sv => ?_ | refine redn fun b => ?_ | (refine redi (fun hc => ?_) (fun hc => ?_) <;> try first | (exfalso; omega) | with_reducible first | exact absurd rfl hc | exact absurd hc Bool.false_ne_true | exact absurd hc Bool.false_ne_true.symm) | fail)
    · have hix : idxK a sh t k = placeOf sh (renOf (subt a t (kidN a t 1 k))) := by unfold idxK; rw [if_pos (by omega)]; rfl
      rw [← hix, ← idxL_succ]
      exact wq_next (sv, k + 1) (by simp only; omega) (by simp only; omega) (by kernel_rfl) ent_e
    · have hix : idxK a sh t k = -1 := by unfold idxK; rw [if_neg (by omega)]
      rw [← hix, ← idxL_succ]
      exact wq_next (sv, k + 1) (by simp only; omega) (by simp only; omega) (by kernel_rfl) ent_e
  · obtain rfl : k = arK a t 0 := by omega
    repeat' (first | refine red ?_ | (refine redi (fun hc => ?_) (fun hc => ?_) <;> try first | (exfalso; omega) | with_reducible first | exact absurd rfl hc | exact absurd hc Bool.false_ne_true | exact absurd hc Bool.false_ne_true.symm) | fail)
    exact ⟨so, rfl, by show Ent _ _ (.ow [so] (idxL a sh t (arK a t 0)) :: Γ); exact ent_e⟩
instance formOf_ctr {Γ : List Atom} {v vh vt : Value} {a : List Int} {sh : List (List Int)} {t : List Int} [h0 : HasRd (List Int) repList Γ [v] a] [h1 : HasRd (List (List Int)) repList Γ [vh] sh] [h2 : HasIm (List Int) repList Γ [vt] t] :
    CtrC Tryz.prog 138 [.agg #[v], vh, vt] Γ (FmC a sh t) (Value) (fun q : Value => .agg #[.int .i64 (formP a sh t).1, q]) (fun q => .ow [q] (formP a sh t).2 :: Γ) := ⟨fun s w0 => formOf_spec s⟩

structure FmA (a : List Int) (sh ts : List (List Int)) : Prop where
  all : ∀ k, k < ts.length → FmC a sh (ts.getD k default)
  len : ts.length ≤ 10000
noncomputable def formL (a : List Int) (sh ts : List (List Int)) : List SForm := ts.map (formP a sh)
theorem formL_len (a : List Int) (sh ts : List (List Int)) : (formL a sh ts).length = ts.length := by unfold formL; rw [List.length_map]
theorem formL_take {a : List Int} {sh ts : List (List Int)} {k : Nat} (hk : k < ts.length) : (formL a sh ts).take (k + 1) = (formL a sh ts).take k ++ [formP a sh (ts.getD k default)] := by
  unfold formL
  rw [List.take_succ_eq_append_getElem (by rw [List.length_map]; exact hk), List.getElem_map, List.getD_eq_getElem?_getD, List.getElem?_eq_getElem hk]
  rfl
theorem formsOf_spec {w0 : World} {Γ : List Atom} {v vh vt : Value} {a : List Int} {sh ts : List (List Int)} [h0 : HasRd (List Int) repList Γ [v] a] [h1 : HasRd (List (List Int)) repList Γ [vh] sh] [h2 : HasIm (List (List Int)) repList Γ [vt] ts] (hs : FmA a sh ts) : CJ Tryz.prog 81 [.agg #[v], vh, vt] w0 Γ (fun q : Value => q) (fun q => .ow [q] (formL a sh ts) :: Γ) := by
  have hsl := hs.len
  refine cj_enter Tryz.func81 Tryz.ntmps81 ?_
  repeat' (first | refine red ?_ | refine redn fun b => ?_ | fail)
  refine wc_loop_p [7, 12] [13, 14, 15, 9, 16, 17, 18, 19, 20, 21, 22, 23] (ι := Value × Nat) (fun k => [k.1, .int .i64 k.2]) (fun k => [.ow [k.1] ((formL a sh ts).take k.2)]) (fun k => k.2 ≤ ts.length) (fun k => ts.length - k.2) (.slice none 0 0, 0) [.ow [.slice none 0 0] ([] : List SForm)] (by kernel_rfl) (Nat.zero_le _) rfl ?_
  intro ⟨so, k⟩ u l' hl' hk
  simp only [patch, List.map_cons, List.map_nil, List.set_cons_zero, List.set_cons_succ] at hl'
  subst hl'
  simp only [List.cons_append, List.nil_append] at hk ⊢
  have hfl := formL_len a sh ts
  have hle : ((formL a sh ts).take k).length = k := by rw [List.length_take]; omega
  by_cases hkl : k < ts.length
  · have hfm := hs.all k hkl
    have htk := termOk_get hfm.ok (k := 0) (by have := termOk_len hfm.ok; omega)
    have hal := sigOk_len (termOk_sig hfm.ok)
    have hin : -9223372036854775808 ≤ (formP a sh (ts.getD k default)).1 ∧ (formP a sh (ts.getD k default)).1 ≤ 9223372036854775807 := by show _ ≤ (ts.getD k default).getD 0 0 ∧ (ts.getD k default).getD 0 0 ≤ _; omega
    repeat' (first | refine red ?_ | refine reds ?_ | (refine redc fun r => ?_; try have hr := Subtype.property r) | refine redv fun sv => ?_ | (refine redd fun p cs as_ hcs has hf => ?_; simp only [Un.cells, Un.atoms, Un.fact, List.cons_append, List.nil_append] at hcs has hf; subst hcs has) | (refine redi (fun hc => ?_) (fun hc => ?_) <;> try first | (exfalso; omega) | with_reducible first | exact absurd rfl hc | exact absurd hc Bool.false_ne_true | exact absurd hc Bool.false_ne_true.symm) | fail)
    rw [show List.take k (formL a sh ts) ++ [((formP a sh (ts.getD k default)).1, (formP a sh (ts.getD k default)).2)] = (formL a sh ts).take (k + 1) from (formL_take hkl).symm]
    exact wq_next (sv, k + 1) (by simp only; omega) (by simp only; omega) (by kernel_rfl) ent_e
  · repeat' (first | refine red ?_ | (refine redi (fun hc => ?_) (fun hc => ?_) <;> try first | (exfalso; omega) | with_reducible first | exact absurd rfl hc | exact absurd hc Bool.false_ne_true | exact absurd hc Bool.false_ne_true.symm) | fail)
    rw [List.take_of_length_le (by omega)]
    exact ⟨so, rfl, ent_e⟩
instance formsOf_ctr {Γ : List Atom} {v vh vt : Value} {a : List Int} {sh ts : List (List Int)} [h0 : HasRd (List Int) repList Γ [v] a] [h1 : HasRd (List (List Int)) repList Γ [vh] sh] [h2 : HasIm (List (List Int)) repList Γ [vt] ts] :
    CtrC Tryz.prog 81 [.agg #[v], vh, vt] Γ (FmA a sh ts) (Value) (fun q : Value => q) (fun q => .ow [q] (formL a sh ts) :: Γ) := ⟨fun s w0 => formsOf_spec s⟩

structure FtC (x : SForm) (f : Int) (sets : List (List Int)) : Prop where
  ar : x.1 = f → x.2.length ≤ sets.length
  len : x.2.length ≤ 100
theorem fits_spec {w0 : World} {Γ : List Atom} {vx vs : Value} {x : SForm} {sets : List (List Int)} {f : Int} [h1 : HasRd (List Int) repList Γ [vx] x.2] [h3 : HasIm (List (List Int)) repList Γ [vs] sets] (hs : FtC x f sets) : CJ Tryz.prog 187 [.agg #[.int .i64 x.1, vx], .int .i64 f, vs] w0 Γ (fun _ : Unit => .bool (decC (FitF x f sets))) (fun _ => Γ) := by
  have hxl := hs.len
  refine cj_enter Tryz.func187 Tryz.ntmps187 ?_
  repeat' (first | refine red ?_ | refine redn fun b => ?_ | (refine redi (fun hc => ?_) (fun hc => ?_) <;> try first | (exfalso; omega) | with_reducible first | exact absurd rfl hc | exact absurd hc Bool.false_ne_true | exact absurd hc Bool.false_ne_true.symm) | fail)
  · exact ⟨(), ret_bool (decC_f fun h => hc h.1), ent_e⟩
  have hcf := hc
  have har := hs.ar hc
  refine wc_loop_c [16] [17, 18, 19, 20, 7, 8, 21, 22, 23, 24, 25, 26, 27, 28, 29, 30, 31, 6, 32] (ι := Nat) (fun k => [.int .i64 k]) (fun k => k ≤ x.2.length ∧ ∀ i, i < k → x.2.getD i 0 < 0 ∨ x.2.getD i 0 ∈ sets.getD i default) (fun k => x.2.length - k) 0 (by kernel_rfl) ⟨Nat.zero_le _, fun i hi => by omega⟩ ?_
  intro k u l' hl' ⟨hk, hkk⟩
  simp only [patch, List.map_cons, List.map_nil, List.set_cons_zero, List.set_cons_succ] at hl'
  subst hl'
  by_cases hkl : k < x.2.length
  · have hsz1 : Rep.sz (List Int) = 1 := rfl
    refine wc_peek vs ((k : Nat) : Int) (by omega) fun q hq => ?_
    simp only [Un.cells, Un.atoms, Un.fact, List.cons_append, List.nil_append, Int.toNat_natCast, hsz1] at hq ⊢
    repeat' (first | refine red ?_ | refine redf fun hbi => ?_ | refine reds ?_ | (refine redc fun r => ?_; try have hr := Subtype.property r) | (refine redi (fun hc => ?_) (fun hc => ?_) <;> try first | (exfalso; omega) | with_reducible first | exact absurd rfl hc | exact absurd hc Bool.false_ne_true | exact absurd hc Bool.false_ne_true.symm) | fail)
    · exact ⟨(), ret_bool (decC_f fun h => (h.2 k hkl).elim (fun h1 => by omega) hc), ent_e⟩
    · exact wq_next (k + 1) ⟨by omega, fun i hi => if e : i = k then by rw [e]; exact .inr hc else hkk i (by omega)⟩ (by omega) (by kernel_rfl) ent_e
    · exact wq_next (k + 1) ⟨by omega, fun i hi => if e : i = k then by rw [e]; exact .inl hc else hkk i (by omega)⟩ (by omega) (by kernel_rfl) ent_e
  · repeat' (first | refine red ?_ | (refine redi (fun hc => ?_) (fun hc => ?_) <;> try first | (exfalso; omega) | with_reducible first | exact absurd rfl hc | exact absurd hc Bool.false_ne_true | exact absurd hc Bool.false_ne_true.symm) | fail)
    exact ⟨(), ret_bool (decC_t ⟨hcf, fun i hi => hkk i (by omega)⟩), ent_e⟩
instance fits_ctr {Γ : List Atom} {vx vs : Value} {x : SForm} {sets : List (List Int)} {f : Int} [h1 : HasRd (List Int) repList Γ [vx] x.2] [h3 : HasIm (List (List Int)) repList Γ [vs] sets] :
    CtrC Tryz.prog 187 [.agg #[.int .i64 x.1, vx], .int .i64 f, vs] Γ (FtC x f sets) (Unit) (fun _ : Unit => .bool (decC (FitF x f sets))) (fun _ => Γ) := ⟨fun s w0 => fits_spec s⟩

end Go.Proofs.YtbbdjjlnachnlaaGreatDoor
