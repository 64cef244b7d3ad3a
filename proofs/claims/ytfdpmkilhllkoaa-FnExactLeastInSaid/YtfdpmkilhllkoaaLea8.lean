/- The least term that an automaton takes: the reference's answer, the law. -/
import Derived.Test.YtfdpmkilhllkoaaLea7
namespace Go.Proofs.Ytfdpmkilhllkoaa
open Go Go.Eng
set_option linter.unusedVariables false
set_option linter.unusedSimpArgs false
set_option synthInstance.maxHeartbeats 400000
set_option synthInstance.maxSize 1000
set_option maxHeartbeats 2000000
set_option maxRecDepth 20000


theorem leastT_iff {S S' : List Int → Prop} {t : List Int} (h : ∀ s, S s ↔ S' s) (h2 : LeastT S t) : LeastT S' t := by
  rcases h2 with ⟨h1, h3⟩ | ⟨h1, h3, h4⟩
  · exact .inl ⟨h1, fun s hs => h3 s ((h s).2 hs)⟩
  · exact .inr ⟨(h t).1 h1, h3, fun s hs => h4 s ((h s).2 hs)⟩
theorem ltT_le {a b : List Int} (h : ltT a b) : leT a b := by
  unfold ltT at h
  unfold leT leL
  rcases h with h | ⟨h, h'⟩
  · exact .inl h
  · exact .inr ⟨h, by omega⟩
/-- Among the first i states. -/
abbrev AccTo (rs : List STrans) (fs : List Int) (i : Nat) : List Int → Prop := fun s => ∃ q ∈ fs.take i, Acc rs [q] s
theorem accTo_zero {rs : List STrans} {fs : List Int} : LeastT (AccTo rs fs 0) [] := .inl ⟨rfl, fun s ⟨q, hq, _⟩ => by simp at hq⟩
theorem accTo_all {rs : List STrans} {fs : List Int} {t : List Int} (h : LeastT (AccTo rs fs fs.length) t) : LeastT (Acc rs fs) t := by
  refine leastT_iff (fun s => ?_) h
  unfold AccTo Acc
  rw [List.take_length]
  constructor
  · rintro ⟨q, hq, q', hq', h⟩
    rw [List.mem_singleton] at hq'
    exact ⟨q, hq, hq' ▸ h⟩
  · rintro ⟨q, hq, h⟩
    exact ⟨q, hq, q, by simp, h⟩
theorem accTo_succ {rs : List STrans} {fs : List Int} {i : Nat} (hi : i < fs.length) (s : List Int) : AccTo rs fs (i + 1) s ↔ (AccTo rs fs i s ∨ Acc rs [fs.getD i 0] s) := by
  unfold AccTo
  rw [List.take_succ_eq_append_getElem hi, List.getD_eq_getElem?_getD, List.getElem?_eq_getElem hi, Option.getD_some]
  constructor
  · rintro ⟨q, hq, h⟩
    rcases List.mem_append.1 hq with hq | hq
    · exact .inl ⟨q, hq, h⟩
    · rw [List.mem_singleton] at hq
      exact .inr (hq ▸ h)
  · rintro (⟨q, hq, h⟩ | h)
    · exact ⟨q, List.mem_append.2 (.inl hq), h⟩
    · exact ⟨_, List.mem_append.2 (.inr (List.mem_singleton.2 rfl)), h⟩
theorem acc_none {rs : List STrans} {fs : List Int} {i : Nat} {t u : List Int} (hi : i < fs.length) (h : LeastT (AccTo rs fs i) t) (hu : LeastT (Acc rs [fs.getD i 0]) u) (hu0 : u = []) : LeastT (AccTo rs fs (i + 1)) t :=
  leastT_iff (fun s => by
    rw [accTo_succ hi]
    exact ⟨.inl, fun h => h.elim id fun h => by
      rcases hu with ⟨_, he⟩ | ⟨_, he, _⟩
      · exact absurd h (he s)
      · exact absurd hu0 he⟩) h
theorem acc_new {rs : List STrans} {fs : List Int} {i : Nat} {t u : List Int} (hi : i < fs.length) (h : LeastT (AccTo rs fs i) t) (hu : LeastT (Acc rs [fs.getD i 0]) u) (hu0 : u ≠ []) (hlt : t = [] ∨ ltT u t) : LeastT (AccTo rs fs (i + 1)) u := by
  rcases hu with ⟨he, _⟩ | ⟨hu1, _, hu2⟩
  · exact absurd he hu0
  refine .inr ⟨(accTo_succ hi u).2 (.inr hu1), hu0, fun s hs => ?_⟩
  rcases (accTo_succ hi s).1 hs with hs | hs
  · rcases h with ⟨_, h3⟩ | ⟨h1, h3, h4⟩
    · exact absurd hs (h3 s)
    · rcases hlt with h5 | h5
      · exact absurd h5 h3
      · exact leT_trans (ltT_le h5) (h4 s hs)
  · exact hu2 s hs
theorem acc_old {rs : List STrans} {fs : List Int} {i : Nat} {t u : List Int} (hi : i < fs.length) (h : LeastT (AccTo rs fs i) t) (hu : LeastT (Acc rs [fs.getD i 0]) u) (ht : t ≠ []) (hlt : ¬ ltT u t) : LeastT (AccTo rs fs (i + 1)) t := by
  rcases h with ⟨he, _⟩ | ⟨h1, _, h2⟩
  · exact absurd he ht
  refine .inr ⟨(accTo_succ hi t).2 (.inl h1), ht, fun s hs => ?_⟩
  rcases (accTo_succ hi s).1 hs with hs | hs
  · exact h2 s hs
  · rcases hu with ⟨_, h3⟩ | ⟨_, _, h4⟩
    · exact absurd hs (h3 s)
    · exact leT_trans (leT_of hlt) (h4 s hs)
theorem ruS_of {ar : List Int} {x : SAuto} (h : AutoP ar x) : RuS x.2.1 x.1 := by
  have hr := ruOk_of h
  have h8 := sigOk_len h.1
  have hall : ∀ k, k < x.2.1.length → TransP ar x.1 (x.2.1.getD k default) := fun k hk => (h.2.2.2.2 k hk).1
  refine ⟨h.2.1, h.2.2.1, fun r hr => ?_, fun k hk => ?_⟩
  · obtain ⟨j, hj, rfl⟩ := List.getElem_of_mem hr
    have h1 := hall j hj
    rw [List.getD_eq_getElem?_getD, List.getElem?_eq_getElem hj, Option.getD_some] at h1
    have := h1.1
    omega
  · have h1 := hall k hk
    refine ⟨(hr.args k hk).1, fun c hc => ?_, h1.2.2.2⟩
    exact allS_mem h1.2.2.1 c hc
theorem spec_LeastIn_spec {w0 : World} {Γ : List Atom} {v v0 v1 : Value} {ar : List Int} {x : SAuto} [h : HasRd (List Int) repList Γ [v] ar] [h0 : HasRd (List STrans) repList Γ [v0] x.2.1] [h1 : HasRd (List Int) repList Γ [v1] x.2.2] :
    CJ Try.prog 11 [.agg #[v], .agg #[.int .i64 x.1, v0, v1]] w0 Γ (fun q : Value => .tuple #[q, .bool (decide (lsO ar x ≠ []))]) (fun q => .ow [q] (lsO ar x) :: Γ) := by
  refine cj_lift (R := [.rd [v] ar, .rd [v0] x.2.1, .rd [v1] x.2.2]) (A := fun q : Value => [.ow [q] (lsO ar x)]) (fun w1 => ?_) (reads_cons h (reads_cons h0 (reads_cons h1 (inferInstance)))) (fun _ => inferInstance)
  simp only [List.cons_append, List.nil_append]
  refine cj_enter Try.func11 Try.ntmps11 ?_
  by_cases hp : AutoP ar x
  · have hru := ruS_of hp
    have hfl : x.2.2.length ≤ 16 := by
      have h1 := setP_len hp.2.2.2.1 (by have := hp.2.1; omega)
      have h2 := hp.2.1
      omega
    repeat' (first | refine red ?_ | refine redf fun hbi => ?_ | refine reds ?_ | (refine redc fun r => ?_; try have hr := Subtype.property r) | refine redp (fun r => ?_) (fun r => ?_) | refine redv fun sv => ?_ | refine redn fun b => ?_ | refine redz fun zs => ?_ | refine redq (fun hc => ?_) (fun hc => ?_) | with_reducible refine wq_blk_o rfl ?_ | (refine redd fun p cs as_ hcs has hf => ?_; simp only [Un.cells, Un.atoms, Un.fact, List.cons_append, List.nil_append] at hcs has hf; subst hcs has) | (refine redi (fun hc => ?_) (fun hc => ?_) <;> try first | (exfalso; omega) | with_reducible first | exact absurd rfl hc | exact absurd hc Bool.false_ne_true | exact absurd hc Bool.false_ne_true.symm) | fail)
    · exact absurd hp hc
    obtain ⟨⟨bv, ys⟩, hfx⟩ := r
    simp only
    have hfx2 : FixB x.2.1 x.1 (unS ys) := hfx
    clear hr
    refine wc_share sv ?_
    refine wc_loop [7, 8] [18, 19, 20, 21, 22, 25, 26, 27, 28, 29, 30, 31, 32, 9, 33, 34, 35, 36, 37, 38, 39, 40, 41, 42, 43, 44, 45, 46, 23, 24] (ι := Value × List Int × Nat) (fun s => [s.1, .int .i64 s.2.2]) (fun s => [.rd [s.1] s.2.1, .ow [bv] ys, .bk b [.int .i64 x.1, v0, v1], .rd [v] ar, .rd [v0] x.2.1, .rd [v1] x.2.2]) (fun s => s.2.2 ≤ x.2.2.length ∧ LeastT (AccTo x.2.1 x.2.2 s.2.2) s.2.1) (fun s => x.2.2.length - s.2.2) (sv, [], 0) (by kernel_rfl) ⟨Nat.zero_le _, accTo_zero⟩ ent_e ?_
    intro ⟨ov, t, i⟩ u lc hlc ⟨hi, hlt⟩
    simp only [patch, List.map_cons, List.map_nil, List.set_cons_zero, List.set_cons_succ] at hlc
    subst hlc
    simp only at hi hlt ⊢
    have hlen := hfx2.len
    rw [unS_len] at hlen
    have htl : t.length ≤ 60 := by
      rcases hlt with ⟨rfl, _⟩ | ⟨⟨q, _, q', _, _, h2⟩, _⟩
      · simp
      · omega
    by_cases hif : i < x.2.2.length
    · have hq := (hp.2.2.2.1 i hif).1
      have hqb : 0 ≤ x.2.2.getD i 0 ∧ x.2.2.getD i 0 < ys.length := by have := hp.2.1; omega
      have hle := fix_least hfx2 (q := x.2.2.getD i 0) hq
      rw [show bAt (unS ys) (x.2.2.getD i 0) = (ys.getD (x.2.2.getD i 0).toNat default).v from (unS_get ys _).symm] at hle
      have hnz : ∀ l : List Int, ((l.length : Nat) : Int) = 0 → l = [] := fun l h => List.eq_nil_of_length_eq_zero (by omega)
      have hpz : ∀ l : List Int, 0 < ((l.length : Nat) : Int) → l ≠ [] := fun l h e => by rw [e] at h; simp at h
      repeat' (first | refine red ?_ | refine redf fun hbi => ?_ | refine reds ?_ | (refine redc fun r => ?_; try have hr := Subtype.property r) | refine redp (fun r => ?_) (fun r => ?_) | refine redv fun sv => ?_ | refine redn fun b => ?_ | refine redz fun zs => ?_ | refine redq (fun hc => ?_) (fun hc => ?_) | with_reducible refine wq_blk_o rfl ?_ | (refine redd fun p cs as_ hcs has hf => ?_; simp only [Un.cells, Un.atoms, Un.fact, List.cons_append, List.nil_append] at hcs has hf; subst hcs has) | (refine redi (fun hc => ?_) (fun hc => ?_) <;> try first | (exfalso; omega) | with_reducible first | exact absurd rfl hc | exact absurd hc Bool.false_ne_true | exact absurd hc Bool.false_ne_true.symm) | fail)
      · exact wq_next (sv, _, i + 1) ⟨by simp only; omega, acc_new hif hlt hle (hpz _ ‹_›) (.inl (hnz _ hc))⟩ (by simp only; omega) (by kernel_rfl) ent_e
      · exact wq_next (sv, _, i + 1) ⟨by simp only; omega, acc_new hif hlt hle (hpz _ ‹_›) (.inr hc)⟩ (by simp only; omega) (by kernel_rfl) ent_e
      · rename_i _ hz0
        refine wq_next (ov, t, i + 1) ⟨by simp only; omega, acc_old hif hlt hle (fun e => ?_) hc⟩ (by simp only; omega) (by kernel_rfl) ent_e
        have e2 : t = [] := e
        rw [e2] at hz0
        exact hz0 rfl
      · exact wq_next (ov, t, i + 1) ⟨by simp only; omega, acc_none hif hlt hle (hnz _ (by omega))⟩ (by simp only; omega) (by kernel_rfl) ent_e
    · obtain rfl : i = x.2.2.length := by omega
      have hfin := lsO_yes hp (accTo_all hlt)
      rw [hfin]
      repeat' (first | refine red ?_ | refine redf fun hbi => ?_ | refine reds ?_ | (refine redc fun r => ?_; try have hr := Subtype.property r) | refine redp (fun r => ?_) (fun r => ?_) | refine redv fun sv => ?_ | refine redn fun b => ?_ | refine redz fun zs => ?_ | refine redq (fun hc => ?_) (fun hc => ?_) | with_reducible refine wq_blk_o rfl ?_ | (refine redd fun p cs as_ hcs has hf => ?_; simp only [Un.cells, Un.atoms, Un.fact, List.cons_append, List.nil_append] at hcs has hf; subst hcs has) | (refine redi (fun hc => ?_) (fun hc => ?_) <;> try first | (exfalso; omega) | with_reducible first | exact absurd rfl hc | exact absurd hc Bool.false_ne_true | exact absurd hc Bool.false_ne_true.symm) | fail)
      exact ⟨r, by rw [show decide (t ≠ []) = decide (0 < ((t.length : Nat) : Int)) from decide_eq_decide.2 ⟨fun h => by have := List.length_pos_iff.2 h; omega, fun h e => by rw [e] at h; simp at h⟩], ent_e⟩
  · have hb : autoOk ar x = false := decC_f hp
    rw [lsO_no hp]
    repeat' (first | refine red ?_ | refine redf fun hbi => ?_ | refine reds ?_ | (refine redc fun r => ?_; try have hr := Subtype.property r) | refine redp (fun r => ?_) (fun r => ?_) | refine redv fun sv => ?_ | refine redn fun b => ?_ | refine redz fun zs => ?_ | refine redq (fun hc => ?_) (fun hc => ?_) | with_reducible refine wq_blk_o rfl ?_ | (refine redd fun p cs as_ hcs has hf => ?_; simp only [Un.cells, Un.atoms, Un.fact, List.cons_append, List.nil_append] at hcs has hf; subst hcs has) | (refine redi (fun hc => ?_) (fun hc => ?_) <;> try first | (exfalso; omega) | with_reducible first | exact absurd rfl hc | exact absurd hc Bool.false_ne_true | exact absurd hc Bool.false_ne_true.symm) | fail)
    · exact ⟨_, rfl, ent_e⟩
    · exact absurd hc hp
instance spec_LeastIn_ctr {Γ : List Atom} {v v0 v1 : Value} {ar : List Int} {x : SAuto} [h : HasRd (List Int) repList Γ [v] ar] [h0 : HasRd (List STrans) repList Γ [v0] x.2.1] [h1 : HasRd (List Int) repList Γ [v1] x.2.2] :
    CtrC Try.prog 11 [.agg #[v], .agg #[.int .i64 x.1, v0, v1]] Γ (True) (Value) (fun q : Value => .tuple #[q, .bool (decide (lsO ar x ≠ []))]) (fun q => .ow [q] (lsO ar x) :: Γ) := ⟨fun s w0 => spec_LeastIn_spec⟩

theorem leastT_len {rs : List STrans} {fs : List Int} : (leastT (Acc rs fs)).length ≤ 60 := by
  unfold leastT
  split
  · rename_i h
    have := Classical.choose_spec h
    rcases this with ⟨h1, _⟩ | ⟨⟨_, _, _, h2⟩, _⟩
    · rw [h1]; exact Nat.zero_le _
    · exact h2
  · exact Nat.zero_le _
theorem lsO_len (ar : List Int) (x : SAuto) : (lsO ar x).length ≤ 60 := by
  unfold lsO
  split
  · exact leastT_len
  · exact Nat.zero_le _
set_option maxHeartbeats 0 in
set_option synthInstance.maxHeartbeats 400000 in
set_option synthInstance.maxSize 1000 in
theorem FnExactLeastIn_law {w0 : World} {Γ : List Atom} {x0 : SSig} {x1 : SAuto} {v0_0 v1_1 v1_2 : Value} [h0_0 : HasRd (List Int) repList Γ [v0_0] x0] [h1_1 : HasRd (List STrans) repList Γ [v1_1] x1.2.1] [h1_2 : HasRd (List Int) repList Γ [v1_2] x1.2.2] (hf0 : x0.length ≤ 9223372036854775807) (hf1 : (-9223372036854775808 ≤ x1.1 ∧ x1.1 ≤ 9223372036854775807) ∧ (x1.2.1.length ≤ 9223372036854775807) ∧ x1.2.2.length ≤ 9223372036854775807) :
    CJ Try.prog 3 [.agg #[v0_0], .agg #[.int .i64 x1.1, v1_1, v1_2]] w0 Γ (fun _ : Unit => .bool true) (fun _ => Γ) := by
  have hz0 := lft_spec 1048576 (Siz.size x0)
  have hz1 := lft_spec (lft 1048576 (Siz.size x0)) (Siz.size x1)
  have hb0_0 := cntL_le x0
  have hl0_0 := siz_ints x0
  have hs1 : Siz.size x1 = Siz.size x1.2.1 + Siz.size x1.2.2 := by simp only [siz_pair, siz_int, siz_bool, siz_str] <;> omega
  have hb1_1 := cntL_le x1.2.1
  have hb1_2 := cntL_le x1.2.2
  have hl1_2 := siz_ints x1.2.2
  have hn := lsO_len x0 x1
  have hcn := cntL_ints (lsO x0 x1)
  refine cj_enter Try.func3 Try.ntmps3 ?_
  repeat' (first | refine red ?_ | refine redf fun hbi => ?_ | refine reds ?_ | (refine redc fun r => ?_; try have hr := Subtype.property r) | refine redp (fun r => ?_) (fun r => ?_) | refine redv fun sv => ?_ | refine redn fun b => ?_ | refine redz fun zs => ?_ | refine redq (fun hc => ?_) (fun hc => ?_) | with_reducible refine wq_blk_o rfl ?_ | (refine redi (fun hc => ?_) (fun hc => ?_) <;> try first | (exfalso; omega) | with_reducible first | exact absurd rfl hc | exact absurd hc Bool.false_ne_true | exact absurd hc Bool.false_ne_true.symm) | ((refine wa_begin 8 [false, false, false, false, false, false, false, false, false, false] [] ?_ <;> refine wa_p 0 ?_ <;> (first | refine wa_f 2 fun hbi => ?_ | refine wa_p 2 ?_ | fail) <;> (refine wa_do 1 ?_ <;> (repeat' (first | refine red ?_ | (refine redc fun r => ?_; try have hr := Subtype.property r) | refine redv fun sv => ?_ | refine redf fun hbi => ?_ | refine redn fun b => ?_ | refine reds ?_ | refine redi (fun hc => ?_) (fun hc => ?_) | refine redq (fun hc => ?_) (fun hc => ?_) | refine redp (fun r => ?_) (fun r => ?_) | fail))) <;> (refine wa_do 3 ?_ <;> (repeat' (first | refine red ?_ | (refine redc fun r => ?_; try have hr := Subtype.property r) | refine redv fun sv => ?_ | refine redf fun hbi => ?_ | refine redn fun b => ?_ | refine reds ?_ | refine redi (fun hc => ?_) (fun hc => ?_) | refine redq (fun hc => ?_) (fun hc => ?_) | refine redp (fun r => ?_) (fun r => ?_) | fail))) <;> (refine wa_do 4 ?_ <;> (repeat' (first | refine red ?_ | (refine redc fun r => ?_; try have hr := Subtype.property r) | refine redv fun sv => ?_ | refine redf fun hbi => ?_ | refine redn fun b => ?_ | refine reds ?_ | refine redi (fun hc => ?_) (fun hc => ?_) | refine redq (fun hc => ?_) (fun hc => ?_) | refine redp (fun r => ?_) (fun r => ?_) | fail))) <;> (first | refine wa_p 5 ?_ | refine wa_p0 5 ?_) <;> (first | refine wa_p 6 ?_ | refine wa_p0 6 ?_) <;> (first | refine wa_p 7 ?_ | refine wa_p0 7 ?_) <;> (first | refine wa_p 8 ?_ | refine wa_p0 8 ?_) <;> (first | refine wa_p 9 ?_ | refine wa_p0 9 ?_)) <;> (first | refine wa_end ?_ | with_reducible refine wq_keep ?_)) | ((refine wa_begin 14 [false, false, false, false, false] [] ?_ <;> refine wa_p 0 ?_ <;> refine wa_p 1 ?_ <;> (refine wa_do 2 ?_ <;> (repeat' (first | refine red ?_ | (refine redc fun r => ?_; try have hr := Subtype.property r) | refine redv fun sv => ?_ | refine redf fun hbi => ?_ | refine redn fun b => ?_ | refine reds ?_ | refine redi (fun hc => ?_) (fun hc => ?_) | refine redq (fun hc => ?_) (fun hc => ?_) | refine redp (fun r => ?_) (fun r => ?_) | fail))) <;> (refine wa_do 3 ?_ <;> (repeat' (first | refine red ?_ | (refine redc fun r => ?_; try have hr := Subtype.property r) | refine redv fun sv => ?_ | refine redf fun hbi => ?_ | refine redn fun b => ?_ | refine reds ?_ | refine redi (fun hc => ?_) (fun hc => ?_) | refine redq (fun hc => ?_) (fun hc => ?_) | refine redp (fun r => ?_) (fun r => ?_) | fail))) <;> (first | refine wa_p 4 ?_ | refine wa_p0 4 ?_ | (refine wa_do 4 ?_ <;> (repeat' (first | refine red ?_ | (refine redc fun r => ?_; try have hr := Subtype.property r) | refine redv fun sv => ?_ | refine redf fun hbi => ?_ | refine redn fun b => ?_ | refine reds ?_ | refine redi (fun hc => ?_) (fun hc => ?_) | refine redq (fun hc => ?_) (fun hc => ?_) | refine redp (fun r => ?_) (fun r => ?_) | fail))) | fail)) <;> (first | refine wa_end ?_ | with_reducible refine wq_keep ?_)) | ((refine wa_begin 16 [false, false, false, false, false] [] ?_ <;> (first | refine wa_f 0 fun hbi => ?_ | refine wa_p 0 ?_ | fail) <;> (first | refine wa_f 1 fun hbi => ?_ | refine wa_p 1 ?_ | (refine wa_do 1 ?_ <;> (repeat' (first | refine red ?_ | (refine redc fun r => ?_; try have hr := Subtype.property r) | refine redv fun sv => ?_ | refine redf fun hbi => ?_ | refine redn fun b => ?_ | refine reds ?_ | refine redi (fun hc => ?_) (fun hc => ?_) | refine redq (fun hc => ?_) (fun hc => ?_) | refine redp (fun r => ?_) (fun r => ?_) | fail))) | fail) <;> (refine wa_do 2 ?_ <;> (repeat' (first | refine red ?_ | (refine redc fun r => ?_; try have hr := Subtype.property r) | refine redv fun sv => ?_ | refine redf fun hbi => ?_ | refine redn fun b => ?_ | refine reds ?_ | refine redi (fun hc => ?_) (fun hc => ?_) | refine redq (fun hc => ?_) (fun hc => ?_) | refine redp (fun r => ?_) (fun r => ?_) | fail))) <;> (refine wa_do 3 ?_ <;> (repeat' (first | refine red ?_ | (refine redc fun r => ?_; try have hr := Subtype.property r) | refine redv fun sv => ?_ | refine redf fun hbi => ?_ | refine redn fun b => ?_ | refine reds ?_ | refine redi (fun hc => ?_) (fun hc => ?_) | refine redq (fun hc => ?_) (fun hc => ?_) | refine redp (fun r => ?_) (fun r => ?_) | fail))) <;> (first | refine wa_p 4 ?_ | refine wa_p0 4 ?_ | (refine wa_do 4 ?_ <;> (repeat' (first | refine red ?_ | (refine redc fun r => ?_; try have hr := Subtype.property r) | refine redv fun sv => ?_ | refine redf fun hbi => ?_ | refine redn fun b => ?_ | refine reds ?_ | refine redi (fun hc => ?_) (fun hc => ?_) | refine redq (fun hc => ?_) (fun hc => ?_) | refine redp (fun r => ?_) (fun r => ?_) | fail))) | fail)) <;> (first | refine wa_end ?_ | with_reducible refine wq_keep ?_)) | ((refine wa_begin 31 [false, false, false, false, false, false, false, false, false, false] [] ?_ <;> refine wa_p 0 ?_ <;> (first | refine wa_f 2 fun hbi => ?_ | refine wa_p 2 ?_ | fail) <;> (refine wa_do 1 ?_ <;> (repeat' (first | refine red ?_ | (refine redc fun r => ?_; try have hr := Subtype.property r) | refine redv fun sv => ?_ | refine redf fun hbi => ?_ | refine redn fun b => ?_ | refine reds ?_ | refine redi (fun hc => ?_) (fun hc => ?_) | refine redq (fun hc => ?_) (fun hc => ?_) | refine redp (fun r => ?_) (fun r => ?_) | fail))) <;> (refine wa_do 3 ?_ <;> (repeat' (first | refine red ?_ | (refine redc fun r => ?_; try have hr := Subtype.property r) | refine redv fun sv => ?_ | refine redf fun hbi => ?_ | refine redn fun b => ?_ | refine reds ?_ | refine redi (fun hc => ?_) (fun hc => ?_) | refine redq (fun hc => ?_) (fun hc => ?_) | refine redp (fun r => ?_) (fun r => ?_) | fail))) <;> (refine wa_do 4 ?_ <;> (repeat' (first | refine red ?_ | (refine redc fun r => ?_; try have hr := Subtype.property r) | refine redv fun sv => ?_ | refine redf fun hbi => ?_ | refine redn fun b => ?_ | refine reds ?_ | refine redi (fun hc => ?_) (fun hc => ?_) | refine redq (fun hc => ?_) (fun hc => ?_) | refine redp (fun r => ?_) (fun r => ?_) | fail))) <;> (first | refine wa_p 5 ?_ | refine wa_p0 5 ?_) <;> (first | refine wa_p 6 ?_ | refine wa_p0 6 ?_) <;> (first | refine wa_p 7 ?_ | refine wa_p0 7 ?_) <;> (first | refine wa_p 8 ?_ | refine wa_p0 8 ?_) <;> (first | refine wa_p 9 ?_ | refine wa_p0 9 ?_)) <;> (first | refine wa_end ?_ | with_reducible refine wq_keep ?_)) | fail)
  all_goals exact ⟨(), rfl, ent_e⟩

end Go.Proofs.Ytfdpmkilhllkoaa
