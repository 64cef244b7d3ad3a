/- Draws: automata. -/
import Derived.Test.YtbbdjjlnachnlaaGreatDraw2
import Derived.Test.YtbbdjjlnachnlaaGreatSureS
namespace Go.Proofs.YtbbdjjlnachnlaaGreat
open Go Go.Eng
set_option linter.unusedVariables false
set_option linter.unusedSimpArgs false
set_option synthInstance.maxHeartbeats 400000
set_option synthInstance.maxSize 1000
set_option maxHeartbeats 4000000
set_option maxRecDepth 20000


theorem l1Min_spec {w0 : World} {Γ : List Atom} {a b : Int} : CJ Tryz.prog 181 [.int .i64 a, .int .i64 b] w0 Γ (fun q : { m : Int // (m = a ∨ m = b) ∧ m ≤ a ∧ m ≤ b } => .int .i64 q.1) (fun _ => Γ) := by
  refine cj_enter Tryz.func181 Tryz.ntmps181 ?_
  repeat' (first | refine red ?_ | (refine redi (fun hc => ?_) (fun hc => ?_) <;> try first | (exfalso; omega) | exact absurd rfl hc) | fail)
  · exact ⟨⟨a, .inl rfl, by omega, by omega⟩, rfl, ent_e⟩
  · exact ⟨⟨b, .inr rfl, by omega, by omega⟩, rfl, ent_e⟩
instance l1Min_ctr {Γ : List Atom} {a b : Int} :
    CtrC Tryz.prog 181 [.int .i64 a, .int .i64 b] Γ (True) ({ m : Int // (m = a ∨ m = b) ∧ m ≤ a ∧ m ≤ b }) (fun q : { m : Int // (m = a ∨ m = b) ∧ m ≤ a ∧ m ≤ b } => .int .i64 q.1) (fun _ => Γ) := ⟨fun s w0 => l1Min_spec⟩

theorem l1Num_spec {w0 : World} {Γ Δ : List Atom} {bc : Nat} {vb : Value} {code : List UInt8} {p : CurS code} {m : Int} [hb : PullBk Γ bc (cur vb p) Δ] [hv : HasRd (List UInt8) repList Δ [vb] code] (hm : 0 ≤ m ∧ m ≤ 1048576) :
    CJ Tryz.prog 112 [.pointer (some ⟨bc, 0, none⟩), .int .i64 m] w0 Γ (fun q : { q : Int × CurS code // -9223372036854775808 ≤ q.1 ∧ q.1 ≤ 9223372036854775807 } => .int .i64 q.1.1) (fun q => .bk bc (cur vb q.1.2) :: Δ) := by
  refine cj_perm hb.perm ?_
  refine cj_enter Tryz.func112 Tryz.ntmps112 ?_
  repeat' (first | refine red ?_ | refine redf fun hbi => ?_ | refine reds ?_ | (refine redc fun r => ?_; try have hr := Subtype.property r) | refine redv fun sv => ?_ | (refine redi (fun hc => ?_) (fun hc => ?_) <;> try first | (exfalso; omega) | exact absurd rfl hc) | fail)
  · exact ⟨⟨(_, r.1.2), hbi⟩, rfl, ent_e⟩
  · exact ⟨⟨(r.1.1, r.1.2), by simp only; omega⟩, rfl, ent_e⟩
  · exact ⟨⟨(r.1.1, r.1.2), by simp only; omega⟩, rfl, ent_e⟩
instance l1Num_ctr {Γ Δ : List Atom} {bc : Nat} {vb : Value} {code : List UInt8} {p : CurS code} {m : Int} [hb : PullBk Γ bc (cur vb p) Δ] [hv : HasRd (List UInt8) repList Δ [vb] code] :
    CtrC Tryz.prog 112 [.pointer (some ⟨bc, 0, none⟩), .int .i64 m] Γ (0 ≤ m ∧ m ≤ 1048576) ({ q : Int × CurS code // -9223372036854775808 ≤ q.1 ∧ q.1 ≤ 9223372036854775807 }) (fun q : { q : Int × CurS code // -9223372036854775808 ≤ q.1 ∧ q.1 ≤ 9223372036854775807 } => .int .i64 q.1.1) (fun q => .bk bc (cur vb q.1.2) :: Δ) := ⟨fun s w0 => l1Num_spec s⟩

structure SgD (a : List Int) : Prop where
  len : 1 ≤ a.length ∧ a.length ≤ 4
  el : ∀ q ∈ a, 0 ≤ q ∧ q ≤ 2
theorem SgD.ok {a : List Int} (h : SgD a) : sigOk a = true := by
  unfold sigOk
  rw [Bool.and_eq_true, decide_eq_true_iff, List.all_eq_true]
  exact ⟨by have := h.len; omega, fun q hq => by have := h.el q hq; rw [decide_eq_true_iff]; omega⟩
theorem SgD.snoc {a : List Int} {n : Int} (h : SgD a) (hl : a.length ≤ 3) (hn : 0 ≤ n ∧ n ≤ 2) : SgD (a ++ [n]) := ⟨by rw [List.length_append, List.length_singleton]; have := h.len; omega, fun q hq => by
  rcases List.mem_append.1 hq with h1 | h1
  · exact h.el q h1
  · rw [List.mem_singleton] at h1; omega⟩
theorem l1DrawSigD_spec {w0 : World} {Γ Δ : List Atom} {bc : Nat} {vb : Value} {code : List UInt8} {p : CurS code} [hb : PullBk Γ bc (cur vb p) Δ] [hv : HasRd (List UInt8) repList Δ [vb] code] :
    CJ Tryz.prog 109 [.pointer (some ⟨bc, 0, none⟩)] w0 Γ (fun q : { q : Value × List Int × CurS code // SgD q.2.1 } => .agg #[q.1.1]) (fun q => .ow [q.1.1] q.1.2.1 :: .bk bc (cur vb q.1.2.2) :: Δ) := by
  refine cj_perm hb.perm ?_
  refine cj_enter Tryz.func109 Tryz.ntmps109 ?_
  repeat' (first | refine red ?_ | (refine redc fun r => ?_; try have hr := Subtype.property r) | refine redv fun sv => ?_ | refine redn fun b => ?_ | (refine redi (fun hc => ?_) (fun hc => ?_) <;> try first | (exfalso; omega) | exact absurd rfl hc) | fail)
  · refine wc_loop_p [4] [13, 14, 17, 18, 19, 20, 21, 22, 23, 15, 16] (ι := Int × Value × List Int × CurS code) (fun k => [.int .i64 k.1]) (fun k => [.bk b [k.2.1], .ow [k.2.1] k.2.2.1, .bk bc (cur vb k.2.2.2)]) (fun k => k.1 + k.2.2.1.length ≤ 4 ∧ SgD k.2.2.1) (fun k => k.1.toNat) (r.1.1, sv, [0], r.1.2) [.bk b [sv], .ow [sv] ([0] : List Int), .bk bc (cur vb r.1.2)] (by kernel_rfl) ⟨by simp only [List.length_cons, List.length_nil]; omega, ⟨by simp, fun q hq => by rw [List.mem_singleton] at hq; omega⟩⟩ rfl ?_
    intro ⟨n, sw, a, p0⟩ u l' hl' ⟨hk, hk2⟩
    simp only [patch, List.map_cons, List.map_nil, List.set_cons_zero, List.set_cons_succ] at hl'
    subst hl'
    simp only [List.cons_append, List.nil_append] at hk hk2 ⊢
    have hk3 := hk2.len
    repeat' (first | refine red ?_ | refine reds ?_ | (refine redi (fun hc => ?_) (fun hc => ?_) <;> try first | (exfalso; omega) | exact absurd rfl hc) | ((refine wa_beginc 7 [false, false, false, false, false, false, false, false] [5, 7] ?_ <;> (first | refine wa_p 0 ?_ | fail) <;> (first | refine wa_p 1 ?_ | fail) <;> refine wa_p 2 ?_ <;> (refine wa_do 3 ?_ <;> (repeat' (first | refine red ?_ | (refine redc fun r => ?_; try have hr := Subtype.property r) | fail))) <;> (refine wa_do 4 ?_ <;> (repeat' (first | refine red ?_ | refine redv fun sv => ?_ | fail))) <;> (refine wa_do 5 ?_ <;> (repeat' (first | refine red ?_ | refine redv fun sv => ?_ | fail))) <;> (first | refine wa_p0 6 ?_ | fail) <;> (refine wa_do 7 ?_ <;> (repeat' (first | refine red ?_ | fail)))) <;> (refine wa_end ?_)) | fail)
    · exact wq_next (n - 1, sv, a ++ [r.1.1], r.1.2) ⟨by simp only [List.length_append, List.length_cons, List.length_nil]; omega, hk2.snoc (by omega) (by omega)⟩ (by simp only; omega) (by kernel_rfl) ent_e
    · exact ⟨⟨(sw, a, p0), hk2⟩, rfl, ent_e⟩
  · exact ⟨⟨(sv, [2, 1, 0], r.2), ⟨by simp, by simp⟩⟩, rfl, ent_e⟩
instance l1DrawSigD_ctr {Γ Δ : List Atom} {bc : Nat} {vb : Value} {code : List UInt8} {p : CurS code} [hb : PullBk Γ bc (cur vb p) Δ] [hv : HasRd (List UInt8) repList Δ [vb] code] :
    CtrC Tryz.prog 109 [.pointer (some ⟨bc, 0, none⟩)] Γ (True) ({ q : Value × List Int × CurS code // SgD q.2.1 }) (fun q : { q : Value × List Int × CurS code // SgD q.2.1 } => .agg #[q.1.1]) (fun q => .ow [q.1.1] q.1.2.1 :: .bk bc (cur vb q.1.2.2) :: Δ) := ⟨fun s w0 => l1DrawSigD_spec⟩

abbrev DrA (x : SAuto) : Prop := (0 ≤ x.1 ∧ x.1 ≤ 16) ∧ x.2.1.length ≤ 300 ∧ x.2.2.length ≤ 16 ∧ ∀ t ∈ x.2.1, t.2.1.length ≤ 10
theorem len_snoc {rs : List STrans} {f t : Int} {xs : List Int} (h : ∀ t ∈ rs, t.2.1.length ≤ 10) (hx : xs.length ≤ 10) : ∀ t' ∈ rs ++ [(f, xs, t)], t'.2.1.length ≤ 10 := fun t' ht => by
  rcases List.mem_append.1 ht with h1 | h1
  · exact h t' h1
  · rw [List.mem_singleton] at h1; rw [h1]; exact hx
theorem set_getD {rs : List STrans} {j : Nat} : rs.set j (rs.getD j default) = rs := by
  apply List.ext_getElem?
  intro i
  rw [List.getElem?_set]
  split
  · rename_i h; subst h
    split
    · rename_i h; rw [List.getD_eq_getElem?_getD, List.getElem?_eq_getElem h]; rfl
    · rename_i h; rw [List.getElem?_eq_none (by omega)]
  · rfl
theorem getT? {rs : List STrans} {j : Nat} (h : j < rs.length) : rs[j]? = some (rs.getD j default) := by rw [List.getD_eq_getElem?_getD, List.getElem?_eq_getElem h]; rfl
theorem l23From3_spec {w0 : World} {Γ : List Atom} {v v1 : Value} {tr : STrans} {f t : Int} {xs : List Int} [h : HasRd (List Int) repList Γ [v] tr.2.1] [h1 : HasRd (List Int) repList Γ [v1] xs] : CJ Tryz.prog 73 [.agg #[.int .i64 tr.1, v, .int .i64 tr.2.2], .agg #[.int .i64 f, v1, .int .i64 t]] w0 Γ (fun q : Bool => .bool q) (fun _ => Γ) := by
  exact cj_mono (l23From_spec (tr := tr) (ts := (f, xs, t))) fun p => ⟨_, rfl, fun w hs => hs⟩
instance l23From3_ctr {Γ : List Atom} {v v1 : Value} {tr : STrans} {f t : Int} {xs : List Int} [h : HasRd (List Int) repList Γ [v] tr.2.1] [h1 : HasRd (List Int) repList Γ [v1] xs] :
    CtrC Tryz.prog 73 [.agg #[.int .i64 tr.1, v, .int .i64 tr.2.2], .agg #[.int .i64 f, v1, .int .i64 t]] Γ (True) (Bool) (fun q : Bool => .bool q) (fun _ => Γ) := ⟨fun s w0 => l23From3_spec⟩

theorem l23Draw_spec {w0 : World} {Γ Δ : List Atom} {bc : Nat} {vb va : Value} {code : List UInt8} {p : CurS code} {a : List Int} [hb : PullBk Γ bc (cur vb p) Δ] [hv : HasRd (List UInt8) repList Δ [vb] code] [ha : HasRd (List Int) repList Δ [va] a] (h : SgD a) :
    CJ Tryz.prog 48 [.pointer (some ⟨bc, 0, none⟩), .agg #[va]] w0 Γ (fun q : { q : Value × Value × SAuto × CurS code // DrA q.2.2.1 } => .agg #[.int .i64 q.1.2.2.1.1, q.1.1, q.1.2.1]) (fun q => .ow [q.1.1] q.1.2.2.1.2.1 :: .ow [q.1.2.1] q.1.2.2.1.2.2 :: .bk bc (cur vb q.1.2.2.2) :: Δ) := by
  refine cj_perm hb.perm ?_
  have hal := h.len
  refine cj_enter Tryz.func48 Tryz.ntmps48 ?_
  repeat' (first | refine red ?_ | refine reds ?_ | (refine redc fun r => ?_; try have hr := Subtype.property r) | refine redn fun b => ?_ | fail)
  rename_i r1 hr1
  refine wc_loop_p [6] [20, 21, 24, 25, 26, 27, 28, 7, 29, 30, 8, 31, 32, 33, 34, 35, 38, 39, 40, 41, 42, 43, 44, 36, 37, 45, 46, 47, 48, 49, 50, 9, 10, 51, 52, 53, 54, 55, 56, 57, 60, 61, 62, 63, 64, 65, 66, 67, 68, 58, 59, 11, 12, 69, 70, 71, 72, 73, 76, 77, 78, 79, 80, 81, 82, 83, 84, 85, 86, 87, 88, 89, 90, 91, 92, 93, 94, 95, 96, 97, 74, 75, 98, 99, 100, 101, 102, 103, 104, 22, 23] (ι := Int × Value × List STrans × CurS code) (fun k => [.int .i64 k.1]) (fun k => [.bk b [.int .i64 (1 + r1.1.1), k.2.1, .slice none 0 0], .ow [k.2.1] k.2.2.1, .bk bc (cur vb k.2.2.2)]) (fun k => -1 ≤ k.1 ∧ k.1 + k.2.2.1.length ≤ 6 ∧ ∀ t ∈ k.2.2.1, t.2.1.length ≤ 10) (fun k => (k.1 + 1).toNat) (r.1.1, .slice none 0 0, [], r.1.2) [.bk b [.int .i64 (1 + r1.1.1), .slice none 0 0, .slice none 0 0], .ow [.slice none 0 0] ([] : List STrans), .bk bc (cur vb r.1.2)] (by kernel_rfl) ⟨by simp only; omega, by simp only [List.length_nil]; omega, fun t ht => by cases ht⟩ rfl ?_
  intro ⟨k, rv, rs, p1⟩ u l' hl' ⟨hk1, hk2, hk3⟩
  simp only [patch, List.map_cons, List.map_nil, List.set_cons_zero, List.set_cons_succ] at hl'
  subst hl'
  simp only [List.cons_append, List.nil_append] at hk1 hk2 hk3 ⊢
  repeat' (first | refine red ?_ | (refine redc fun r => ?_; try have hr := Subtype.property r) | refine redn fun b => ?_ | (refine redi (fun hc => ?_) (fun hc => ?_) <;> try first | (exfalso; omega) | exact absurd rfl hc) | fail)
  · refine wc_loop_c [7, 8] [31, 32, 33, 34, 35, 38, 39, 40, 41, 42, 43, 44, 36, 37] (ι := Int × Nat) (fun j => [.int .i64 j.1, .int .i64 j.2]) (fun j => (0 ≤ j.1 ∧ j.1 < a.length) ∧ j.2 ≤ a.length) (fun j => a.length - j.2) (r.1.1, 0) (by kernel_rfl) ⟨by simp only; omega, Nat.zero_le _⟩ ?_
    intro ⟨f, g⟩ u l' hl' ⟨hf, hg⟩
    simp only [patch, List.map_cons, List.map_nil, List.set_cons_zero, List.set_cons_succ] at hl'
    subst hl'
    simp only at hf hg ⊢
    repeat' (first | refine red ?_ | refine redf fun hbi => ?_ | refine reds ?_ | (refine redc fun r => ?_; try have hr := Subtype.property r) | refine redn fun b => ?_ | (refine redi (fun hc => ?_) (fun hc => ?_) <;> try first | (exfalso; omega) | exact absurd rfl hc) | fail)
    · exact wq_next ((g : Int), g + 1) ⟨by simp only; omega, by simp only; omega⟩ (by simp only; omega) (by kernel_rfl) ent_e
    · exact wq_next (f, g + 1) ⟨by simp only; omega, by simp only; omega⟩ (by simp only; omega) (by kernel_rfl) ent_e
    generalize hto : r.1.1 = to
    have hel := h.el _ (getK (k := (f).toNat) (xs := a) (by omega))
    refine wc_loop_p [10] [51, 52, 53, 54, 55, 56, 57, 60, 61, 62, 63, 64, 65, 66, 67, 68, 58, 59] (ι := Nat × Value × List Int × CurS code) (fun j => [.int .i64 j.1]) (fun j => [.bk b [.int .i64 f, j.2.1, .int .i64 to], .ow [j.2.1] j.2.2.1, .bk bc (cur vb j.2.2.2)]) (fun j => j.1 ≤ 2 ∧ j.2.2.1.length = j.1) (fun j => 3 - j.1) (0, .slice none 0 0, [], r.1.2) [.bk b [.int .i64 f, .slice none 0 0, .int .i64 to], .ow [.slice none 0 0] ([] : List Int), .bk bc (cur vb r.1.2)] (by kernel_rfl) ⟨by simp only; omega, rfl⟩ rfl ?_
    intro ⟨i, av, xs, p2⟩ u l' hl' ⟨hi1, hi2⟩
    simp only [patch, List.map_cons, List.map_nil, List.set_cons_zero, List.set_cons_succ] at hl'
    subst hl'
    simp only [List.cons_append, List.nil_append] at hi1 hi2 ⊢
    repeat' (first | refine red ?_ | refine redf fun hbi => ?_ | refine reds ?_ | (refine redi (fun hc => ?_) (fun hc => ?_) <;> try first | (exfalso; omega) | exact absurd rfl hc) | fail)
    · ((refine wa_beginc 16 [false, false, false, false, false, false, false, false, false, false] [7, 9] ?_ <;> (first | refine wa_p 0 ?_ | fail) <;> (first | refine wa_p 1 ?_ | fail) <;> refine wa_p 2 ?_ <;> (first | refine wa_p 3 ?_ | fail) <;> (first | refine wa_p 4 ?_ | fail) <;> (refine wa_do 5 ?_ <;> (repeat' (first | refine red ?_ | (refine redc fun r => ?_; try have hr := Subtype.property r) | fail))) <;> (refine wa_do 6 ?_ <;> (repeat' (first | refine red ?_ | refine redv fun sv => ?_ | fail))) <;> (refine wa_do 7 ?_ <;> (repeat' (first | refine red ?_ | refine redv fun sv => ?_ | fail))) <;> (first | refine wa_p0 8 ?_ | fail) <;> (refine wa_do 9 ?_ <;> (repeat' (first | refine red ?_ | fail)))) <;> (refine wa_end ?_))
      repeat' (first | refine red ?_ | refine reds ?_ | fail)
      exact wq_next (i + 1, sv, xs ++ [r.1.1], r.1.2) ⟨by simp only; omega, by simp only [List.length_append, List.length_singleton]; omega⟩ (by simp only; omega) (by kernel_rfl) ent_e
    refine wc_loop_c [11, 12] [69, 70, 71, 72, 73, 76, 77, 78, 79, 80, 81, 82, 83, 84, 85, 86, 87, 88, 89, 90, 91, 92, 93, 94, 95, 96, 97, 74, 75] (ι := Bool × Nat) (fun j => [.bool j.1, .int .i64 j.2]) (fun j => j.2 ≤ rs.length) (fun j => rs.length - j.2) (true, 0) (by kernel_rfl) (Nat.zero_le _) ?_
    intro ⟨fr, j⟩ u l' hl' hj
    simp only [patch, List.map_cons, List.map_nil, List.set_cons_zero, List.set_cons_succ] at hl'
    subst hl'
    simp only at hj ⊢
    cases fr
    · repeat' (first | refine red ?_ | refine reds ?_ | (refine redi (fun hc => ?_) (fun hc => ?_) <;> try first | (exfalso; omega) | exact absurd rfl hc) | fail)
      · ((refine wa_beginc 21 [false, false, false, false, false, false, false, false, false, false, false, false, false, false, false, false, false, false, false, false, false, false, false] [] ?_ <;> refine wa_p 0 ?_ <;> refine wa_p 1 ?_ <;> (first | refine wa_no 2 ?_ | fail) <;> (first | refine wa_no 3 ?_ | fail) <;> (first | refine wa_no 4 ?_ | fail) <;> (first | refine wa_no 5 ?_ | fail) <;> (first | refine wa_no 6 ?_ | fail) <;> (first | refine wa_no 7 ?_ | fail) <;> (refine wa_do 8 ?_ <;> (repeat' (first | refine red ?_ | fail))) <;> (first | refine wa_no 9 ?_ | fail) <;> (first | refine wa_no 10 ?_ | fail) <;> (first | refine wa_no 11 ?_ | fail) <;> (first | refine wa_no 12 ?_ | fail) <;> (first | refine wa_no 13 ?_ | fail) <;> (first | refine wa_no 14 ?_ | fail) <;> (first | refine wa_no 15 ?_ | fail) <;> (first | refine wa_no 16 ?_ | fail) <;> (first | refine wa_no 17 ?_ | fail) <;> (first | refine wa_no 18 ?_ | fail) <;> (first | refine wa_no 19 ?_ | fail) <;> (first | refine wa_no 20 ?_ | fail) <;> (first | refine wa_p 21 ?_ | fail) <;> refine wa_p 22 ?_) <;> (refine wa_end ?_))
        repeat' (first | refine red ?_ | refine reds ?_ | fail)
        exact wq_next (false, j + 1) (by simp only; omega) (by simp only; omega) (by kernel_rfl) ent_e
      · exact wq_next (k - 1, rv, rs, p2) ⟨by simp only; omega, by simp only; omega, hk3⟩ (by simp only; omega) (by kernel_rfl) ent_e
    · repeat' (first | refine red ?_ | refine reds ?_ | refine redv fun sv => ?_ | (refine redi (fun hc => ?_) (fun hc => ?_) <;> try first | (exfalso; omega) | exact absurd rfl hc) | fail)
      · refine wc_focus rv j (y := rs.getD j default) (getT? (by omega)) fun q hq => ?_
        simp only [UnO.cells, UnO.atoms, UnO.fact, List.cons_append, List.nil_append] at hq ⊢
        ((refine wa_beginc 21 [false, false, false, false, false, false, false, false, false, false, false, false, false, false, false, false, false, false, false, false, false, false, false] [] ?_ <;> refine wa_p 0 ?_ <;> refine wa_p 1 ?_ <;> (first | refine wa_pg 2 ?_ | fail) <;> (first | refine wa_pg 3 ?_ | fail) <;> (first | refine wa_pg 4 ?_ | fail) <;> (first | refine wa_pg 5 ?_ | fail) <;> (first | refine wa_pg 6 ?_ | fail) <;> (first | refine wa_pg 7 ?_ | fail) <;> (refine wa_do 8 ?_ <;> (repeat' (first | refine red ?_ | (refine redc fun r => ?_; try have hr := Subtype.property r) | fail))) <;> (first | refine wa_pg 9 ?_ | fail) <;> (first | (refine wa_if 85 (fun hc => ?_) (fun hc => ?_) <;> (try first | (exfalso; omega) | exact absurd rfl hc) <;> first | refine wa_pg 10 ?_ | refine wa_no 10 ?_) | fail) <;> (first | refine wa_pg 11 ?_ | refine wa_no 11 ?_ | fail) <;> (first | refine wa_pg 12 ?_ | refine wa_no 12 ?_ | fail) <;> (first | refine wa_pg 13 ?_ | refine wa_no 13 ?_ | fail) <;> (first | refine wa_pg 14 ?_ | refine wa_no 14 ?_ | fail) <;> (first | refine wa_pg 15 ?_ | refine wa_no 15 ?_ | fail) <;> (first | refine wa_pg 16 ?_ | refine wa_no 16 ?_ | fail) <;> (first | refine wa_pg 17 ?_ | refine wa_no 17 ?_ | fail) <;> (first | refine wa_pg 18 ?_ | refine wa_no 18 ?_ | fail) <;> (first | refine wa_pg 19 ?_ | fail) <;> (first | refine wa_pg 20 ?_ | fail) <;> (first | refine wa_p 21 ?_ | fail) <;> refine wa_p 22 ?_) <;> (refine wa_end ?_))
        · repeat' (first | refine red ?_ | refine reds ?_ | fail)
          refine wq_unfocus (Ε := ?Epx) rv (rs.getD j default) ?hpx ?_
          case hpx => exact own_cons (own_int hq.1) (own_cons (own_pull) (own_int hq.2.2))
          rw [set_getD]
          exact wq_next (!decide ((rs.getD j default).2.2 = to), j + 1) (by simp only; omega) (by simp only; omega) (by kernel_rfl) ent_e
        · repeat' (first | refine red ?_ | refine reds ?_ | fail)
          refine wq_unfocus (Ε := ?Epy) rv (rs.getD j default) ?hpy ?_
          case hpy => exact own_cons (own_int hq.1) (own_cons (own_pull) (own_int hq.2.2))
          rw [set_getD]
          exact wq_next (true, j + 1) (by simp only; omega) (by simp only; omega) (by kernel_rfl) ent_e
      · exact wq_next (k - 1, sv, rs ++ [(f, xs, to)], p2) ⟨by simp only; omega, by simp only [List.length_append, List.length_singleton]; omega, len_snoc hk3 (by omega)⟩ (by simp only; omega) (by kernel_rfl) ent_e
  · rename_i r2 hr2
    generalize hto : r.1.1 = to
    have hel := h.el _ (getK (k := (r2.1.1).toNat) (xs := a) (by omega))
    refine wc_loop_p [10] [51, 52, 53, 54, 55, 56, 57, 60, 61, 62, 63, 64, 65, 66, 67, 68, 58, 59] (ι := Nat × Value × List Int × CurS code) (fun j => [.int .i64 j.1]) (fun j => [.bk b [.int .i64 r2.1.1, j.2.1, .int .i64 to], .ow [j.2.1] j.2.2.1, .bk bc (cur vb j.2.2.2)]) (fun j => j.1 ≤ 2 ∧ j.2.2.1.length = j.1) (fun j => 3 - j.1) (0, .slice none 0 0, [], r.1.2) [.bk b [.int .i64 r2.1.1, .slice none 0 0, .int .i64 to], .ow [.slice none 0 0] ([] : List Int), .bk bc (cur vb r.1.2)] (by kernel_rfl) ⟨by simp only; omega, rfl⟩ rfl ?_
    intro ⟨i, av, xs, p2⟩ u l' hl' ⟨hi1, hi2⟩
    simp only [patch, List.map_cons, List.map_nil, List.set_cons_zero, List.set_cons_succ] at hl'
    subst hl'
    simp only [List.cons_append, List.nil_append] at hi1 hi2 ⊢
    repeat' (first | refine red ?_ | refine redf fun hbi => ?_ | refine reds ?_ | (refine redi (fun hc => ?_) (fun hc => ?_) <;> try first | (exfalso; omega) | exact absurd rfl hc) | fail)
    · ((refine wa_beginc 16 [false, false, false, false, false, false, false, false, false, false] [7, 9] ?_ <;> (first | refine wa_p 0 ?_ | fail) <;> (first | refine wa_p 1 ?_ | fail) <;> refine wa_p 2 ?_ <;> (first | refine wa_p 3 ?_ | fail) <;> (first | refine wa_p 4 ?_ | fail) <;> (refine wa_do 5 ?_ <;> (repeat' (first | refine red ?_ | (refine redc fun r => ?_; try have hr := Subtype.property r) | fail))) <;> (refine wa_do 6 ?_ <;> (repeat' (first | refine red ?_ | refine redv fun sv => ?_ | fail))) <;> (refine wa_do 7 ?_ <;> (repeat' (first | refine red ?_ | refine redv fun sv => ?_ | fail))) <;> (first | refine wa_p0 8 ?_ | fail) <;> (refine wa_do 9 ?_ <;> (repeat' (first | refine red ?_ | fail)))) <;> (refine wa_end ?_))
      repeat' (first | refine red ?_ | refine reds ?_ | fail)
      exact wq_next (i + 1, sv, xs ++ [r.1.1], r.1.2) ⟨by simp only; omega, by simp only [List.length_append, List.length_singleton]; omega⟩ (by simp only; omega) (by kernel_rfl) ent_e
    refine wc_loop_c [11, 12] [69, 70, 71, 72, 73, 76, 77, 78, 79, 80, 81, 82, 83, 84, 85, 86, 87, 88, 89, 90, 91, 92, 93, 94, 95, 96, 97, 74, 75] (ι := Bool × Nat) (fun j => [.bool j.1, .int .i64 j.2]) (fun j => j.2 ≤ rs.length) (fun j => rs.length - j.2) (true, 0) (by kernel_rfl) (Nat.zero_le _) ?_
    intro ⟨fr, j⟩ u l' hl' hj
    simp only [patch, List.map_cons, List.map_nil, List.set_cons_zero, List.set_cons_succ] at hl'
    subst hl'
    simp only at hj ⊢
    cases fr
    · repeat' (first | refine red ?_ | refine reds ?_ | (refine redi (fun hc => ?_) (fun hc => ?_) <;> try first | (exfalso; omega) | exact absurd rfl hc) | fail)
      · ((refine wa_beginc 21 [false, false, false, false, false, false, false, false, false, false, false, false, false, false, false, false, false, false, false, false, false, false, false] [] ?_ <;> refine wa_p 0 ?_ <;> refine wa_p 1 ?_ <;> (first | refine wa_no 2 ?_ | fail) <;> (first | refine wa_no 3 ?_ | fail) <;> (first | refine wa_no 4 ?_ | fail) <;> (first | refine wa_no 5 ?_ | fail) <;> (first | refine wa_no 6 ?_ | fail) <;> (first | refine wa_no 7 ?_ | fail) <;> (refine wa_do 8 ?_ <;> (repeat' (first | refine red ?_ | fail))) <;> (first | refine wa_no 9 ?_ | fail) <;> (first | refine wa_no 10 ?_ | fail) <;> (first | refine wa_no 11 ?_ | fail) <;> (first | refine wa_no 12 ?_ | fail) <;> (first | refine wa_no 13 ?_ | fail) <;> (first | refine wa_no 14 ?_ | fail) <;> (first | refine wa_no 15 ?_ | fail) <;> (first | refine wa_no 16 ?_ | fail) <;> (first | refine wa_no 17 ?_ | fail) <;> (first | refine wa_no 18 ?_ | fail) <;> (first | refine wa_no 19 ?_ | fail) <;> (first | refine wa_no 20 ?_ | fail) <;> (first | refine wa_p 21 ?_ | fail) <;> refine wa_p 22 ?_) <;> (refine wa_end ?_))
        repeat' (first | refine red ?_ | refine reds ?_ | fail)
        exact wq_next (false, j + 1) (by simp only; omega) (by simp only; omega) (by kernel_rfl) ent_e
      · exact wq_next (k - 1, rv, rs, p2) ⟨by simp only; omega, by simp only; omega, hk3⟩ (by simp only; omega) (by kernel_rfl) ent_e
    · repeat' (first | refine red ?_ | refine reds ?_ | refine redv fun sv => ?_ | (refine redi (fun hc => ?_) (fun hc => ?_) <;> try first | (exfalso; omega) | exact absurd rfl hc) | fail)
      · refine wc_focus rv j (y := rs.getD j default) (getT? (by omega)) fun q hq => ?_
        simp only [UnO.cells, UnO.atoms, UnO.fact, List.cons_append, List.nil_append] at hq ⊢
        ((refine wa_beginc 21 [false, false, false, false, false, false, false, false, false, false, false, false, false, false, false, false, false, false, false, false, false, false, false] [] ?_ <;> refine wa_p 0 ?_ <;> refine wa_p 1 ?_ <;> (first | refine wa_pg 2 ?_ | fail) <;> (first | refine wa_pg 3 ?_ | fail) <;> (first | refine wa_pg 4 ?_ | fail) <;> (first | refine wa_pg 5 ?_ | fail) <;> (first | refine wa_pg 6 ?_ | fail) <;> (first | refine wa_pg 7 ?_ | fail) <;> (refine wa_do 8 ?_ <;> (repeat' (first | refine red ?_ | (refine redc fun r => ?_; try have hr := Subtype.property r) | fail))) <;> (first | refine wa_pg 9 ?_ | fail) <;> (first | (refine wa_if 85 (fun hc => ?_) (fun hc => ?_) <;> (try first | (exfalso; omega) | exact absurd rfl hc) <;> first | refine wa_pg 10 ?_ | refine wa_no 10 ?_) | fail) <;> (first | refine wa_pg 11 ?_ | refine wa_no 11 ?_ | fail) <;> (first | refine wa_pg 12 ?_ | refine wa_no 12 ?_ | fail) <;> (first | refine wa_pg 13 ?_ | refine wa_no 13 ?_ | fail) <;> (first | refine wa_pg 14 ?_ | refine wa_no 14 ?_ | fail) <;> (first | refine wa_pg 15 ?_ | refine wa_no 15 ?_ | fail) <;> (first | refine wa_pg 16 ?_ | refine wa_no 16 ?_ | fail) <;> (first | refine wa_pg 17 ?_ | refine wa_no 17 ?_ | fail) <;> (first | refine wa_pg 18 ?_ | refine wa_no 18 ?_ | fail) <;> (first | refine wa_pg 19 ?_ | fail) <;> (first | refine wa_pg 20 ?_ | fail) <;> (first | refine wa_p 21 ?_ | fail) <;> refine wa_p 22 ?_) <;> (refine wa_end ?_))
        · repeat' (first | refine red ?_ | refine reds ?_ | fail)
          refine wq_unfocus (Ε := ?Eqx) rv (rs.getD j default) ?hqx ?_
          case hqx => exact own_cons (own_int hq.1) (own_cons (own_pull) (own_int hq.2.2))
          rw [set_getD]
          exact wq_next (!decide ((rs.getD j default).2.2 = to), j + 1) (by simp only; omega) (by simp only; omega) (by kernel_rfl) ent_e
        · repeat' (first | refine red ?_ | refine reds ?_ | fail)
          refine wq_unfocus (Ε := ?Eqy) rv (rs.getD j default) ?hqy ?_
          case hqy => exact own_cons (own_int hq.1) (own_cons (own_pull) (own_int hq.2.2))
          rw [set_getD]
          exact wq_next (true, j + 1) (by simp only; omega) (by simp only; omega) (by kernel_rfl) ent_e
      · exact wq_next (k - 1, sv, rs ++ [(r2.1.1, xs, to)], p2) ⟨by simp only; omega, by simp only [List.length_append, List.length_singleton]; omega, len_snoc hk3 (by omega)⟩ (by simp only; omega) (by kernel_rfl) ent_e
  · refine wc_loop_p [13] [105, 106, 107, 108, 111, 112, 113, 114, 115, 116, 117, 118, 109, 110] (ι := Nat × Value × List Int × CurS code) (fun j => [.int .i64 j.1]) (fun j => [.bk b [.int .i64 (1 + r1.1.1), rv, j.2.1], .ow [j.2.1] j.2.2.1, .bk bc (cur vb j.2.2.2)]) (fun j => j.1 ≤ 16 ∧ j.2.2.1.length ≤ j.1) (fun j => 17 - j.1) (0, .slice none 0 0, [], p1) [.bk b [.int .i64 (1 + r1.1.1), rv, .slice none 0 0], .ow [.slice none 0 0] ([] : List Int), .bk bc (cur vb p1)] (by kernel_rfl) ⟨Nat.zero_le _, Nat.le_refl _⟩ rfl ?_
    intro ⟨i, fv, fs, p2⟩ u l' hl' ⟨hi1, hi2⟩
    simp only [patch, List.map_cons, List.map_nil, List.set_cons_zero, List.set_cons_succ] at hl'
    subst hl'
    simp only [List.cons_append, List.nil_append] at hi1 hi2 ⊢
    repeat' (first | refine red ?_ | refine reds ?_ | (refine redc fun r => ?_; try have hr := Subtype.property r) | refine redv fun sv => ?_ | (refine redi (fun hc => ?_) (fun hc => ?_) <;> try first | (exfalso; omega) | exact absurd rfl hc) | fail)
    · exact wq_next (i + 1, sv, fs ++ [(i : Int)], r.2) ⟨by simp only; omega, by simp only [List.length_append, List.length_singleton]; omega⟩ (by simp only; omega) (by kernel_rfl) ent_e
    · exact wq_next (i + 1, fv, fs, r.2) ⟨by simp only; omega, by simp only; omega⟩ (by simp only; omega) (by kernel_rfl) ent_e
    · exact ⟨⟨(rv, fv, (1 + r1.1.1, rs, fs), p2), ⟨by simp only; omega, by simp only; omega, by simp only; omega, hk3⟩⟩, rfl, ent_e⟩
instance l23Draw_ctr {Γ Δ : List Atom} {bc : Nat} {vb va : Value} {code : List UInt8} {p : CurS code} {a : List Int} [hb : PullBk Γ bc (cur vb p) Δ] [hv : HasRd (List UInt8) repList Δ [vb] code] [ha : HasRd (List Int) repList Δ [va] a] :
    CtrC Tryz.prog 48 [.pointer (some ⟨bc, 0, none⟩), .agg #[va]] Γ (SgD a) ({ q : Value × Value × SAuto × CurS code // DrA q.2.2.1 }) (fun q : { q : Value × Value × SAuto × CurS code // DrA q.2.2.1 } => .agg #[.int .i64 q.1.2.2.1.1, q.1.1, q.1.2.1]) (fun q => .ow [q.1.1] q.1.2.2.1.2.1 :: .ow [q.1.2.1] q.1.2.2.1.2.2 :: .bk bc (cur vb q.1.2.2.2) :: Δ) := ⟨fun s w0 => l23Draw_spec s⟩

end Go.Proofs.YtbbdjjlnachnlaaGreat
