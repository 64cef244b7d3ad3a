/- All ground terms up to a length: the reference's list holds ground terms alone. -/
import Derived.Test.YtbbdjjlnachnlaaGreatAuto2
import Derived.Test.YtbbdjjlnachnlaaGreatStat
import Derived.Test.YtbbdjjlnachnlaaGreatSurI
import Derived.Test.YtbbdjjlnachnlaaGreatAutL
namespace Go.Proofs.YtbbdjjlnachnlaaGreat
open Go Go.Eng
set_option linter.unusedVariables false
set_option linter.unusedSimpArgs false
set_option synthInstance.maxHeartbeats 400000
set_option synthInstance.maxSize 1000
set_option maxHeartbeats 2000000
set_option maxRecDepth 20000


theorem skp_ext {a : List Int} {bad : Int → Bool} {r : List Int} : ∀ (l : List Int) (m : Nat), (skp a bad l m).1 = true → skp a bad (l ++ r) m = skp a bad l m
  | l, 0, _ => by simp [skp]
  | [], m + 1, h => by simp [skp] at h
  | x :: xs, m + 1, h => by
    simp only [skp, List.cons_append] at h ⊢
    by_cases hb : bad x = true
    · rw [if_pos hb] at h; cases h
    · rw [if_neg hb] at h ⊢
      rw [if_neg hb, skp_ext xs _ h]
/-- r is m ground terms, one behind the other. -/
structure RowG (a : List Int) (m : Nat) (r : List Int) : Prop where
  sk : skp a (badS a) r m = (true, r.length)
  nn : ∀ q ∈ r, 0 ≤ q
theorem rowG_nil (a : List Int) : RowG a 0 [] := ⟨by simp [skp], fun q h => by cases h⟩
theorem rowG_app {a t r : List Int} {m : Nat} (h : RowG a 1 t) (h' : RowG a m r) : RowG a (m + 1) (t ++ r) := ⟨by
  have e := skp_ext (r := r) t 1 (by rw [h.sk])
  rw [Nat.add_comm m 1, skp_split, e, h.sk]
  simp only [if_pos, List.drop_left, h'.sk, List.length_append], fun q hq => (List.mem_append.1 hq).elim (h.nn q) (h'.nn q)⟩
theorem rowG_cons {a r : List Int} {f m : Nat} (hf : f < a.length) (hm : a.getD f 0 = (m : Int)) (h : RowG a m r) : RowG a 1 ((f : Int) :: r) := ⟨by
  have h1 : ar a (f : Int) = (m : Int) := by unfold ar; rw [if_neg (by omega)]; simpa using hm
  have h2 : badS a (f : Int) = false := by unfold badS; rw [decide_eq_false_iff_not]; omega
  simp only [skp, h2, h1, List.length_cons]
  rw [show 0 + ((m : Int)).toNat = m by omega, h.sk]
  rfl, fun q hq => by
  rcases List.mem_cons.1 hq with h1 | h1
  · omega
  · exact h.nn q h1⟩
theorem rowG_gr {a t : List Int} (hs : sigOk a = true) (h : RowG a 1 t) (h1 : 1 ≤ t.length) (h2 : t.length ≤ 60) : GrP a t :=
  ⟨termOk_iff.2 ⟨hs, h1, h2, h.sk⟩, fun i hi => h.nn _ (getK hi)⟩
theorem LessTermF_spec {w0 : World} {Γ : List Atom} {v v1 : Value} {xs ys : List Int} [h : HasRd (List Int) repList Γ [v] xs] [h1 : HasRd (List Int) repList Γ [v1] ys] : CJ Tryz.prog 129 [v, v1] w0 Γ (fun q : Bool => .bool q) (fun _ => Γ) := by
  refine cj_lift (R := [.rd [v] xs, .rd [v1] ys]) (A := fun _ => []) (fun w1 => ?_) (reads_cons h (reads_cons h1 (inferInstance))) (fun _ => inferInstance)
  simp only [List.cons_append, List.nil_append]
  refine cj_len v fun hlx => ?_
  refine cj_len v1 fun hly => ?_
  refine cj_enter Tryz.func129 Tryz.ntmps129 ?_
  repeat' (first | refine red ?_ | (refine redi (fun hc => ?_) (fun hc => ?_) <;> try first | (exfalso; omega) | with_reducible first | exact absurd rfl hc | exact absurd hc Bool.false_ne_true | exact absurd hc Bool.false_ne_true.symm) | fail)
  · exact ⟨_, rfl, ent_e⟩
  refine wc_loop_c [5] [16, 17, 18, 19, 22, 23, 24, 25, 26, 27, 28, 29, 30, 31, 32, 33, 34, 35, 36, 37, 38, 39, 4, 20, 21] (ι := Nat) (fun k => [.int .i64 k]) (fun k => k ≤ xs.length) (fun k => xs.length - k) 0 (by kernel_rfl) (Nat.zero_le _) ?_
  intro k u l' hl' hk
  simp only [patch, List.map_cons, List.map_nil, List.set_cons_zero, List.set_cons_succ] at hl'
  subst hl'
  have hxy : xs.length = ys.length := by omega
  repeat' (first | refine red ?_ | refine reds ?_ | (refine redi (fun hc => ?_) (fun hc => ?_) <;> try first | (exfalso; omega) | with_reducible first | exact absurd rfl hc | exact absurd hc Bool.false_ne_true | exact absurd hc Bool.false_ne_true.symm) | ((refine wa_begin 6 [false, false, false, false, false, false, false, false, false] [] ?_ <;> refine wa_p 0 ?_ <;> refine wa_p 1 ?_ <;> refine wa_p 2 ?_ <;> (first | refine wa_f 3 fun hbi => ?_ | fail) <;> refine wa_p 4 ?_ <;> refine wa_p 5 ?_ <;> refine wa_p 6 ?_ <;> (first | refine wa_f 7 fun hbi => ?_ | fail) <;> (first | refine wa_p 8 ?_ | fail)) <;> (refine wa_end ?_)) | ((refine wa_begin 7 [false, false, false, false, false, false, false, false, false, false] [] ?_ <;> refine wa_p 0 ?_ <;> refine wa_p 1 ?_ <;> refine wa_p 2 ?_ <;> (first | refine wa_f 3 fun hbi => ?_ | fail) <;> refine wa_p 4 ?_ <;> refine wa_p 5 ?_ <;> refine wa_p 6 ?_ <;> (first | refine wa_f 7 fun hbi => ?_ | fail) <;> refine wa_p 8 ?_ <;> refine wa_p 9 ?_) <;> (refine wa_end ?_)) | fail)
  all_goals first
    | exact ⟨_, rfl, ent_e⟩
    | exact wq_next (k + 1) (by omega) (by omega) (by kernel_rfl) ent_e
    | fail
instance LessTermF_ctr {Γ : List Atom} {v v1 : Value} {xs ys : List Int} [h : HasRd (List Int) repList Γ [v] xs] [h1 : HasRd (List Int) repList Γ [v1] ys] :
    CtrC Tryz.prog 129 [v, v1] Γ (True) (Bool) (fun q : Bool => .bool q) (fun _ => Γ) := ⟨fun s w0 => LessTermF_spec⟩

theorem ent_tord {w0 : World} {Γ Δ Ε : List Atom} {α : Type} {i : Rep α} {S : Prop} (c : Value) {x : α} [h : ToRd α i Γ c x Δ S] (s : S) (h2 : Ent w0 (@Atom.rd α i [c] x :: Δ) Ε) : Ent w0 Γ Ε := fun w hs => h2 w (h.ent s w0 w hs)
theorem shmk_v {α : Type} (l : List α) : (l.map Sh.mk).map Sh.v = l := by rw [List.map_map]; exact List.map_id l
/-- xs with t put in somewhere. -/
structure InsG (xs : List (List Int)) (t : List Int) (ys : List (List Int)) : Prop where
  len : ys.length = xs.length + 1
  mem : ∀ y ∈ ys, y ∈ xs ∨ y = t
theorem l28Insert_spec {w0 : World} {Γ : List Atom} {v vt : Value} {xs : List (List Int)} {t : List Int} [h : HasIm (List (List Int)) repList Γ [v] xs] [h1 : HasIm (List Int) repList Γ [vt] t] (hl : xs.length ≤ 10000) :
    CJ Tryz.prog 79 [v, vt] w0 Γ (fun q : { q : Value × List (List Int) // InsG xs t q.2 } => q.1.1) (fun q => .rd [q.1.1] q.1.2 :: Γ) := by
  refine cj_enter Tryz.func79 Tryz.ntmps79 ?_
  repeat' (first | refine red ?_ | fail)
  refine wc_loop_c [5] [9, 10, 11, 12, 13, 14, 15, 16, 17, 18, 19, 20, 21] (ι := Nat) (fun k => [.int .i64 k]) (fun k => k ≤ xs.length) (fun k => k) xs.length (by kernel_rfl) (Nat.le_refl _) ?_
  intro k u l' hl' hk
  simp only [patch, List.map_cons, List.map_nil, List.set_cons_zero, List.set_cons_succ] at hl'
  subst hl'
  have hml : (List.map Sh.mk (List.take ((k : Nat) : Int).toNat xs)).length ≤ 10000 := by rw [List.length_map, List.length_take]; omega
  have h1t : (List.map Sh.mk [t]).length ≤ 1 := Nat.le_refl _
  repeat' (first | refine red ?_ | refine reds ?_ | (refine redc fun r => ?_; try have hr := Subtype.property r) | refine redv fun sv => ?_ | (refine redd fun p cs as_ hcs has hf => ?_; simp only [Un.cells, Un.atoms, Un.fact, List.cons_append, List.nil_append] at hcs has hf; subst hcs has) | (refine redi (fun hc => ?_) (fun hc => ?_) <;> try first | (exfalso; omega) | with_reducible first | exact absurd rfl hc | exact absurd hc Bool.false_ne_true | exact absurd hc Bool.false_ne_true.symm) | fail)
  · rw [show ((k : Nat) : Int) - 1 = ((k - 1 : Nat) : Int) by omega]
    exact wq_next (k - 1) (by omega) (by omega) (by kernel_rfl) ent_e
  all_goals
   rename_i s0
   refine wl_toSh s0 ?_
   simp only [List.map_nil]
   repeat' (first | refine red ?_ | refine redv fun sv => ?_ | fail)
   refine ⟨⟨(sv, xs.take k ++ [t] ++ xs.drop k), ?_, ?_⟩, rfl, ?_⟩
   · simp only [List.length_append, List.length_take, List.length_drop, List.length_singleton]; omega
   · intro y hy
     rcases List.mem_append.1 hy with hy | hy
     · rcases List.mem_append.1 hy with hy | hy
       · exact .inl (List.mem_of_mem_take hy)
       · exact .inr (List.mem_singleton.1 hy)
     · exact .inl (List.mem_of_mem_drop hy)
   · refine ent_tord (α := List (List Int)) (i := repList) sv True.intro ?_
     simp only [List.nil_append, List.map_append, shmk_v, Int.toNat_natCast]
     exact ent_e
instance l28Insert_ctr {Γ : List Atom} {v vt : Value} {xs : List (List Int)} {t : List Int} [h : HasIm (List (List Int)) repList Γ [v] xs] [h1 : HasIm (List Int) repList Γ [vt] t] :
    CtrC Tryz.prog 79 [v, vt] Γ (xs.length ≤ 10000) ({ q : Value × List (List Int) // InsG xs t q.2 }) (fun q : { q : Value × List (List Int) // InsG xs t q.2 } => q.1.1) (fun q => .rd [q.1.1] q.1.2 :: Γ) := ⟨fun s w0 => l28Insert_spec s⟩

abbrev Lvs : Type := List (Sh (List (List Int)))
structure BlC (bl : Lvs) (n : Int) : Prop where
  len : n < bl.length ∧ bl.length ≤ 60
  cnt : ∀ k, (bl.getD k default).v.length ≤ 10000
  el : ∀ k, ∀ t ∈ (bl.getD k default).v, t.length = k
def BlG (a : List Int) (bl : Lvs) : Prop := ∀ k, ∀ t ∈ (bl.getD k default).v, RowG a 1 t
structure RowsG (bl : Lvs) (m : Nat) (n : Int) (rows : List (List Int)) : Prop where
  cnt : rows.length ≤ 201
  len : ∀ r ∈ rows, (r.length : Int) = n
  el : ∀ a, BlG a bl → ∀ r ∈ rows, RowG a m r
theorem rowsG_nil {bl : Lvs} {m : Nat} {n : Int} : RowsG bl m n [] := ⟨by simp, fun r h => (List.not_mem_nil h).elim, fun a _ r h => (List.not_mem_nil h).elim⟩
theorem rowsG_one {bl : Lvs} : RowsG bl 0 0 [[]] := ⟨by simp, fun r h => by rw [List.mem_singleton] at h; subst h; rfl, fun a _ r h => by rw [List.mem_singleton] at h; subst h; exact rowG_nil a⟩
theorem getG {α : Type} [Inhabited α] {xs : List α} {k : Nat} (h : k < xs.length) : xs.getD k default ∈ xs := by
  rw [List.getD_eq_getElem?_getD, List.getElem?_eq_getElem h]; exact List.getElem_mem h
theorem rowsG_snoc {bl : Lvs} {m k : Nat} {n : Int} {rows rest : List (List Int)} {i x : Nat} (h : RowsG bl (m + 1) n rows) (hc : BlC bl n) (hl : rows.length ≤ 200) (h2 : RowsG bl m (n - k) rest) (hi : i < (bl.getD k default).v.length) (hx : x < rest.length) : RowsG bl (m + 1) n (rows ++ [(bl.getD k default).v.getD i default ++ rest.getD x default]) := ⟨by
  rw [List.length_append, List.length_singleton]; omega, fun r hr => by
  rcases List.mem_append.1 hr with h3 | h3
  · exact h.len r h3
  · rw [List.mem_singleton] at h3
    have h4 := hc.el k _ (getG hi)
    have h5 := h2.len _ (getG hx)
    rw [h3, List.length_append]; omega, fun a ha r hr => by
  rcases List.mem_append.1 hr with h3 | h3
  · exact h.el a ha r h3
  · rw [List.mem_singleton] at h3
    rw [h3]
    exact rowG_app (ha k _ (getG hi)) (h2.el a ha _ (getG hx))⟩
theorem l25Rows_rec (d : Nat) : ∀ {w0 : World} {Γ : List Atom} {v : Value} {bl : Lvs} {i n : Int} {m : Nat} [hm : ToN i m] [h : HasRd Lvs repList Γ [v] bl] (hs : BlC bl n ∧ (0 ≤ n ∧ n ≤ 50) ∧ (0 ≤ i ∧ i ≤ 10) ∧ i < d),
    CJ Tryz.prog 78 [v, .int .i64 i, .int .i64 n] w0 Γ (fun q : { q : Value × List (List Int) // RowsG bl m n q.2 } => q.1.1) (fun q => .ow [q.1.1] q.1.2 :: Γ) := by
  induction d with
  | zero =>
    intro w0 Γ v bl i n m hm h hs
    omega
  | succ d ih =>
    intro w0 Γ v bl i n m hm h hs
    haveI hI : ∀ (Δ : List Atom) (v : Value) (bl : Lvs) (i n : Int) (m : Nat) [ToN i m] [HasRd Lvs repList Δ [v] bl], CtrC Tryz.prog 78 [v, .int .i64 i, .int .i64 n] Δ (BlC bl n ∧ (0 ≤ n ∧ n ≤ 50) ∧ (0 ≤ i ∧ i ≤ 10) ∧ i < d) ({ q : Value × List (List Int) // RowsG bl m n q.2 }) (fun q => q.1.1) (fun q => .ow [q.1.1] q.1.2 :: Δ) := fun Δ _ _ _ _ _ _ _ => ⟨fun s w0 => ih s⟩
    refine cj_lift (R := [.rd [v] bl]) (A := fun q : { q : Value × List (List Int) // RowsG bl m n q.2 } => [.ow [q.1.1] q.1.2]) (fun w1 => ?_) (reads_cons h inferInstance) (fun _ => inferInstance)
    simp only [List.cons_append, List.nil_append]
    obtain ⟨hbc, hn, hi, hid⟩ := hs
    obtain ⟨N, rfl⟩ : ∃ N : Nat, n = (N : Int) := ⟨n.toNat, by omega⟩
    have hbl := hbc.len
    by_cases hi0 : i = 0
    · obtain rfl : m = 0 := by have := hm.eq; omega
      subst hi0
      refine cj_enter Tryz.func78 Tryz.ntmps78 ?_
      repeat' (first | refine red ?_ | refine redv fun sv => ?_ | (refine redi (fun hc => ?_) (fun hc => ?_) <;> try first | (exfalso; omega) | with_reducible first | exact absurd rfl hc | exact absurd hc Bool.false_ne_true | exact absurd hc Bool.false_ne_true.symm) | fail)
      · obtain rfl : N = 0 := by omega
        exact ⟨⟨(sv, [[]]), rowsG_one⟩, rfl, ent_e⟩
      · exact ⟨⟨(sv, []), rowsG_nil⟩, rfl, ent_e⟩
    obtain ⟨M, rfl⟩ : ∃ M, m = M + 1 := ⟨m - 1, by have := hm.eq; omega⟩
    obtain rfl : i = (M : Int) + 1 := by have := hm.eq; omega
    clear hm
    refine cj_enter Tryz.func78 Tryz.ntmps78 ?_
    repeat' (first | refine red ?_ | refine redv fun sv => ?_ | (refine redi (fun hc => ?_) (fun hc => ?_) <;> try first | (exfalso; omega) | with_reducible first | exact absurd rfl hc | exact absurd hc Bool.false_ne_true | exact absurd hc Bool.false_ne_true.symm) | fail)
    refine wc_loop_p [7, 8] [20, 21, 22, 25, 26, 27, 28, 29, 30, 31, 32, 33, 34, 35, 36, 37, 9, 10, 38, 39, 40, 41, 42, 43, 44, 45, 46, 47, 48, 49, 11, 52, 53, 54, 55, 56, 57, 58, 59, 60, 63, 64, 65, 66, 67, 68, 69, 70, 71, 72, 73, 74, 75, 76, 77, 78, 61, 62, 50, 51, 23, 24] (ι := Value × List (List Int) × Nat) (fun k => [k.1, .int .i64 k.2.2]) (fun k => [.ow [k.1] k.2.1]) (fun k => (1 ≤ k.2.2 ∧ k.2.2 ≤ N + 1) ∧ RowsG bl (M + 1) N k.2.1) (fun k => N + 1 - k.2.2) (sv, [], 1) [.ow [sv] ([] : List (List Int))] (by kernel_rfl) ⟨by simp only; omega, rowsG_nil⟩ rfl ?_
    intro ⟨ov, rows, k⟩ u l' hl' ⟨hk, hrw⟩
    simp only [patch, List.map_cons, List.map_nil, List.set_cons_zero, List.set_cons_succ] at hl'
    subst hl'
    simp only [List.cons_append, List.nil_append] at hk hrw ⊢
    have hcn := hrw.cnt
    by_cases hkn : k ≤ N
    · have hbk := hbc.cnt k
      have hbc2 : BlC bl ((N : Int) - k) := ⟨by omega, hbc.cnt, hbc.el⟩
      repeat' (first | refine red ?_ | refine reds ?_ | (refine redc fun r => ?_; try have hr := Subtype.property r) | (refine redd fun p cs as_ hcs has hf => ?_; simp only [Un.cells, Un.atoms, Un.fact, List.cons_append, List.nil_append] at hcs has hf; subst hcs has) | (refine redi (fun hc => ?_) (fun hc => ?_) <;> try first | (exfalso; omega) | with_reducible first | exact absurd rfl hc | exact absurd hc Bool.false_ne_true | exact absurd hc Bool.false_ne_true.symm) | fail)
      · exact wq_next (ov, rows, k + 1) ⟨by simp only; omega, hrw⟩ (by simp only; omega) (by kernel_rfl) ent_e
      clear hr
      obtain ⟨⟨tv, rest⟩, hrest⟩ := r
      simp only at hrest ⊢
      have hrc := hrest.cnt
      refine wc_share tv ?_
      refine wc_loop_p [7, 10] [38, 39, 40, 41, 42, 43, 44, 45, 46, 47, 48, 49, 11, 52, 53, 54, 55, 56, 57, 58, 59, 60, 63, 64, 65, 66, 67, 68, 69, 70, 71, 72, 73, 74, 75, 76, 77, 78, 61, 62, 50, 51] (ι := Value × List (List Int) × Nat) (fun k => [k.1, .int .i64 k.2.2]) (fun k => [.ow [k.1] k.2.1]) (fun j => j.2.2 ≤ (bl.getD k default).v.length ∧ RowsG bl (M + 1) N j.2.1) (fun j => (bl.getD k default).v.length - j.2.2) (ov, rows, 0) [.ow [ov] rows] (by kernel_rfl) ⟨Nat.zero_le _, hrw⟩ rfl ?_
      intro ⟨ov, rows, i⟩ u l' hl' ⟨hi3, hrw⟩
      simp only [patch, List.map_cons, List.map_nil, List.set_cons_zero, List.set_cons_succ] at hl'
      subst hl'
      simp only [List.cons_append, List.nil_append] at hi3 hrw ⊢
      have hcn := hrw.cnt
      repeat' (first | refine red ?_ | refine reds ?_ | (refine redi (fun hc => ?_) (fun hc => ?_) <;> try first | (exfalso; omega) | with_reducible first | exact absurd rfl hc | exact absurd hc Bool.false_ne_true | exact absurd hc Bool.false_ne_true.symm) | fail)
      · refine wc_loop_p [7, 11] [52, 53, 54, 55, 56, 57, 58, 59, 60, 63, 64, 65, 66, 67, 68, 69, 70, 71, 72, 73, 74, 75, 76, 77, 78, 61, 62] (ι := Value × List (List Int) × Nat) (fun k => [k.1, .int .i64 k.2.2]) (fun k => [.ow [k.1] k.2.1]) (fun j => j.2.2 ≤ rest.length ∧ RowsG bl (M + 1) N j.2.1) (fun j => rest.length - j.2.2) (ov, rows, 0) [.ow [ov] rows] (by kernel_rfl) ⟨Nat.zero_le _, hrw⟩ rfl ?_
        intro ⟨ov, rows, x⟩ u l' hl' ⟨hx3, hrw⟩
        simp only [patch, List.map_cons, List.map_nil, List.set_cons_zero, List.set_cons_succ] at hl'
        subst hl'
        simp only [List.cons_append, List.nil_append] at hx3 hrw ⊢
        have hcn := hrw.cnt
        repeat' (first | refine red ?_ | refine reds ?_ | (refine redi (fun hc => ?_) (fun hc => ?_) <;> try first | (exfalso; omega) | with_reducible first | exact absurd rfl hc | exact absurd hc Bool.false_ne_true | exact absurd hc Bool.false_ne_true.symm) | fail)
        · have hil : i < (bl.getD k default).v.length := by omega
          have hxl : x < rest.length := by omega
          have ht := hbc.el k _ (getG hil)
          have hre := hrest.len _ (getG hxl)
          have hsn := rowsG_snoc hrw hbc (by omega) hrest hil hxl
          ((refine wa_begin1 17 [false, false, false, false, false, false, false, false, false, false, false, false, false, false, false, false, false] [] ?_ <;> refine wa_p 0 ?_ <;> refine wa_p 1 ?_ <;> refine wa_p 2 ?_ <;> (first | refine wa_p 3 ?_ | fail) <;> (first | refine wa_p 4 ?_ | fail) <;> refine wa_p 5 ?_ <;> (first | (refine wa_deep 6 fun p cs as_ asb_ hcs has hasb hf => ?_; simp only [Un.cells, Un.atoms, Un.fact, List.cons_append, List.nil_append] at hcs has hasb hf; subst hcs has hasb) | fail) <;> (first | refine wa_p 7 ?_ | fail) <;> refine wa_p 9 ?_ <;> refine wa_p 10 ?_ <;> (first | (refine wa_deep 11 fun p cs as_ asb_ hcs has hasb hf => ?_; simp only [Un.cells, Un.atoms, Un.fact, List.cons_append, List.nil_append] at hcs has hasb hf; subst hcs has hasb) | fail) <;> (first | refine wa_p 12 ?_ | fail) <;> (refine wa_do 8 ?_ <;> (repeat' (first | refine red ?_ | (refine redc fun r => ?_; try have hr := Subtype.property r) | fail))) <;> (refine wa_do 13 ?_ <;> (repeat' (first | refine red ?_ | refine redv fun sv => ?_ | fail))) <;> (refine wa_do 14 ?_ <;> (repeat' (first | refine red ?_ | refine redv fun sv => ?_ | fail))) <;> (refine wa_do 15 ?_ <;> (repeat' (first | refine red ?_ | refine redv fun sv => ?_ | fail))) <;> refine wa_p 16 ?_) <;> (refine wa_end ?_))
          all_goals (repeat' (first | refine red ?_ | refine reds ?_ | fail))
          all_goals exact wq_next (sv, rows ++ [(bl.getD k default).v.getD i default ++ rest.getD x default], x + 1) ⟨by simp only; omega, hsn⟩ (by simp only; omega) (by kernel_rfl) ent_e
        · exact wq_next (ov, rows, i + 1) ⟨by simp only; omega, hrw⟩ (by simp only; omega) (by kernel_rfl) ent_e
        · exact wq_next (ov, rows, i + 1) ⟨by simp only; omega, hrw⟩ (by simp only; omega) (by kernel_rfl) ent_e
      · exact wq_next (ov, rows, k + 1) ⟨by simp only; omega, hrw⟩ (by simp only; omega) (by kernel_rfl) ent_e
      · exact wq_next (ov, rows, k + 1) ⟨by simp only; omega, hrw⟩ (by simp only; omega) (by kernel_rfl) ent_e
    · repeat' (first | refine red ?_ | (refine redi (fun hc => ?_) (fun hc => ?_) <;> try first | (exfalso; omega) | with_reducible first | exact absurd rfl hc | exact absurd hc Bool.false_ne_true | exact absurd hc Bool.false_ne_true.symm) | fail)
      exact ⟨⟨(ov, rows), hrw⟩, rfl, ent_e⟩
theorem l25Rows_spec {w0 : World} {Γ : List Atom} {v : Value} {bl : Lvs} {i n : Int} {m : Nat} [hm : ToN i m] [h : HasRd Lvs repList Γ [v] bl] (hs : BlC bl n ∧ (0 ≤ n ∧ n ≤ 50) ∧ (0 ≤ i ∧ i ≤ 10)) :
    CJ Tryz.prog 78 [v, .int .i64 i, .int .i64 n] w0 Γ (fun q : { q : Value × List (List Int) // RowsG bl m n q.2 } => q.1.1) (fun q => .ow [q.1.1] q.1.2 :: Γ) := by
  exact l25Rows_rec 11 ⟨hs.1, hs.2.1, hs.2.2, by omega⟩
instance l25Rows_ctr {Γ : List Atom} {v : Value} {bl : Lvs} {i n : Int} {m : Nat} [hm : ToN i m] [h : HasRd Lvs repList Γ [v] bl] :
    CtrC Tryz.prog 78 [v, .int .i64 i, .int .i64 n] Γ (BlC bl n ∧ (0 ≤ n ∧ n ≤ 50) ∧ (0 ≤ i ∧ i ≤ 10)) ({ q : Value × List (List Int) // RowsG bl m n q.2 }) (fun q : { q : Value × List (List Int) // RowsG bl m n q.2 } => q.1.1) (fun q => .ow [q.1.1] q.1.2 :: Γ) := ⟨fun s w0 => l25Rows_spec s⟩

theorem l28InsertO_spec {w0 : World} {Γ Δ : List Atom} {v vt : Value} {xs : List (List Int)} {t : List Int} [h1 : PullOw (List Int) repList Γ [vt] t Δ] [h : HasIm (List (List Int)) repList Δ [v] xs] (hl : xs.length ≤ 10000) :
    CJ Tryz.prog 79 [v, vt] w0 Γ (fun q : { q : Value × List (List Int) // InsG xs t q.2 } => q.1.1) (fun q => .rd [q.1.1] q.1.2 :: .rd [vt] t :: Δ) := by
  exact fun w hs => l28Insert_spec (Γ := .rd [vt] t :: Δ) hl w (hs.perm h1.perm).share
instance l28InsertO_ctr {Γ Δ : List Atom} {v vt : Value} {xs : List (List Int)} {t : List Int} [h1 : PullOw (List Int) repList Γ [vt] t Δ] [h : HasIm (List (List Int)) repList Δ [v] xs] :
    CtrC Tryz.prog 79 [v, vt] Γ (xs.length ≤ 10000) ({ q : Value × List (List Int) // InsG xs t q.2 }) (fun q : { q : Value × List (List Int) // InsG xs t q.2 } => q.1.1) (fun q => .rd [q.1.1] q.1.2 :: .rd [vt] t :: Δ) := ⟨fun s w0 => l28InsertO_spec s⟩

def LvG (a : List Int) (k : Nat) (ls : List (List Int)) : Prop := ∀ t ∈ ls, RowG a 1 t ∧ t.length = k
structure GrI (a : List Int) (k : Nat) (bl : Lvs) (al : List (List Int)) : Prop where
  blen : bl.length = k
  cnt : ∀ j, (bl.getD j default).v.length ≤ 10000
  el : ∀ j, LvG a j (bl.getD j default).v
  alen : al.length ≤ 200
  ae : ∀ t ∈ al, RowG a 1 t ∧ 1 ≤ t.length ∧ t.length ≤ 4
theorem grI_0 (a : List Int) : GrI a 1 [Sh.mk []] [] := ⟨rfl, fun j => by
    match j with
    | 0 => exact Nat.zero_le _
    | j + 1 => exact Nat.zero_le _, fun j t ht => by
    match j, ht with
    | 0, ht => exact (List.not_mem_nil ht).elim
    | j + 1, ht => exact (List.not_mem_nil ht).elim, Nat.zero_le _, fun t ht => (List.not_mem_nil ht).elim⟩
theorem bl_snoc {bl : Lvs} {ls : List (List Int)} (j : Nat) : ((bl ++ [Sh.mk ls]).getD j default).v = if j < bl.length then (bl.getD j default).v else if j = bl.length then ls else [] := by
  rw [List.getD_eq_getElem?_getD, List.getElem?_append]
  split
  · rw [← List.getD_eq_getElem?_getD]
  · split
    · rename_i h; rw [h, Nat.sub_self]; rfl
    · rw [List.getElem?_eq_none (by simp only [List.length_singleton]; omega)]; rfl
theorem grI_next {a : List Int} {k : Nat} {bl : Lvs} {al ls : List (List Int)} (h : GrI a k bl al) (hl : LvG a k ls) (h1 : ls.length ≤ 10000) (h2 : al.length + ls.length ≤ 200) (hk : 1 ≤ k ∧ k ≤ 4) : GrI a (k + 1) (bl ++ [Sh.mk ls]) (al ++ ls) := ⟨by
    rw [List.length_append, List.length_singleton, h.blen], fun j => by
    rw [bl_snoc]; split
    · exact h.cnt j
    · split
      · exact h1
      · exact Nat.zero_le _, fun j => by
    rw [bl_snoc]; split
    · exact h.el j
    · split
      · rename_i e; rw [e, h.blen]; exact hl
      · intro t ht; exact (List.not_mem_nil ht).elim, by rw [List.length_append]; have := h.alen; omega, fun t ht => by
    rcases List.mem_append.1 ht with h3 | h3
    · exact h.ae t h3
    · have := hl t h3; exact ⟨this.1, by omega, by omega⟩⟩
theorem GrI.blc {a : List Int} {k : Nat} {bl : Lvs} {al : List (List Int)} (h : GrI a k bl al) (hk : 1 ≤ k ∧ k ≤ 5) : BlC bl ((k : Int) - 1) := ⟨by have := h.blen; omega, h.cnt, fun j t ht => (h.el j t ht).2⟩
theorem GrI.blg {a : List Int} {k : Nat} {bl : Lvs} {al : List (List Int)} (h : GrI a k bl al) : BlG a bl := fun j t ht => (h.el j t ht).1
theorem lvG_ins {a : List Int} {k : Nat} {ls ls' : List (List Int)} {t : List Int} (h : LvG a k ls) (hi : InsG ls t ls') (ht : RowG a 1 t ∧ t.length = k) : LvG a k ls' := fun y hy => by
  rcases hi.mem y hy with h1 | h1
  · exact h y h1
  · rw [h1]; exact ht
structure GrdTs (a : List Int) (ts : List (List Int)) : Prop where
  cnt : ts.length ≤ 200
  el : ∀ t ∈ ts, GrP a t
theorem GrI.grdTs {a : List Int} {k : Nat} {bl : Lvs} {al : List (List Int)} (h : GrI a k bl al) (hs : sigOk a = true) : GrdTs a al := ⟨h.alen, fun t ht => by
  have := h.ae t ht
  exact rowG_gr hs this.1 (by omega) (by omega)⟩
theorem GroundsOf_spec {w0 : World} {Γ : List Atom} {v : Value} {a : List Int} [h : HasRd (List Int) repList Γ [v] a] (hs : sigOk a = true) :
    CJ Tryz.prog 26 [.agg #[v], .int .i64 4] w0 Γ (fun q : { q : Value × List (List Int) × Bool // GrdTs a q.2.1 } => .tuple #[q.1.1, .bool q.1.2.2]) (fun q => .rd [q.1.1] q.1.2.1 :: Γ) := by
  have hal := sigOk_len hs
  refine cj_enter Tryz.func26 Tryz.ntmps26 ?_
  repeat' (first | refine red ?_ | (refine redc fun r => ?_; try have hr := Subtype.property r) | refine redv fun sv => ?_ | refine redn fun b => ?_ | (refine redi (fun hc => ?_) (fun hc => ?_) <;> try first | (exfalso; omega) | with_reducible first | exact absurd rfl hc | exact absurd hc Bool.false_ne_true | exact absurd hc Bool.false_ne_true.symm) | fail)
  · exact absurd hs (by rw [hc]; decide)
  rename_i s0
  refine wc_owsh s0 ?_
  refine wc_owsh sv ?_
  simp only [List.map_cons, List.map_nil]
  refine wc_loop_p [6, 7, 8] [25, 26, 27, 30, 9, 10, 31, 32, 33, 34, 35, 38, 39, 40, 41, 42, 43, 44, 45, 46, 11, 12, 47, 48, 49, 50, 53, 54, 55, 56, 57, 58, 59, 60, 61, 51, 52, 36, 37, 62, 63, 64, 65, 66, 67, 68, 69, 70, 71, 72, 4, 5, 28, 29] (ι := (Value × Lvs) × (Value × List (List Int)) × Nat) (fun k => [k.1.1, k.2.1.1, .int .i64 k.2.2]) (fun k => [.ow [k.1.1] k.1.2, .ow [k.2.1.1] (k.2.1.2.map Sh.mk)]) (fun k => (1 ≤ k.2.2 ∧ k.2.2 ≤ 5) ∧ GrI a k.2.2 k.1.2 k.2.1.2) (fun k => 5 - k.2.2) ((s0, [Sh.mk []]), (sv, []), 1) [.ow [s0] ([Sh.mk []] : Lvs), .ow [sv] ([] : List (Sh (List Int)))] (by kernel_rfl) ⟨⟨Nat.le_refl _, by simp only; omega⟩, grI_0 a⟩ rfl ?_
  intro ⟨⟨bv, bl⟩, ⟨av, al⟩, k⟩ u l' hl' ⟨hk, hgi⟩
  simp only [patch, List.map_cons, List.map_nil, List.set_cons_zero, List.set_cons_succ] at hl'
  subst hl'
  simp only [List.cons_append, List.nil_append] at hk hgi ⊢
  have hbc := hgi.blc hk
  have hbg := hgi.blg
  have hall := hgi.alen
  by_cases hk4 : k ≤ 4
  · repeat' (first | refine red ?_ | refine redv fun sv => ?_ | (refine redi (fun hc => ?_) (fun hc => ?_) <;> try first | (exfalso; omega) | with_reducible first | exact absurd rfl hc | exact absurd hc Bool.false_ne_true | exact absurd hc Bool.false_ne_true.symm) | fail)
    refine wc_share sv ?_
    refine wc_loop_p [9, 10] [31, 32, 33, 34, 35, 38, 39, 40, 41, 42, 43, 44, 45, 46, 11, 12, 47, 48, 49, 50, 53, 54, 55, 56, 57, 58, 59, 60, 61, 51, 52, 36, 37] (ι := Value × List (List Int) × Nat) (fun j => [j.1, .int .i64 j.2.2]) (fun j => [.rd [j.1] j.2.1]) (fun j => j.2.2 ≤ a.length ∧ j.2.1.length ≤ 201 * j.2.2 ∧ LvG a k j.2.1) (fun j => a.length - j.2.2) (sv, [], 0) [.rd [sv] ([] : List (List Int))] (by kernel_rfl) ⟨Nat.zero_le _, Nat.le_refl _, fun t ht => (List.not_mem_nil ht).elim⟩ rfl ?_
    intro ⟨lv, ls, f⟩ u l' hl' ⟨hf4, hll, hlg⟩
    simp only [patch, List.map_cons, List.map_nil, List.set_cons_zero, List.set_cons_succ] at hl'
    subst hl'
    simp only [List.cons_append, List.nil_append] at hf4 hll hlg ⊢
    by_cases hfl : f < a.length
    · have hga := sigOk_get hs hfl
      repeat' (first | refine red ?_ | refine redf fun hbi => ?_ | refine reds ?_ | (refine redc fun r => ?_; try have hr := Subtype.property r) | (refine redi (fun hc => ?_) (fun hc => ?_) <;> try first | (exfalso; omega) | with_reducible first | exact absurd rfl hc | exact absurd hc Bool.false_ne_true | exact absurd hc Bool.false_ne_true.symm) | fail)
      clear hr
      obtain ⟨⟨rv, rows⟩, hrw⟩ := r
      simp only at hrw ⊢
      have hrc := hrw.cnt
      refine wc_share rv ?_
      refine wc_loop_p [9, 12] [47, 48, 49, 50, 53, 54, 55, 56, 57, 58, 59, 60, 61, 51, 52] (ι := Value × List (List Int) × Nat) (fun j => [j.1, .int .i64 j.2.2]) (fun j => [.rd [j.1] j.2.1]) (fun j => j.2.2 ≤ rows.length ∧ j.2.1.length ≤ 201 * f + j.2.2 ∧ LvG a k j.2.1) (fun j => rows.length - j.2.2) (lv, ls, 0) [.rd [lv] ls] (by kernel_rfl) ⟨Nat.zero_le _, hll, hlg⟩ rfl ?_
      intro ⟨lv, ls, i⟩ u l' hl' ⟨hi4, hil, hig⟩
      simp only [patch, List.map_cons, List.map_nil, List.set_cons_zero, List.set_cons_succ] at hl'
      subst hl'
      simp only [List.cons_append, List.nil_append] at hi4 hil hig ⊢
      have hls : ls.length ≤ 10000 := by omega
      by_cases hir : i < rows.length
      · have hrl := hrw.len _ (getG hir)
        have hre := hrw.el a hbg _ (getG hir)
        have hrt : RowG a 1 ((f : Int) :: rows.getD i default) ∧ ((f : Int) :: rows.getD i default).length = k := ⟨rowG_cons hfl (by omega) hre, by rw [List.length_cons]; omega⟩
        repeat' (first | refine red ?_ | refine reds ?_ | (refine redc fun r => ?_; try have hr := Subtype.property r) | refine redv fun sv => ?_ | (refine redd fun p cs as_ hcs has hf => ?_; simp only [Un.cells, Un.atoms, Un.fact, List.cons_append, List.nil_append] at hcs has hf; subst hcs has) | (refine redi (fun hc => ?_) (fun hc => ?_) <;> try first | (exfalso; omega) | with_reducible first | exact absurd rfl hc | exact absurd hc Bool.false_ne_true | exact absurd hc Bool.false_ne_true.symm) | fail)
        refine wq_next (r.1.1, r.1.2, i + 1) ⟨by simp only; omega, ?_, lvG_ins hig hr hrt⟩ (by simp only; omega) (by kernel_rfl) ent_e
        have := hr.len
        simp only
        omega
      · repeat' (first | refine red ?_ | refine reds ?_ | (refine redi (fun hc => ?_) (fun hc => ?_) <;> try first | (exfalso; omega) | with_reducible first | exact absurd rfl hc | exact absurd hc Bool.false_ne_true | exact absurd hc Bool.false_ne_true.symm) | fail)
        exact wq_next (lv, ls, f + 1) ⟨by simp only; omega, by simp only; omega, hig⟩ (by simp only; omega) (by kernel_rfl) ent_e
    have hls : ls.length ≤ 2000 := by omega
    have hbl5 : bl.length ≤ 5 := by rw [hgi.blen]; omega
    have hlm : (List.map Sh.mk al).length ≤ 200 := by rw [List.length_map]; exact hall
    repeat' (first | refine red ?_ | refine reds ?_ | refine redv fun sv => ?_ | (refine redi (fun hc => ?_) (fun hc => ?_) <;> try first | (exfalso; omega) | with_reducible first | exact absurd rfl hc | exact absurd hc Bool.false_ne_true | exact absurd hc Bool.false_ne_true.symm) | fail)
    · exact ⟨⟨(sv, [], false), ⟨Nat.zero_le _, fun t ht => (List.not_mem_nil ht).elim⟩⟩, rfl, ent_rd sv ent_e⟩
    · have hlk : LvG a k ls := hlg
      rw [← List.map_append] at hc ⊢
      rw [List.length_map, List.length_append] at hc
      rename_i s1
      rw [show List.map Sh.mk [ls] = [Sh.mk ls] from rfl]
      exact wq_next ((s1, bl ++ [Sh.mk ls]), (sv, al ++ ls), k + 1) ⟨⟨by simp only; omega, by simp only; omega⟩, grI_next hgi hlk (by omega) (by omega) (by omega)⟩ (by simp only; omega) (by kernel_rfl) ent_e
  · repeat' (first | refine red ?_ | (refine redi (fun hc => ?_) (fun hc => ?_) <;> try first | (exfalso; omega) | with_reducible first | exact absurd rfl hc | exact absurd hc Bool.false_ne_true | exact absurd hc Bool.false_ne_true.symm) | fail)
    exact ⟨⟨(av, al, true), hgi.grdTs hs⟩, rfl, ent_tord (α := List (List Int)) (i := repList) av True.intro (by simp only [shmk_v]; exact ent_e)⟩
instance GroundsOf_ctr {Γ : List Atom} {v : Value} {a : List Int} [h : HasRd (List Int) repList Γ [v] a] :
    CtrC Tryz.prog 26 [.agg #[v], .int .i64 4] Γ (sigOk a = true) ({ q : Value × List (List Int) × Bool // GrdTs a q.2.1 }) (fun q : { q : Value × List (List Int) × Bool // GrdTs a q.2.1 } => .tuple #[q.1.1, .bool q.1.2.2]) (fun q => .rd [q.1.1] q.1.2.1 :: Γ) := ⟨fun s w0 => GroundsOf_spec s⟩

end Go.Proofs.YtbbdjjlnachnlaaGreat
