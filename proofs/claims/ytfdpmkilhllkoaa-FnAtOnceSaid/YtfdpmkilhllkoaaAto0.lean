/- Draws by dice: terms. -/
import Derived.Test.YtfdpmkilhllkoaaDice
import Derived.Test.YtfdpmkilhllkoaaVars
namespace Go.Proofs.Ytfdpmkilhllkoaa
open Go Go.Eng
set_option linter.unusedVariables false
set_option linter.unusedSimpArgs false
set_option synthInstance.maxHeartbeats 400000
set_option synthInstance.maxSize 1000
set_option maxHeartbeats 2000000
set_option maxRecDepth 20000


/-- The symbols of the draws: of two, one and no arguments. -/
abbrev s9 : List Int := [2, 1, 0]
theorem s9_ok : sigOk s9 = true := by decide
theorem w9Sig_spec {w0 : World} {Γ : List Atom} : CJ Try.prog 69 [] w0 Γ (fun p : Value => .agg #[p]) (fun p => .ow [p] s9 :: Γ) := by
  refine cj_enter Try.func69 Try.ntmps69 ?_
  repeat' (first | refine red ?_ | refine redf fun hbi => ?_ | refine reds ?_ | (refine redc fun r => ?_; try have hr := Subtype.property r) | refine redp (fun r => ?_) (fun r => ?_) | refine redv fun sv => ?_ | refine redn fun b => ?_ | refine redz fun zs => ?_ | refine redq (fun hc => ?_) (fun hc => ?_) | with_reducible refine wq_blk_o rfl ?_ | (refine redi (fun hc => ?_) (fun hc => ?_) <;> try first | (exfalso; omega) | exact absurd rfl hc) | fail)
  exact ⟨_, rfl, ent_e⟩
instance w9Sig_ctr {Γ : List Atom} :
    CtrC Try.prog 69 [] Γ (True) (Value) (fun p : Value => .agg #[p]) (fun p => .ow [p] s9 :: Γ) := ⟨fun s w0 => w9Sig_spec⟩

/-- A term of the draws. -/
structure W9 (N : Nat) (v : Int) (t : List Int) : Prop where
  tm : Tm s9 t
  le : t.length + 1 ≤ 2 ^ N
  vs : ∀ n ∈ t, -v ≤ n
theorem W9.ok {N : Nat} {v : Int} {t : List Int} (h : W9 N v t) (hN : N ≤ 5) : termOk s9 t = true := ok_tm s9_ok h.tm (by
  have h1 := h.le
  have : 2 ^ N ≤ 2 ^ 5 := Nat.pow_le_pow_right (by decide) hN
  omega)
theorem s9_sym {f : Int} (h : 0 ≤ f ∧ f < 3) : badS s9 f = false ∧ ((ar s9 f).toNat : Int) = 2 - f := by
  have : f = 0 ∨ f = 1 ∨ f = 2 := by omega
  rcases this with rfl | rfl | rfl <;> decide
theorem w9_var {N : Nat} {v n : Int} (hv : v ≤ 24) (hN : 1 ≤ N) (h : 0 ≤ n ∧ n < v) : W9 N v [-1 - n] where
  tm := tm_var (by omega)
  le := by
    have : 2 ^ 1 ≤ 2 ^ N := Nat.pow_le_pow_right (by decide) hN
    simp; omega
  vs := fun m hm => by rw [List.mem_singleton] at hm; omega
structure D9 (N : Nat) (d v : Int) : Prop where
  d : 1 ≤ N ∧ N ≤ 4 ∧ d = N
  v : 0 ≤ v ∧ v ≤ 24
theorem flat_len {m : Nat} : ∀ {ks : List (List Int)}, (∀ k ∈ ks, k.length ≤ m) → ks.flatten.length ≤ ks.length * m
  | [], _ => by simp
  | k :: ks, h => by
    have h1 := h k List.mem_cons_self
    have h2 := flat_len (ks := ks) fun x hx => h x (List.mem_cons_of_mem _ hx)
    rw [List.flatten_cons, List.length_append, List.length_cons, Nat.add_mul, Nat.one_mul]
    omega
theorem w9_node {N : Nat} {v f : Int} {ks : List (List Int)} (hf : 0 ≤ f ∧ f < 3) (hv : 0 ≤ v) (hl : (ks.length : Int) = 2 - f) (h : ∀ k ∈ ks, W9 N v k) : W9 (N + 1) v (f :: ks.flatten) where
  tm := tm_of_kids (s9_sym hf).1 (by have := (s9_sym hf).2; omega) fun k hk => (h k hk).tm
  le := by
    have h1 : ∀ k ∈ ks, k.length ≤ 2 ^ N - 1 := fun k hk => by have := (h k hk).le; omega
    have h2 := flat_len h1
    have h3 : ks.length * (2 ^ N - 1) ≤ 2 * (2 ^ N - 1) := Nat.mul_le_mul_right _ (by omega)
    have : 1 ≤ 2 ^ N := Nat.one_le_two_pow
    rw [List.length_cons, Nat.pow_succ]
    omega
  vs := fun n hn => by
    rcases List.mem_cons.1 hn with rfl | hn
    · omega
    · obtain ⟨k, hk, hn⟩ := List.mem_flatten.1 hn
      exact (h k hk).vs n hn
theorem w9Term_rec (N : Nat) : ∀ {w0 : World} {Γ Δ : List Atom} {bc : Nat} {vb : Value} {code : List UInt8} {p : CurS code} {d v : Int} [hb : PullBk Γ bc (dicA vb p) Δ] [hv : HasRd (List UInt8) repList Δ [vb] code] (h : D9 N d v),
    CJ Try.prog 25 [.pointer (some ⟨bc, 0, none⟩), .int .i64 d, .int .i64 v] w0 Γ (fun q : { q : Value × List Int × CurS code // W9 N v q.2.1 ∧ q.2.1.length ≤ 31 } => q.1.1) (fun q => .ow [q.1.1] q.1.2.1 :: .bk bc (dicA vb q.1.2.2) :: Δ) := by
  induction N with
  | zero =>
    intro w0 Γ Δ bc vb code p d v hb hv h
    have := h.d
    omega
  | succ N ih =>
    intro w0 Γ Δ bc vb code p d v hb hv h
    haveI hI : ∀ (Γ Δ : List Atom) (bc : Nat) (vb : Value) (code : List UInt8) (p : CurS code) (d v : Int) [PullBk Γ bc (dicA vb p) Δ] [HasRd (List UInt8) repList Δ [vb] code], CtrC Try.prog 25 [.pointer (some ⟨bc, 0, none⟩), .int .i64 d, .int .i64 v] Γ (D9 N d v) { q : Value × List Int × CurS code // W9 N v q.2.1 ∧ q.2.1.length ≤ 31 } (fun q => q.1.1) (fun q => .ow [q.1.1] q.1.2.1 :: .bk bc (dicA vb q.1.2.2) :: Δ) := fun _ _ _ _ _ _ _ _ _ _ => ⟨fun h _ => ih h⟩
    refine cj_perm hb.perm ?_
    obtain ⟨hd1, hd2, hd3⟩ := h.d
    have hvs := h.v
    have hD : 1 < d → D9 N (d - 1) v := fun h1 => ⟨⟨by omega, by omega, by omega⟩, hvs⟩
    refine cj_enter Try.func25 Try.ntmps25 ?_
    repeat' (first | refine red ?_ | refine redf fun hbi => ?_ | refine reds ?_ | (refine redc fun r => ?_; try have hr := Subtype.property r) | refine redp (fun r => ?_) (fun r => ?_) | refine redv fun sv => ?_ | refine redn fun b => ?_ | refine redz fun zs => ?_ | refine redq (fun hc => ?_) (fun hc => ?_) | with_reducible refine wq_blk_o rfl ?_ | (refine redi (fun hc => ?_) (fun hc => ?_) <;> try first | (exfalso; omega) | exact absurd rfl hc) | fail)
    · exact ⟨⟨(sv, [-1 - r.1.1], r.1.2), w9_var hvs.2 (by omega) hr, by simp⟩, rfl, ent_e⟩
    · obtain ⟨⟨f, p1⟩, hf⟩ := r
      simp only at hf
      refine wc_loop_p [8, 9] [29, 30, 33, 34, 35, 36, 37, 38, 39, 31, 32] (ι := Value × List (List Int) × Int × CurS code) (fun k => [k.1, .int .i64 k.2.2.1]) (fun k => [.ow [k.1] (2 :: k.2.1.flatten), .bk bc (dicA vb k.2.2.2)]) (fun k => (k.2.1.length : Int) = k.2.2.1 - 2 ∧ k.2.2.1 ≤ 2 ∧ ∀ t ∈ k.2.1, W9 N v t) (fun k => (2 - k.2.2.1).toNat) (sv, [], 2, p1) [.ow [sv] [2], .bk bc (dicA vb p1)] (by kernel_rfl) ⟨by simp, by simp only; omega, by simp⟩ rfl ?_
      intro ⟨sw, ks, k, p2⟩ u l' hl' ⟨hk1, hk2, hk3⟩
      simp only [patch, List.map_cons, List.map_nil, List.set_cons_zero, List.set_cons_succ] at hl'
      subst hl'
      simp only [List.cons_append, List.nil_append] at hk1 hk2 hk3 ⊢
      have hfl := flat_len (m := 2 ^ N) (fun t ht => by have := (hk3 t ht).le; omega : ∀ t ∈ ks, t.length ≤ 2 ^ N)
      have h16 : 2 ^ N ≤ 2 ^ 4 := Nat.pow_le_pow_right (by decide) (by omega)
      have hkl : ks.length * 2 ^ N ≤ 2 * 2 ^ N := Nat.mul_le_mul_right _ (by omega)
      have hlen : (2 :: ks.flatten).length ≤ 40 := by rw [List.length_cons]; omega
      by_cases hk4 : k < 2
      · first
          | omega
          | have hD1 := hD (by omega)
            generalize hXe : 2 :: ks.flatten = X at *
            repeat' (first | refine red ?_ | refine redf fun hbi => ?_ | refine reds ?_ | (refine redc fun r => ?_; try have hr := Subtype.property r) | refine redp (fun r => ?_) (fun r => ?_) | refine redv fun sv => ?_ | refine redn fun b => ?_ | refine redz fun zs => ?_ | refine redq (fun hc => ?_) (fun hc => ?_) | with_reducible refine wq_blk_o rfl ?_ | (refine redi (fun hc => ?_) (fun hc => ?_) <;> try first | (exfalso; omega) | exact absurd rfl hc) | fail)
            rw [← hXe, show 2 :: ks.flatten ++ r.1.2.1 = 2 :: (ks ++ [r.1.2.1]).flatten by simp]
            refine wq_next (sv, ks ++ [r.1.2.1], k + 1, r.1.2.2) ⟨by simp only [List.length_append, List.length_singleton]; omega, by simp only; omega, fun t ht => ?_⟩ (by simp only; omega) (by kernel_rfl) ent_e
            rcases List.mem_append.1 ht with ht | ht
            · exact hk3 t ht
            · rw [List.mem_singleton] at ht; rw [ht]; exact hr.1
      · repeat' (first | refine red ?_ | refine redf fun hbi => ?_ | refine reds ?_ | (refine redc fun r => ?_; try have hr := Subtype.property r) | refine redp (fun r => ?_) (fun r => ?_) | refine redv fun sv => ?_ | refine redn fun b => ?_ | refine redz fun zs => ?_ | refine redq (fun hc => ?_) (fun hc => ?_) | with_reducible refine wq_blk_o rfl ?_ | (refine redi (fun hc => ?_) (fun hc => ?_) <;> try first | (exfalso; omega) | exact absurd rfl hc) | fail)
        have hw := w9_node (f := 2) (ks := ks) (by omega) hvs.1 (by omega) hk3
        have hwl := hw.le
        have h32 : 2 ^ (N + 1) ≤ 2 ^ 5 := Nat.pow_le_pow_right (by decide) (by omega)
        exact ⟨⟨(sw, 2 :: ks.flatten, p2), hw, by simp only; omega⟩, rfl, ent_e⟩
    · obtain ⟨⟨f, p1⟩, hf⟩ := r
      simp only at hf
      refine wc_loop_p [8, 9] [29, 30, 33, 34, 35, 36, 37, 38, 39, 31, 32] (ι := Value × List (List Int) × Int × CurS code) (fun k => [k.1, .int .i64 k.2.2.1]) (fun k => [.ow [k.1] (f :: k.2.1.flatten), .bk bc (dicA vb k.2.2.2)]) (fun k => (k.2.1.length : Int) = k.2.2.1 - f ∧ k.2.2.1 ≤ 2 ∧ ∀ t ∈ k.2.1, W9 N v t) (fun k => (2 - k.2.2.1).toNat) (sv, [], f, p1) [.ow [sv] [f], .bk bc (dicA vb p1)] (by kernel_rfl) ⟨by simp, by simp only; omega, by simp⟩ rfl ?_
      intro ⟨sw, ks, k, p2⟩ u l' hl' ⟨hk1, hk2, hk3⟩
      simp only [patch, List.map_cons, List.map_nil, List.set_cons_zero, List.set_cons_succ] at hl'
      subst hl'
      simp only [List.cons_append, List.nil_append] at hk1 hk2 hk3 ⊢
      have hfl := flat_len (m := 2 ^ N) (fun t ht => by have := (hk3 t ht).le; omega : ∀ t ∈ ks, t.length ≤ 2 ^ N)
      have h16 : 2 ^ N ≤ 2 ^ 4 := Nat.pow_le_pow_right (by decide) (by omega)
      have hkl : ks.length * 2 ^ N ≤ 2 * 2 ^ N := Nat.mul_le_mul_right _ (by omega)
      have hlen : (f :: ks.flatten).length ≤ 40 := by rw [List.length_cons]; omega
      by_cases hk4 : k < 2
      · first
          | omega
          | have hD1 := hD (by omega)
            generalize hXe : f :: ks.flatten = X at *
            repeat' (first | refine red ?_ | refine redf fun hbi => ?_ | refine reds ?_ | (refine redc fun r => ?_; try have hr := Subtype.property r) | refine redp (fun r => ?_) (fun r => ?_) | refine redv fun sv => ?_ | refine redn fun b => ?_ | refine redz fun zs => ?_ | refine redq (fun hc => ?_) (fun hc => ?_) | with_reducible refine wq_blk_o rfl ?_ | (refine redi (fun hc => ?_) (fun hc => ?_) <;> try first | (exfalso; omega) | exact absurd rfl hc) | fail)
            rw [← hXe, show f :: ks.flatten ++ r.1.2.1 = f :: (ks ++ [r.1.2.1]).flatten by simp]
            refine wq_next (sv, ks ++ [r.1.2.1], k + 1, r.1.2.2) ⟨by simp only [List.length_append, List.length_singleton]; omega, by simp only; omega, fun t ht => ?_⟩ (by simp only; omega) (by kernel_rfl) ent_e
            rcases List.mem_append.1 ht with ht | ht
            · exact hk3 t ht
            · rw [List.mem_singleton] at ht; rw [ht]; exact hr.1
      · repeat' (first | refine red ?_ | refine redf fun hbi => ?_ | refine reds ?_ | (refine redc fun r => ?_; try have hr := Subtype.property r) | refine redp (fun r => ?_) (fun r => ?_) | refine redv fun sv => ?_ | refine redn fun b => ?_ | refine redz fun zs => ?_ | refine redq (fun hc => ?_) (fun hc => ?_) | with_reducible refine wq_blk_o rfl ?_ | (refine redi (fun hc => ?_) (fun hc => ?_) <;> try first | (exfalso; omega) | exact absurd rfl hc) | fail)
        have hw := w9_node (f := f) (ks := ks) (by omega) hvs.1 (by omega) hk3
        have hwl := hw.le
        have h32 : 2 ^ (N + 1) ≤ 2 ^ 5 := Nat.pow_le_pow_right (by decide) (by omega)
        exact ⟨⟨(sw, f :: ks.flatten, p2), hw, by simp only; omega⟩, rfl, ent_e⟩
    · obtain ⟨⟨f, p1⟩, hf⟩ := r
      simp only at hf
      refine wc_loop_p [8, 9] [29, 30, 33, 34, 35, 36, 37, 38, 39, 31, 32] (ι := Value × List (List Int) × Int × CurS code) (fun k => [k.1, .int .i64 k.2.2.1]) (fun k => [.ow [k.1] (2 :: k.2.1.flatten), .bk bc (dicA vb k.2.2.2)]) (fun k => (k.2.1.length : Int) = k.2.2.1 - 2 ∧ k.2.2.1 ≤ 2 ∧ ∀ t ∈ k.2.1, W9 N v t) (fun k => (2 - k.2.2.1).toNat) (sv, [], 2, p1) [.ow [sv] [2], .bk bc (dicA vb p1)] (by kernel_rfl) ⟨by simp, by simp only; omega, by simp⟩ rfl ?_
      intro ⟨sw, ks, k, p2⟩ u l' hl' ⟨hk1, hk2, hk3⟩
      simp only [patch, List.map_cons, List.map_nil, List.set_cons_zero, List.set_cons_succ] at hl'
      subst hl'
      simp only [List.cons_append, List.nil_append] at hk1 hk2 hk3 ⊢
      have hfl := flat_len (m := 2 ^ N) (fun t ht => by have := (hk3 t ht).le; omega : ∀ t ∈ ks, t.length ≤ 2 ^ N)
      have h16 : 2 ^ N ≤ 2 ^ 4 := Nat.pow_le_pow_right (by decide) (by omega)
      have hkl : ks.length * 2 ^ N ≤ 2 * 2 ^ N := Nat.mul_le_mul_right _ (by omega)
      have hlen : (2 :: ks.flatten).length ≤ 40 := by rw [List.length_cons]; omega
      by_cases hk4 : k < 2
      · first
          | omega
          | have hD1 := hD (by omega)
            generalize hXe : 2 :: ks.flatten = X at *
            repeat' (first | refine red ?_ | refine redf fun hbi => ?_ | refine reds ?_ | (refine redc fun r => ?_; try have hr := Subtype.property r) | refine redp (fun r => ?_) (fun r => ?_) | refine redv fun sv => ?_ | refine redn fun b => ?_ | refine redz fun zs => ?_ | refine redq (fun hc => ?_) (fun hc => ?_) | with_reducible refine wq_blk_o rfl ?_ | (refine redi (fun hc => ?_) (fun hc => ?_) <;> try first | (exfalso; omega) | exact absurd rfl hc) | fail)
            rw [← hXe, show 2 :: ks.flatten ++ r.1.2.1 = 2 :: (ks ++ [r.1.2.1]).flatten by simp]
            refine wq_next (sv, ks ++ [r.1.2.1], k + 1, r.1.2.2) ⟨by simp only [List.length_append, List.length_singleton]; omega, by simp only; omega, fun t ht => ?_⟩ (by simp only; omega) (by kernel_rfl) ent_e
            rcases List.mem_append.1 ht with ht | ht
            · exact hk3 t ht
            · rw [List.mem_singleton] at ht; rw [ht]; exact hr.1
      · repeat' (first | refine red ?_ | refine redf fun hbi => ?_ | refine reds ?_ | (refine redc fun r => ?_; try have hr := Subtype.property r) | refine redp (fun r => ?_) (fun r => ?_) | refine redv fun sv => ?_ | refine redn fun b => ?_ | refine redz fun zs => ?_ | refine redq (fun hc => ?_) (fun hc => ?_) | with_reducible refine wq_blk_o rfl ?_ | (refine redi (fun hc => ?_) (fun hc => ?_) <;> try first | (exfalso; omega) | exact absurd rfl hc) | fail)
        have hw := w9_node (f := 2) (ks := ks) (by omega) hvs.1 (by omega) hk3
        have hwl := hw.le
        have h32 : 2 ^ (N + 1) ≤ 2 ^ 5 := Nat.pow_le_pow_right (by decide) (by omega)
        exact ⟨⟨(sw, 2 :: ks.flatten, p2), hw, by simp only; omega⟩, rfl, ent_e⟩
    · obtain ⟨⟨f, p1⟩, hf⟩ := r
      simp only at hf
      refine wc_loop_p [8, 9] [29, 30, 33, 34, 35, 36, 37, 38, 39, 31, 32] (ι := Value × List (List Int) × Int × CurS code) (fun k => [k.1, .int .i64 k.2.2.1]) (fun k => [.ow [k.1] (f :: k.2.1.flatten), .bk bc (dicA vb k.2.2.2)]) (fun k => (k.2.1.length : Int) = k.2.2.1 - f ∧ k.2.2.1 ≤ 2 ∧ ∀ t ∈ k.2.1, W9 N v t) (fun k => (2 - k.2.2.1).toNat) (sv, [], f, p1) [.ow [sv] [f], .bk bc (dicA vb p1)] (by kernel_rfl) ⟨by simp, by simp only; omega, by simp⟩ rfl ?_
      intro ⟨sw, ks, k, p2⟩ u l' hl' ⟨hk1, hk2, hk3⟩
      simp only [patch, List.map_cons, List.map_nil, List.set_cons_zero, List.set_cons_succ] at hl'
      subst hl'
      simp only [List.cons_append, List.nil_append] at hk1 hk2 hk3 ⊢
      have hfl := flat_len (m := 2 ^ N) (fun t ht => by have := (hk3 t ht).le; omega : ∀ t ∈ ks, t.length ≤ 2 ^ N)
      have h16 : 2 ^ N ≤ 2 ^ 4 := Nat.pow_le_pow_right (by decide) (by omega)
      have hkl : ks.length * 2 ^ N ≤ 2 * 2 ^ N := Nat.mul_le_mul_right _ (by omega)
      have hlen : (f :: ks.flatten).length ≤ 40 := by rw [List.length_cons]; omega
      by_cases hk4 : k < 2
      · first
          | omega
          | have hD1 := hD (by omega)
            generalize hXe : f :: ks.flatten = X at *
            repeat' (first | refine red ?_ | refine redf fun hbi => ?_ | refine reds ?_ | (refine redc fun r => ?_; try have hr := Subtype.property r) | refine redp (fun r => ?_) (fun r => ?_) | refine redv fun sv => ?_ | refine redn fun b => ?_ | refine redz fun zs => ?_ | refine redq (fun hc => ?_) (fun hc => ?_) | with_reducible refine wq_blk_o rfl ?_ | (refine redi (fun hc => ?_) (fun hc => ?_) <;> try first | (exfalso; omega) | exact absurd rfl hc) | fail)
            rw [← hXe, show f :: ks.flatten ++ r.1.2.1 = f :: (ks ++ [r.1.2.1]).flatten by simp]
            refine wq_next (sv, ks ++ [r.1.2.1], k + 1, r.1.2.2) ⟨by simp only [List.length_append, List.length_singleton]; omega, by simp only; omega, fun t ht => ?_⟩ (by simp only; omega) (by kernel_rfl) ent_e
            rcases List.mem_append.1 ht with ht | ht
            · exact hk3 t ht
            · rw [List.mem_singleton] at ht; rw [ht]; exact hr.1
      · repeat' (first | refine red ?_ | refine redf fun hbi => ?_ | refine reds ?_ | (refine redc fun r => ?_; try have hr := Subtype.property r) | refine redp (fun r => ?_) (fun r => ?_) | refine redv fun sv => ?_ | refine redn fun b => ?_ | refine redz fun zs => ?_ | refine redq (fun hc => ?_) (fun hc => ?_) | with_reducible refine wq_blk_o rfl ?_ | (refine redi (fun hc => ?_) (fun hc => ?_) <;> try first | (exfalso; omega) | exact absurd rfl hc) | fail)
        have hw := w9_node (f := f) (ks := ks) (by omega) hvs.1 (by omega) hk3
        have hwl := hw.le
        have h32 : 2 ^ (N + 1) ≤ 2 ^ 5 := Nat.pow_le_pow_right (by decide) (by omega)
        exact ⟨⟨(sw, f :: ks.flatten, p2), hw, by simp only; omega⟩, rfl, ent_e⟩
theorem w9Term_spec {w0 : World} {Γ Δ : List Atom} {bc : Nat} {vb : Value} {code : List UInt8} {p : CurS code} {d v : Int} {N : Nat} [hm : ToN d N] [hb : PullBk Γ bc (dicA vb p) Δ] [hv : HasRd (List UInt8) repList Δ [vb] code] (h : 1 ≤ d ∧ d ≤ 4 ∧ 0 ≤ v ∧ v ≤ 24) :
    CJ Try.prog 25 [.pointer (some ⟨bc, 0, none⟩), .int .i64 d, .int .i64 v] w0 Γ (fun q : { q : Value × List Int × CurS code // W9 N v q.2.1 ∧ q.2.1.length ≤ 31 } => q.1.1) (fun q => .ow [q.1.1] q.1.2.1 :: .bk bc (dicA vb q.1.2.2) :: Δ) := by
  have := hm.eq
  exact w9Term_rec N ⟨⟨by omega, by omega, by omega⟩, by omega⟩
instance w9Term_ctr {Γ Δ : List Atom} {bc : Nat} {vb : Value} {code : List UInt8} {p : CurS code} {d v : Int} {N : Nat} [hm : ToN d N] [hb : PullBk Γ bc (dicA vb p) Δ] [hv : HasRd (List UInt8) repList Δ [vb] code] :
    CtrC Try.prog 25 [.pointer (some ⟨bc, 0, none⟩), .int .i64 d, .int .i64 v] Γ (1 ≤ d ∧ d ≤ 4 ∧ 0 ≤ v ∧ v ≤ 24) ({ q : Value × List Int × CurS code // W9 N v q.2.1 ∧ q.2.1.length ≤ 31 }) (fun q : { q : Value × List Int × CurS code // W9 N v q.2.1 ∧ q.2.1.length ≤ 31 } => q.1.1) (fun q => .ow [q.1.1] q.1.2.1 :: .bk bc (dicA vb q.1.2.2) :: Δ) := ⟨fun s w0 => w9Term_spec s⟩

/-! ### Rules -/
theorem l2VarsM_spec {w0 : World} {Γ : List Atom} {v : Value} {t : List Int} [h : HasRd (List Int) repList Γ [v] t] (hl : t.length ≤ 60) (ht : ∀ x ∈ t, -24 ≤ x) : CJ Try.prog 152 [v] w0 Γ (fun p : { p : Value × List Int // p.2.length ≤ 60 ∧ ∀ n ∈ p.2, 0 ≤ n ∧ n < 24 ∧ -1 - n ∈ t } => p.1.1) (fun p => .ow [p.1.1] p.1.2 :: Γ) := by
  refine cj_lift (R := [.rd [v] t]) (A := fun p : { p : Value × List Int // p.2.length ≤ 60 ∧ ∀ n ∈ p.2, 0 ≤ n ∧ n < 24 ∧ -1 - n ∈ t } => [.ow [p.1.1] p.1.2]) (fun w1 => ?_) (reads_cons h inferInstance) (fun _ => inferInstance)
  simp only [List.cons_append, List.nil_append]
  refine cj_enter Try.func152 Try.ntmps152 ?_
  repeat' (first | refine red ?_ | refine redf fun hbi => ?_ | refine reds ?_ | (refine redc fun r => ?_; try have hr := Subtype.property r) | refine redp (fun r => ?_) (fun r => ?_) | refine redv fun sv => ?_ | refine redn fun b => ?_ | refine redz fun zs => ?_ | refine redq (fun hc => ?_) (fun hc => ?_) | with_reducible refine wq_blk_o rfl ?_ | (refine redi (fun hc => ?_) (fun hc => ?_) <;> try first | (exfalso; omega) | exact absurd rfl hc) | fail)
  refine wc_loop_p [3, 4] [6, 7, 8, 9, 12, 13, 14, 15, 16, 17, 18, 19, 20, 21, 22, 23, 10, 11] (ι := List Int × Value × Nat) (fun k => [k.2.1, .int .i64 k.2.2]) (fun k => [.ow [k.2.1] k.1]) (fun k => k.2.2 ≤ t.length ∧ k.1.Pairwise (· < ·) ∧ k.1.length ≤ k.2.2 ∧ ∀ n ∈ k.1, 0 ≤ n ∧ n < 24 ∧ -1 - n ∈ t) (fun k => t.length - k.2.2) ([], sv, 0) [.ow [sv] ([] : List Int)] (by kernel_rfl) ⟨Nat.zero_le _, List.Pairwise.nil, by simp, by simp⟩ rfl ?_
  intro ⟨ys, sy, k⟩ u l' hl' ⟨hk, hp, hyl, hyv⟩
  simp only [patch, List.map_cons, List.map_nil, List.set_cons_zero, List.set_cons_succ] at hl'
  subst hl'
  simp only [List.cons_append, List.nil_append] at hk hp hyl hyv ⊢
  have htk : k < t.length → -24 ≤ t.getD k 0 := fun h => ht _ (getK h)
  repeat' (first | refine red ?_ | refine redf fun hbi => ?_ | refine reds ?_ | (refine redc fun r => ?_; try have hr := Subtype.property r) | refine redp (fun r => ?_) (fun r => ?_) | refine redv fun sv => ?_ | refine redn fun b => ?_ | refine redz fun zs => ?_ | refine redq (fun hc => ?_) (fun hc => ?_) | with_reducible refine wq_blk_o rfl ?_ | (refine redi (fun hc => ?_) (fun hc => ?_) <;> try first | (exfalso; omega) | exact absurd rfl hc) | fail)
  · have hri := r.2.2
    refine wq_next (r.2.1, r.1, k + 1) ⟨by simp only; omega, hri.1, by simp only; omega, fun n hn => ?_⟩ (by simp only; omega) (by kernel_rfl) ent_e
    rcases (hri.2.1 n).1 hn with h | h
    · subst h
      exact ⟨by omega, by omega, by rw [show -1 - (-1 - t.getD k 0) = t.getD k 0 by omega]; exact getK (by omega)⟩
    · exact hyv n h
  · exact wq_next (ys, sy, k + 1) ⟨by simp only; omega, hp, by simp only; omega, hyv⟩ (by simp only; omega) (by kernel_rfl) ent_e
  · exact ⟨⟨(sy, ys), by simp only; omega, hyv⟩, rfl, ent_e⟩
instance l2VarsM_ctr {Γ : List Atom} {v : Value} {t : List Int} [h : HasRd (List Int) repList Γ [v] t] :
    CtrC Try.prog 152 [v] Γ ((t.length ≤ 60) ∧ (∀ x ∈ t, -24 ≤ x)) ({ p : Value × List Int // p.2.length ≤ 60 ∧ ∀ n ∈ p.2, 0 ≤ n ∧ n < 24 ∧ -1 - n ∈ t }) (fun p : { p : Value × List Int // p.2.length ≤ 60 ∧ ∀ n ∈ p.2, 0 ≤ n ∧ n < 24 ∧ -1 - n ∈ t } => p.1.1) (fun p => .ow [p.1.1] p.1.2 :: Γ) := ⟨fun s w0 => l2VarsM_spec s.1 s.2⟩

attribute [local instance 2000] l2VarsM_ctr
theorem VarsOf_spec {w0 : World} {Γ : List Atom} {v v1 : Value} {a t : List Int} [h : HasRd (List Int) repList Γ [v] a] [h1 : HasRd (List Int) repList Γ [v1] t] (hs : termOk a t = true) : CJ Try.prog 120 [.agg #[v], v1] w0 Γ (fun p : { p : Value × List Int // p.2.length ≤ 60 ∧ ∀ n ∈ p.2, 0 ≤ n ∧ n < 24 ∧ -1 - n ∈ t } => p.1.1) (fun p => .ow [p.1.1] p.1.2 :: Γ) := by
  have hl := (termOk_len hs).2
  have hm := term_min hs
  refine cj_enter Try.func120 Try.ntmps120 ?_
  repeat' (first | refine red ?_ | refine redf fun hbi => ?_ | refine reds ?_ | (refine redc fun r => ?_; try have hr := Subtype.property r) | refine redp (fun r => ?_) (fun r => ?_) | refine redv fun sv => ?_ | refine redn fun b => ?_ | refine redz fun zs => ?_ | refine redq (fun hc => ?_) (fun hc => ?_) | with_reducible refine wq_blk_o rfl ?_ | (refine redi (fun hc => ?_) (fun hc => ?_) <;> try first | (exfalso; omega) | exact absurd rfl hc) | fail)
  · exact ⟨⟨(sv, []), by simp, by simp⟩, rfl, ent_e⟩
  · exact ⟨r, rfl, ent_e⟩
instance VarsOf_ctr {Γ : List Atom} {v v1 : Value} {a t : List Int} [h : HasRd (List Int) repList Γ [v] a] [h1 : HasRd (List Int) repList Γ [v1] t] :
    CtrC Try.prog 120 [.agg #[v], v1] Γ (termOk a t = true) ({ p : Value × List Int // p.2.length ≤ 60 ∧ ∀ n ∈ p.2, 0 ≤ n ∧ n < 24 ∧ -1 - n ∈ t }) (fun p : { p : Value × List Int // p.2.length ≤ 60 ∧ ∀ n ∈ p.2, 0 ≤ n ∧ n < 24 ∧ -1 - n ∈ t } => p.1.1) (fun p => .ow [p.1.1] p.1.2 :: Γ) := ⟨fun s w0 => VarsOf_spec s⟩

/-- A rule of the draws: its sides. -/
structure R9 (l r : List Int) : Prop where
  ok : ruleOk s9 (l, r) = true
  le : r.length ≤ 7
theorem fo_set {a : List Int} {v : Int} (hv : badS a v = false) : ∀ (l : List Int) (m i : Nat), Fo a l m → i < l.length → ar a v = ar a (l.getD i 0) → Fo a (l.set i v) m
  | [], m, i, h, hi, he => by cases hi
  | x :: l, m, 0, h, hi, he => by
    obtain ⟨m', e, hb, hf⟩ := fo_cons h
    have he' : ar a v = ar a x := he
    subst e
    unfold Fo at hf ⊢
    rw [List.set_cons_zero]
    simp only [skp]
    rw [if_neg (by rw [hv]; decide), he', hf]
    rfl
  | x :: l, m, i + 1, h, hi, he => by
    obtain ⟨m', e, hb, hf⟩ := fo_cons h
    subst e
    have ih := fo_set hv l _ i hf (by simpa using hi) (by simpa using he)
    unfold Fo at ih ⊢
    rw [List.set_cons_succ]
    simp only [skp]
    rw [if_neg (by rw [hb]; decide), ih]
    rfl
end Go.Proofs.Ytfdpmkilhllkoaa
