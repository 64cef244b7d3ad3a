/- The product of automata: the reference. -/
import Derived.Test.YtbbdjjlnachnlaaGreatBothP
import Derived.Test.YtbbdjjlnachnlaaGreatSetS
import Derived.Laws.StructEq
namespace Go.Eng
open Go Go.RowKit
set_option linter.unusedVariables false
/-- T is a struct of two numbers, compared by ==. -/
class Eq2 (P : Program) (T : TypeId) : Prop where
  run : ∀ (a b c d : Int) w, (binOp .eql T (.agg #[.int .i64 a, .int .i64 b]) (.agg #[.int .i64 c, .int .i64 d])).run P w = .ok (.bool (decide (a = c ∧ b = d))) w
  guard : P.eqGuardType P.depth T = false
instance {P : Program} {l : List Value} {Γ : List Atom} {ty T U : TypeId} {x y : Operand} {a b c d : Int} [hT : Eq2 P T] [hx : Ev l x (.agg #[.int .i64 a, .int .i64 b])] [hy : Ev l y (.agg #[.int .i64 c, .int .i64 d])] : PuC P l Γ (.binOp .eql T x y U) ty (.bool (decide (a = c ∧ b = d))) :=
  ⟨fun w0 => pu_bin (fun w => run_eqGuard_agg w .eql T x y _ _ hT.guard) (fun w => hT.run a b c d w)⟩
end Go.Eng
namespace Go.Proofs.YtbbdjjlnachnlaaGreat
open Go Go.Eng
set_option linter.unusedVariables false
set_option linter.unusedSimpArgs false
set_option synthInstance.maxHeartbeats 400000
set_option synthInstance.maxSize 1000
set_option maxHeartbeats 2000000
set_option maxRecDepth 20000


instance : Eq2 Tryz.prog 108 := ⟨fun a b c d w => by
  have u3 := Tryz.underlying2
  have a3 := Tryz.isAgg2
  have z3 := Tryz.sizeOf2
  have hS : Tryz.prog.underlying 108 = some (.struct (Tryz.prog.fieldsOf 108)) := by kernel_rfl
  rw [run_eql_struct, show (10000 : Nat) = 9999 + 1 from rfl, run_equalIn_agg w 9999 108 _ _ hS (by kernel_rfl)]
  simp only [Program.fieldsOf, Tryz.underlying108]
  go_simp
  by_cases h1 : a = c <;> by_cases h2 : b = d <;> simp [h1, h2], by kernel_rfl⟩
abbrev P2 : Type := Int × Int
/-- Where a pair stands. -/
noncomputable def placeP (xs : List P2) (z : P2) : Int := if z ∈ xs then ((xs.idxOf z : Nat) : Int) else -1
theorem placeP_pos {xs : List P2} {z : P2} : 0 ≤ placeP xs z ↔ z ∈ xs := by
  unfold placeP
  split
  · rename_i h; exact ⟨fun _ => h, fun _ => by omega⟩
  · rename_i h; exact ⟨fun h2 => by omega, fun h2 => absurd h2 h⟩
theorem placeP_bd (xs : List P2) (z : P2) : -1 ≤ placeP xs z ∧ placeP xs z < xs.length ∨ xs = [] ∧ placeP xs z = -1 := by
  unfold placeP
  split
  · rename_i h
    have := List.idxOf_lt_length_of_mem h
    left; omega
  · cases xs
    · exact .inr ⟨rfl, rfl⟩
    · left; simp only [List.length_cons]; omega
theorem idx_at2 {α : Type} [BEq α] [LawfulBEq α] [Inhabited α] : ∀ {xs : List α} {k : Nat} {v : α}, k < xs.length → v ∉ xs.take k → xs.getD k default = v → xs.idxOf v = k
  | [], k, v, h, _, _ => by simp at h
  | x :: xs, 0, v, _, _, h => by
    have : x = v := h
    rw [this, List.idxOf_cons_self]
  | x :: xs, k + 1, v, hk, hn, h => by
    rw [List.take_succ_cons, List.mem_cons] at hn
    rw [List.idxOf_cons, idx_at2 (xs := xs) (by simpa using hk) (fun hm => hn (.inr hm)) h, show (x == v) = false from beq_false_of_ne (fun e => hn (.inl e.symm))]; rfl
theorem mem_takeP {xs : List P2} {k : Nat} {v : P2} (h : k < xs.length) : v ∈ xs.take (k + 1) ↔ v = xs.getD k default ∨ v ∈ xs.take k := by
  rw [List.take_add_one, List.getElem?_eq_getElem h, List.mem_append, List.getD_eq_getElem?_getD, List.getElem?_eq_getElem h]
  simp [or_comm]
theorem l23Place_spec {w0 : World} {Γ : List Atom} {v : Value} {xs : List P2} {z1 z2 : Int} [h : HasRd (List P2) repList Γ [v] xs] :
    CJ Tryz.prog 65 [v, .agg #[.int .i64 z1, .int .i64 z2]] w0 Γ (fun _ : Unit => .int .i64 (placeP xs (z1, z2))) (fun _ => Γ) := by
  refine cj_lift (R := [.rd [v] xs]) (A := fun _ => []) (fun w1 => ?_) (reads_cons h (inferInstance)) (fun _ => inferInstance)
  simp only [List.cons_append, List.nil_append]
  refine cj_len v fun hlx => ?_
  refine cj_enter Tryz.func65 Tryz.ntmps65 ?_
  repeat' (first | refine red ?_ | refine redn fun b => ?_ | fail)
  refine wc_loop_c [5] [6, 7, 8, 9, 12, 13, 14, 15, 16, 17, 18, 4, 10, 11] (ι := Nat) (fun k => [.int .i64 k]) (fun k => k ≤ xs.length ∧ (z1, z2) ∉ xs.take k) (fun k => xs.length - k) 0 (by kernel_rfl) ⟨Nat.zero_le _, by simp⟩ ?_
  intro k u l' hl' ⟨hk, hkk⟩
  simp only [patch, List.map_cons, List.map_nil, List.set_cons_zero, List.set_cons_succ] at hl'
  subst hl'
  repeat' (first | refine red ?_ | refine reds ?_ | (refine redi (fun hc => ?_) (fun hc => ?_) <;> try first | (exfalso; omega) | with_reducible first | exact absurd rfl hc | exact absurd hc Bool.false_ne_true | exact absurd hc Bool.false_ne_true.symm) | ((refine wa_begin 4 [false, false, false, false, false, false] [] ?_ <;> refine wa_p 0 ?_ <;> refine wa_p 1 ?_ <;> (first | (refine wa_deep 2 fun p cs as_ asb_ hcs has hasb hf => ?_; simp only [Un.cells, Un.atoms, Un.fact, List.cons_append, List.nil_append] at hcs has hasb hf; subst hcs has hasb) | fail) <;> (first | refine wa_p 3 ?_ | fail) <;> (first | refine wa_p 4 ?_ | fail) <;> (first | refine wa_p 5 ?_ | fail)) <;> (refine wa_end ?_)) | fail)
  · refine ⟨(), ?_, ent_e⟩
    have e : xs.getD k default = (z1, z2) := Prod.ext hc.1 hc.2
    have hm : (z1, z2) ∈ xs := List.mem_of_mem_take ((mem_takeP (k := k) (by omega)).2 (.inl e.symm))
    unfold placeP
    rw [if_pos hm, idx_at2 (by omega) hkk e]
  · exact wq_next (k + 1) ⟨by omega, fun hm => by rcases (mem_takeP (by omega)).1 hm with h | h; exact hc (by rw [← h]; exact ⟨rfl, rfl⟩); exact hkk h⟩ (by omega) (by kernel_rfl) ent_e
  · refine ⟨(), ?_, ent_e⟩
    unfold placeP
    rw [if_neg (by rw [List.take_of_length_le (by omega)] at hkk; exact hkk)]
instance l23Place_ctr {Γ : List Atom} {v : Value} {xs : List P2} {z1 z2 : Int} [h : HasRd (List P2) repList Γ [v] xs] :
    CtrC Tryz.prog 65 [v, .agg #[.int .i64 z1, .int .i64 z2]] Γ (True) (Unit) (fun _ : Unit => .int .i64 (placeP xs (z1, z2))) (fun _ => Γ) := ⟨fun s w0 => l23Place_spec⟩

/-! ### The pairs -/
def FitL (fs : List P2) (r s : STrans) (n : Nat) : Prop := r.1 = s.1 ∧ ∀ i, i < n → (r.2.1.getD i 0, s.2.1.getD i 0) ∈ fs
def ShutL (fs : List P2) (r s : STrans) : Prop := FitL fs r s r.2.1.length → (r.2.2, s.2.2) ∈ fs
structure FdP (x y : SAuto) (fs : List P2) : Prop where
  nd : fs.Nodup
  pr : ∀ z ∈ fs, PR x y z.1 z.2
theorem fdP_len {a : List Int} {x y : SAuto} (h : AutoP a x) (h' : AutoP a y) {fs : List P2} (hf : FdP x y fs) : fs.length ≤ 256 := by
  have h1 := nd_le hf.nd (m := prL x y) fun z hz => (prL_mem h h').2 (hf.pr z hz)
  have h2 : (prL x y).length ≤ 256 := by
    have e : (prL x y).length = ((prL x y).map fun z => z.1.toNat * 16 + z.2.toNat).length := by rw [List.length_map]
    have hb : ∀ p q, (p, q) ∈ prL x y → (0 ≤ p ∧ p < 16) ∧ 0 ≤ q ∧ q < 16 := fun p q hm => by
      have h1 := pr2_in h h' ((prL_mem h h').1 hm)
      have h2 := h.2.1
      have h3 := h'.2.1
      omega
    rw [e]
    refine Nat.le_trans (nd_le (m := List.range 256) (nd_map (prL_nd x y) fun z hz z' hz' e => ?_) fun i hi => ?_) (by simp)
    · obtain ⟨p, q⟩ := z
      obtain ⟨p', q'⟩ := z'
      have h1 := hb p q hz
      have h2 := hb p' q' hz'
      simp only at e
      rw [Prod.mk.injEq]
      omega
    · obtain ⟨⟨p, q⟩, hz, rfl⟩ := List.mem_map.1 hi
      have h1 := hb p q hz
      rw [List.mem_range]
      simp only
      omega
  omega
theorem fdP_all {a : List Int} {x y : SAuto} (h : AutoP a x) (h' : AutoP a y) {fs : List P2} (hf : FdP x y fs) (hc : ∀ r ∈ x.2.1, ∀ s ∈ y.2.1, ShutL fs r s) {p q : Int} : (p, q) ∈ fs ↔ PR x y p q := by
  constructor
  · exact fun hm => hf.pr _ hm
  · intro hp
    induction hp with
    | mk r s hr hs he _ ih => exact hc r hr s hs ⟨he, ih⟩
theorem fitL_pr {a : List Int} {x y : SAuto} (h : AutoP a x) (h' : AutoP a y) {fs : List P2} (hf : FdP x y fs) {r s : STrans} (hr : r ∈ x.2.1) (hs : s ∈ y.2.1) (hl : FitL fs r s r.2.1.length) : PR x y r.2.2 s.2.2 :=
  Pr2.mk r s hr hs hl.1 fun i hi => hf.pr _ (hl.2 i hi)
theorem fdP_add {x y : SAuto} {fs : List P2} (hf : FdP x y fs) {p q : Int} (hn : (p, q) ∉ fs) (hp : PR x y p q) : FdP x y (fs ++ [(p, q)]) :=
  ⟨by rw [List.nodup_append]; exact ⟨hf.nd, by simp, fun a ha b hb e => by rw [List.mem_singleton] at hb; exact hn (by rw [← hb, ← e]; exact ha)⟩, fun z hz => by
    rcases List.mem_append.1 hz with hz | hz
    · exact hf.pr z hz
    · rw [List.mem_singleton] at hz; rw [hz]; exact hp⟩
theorem placeP_neg {xs : List P2} {z : P2} : placeP xs z < 0 ↔ z ∉ xs := by
  have := @placeP_pos xs z
  by_cases h : z ∈ xs
  · have := this.2 h; exact ⟨fun h2 => by omega, fun h2 => absurd h h2⟩
  · have : ¬ 0 ≤ placeP xs z := fun h2 => h (this.1 h2)
    exact ⟨fun _ => h, fun _ => by omega⟩
theorem l23Pairs_spec {w0 : World} {Γ : List Atom} {va va1 vb vb1 : Value} {x y : SAuto} [h : HasRd (List STrans) repList Γ [va] x.2.1] [h0 : HasRd (List Int) repList Γ [va1] x.2.2] [h1 : HasRd (List STrans) repList Γ [vb] y.2.1] [h2 : HasRd (List Int) repList Γ [vb1] y.2.2] (hC : ∃ a, AutoP a x ∧ AutoP a y) :
    CJ Tryz.prog 59 [.agg #[.int .i64 x.1, va, va1], .agg #[.int .i64 y.1, vb, vb1]] w0 Γ (fun q : Value => q) (fun q => .ow [q] (prL x y) :: Γ) := by
  refine cj_lift (R := [.rd [va] x.2.1, .rd [va1] x.2.2, .rd [vb] y.2.1, .rd [vb1] y.2.2]) (A := fun q : Value => [.ow [q] (prL x y)]) (fun w1 => ?_) (reads_cons h (reads_cons h0 (reads_cons h1 (reads_cons h2 (inferInstance))))) (fun _ => inferInstance)
  simp only [List.cons_append, List.nil_append]
  obtain ⟨a, ax, ay⟩ := hC
  have hxl := ax.2.2.1
  have hyl := ay.2.2.1
  have hx16 := ax.2.1
  have hy16 := ay.2.1
  refine cj_enter Tryz.func59 Tryz.ntmps59 ?_
  repeat' (first | refine red ?_ | refine redv fun sv => ?_ | refine redn fun b => ?_ | fail)
  refine wc_loop_p [5, 6] [16, 7, 17, 18, 19, 20, 21, 8, 24, 25, 26, 27, 28, 31, 32, 33, 34, 35, 36, 37, 38, 39, 40, 41, 42, 43, 9, 44, 45, 46, 47, 48, 49, 50, 51, 52, 53, 54, 55, 56, 57, 58, 59, 60, 61, 62, 10, 11, 63, 64, 65, 66, 67, 68, 69, 70, 71, 72, 73, 74, 77, 78, 79, 80, 81, 82, 83, 84, 85, 86, 87, 88, 89, 90, 91, 92, 93, 94, 95, 96, 97, 98, 75, 76, 99, 100, 101, 102, 103, 29, 30, 22, 23] (ι := Value × List P2 × Bool) (fun k => [k.1, .bool k.2.2]) (fun k => [.ow [k.1] k.2.1]) (fun k => FdP x y k.2.1 ∧ (k.2.2 = false → ∀ r ∈ x.2.1, ∀ s ∈ y.2.1, ShutL k.2.1 r s)) (fun k => 2 * (256 - k.2.1.length) + (if k.2.2 then 1 else 0)) (sv, [], true) [.ow [sv] ([] : List P2)] (by kernel_rfl) ⟨⟨List.nodup_nil, fun z hz => (by cases hz)⟩, fun h => (by cases h)⟩ rfl ?_
  intro ⟨fv, fs, mo⟩ u l' hl' ⟨hfd, hfc⟩
  simp only [patch, List.map_cons, List.map_nil, List.set_cons_zero, List.set_cons_succ] at hl'
  subst hl'
  simp only [List.cons_append, List.nil_append] at hfd hfc ⊢
  have hcl := fdP_len ax ay hfd
  repeat' (first | refine red ?_ | refine redv fun sv => ?_ | (refine redi (fun hc => ?_) (fun hc => ?_) <;> try first | (exfalso; omega) | with_reducible first | exact absurd rfl hc | exact absurd hc Bool.false_ne_true | exact absurd hc Bool.false_ne_true.symm) | fail)
  · subst hc
    refine wc_loop_p [5, 6, 7] [17, 18, 19, 20, 21, 8, 24, 25, 26, 27, 28, 31, 32, 33, 34, 35, 36, 37, 38, 39, 40, 41, 42, 43, 9, 44, 45, 46, 47, 48, 49, 50, 51, 52, 53, 54, 55, 56, 57, 58, 59, 60, 61, 62, 10, 11, 63, 64, 65, 66, 67, 68, 69, 70, 71, 72, 73, 74, 77, 78, 79, 80, 81, 82, 83, 84, 85, 86, 87, 88, 89, 90, 91, 92, 93, 94, 95, 96, 97, 98, 75, 76, 99, 100, 101, 102, 103, 29, 30, 22, 23] (ι := Value × List P2 × Bool × Nat) (fun k => [k.1, .bool k.2.2.1, .int .i64 k.2.2.2]) (fun k => [.ow [k.1] k.2.1]) (fun k => k.2.2.2 ≤ x.2.1.length ∧ FdP x y k.2.1 ∧ (k.2.2.1 = true → fs.length < k.2.1.length) ∧ (k.2.2.1 = false → k.2.1 = fs ∧ ∀ j, j < k.2.2.2 → ∀ s ∈ y.2.1, ShutL fs (x.2.1.getD j default) s)) (fun k => x.2.1.length - k.2.2.2) (fv, fs, false, 0) [.ow [fv] fs] (by kernel_rfl) ⟨Nat.zero_le _, hfd, fun h => (by cases h), fun _ => ⟨rfl, fun j hj => absurd hj (Nat.not_lt_zero _)⟩⟩ rfl ?_
    intro ⟨fv, f2, m2, k⟩ u l' hl' ⟨hk, hf2, hm2, hn2⟩
    simp only [patch, List.map_cons, List.map_nil, List.set_cons_zero, List.set_cons_succ] at hl'
    subst hl'
    simp only [List.cons_append, List.nil_append] at hk hf2 hm2 hn2 ⊢
    by_cases hkl : k < x.2.1.length
    · have hrm := getT hkl
      repeat' (first | refine red ?_ | (refine redi (fun hc => ?_) (fun hc => ?_) <;> try first | (exfalso; omega) | with_reducible first | exact absurd rfl hc | exact absurd hc Bool.false_ne_true | exact absurd hc Bool.false_ne_true.symm) | fail)
      refine wc_loop_p [5, 6, 8] [24, 25, 26, 27, 28, 31, 32, 33, 34, 35, 36, 37, 38, 39, 40, 41, 42, 43, 9, 44, 45, 46, 47, 48, 49, 50, 51, 52, 53, 54, 55, 56, 57, 58, 59, 60, 61, 62, 10, 11, 63, 64, 65, 66, 67, 68, 69, 70, 71, 72, 73, 74, 77, 78, 79, 80, 81, 82, 83, 84, 85, 86, 87, 88, 89, 90, 91, 92, 93, 94, 95, 96, 97, 98, 75, 76, 99, 100, 101, 102, 103, 29, 30] (ι := Value × List P2 × Bool × Nat) (fun k => [k.1, .bool k.2.2.1, .int .i64 k.2.2.2]) (fun k => [.ow [k.1] k.2.1]) (fun m => m.2.2.2 ≤ y.2.1.length ∧ FdP x y m.2.1 ∧ (m.2.2.1 = true → fs.length < m.2.1.length) ∧ (m.2.2.1 = false → m.2.1 = fs ∧ (∀ j, j < k → ∀ s ∈ y.2.1, ShutL fs (x.2.1.getD j default) s) ∧ ∀ j, j < m.2.2.2 → ShutL fs (x.2.1.getD k default) (y.2.1.getD j default))) (fun m => y.2.1.length - m.2.2.2) (fv, f2, m2, 0) [.ow [fv] f2] (by kernel_rfl) ⟨Nat.zero_le _, hf2, hm2, fun h => ⟨(hn2 h).1, (hn2 h).2, fun j hj => absurd hj (Nat.not_lt_zero _)⟩⟩ rfl ?_
      intro ⟨fv, f3, m3, m⟩ u l' hl' ⟨hm, hf3, hm3, hn3⟩
      simp only [patch, List.map_cons, List.map_nil, List.set_cons_zero, List.set_cons_succ] at hl'
      subst hl'
      simp only [List.cons_append, List.nil_append] at hm hf3 hm3 hn3 ⊢
      by_cases hml : m < y.2.1.length
      · have hsm := getT hml
        have hcl3 := fdP_len ax ay hf3
        have hnext : ∀ j, j < m + 1 → (j < m → ShutL fs (x.2.1.getD k default) (y.2.1.getD j default)) → (j = m → ShutL fs (x.2.1.getD k default) (y.2.1.getD m default)) → ShutL fs (x.2.1.getD k default) (y.2.1.getD j default) := fun j hj h1 h2 => by
          by_cases e : j = m
          · rw [e]; exact h2 e
          · exact h1 (by omega)
        have hlen : (x.2.1.getD k default).1 = (y.2.1.getD m default).1 → (x.2.1.getD k default).2.1.length = (y.2.1.getD m default).2.1.length := fun e => auto_len ax ay hrm hsm e
        repeat' (first | refine red ?_ | (refine redi (fun hc => ?_) (fun hc => ?_) <;> try first | (exfalso; omega) | with_reducible first | exact absurd rfl hc | exact absurd hc Bool.false_ne_true | exact absurd hc Bool.false_ne_true.symm) | ((refine wa_begin 11 [false, false, false, false, false, false, false, false, false, false, false, false, false, false, false] [] ?_ <;> (first | refine wa_p 0 ?_ | fail) <;> (first | refine wa_p 1 ?_ | fail) <;> refine wa_p 2 ?_ <;> (first | (refine wa_deep 3 fun p cs as_ asb_ hcs has hasb hf => ?_; simp only [Un.cells, Un.atoms, Un.fact, List.cons_append, List.nil_append] at hcs has hasb hf; subst hcs has hasb) | fail) <;> (first | refine wa_p 4 ?_ | fail) <;> (first | refine wa_p 5 ?_ | fail) <;> (first | refine wa_p 6 ?_ | fail) <;> (first | refine wa_p 7 ?_ | fail) <;> refine wa_p 8 ?_ <;> (first | (refine wa_deep 9 fun p cs as_ asb_ hcs has hasb hf => ?_; simp only [Un.cells, Un.atoms, Un.fact, List.cons_append, List.nil_append] at hcs has hasb hf; subst hcs has hasb) | fail) <;> (first | refine wa_p 10 ?_ | fail) <;> (first | refine wa_p 11 ?_ | fail) <;> (refine wa_two 12 13 ?_ ?_; rotate_right; (focus ((repeat' (first | refine red ?_ | refine redn fun b => ?_ | fail)) <;> (refine wa_do 12 ?_ <;> (repeat' (first | refine red ?_ | fail))) <;> (refine wa_do 14 ?_ <;> (repeat' (first | refine red ?_ | fail))))); rotate_right; (focus ((repeat' (first | refine red ?_ | fail)) <;> (refine wa_do 13 ?_ <;> (repeat' (first | refine red ?_ | refine redn fun b => ?_ | fail))) <;> (refine wa_do 14 ?_ <;> (repeat' (first | refine red ?_ | fail))))))) <;> (refine wa_end ?_)) | ((refine wa_begin 12 [false, false, false, false, false, false, false, false, false, false, false, false, false, false, false, false, false, false, false, false] [] ?_ <;> (first | refine wa_p 0 ?_ | fail) <;> (first | refine wa_p 1 ?_ | fail) <;> refine wa_p 2 ?_ <;> (first | refine wa_p 3 ?_ | fail) <;> (first | refine wa_p 4 ?_ | fail) <;> (first | refine wa_p 5 ?_ | fail) <;> (first | refine wa_p 6 ?_ | fail) <;> (first | refine wa_p 7 ?_ | fail) <;> refine wa_p 8 ?_ <;> (first | refine wa_p 9 ?_ | fail) <;> (first | refine wa_p 10 ?_ | fail) <;> (first | refine wa_p 11 ?_ | fail) <;> (first | refine wa_p 12 ?_ | fail) <;> refine wa_p 13 ?_ <;> (first | (refine wa_if 57 (fun hc => ?_) (fun hc => ?_) <;> (try first | (exfalso; omega) | with_reducible first | exact absurd rfl hc | exact absurd hc Bool.false_ne_true | exact absurd hc Bool.false_ne_true.symm) <;> first | refine wa_pg 14 ?_ | refine wa_no 14 ?_) | fail) <;> (first | refine wa_pg 15 ?_ | refine wa_no 15 ?_ | fail) <;> (refine wa_do 16 ?_ <;> (repeat' (first | refine red ?_ | (refine redc fun r => ?_; try have hr := Subtype.property r) | fail))) <;> (first | refine wa_pg 17 ?_ | refine wa_no 17 ?_ | fail) <;> (first | refine wa_p 18 ?_ | fail) <;> refine wa_p 19 ?_) <;> (refine wa_end ?_)) | fail)
        all_goals first
          | (
             rename Nat => b9
             rename (_ : STrans).1 = _ => hsy
             have hln := hlen hsy
             refine wc_loop_c [10, 11] [63, 64, 65, 66, 67, 68, 69, 70, 71, 72, 73, 74, 77, 78, 79, 80, 81, 82, 83, 84, 85, 86, 87, 88, 89, 90, 91, 92, 93, 94, 95, 96, 97, 98, 75, 76] (ι := Bool × Nat) (fun j => [.bool j.1, .int .i64 j.2]) (fun j => j.2 ≤ (x.2.1.getD k default).2.1.length ∧ (j.1 = true ↔ ((x.2.1.getD k default).2.2, (y.2.1.getD m default).2.2) ∉ f3 ∧ FitL f3 (x.2.1.getD k default) (y.2.1.getD m default) j.2)) (fun j => (x.2.1.getD k default).2.1.length - j.2) (decide (placeP f3 ((x.2.1.getD k default).2.2, (y.2.1.getD m default).2.2) < 0), 0) (by kernel_rfl) ⟨Nat.zero_le _, decide_eq_true_iff.trans (placeP_neg.trans ⟨fun h => ⟨h, hsy, fun i hi => absurd hi (Nat.not_lt_zero _)⟩, fun h => h.1⟩)⟩ ?_
             intro ⟨is, j⟩ u l' hl' ⟨hj, hjs⟩
             simp only [patch, List.map_cons, List.map_nil, List.set_cons_zero, List.set_cons_succ] at hl'
             subst hl'
             simp only at hj hjs
             cases is
             · have hno : ¬ (((x.2.1.getD k default).2.2, (y.2.1.getD m default).2.2) ∉ f3 ∧ FitL f3 (x.2.1.getD k default) (y.2.1.getD m default) (x.2.1.getD k default).2.1.length) := fun h => by
                 have := hjs.2 ⟨h.1, h.2.1, fun i hi => h.2.2 i (by omega)⟩
                 cases this
               repeat' (first | refine red ?_ | refine reds ?_ | (refine redi (fun hc => ?_) (fun hc => ?_) <;> try first | (exfalso; omega) | with_reducible first | exact absurd rfl hc | exact absurd hc Bool.false_ne_true | exact absurd hc Bool.false_ne_true.symm) | fail)
               all_goals
                exact wq_next (fv, f3, m3, m + 1) ⟨by simp only; omega, hf3, hm3, fun h => ⟨(hn3 h).1, (hn3 h).2.1, fun j hj => hnext j hj ((hn3 h).2.2 j) fun _ hf => Classical.byContradiction fun hq => hno ⟨by rw [(hn3 h).1]; exact hq, by rw [(hn3 h).1]; exact hf⟩⟩⟩ (by simp only; omega) (by kernel_rfl) ent_e
             · obtain ⟨hnf, hft⟩ := hjs.1 rfl
               repeat' (first | refine red ?_ | refine reds ?_ | refine redv fun sv => ?_ | (refine redi (fun hc => ?_) (fun hc => ?_) <;> try first | (exfalso; omega) | with_reducible first | exact absurd rfl hc | exact absurd hc Bool.false_ne_true | exact absurd hc Bool.false_ne_true.symm) | ((refine wa_begin 16 [false, false, false, false, false, false, false, false, false, false, false, false, false, false, false, false, false, false, false, false, false, false, false] [] ?_ <;> refine wa_p 0 ?_ <;> (first | refine wa_p 1 ?_ | fail) <;> (first | refine wa_p 2 ?_ | fail) <;> refine wa_p 3 ?_ <;> (first | refine wa_p 4 ?_ | fail) <;> (first | refine wa_p 5 ?_ | fail) <;> (first | refine wa_p 6 ?_ | fail) <;> refine wa_p 7 ?_ <;> refine wa_p 8 ?_ <;> (first | refine wa_f 9 fun hbi => ?_ | fail) <;> (first | refine wa_p 10 ?_ | fail) <;> (first | refine wa_p 11 ?_ | fail) <;> refine wa_p 12 ?_ <;> (first | refine wa_p 13 ?_ | fail) <;> (first | refine wa_p 14 ?_ | fail) <;> (first | refine wa_p 15 ?_ | fail) <;> refine wa_p 16 ?_ <;> refine wa_p 17 ?_ <;> (first | refine wa_f 18 fun hbi => ?_ | fail) <;> (refine wa_do 19 ?_ <;> (repeat' (first | refine red ?_ | fail))) <;> (refine wa_do 20 ?_ <;> (repeat' (first | refine red ?_ | (refine redc fun r => ?_; try have hr := Subtype.property r) | fail))) <;> refine wa_p 21 ?_ <;> refine wa_p 22 ?_) <;> (refine wa_end ?_)) | fail)
               · refine wq_next (decide (0 ≤ placeP f3 ((x.2.1.getD k default).2.1.getD j 0, (y.2.1.getD m default).2.1.getD j 0)), j + 1) ⟨by simp only; omega, ?_⟩ (by simp only; omega) (by kernel_rfl) ent_e
                 refine decide_eq_true_iff.trans (placeP_pos.trans ⟨fun h => ⟨hnf, hsy, fun i hi => ?_⟩, fun h => h.2.2 j (by simp only; omega)⟩)
                 by_cases e : i = j
                 · rw [e]; exact h
                 · exact hft.2 i (by simp only at hi; omega)
               · have hfull : FitL f3 (x.2.1.getD k default) (y.2.1.getD m default) (x.2.1.getD k default).2.1.length := by rw [show (x.2.1.getD k default).2.1.length = j by omega]; exact hft
                 refine wq_next (sv, f3 ++ [((x.2.1.getD k default).2.2, (y.2.1.getD m default).2.2)], true, m + 1) ⟨by simp only; omega, fdP_add hf3 hnf (fitL_pr ax ay hf3 hrm hsm hfull), fun _ => ?_, fun h => (by cases h)⟩ (by simp only; omega) (by kernel_rfl) ent_e
                 simp only [List.length_append, List.length_singleton]
                 cases m3
                 · have := (hn3 rfl).1; rw [this]; omega
                 · have := hm3 rfl; omega
             )
          | (
             rename Nat => b9
             refine wc_loop_c [10, 11] [63, 64, 65, 66, 67, 68, 69, 70, 71, 72, 73, 74, 77, 78, 79, 80, 81, 82, 83, 84, 85, 86, 87, 88, 89, 90, 91, 92, 93, 94, 95, 96, 97, 98, 75, 76] (ι := Bool × Nat) (fun j => [.bool j.1, .int .i64 j.2]) (fun j => j.2 ≤ (x.2.1.getD k default).2.1.length ∧ (j.1 = true ↔ ((x.2.1.getD k default).2.2, (y.2.1.getD m default).2.2) ∉ f3 ∧ FitL f3 (x.2.1.getD k default) (y.2.1.getD m default) j.2)) (fun j => (x.2.1.getD k default).2.1.length - j.2) (false, 0) (by kernel_rfl) ⟨Nat.zero_le _, ⟨fun h => (by cases h), fun h => absurd h.2.1 (by assumption)⟩⟩ ?_
             intro ⟨is, j⟩ u l' hl' ⟨hj, hjs⟩
             simp only [patch, List.map_cons, List.map_nil, List.set_cons_zero, List.set_cons_succ] at hl'
             subst hl'
             simp only at hj hjs
             cases is
             · have hno : ¬ (((x.2.1.getD k default).2.2, (y.2.1.getD m default).2.2) ∉ f3 ∧ FitL f3 (x.2.1.getD k default) (y.2.1.getD m default) (x.2.1.getD k default).2.1.length) := fun h => absurd h.2.1 (by assumption)
               repeat' (first | refine red ?_ | refine reds ?_ | (refine redi (fun hc => ?_) (fun hc => ?_) <;> try first | (exfalso; omega) | with_reducible first | exact absurd rfl hc | exact absurd hc Bool.false_ne_true | exact absurd hc Bool.false_ne_true.symm) | fail)
               all_goals
                exact wq_next (fv, f3, m3, m + 1) ⟨by simp only; omega, hf3, hm3, fun h => ⟨(hn3 h).1, (hn3 h).2.1, fun j hj => hnext j hj ((hn3 h).2.2 j) fun _ hf => Classical.byContradiction fun hq => hno ⟨by rw [(hn3 h).1]; exact hq, by rw [(hn3 h).1]; exact hf⟩⟩⟩ (by simp only; omega) (by kernel_rfl) ent_e
             · exact absurd (hjs.1 rfl).2.1 (by assumption)
             )
      · repeat' (first | refine red ?_ | refine reds ?_ | (refine redi (fun hc => ?_) (fun hc => ?_) <;> try first | (exfalso; omega) | with_reducible first | exact absurd rfl hc | exact absurd hc Bool.false_ne_true | exact absurd hc Bool.false_ne_true.symm) | fail)
        refine wq_next (fv, f3, m3, k + 1) ⟨by simp only; omega, hf3, hm3, fun h => ⟨(hn3 h).1, fun j hj s hs => ?_⟩⟩ (by simp only; omega) (by kernel_rfl) ent_e
        by_cases e : j = k
        · obtain ⟨i, hi, rfl⟩ := List.getElem_of_mem hs
          have := (hn3 h).2.2 i (by omega)
          rw [e]
          rw [List.getD_eq_getElem?_getD (l := y.2.1), List.getElem?_eq_getElem hi] at this
          exact this
        · exact (hn3 h).2.1 j (by simp only at hj; omega) s hs
    · repeat' (first | refine red ?_ | (refine redi (fun hc => ?_) (fun hc => ?_) <;> try first | (exfalso; omega) | with_reducible first | exact absurd rfl hc | exact absurd hc Bool.false_ne_true | exact absurd hc Bool.false_ne_true.symm) | fail)
      refine wq_next (fv, f2, m2) ⟨hf2, fun h => ?_⟩ ?_ (by kernel_rfl) ent_e
      · obtain ⟨rfl, h2⟩ := hn2 h
        intro r hr s hs
        obtain ⟨i, hi, rfl⟩ := List.getElem_of_mem hr
        have := h2 i (by omega) s hs
        rw [List.getD_eq_getElem?_getD, List.getElem?_eq_getElem hi] at this
        exact this
      · have := fdP_len ax ay hf2
        simp only
        cases m2
        · have := (hn2 rfl).1
          rw [this]
          simp
        · have := hm2 rfl
          simp
          omega
  · have hfc := hfc hc
    have hall : ∀ p q : Int, (p, q) ∈ fs ↔ PR x y p q := fun p q => fdP_all ax ay hfd hfc
    obtain ⟨n, hn⟩ : ∃ n : Nat, x.1 = (n : Int) := ⟨x.1.toNat, by omega⟩
    obtain ⟨m, hm⟩ : ∃ m : Nat, y.1 = (m : Int) := ⟨y.1.toNat, by omega⟩
    have hprl : prL x y = pairsP (PR x y) m n := by unfold prL; rw [hn, hm, Int.toNat_natCast, Int.toNat_natCast]
    have hpl : ∀ p, p ≤ n → ∀ q, q ≤ m → (pairsP (PR x y) m p ++ pairsTo (PR x y) m p q).length ≤ 256 := fun p hp q hq => by
      refine Nat.le_trans (nd_le (m := fs) ?_ fun z hz => ?_) hcl
      · rw [List.nodup_append]
        refine ⟨pairsP_nd p, pairsTo_nd q, fun a ha b hb e => ?_⟩
        obtain ⟨i, j, h1, _, h2, _⟩ := pairsP_mem.1 ha
        obtain ⟨j', _, h3, _⟩ := pairsTo_mem.1 hb
        rw [h2, h3] at e
        have := congrArg Prod.fst e
        simp only at this
        omega
      · rcases List.mem_append.1 hz with hz | hz
        · obtain ⟨i, j, _, _, rfl, hP⟩ := pairsP_mem.1 hz
          exact (hall _ _).2 hP
        · obtain ⟨j, _, rfl, hP⟩ := pairsTo_mem.1 hz
          exact (hall _ _).2 hP
    refine wc_loop_p [12, 13] [105, 106, 107, 108, 14, 111, 112, 113, 114, 117, 118, 119, 120, 121, 122, 123, 124, 125, 126, 127, 128, 115, 116, 109, 110] (ι := Value × Nat) (fun k => [k.1, .int .i64 k.2]) (fun k => [.ow [k.1] (pairsP (PR x y) m k.2)]) (fun k => k.2 ≤ n) (fun k => n - k.2) (sv, 0) [.ow [sv] ([] : List P2)] (by kernel_rfl) (Nat.zero_le _) rfl ?_
    intro ⟨ov, k⟩ u l' hl' hk
    simp only [patch, List.map_cons, List.map_nil, List.set_cons_zero, List.set_cons_succ] at hl'
    subst hl'
    simp only [List.cons_append, List.nil_append] at hk ⊢
    by_cases hkl : k < n
    · repeat' (first | refine red ?_ | (refine redi (fun hc => ?_) (fun hc => ?_) <;> try first | (exfalso; omega) | with_reducible first | exact absurd rfl hc | exact absurd hc Bool.false_ne_true | exact absurd hc Bool.false_ne_true.symm) | fail)
      refine wc_loop_p [12, 14] [111, 112, 113, 114, 117, 118, 119, 120, 121, 122, 123, 124, 125, 126, 127, 128, 115, 116] (ι := Value × Nat) (fun j => [j.1, .int .i64 j.2]) (fun j => [.ow [j.1] (pairsP (PR x y) m k ++ pairsTo (PR x y) m k j.2)]) (fun j => j.2 ≤ m) (fun j => m - j.2) (ov, 0) [.ow [ov] (pairsP (PR x y) m k)] (by kernel_rfl) (Nat.zero_le _) (by simp only [pairsTo, List.append_nil]) ?_
      intro ⟨ow, j⟩ u l' hl' hj
      simp only [patch, List.map_cons, List.map_nil, List.set_cons_zero, List.set_cons_succ] at hl'
      subst hl'
      simp only [List.cons_append, List.nil_append] at hj ⊢
      have hlk := hpl k (by omega) j hj
      rw [List.length_append] at hlk
      by_cases hjl : j < m
      · have hsu : pairsTo (PR x y) m k (j + 1) = pairsTo (PR x y) m k j ++ (if decC (PR x y (k : Int) (j : Int)) = true then [((k : Int), (j : Int))] else []) := rfl
        repeat' (first | refine red ?_ | refine reds ?_ | (refine redc fun r => ?_; try have hr := Subtype.property r) | refine redv fun sv => ?_ | (refine redi (fun hc => ?_) (fun hc => ?_) <;> try first | (exfalso; omega) | with_reducible first | exact absurd rfl hc | exact absurd hc Bool.false_ne_true | exact absurd hc Bool.false_ne_true.symm) | fail)
        · rw [if_pos (decC_t ((hall _ _).1 (placeP_pos.1 ‹_›)))] at hsu
          rw [List.append_assoc, ← hsu]
          exact wq_next (sv, j + 1) (by simp only; omega) (by simp only; omega) (by kernel_rfl) ent_e
        · rw [if_neg fun h => absurd (placeP_pos.2 ((hall _ _).2 (decC_iff.1 h))) (by omega), List.append_nil] at hsu
          refine wq_next (ow, j + 1) (by simp only; omega) (by simp only; omega) (by kernel_rfl) ?_
          simp only
          rw [hsu]
          exact ent_e
      · obtain rfl : j = m := by omega
        repeat' (first | refine red ?_ | refine reds ?_ | (refine redi (fun hc => ?_) (fun hc => ?_) <;> try first | (exfalso; omega) | with_reducible first | exact absurd rfl hc | exact absurd hc Bool.false_ne_true | exact absurd hc Bool.false_ne_true.symm) | fail)
        exact wq_next (ow, k + 1) (by simp only; omega) (by simp only; omega) (by kernel_rfl) (by simp only [pairsP]; exact ent_e)
    · obtain rfl : k = n := by omega
      rw [hprl]
      repeat' (first | refine red ?_ | (refine redi (fun hc => ?_) (fun hc => ?_) <;> try first | (exfalso; omega) | with_reducible first | exact absurd rfl hc | exact absurd hc Bool.false_ne_true | exact absurd hc Bool.false_ne_true.symm) | fail)
      exact ⟨_, rfl, ent_e⟩
instance l23Pairs_ctr {Γ : List Atom} {va va1 vb vb1 : Value} {x y : SAuto} [h : HasRd (List STrans) repList Γ [va] x.2.1] [h0 : HasRd (List Int) repList Γ [va1] x.2.2] [h1 : HasRd (List STrans) repList Γ [vb] y.2.1] [h2 : HasRd (List Int) repList Γ [vb1] y.2.2] :
    CtrC Tryz.prog 59 [.agg #[.int .i64 x.1, va, va1], .agg #[.int .i64 y.1, vb, vb1]] Γ (∃ a, AutoP a x ∧ AutoP a y) (Value) (fun q : Value => q) (fun q => .ow [q] (prL x y) :: Γ) := ⟨fun s w0 => l23Pairs_spec s⟩

end Go.Proofs.YtbbdjjlnachnlaaGreat
