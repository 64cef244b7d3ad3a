/- strings.Cut; pairs of terms and rules are read from texts. -/
import Derived.Test.YtcaljjkmaffedaaDoorPars
import Derived.Test.YtcaljjkmaffedaaDoorShelfC
import Derived.Test.YtcaljjkmaffedaaDoorL06
import Derived.Sort.Grow
import Derived.Shelf.Vars
namespace Go.Proofs.YtcaljjkmaffedaaDoor
open Go Go.Eng Go.RowKit
set_option linter.unusedVariables false
set_option linter.unusedSimpArgs false
set_option synthInstance.maxHeartbeats 400000
set_option synthInstance.maxSize 1000
set_option maxHeartbeats 2000000
set_option maxRecDepth 20000

/-- A variable of the library's that holds some number. -/
structure GI where
  m : Int
instance repGI : Rep GI where
  sz := 1
  rd ok w cells x := ∃ g cs e fz, cells = [.pointer (some ⟨g, 0, none⟩)] ∧ ok g ∧ w.heap[g]? = some (.cells cs e fz) ∧ w.cell? ⟨g, 0, none⟩ = some (.int .i64 x.m)
  ow ok w F cells x := F = [] ∧ ∃ g cs e fz, cells = [.pointer (some ⟨g, 0, none⟩)] ∧ ok g ∧ w.heap[g]? = some (.cells cs e fz) ∧ w.cell? ⟨g, 0, none⟩ = some (.int .i64 x.m)
  pos := by decide
  rd_len := by rintro _ _ _ _ ⟨g, cs, e, fz, rfl, _⟩; rfl
  rd_one := by rintro _ _ _ _ ⟨g, cs, e, fz, rfl, _⟩ x hx; simp at hx; subst hx; rfl
  rd_mono := by
    rintro _ _ _ _ _ _ ⟨g, cs, e, fz, h1, h2, h3, h4⟩ hm
    have := hm g h2 (Array.getElem?_eq_some_iff.1 h3).1
    exact ⟨g, cs, e, fz, h1, this.1, this.2.trans h3, (cell_same (a := ⟨g, 0, none⟩) this.2).trans h4⟩
  ow_mono := by
    rintro _ _ _ _ _ _ _ ⟨hF, g, cs, e, fz, h1, h2, h3, h4⟩ _ hm
    have := hm g h2 (Array.getElem?_eq_some_iff.1 h3).1
    exact ⟨hF, g, cs, e, fz, h1, this.1, this.2.trans h3, (cell_same (a := ⟨g, 0, none⟩) this.2).trans h4⟩
  ow_rd := by
    rintro _ _ _ _ _ _ ⟨hF, g, cs, e, fz, h1, h2, h3, h4⟩ ho _
    exact ⟨g, cs, e, fz, h1, ho g h2, h3, h4⟩
  ow_lt := by rintro _ _ _ _ _ ⟨rfl, _⟩ b hb; cases hb
abbrev mxV : Value := .pointer (some ⟨0, 0, none⟩)
theorem mx_rd {W : World} (h : W.ShapedOpen Tryd.prog) : ∃ m, @Rep.rd GI repGI (fun _ => True) W [mxV] (GI.mk m) := by
  obtain ⟨m, hm⟩ := cell_of_shapedOpen_int (P := Tryd.prog) (g := 0) (k := .i64) (zero := #[.int .i64 0]) h (of_decide_eq_true (by kernel_rfl)) (by kernel_rfl) (by kernel_rfl) (by kernel_rfl) (by kernel_rfl) (Tryd.underlying3)
  refine ⟨m, ?_⟩
  have h2 := hm
  unfold World.cell? at h2
  split at h2
  · rename_i cs e fz he
    exact ⟨0, cs, e, fz, rfl, trivial, he, hm⟩
  · cases h2
theorem Cut_spec {w0 : World} {Γ : List Atom} {s sep : ByteArray} {m : Int} [h : HasRd (GI) repGI Γ [mxV] (GI.mk m)] (hs : s.size ≤ 4294967280) :
    CJ Tryd.prog 113 [.string s, .string sep] w0 Γ (fun _ : Unit => .tuple #[.string (S (Lib.cut s.data.toList sep.data.toList).1), .string (S (Lib.cut s.data.toList sep.data.toList).2.1), .bool (Lib.cut s.data.toList sep.data.toList).2.2]) (fun _ => Γ) := by
  exact fun w hs' => by
    obtain ⟨g, cs, e, fz, h1, _, _, h4⟩ := hs'.rd (hr := h)
    simp only [List.cons.injEq, Value.pointer.injEq, Option.some.injEq, Addr.mk.injEq, and_true] at h1
    subst h1
    exact (Tryd.strings_Cut s sep m w (by omega) h4).mono fun e w' ⟨he, n, hw⟩ => ⟨(), he, by rw [hw]; exact hs'.ext ⟨rfl, rfl, rfl, Nat.le_refl _, fun _ _ => rfl⟩⟩
instance Cut_ctr {Γ : List Atom} {s sep : ByteArray} {m : Int} [h : HasRd (GI) repGI Γ [mxV] (GI.mk m)] :
    CtrC Tryd.prog 113 [.string s, .string sep] Γ (s.size ≤ 4294967280) (Unit) (fun _ : Unit => .tuple #[.string (S (Lib.cut s.data.toList sep.data.toList).1), .string (S (Lib.cut s.data.toList sep.data.toList).2.1), .bool (Lib.cut s.data.toList sep.data.toList).2.2]) (fun _ => Γ) := ⟨fun s w0 => Cut_spec s⟩

theorem cut_len (l m : List UInt8) : (Lib.cut l m).1.length ≤ l.length ∧ (Lib.cut l m).2.1.length ≤ l.length := by
  unfold Lib.cut
  split
  · simp only [List.length_take, List.length_drop]; omega
  · simp
abbrev cutP (s sep : ByteArray) : List UInt8 × List UInt8 × Bool := Lib.cut s.data.toList sep.data.toList
def ppL (s sep : ByteArray) : List Int := if (cutP s sep).2.2 = true then ptL (S (cutP s sep).1).data.toList else []
def ppR (s sep : ByteArray) : List Int := if (cutP s sep).2.2 = true then ptL (S (cutP s sep).2.1).data.toList else []
def ppB (a : List Int) (s sep : ByteArray) : Prop := (cutP s sep).2.2 = true ∧ ptB a (S (cutP s sep).1) ∧ ptB a (S (cutP s sep).2.1)
instance {a : List Int} {s sep : ByteArray} : Decidable (ppB a s sep) := by unfold ppB; infer_instance
theorem parsePair_spec {w0 : World} {Γ : List Atom} {v : Value} {a : List Int} {s sep : ByteArray} {m : Int} [h : HasRd (List Int) repList Γ [v] a] [hg : HasRd (GI) repGI Γ [mxV] (GI.mk m)] (hs : s.size ≤ 1000000) :
    CJ Tryd.prog 101 [.agg #[v], .string s, .string sep] w0 Γ (fun q : Value × Value => .tuple #[q.1, q.2, .bool (decide (ppB a s sep))]) (fun q => .ow [q.1] (ppL s sep) :: .ow [q.2] (ppR s sep) :: Γ) := by
  have hll : s.data.toList.length = s.size := Array.length_toList
  have hcl := cut_len s.data.toList sep.data.toList
  have hs1 := S_size (Lib.cut s.data.toList sep.data.toList).1
  have hs2 := S_size (Lib.cut s.data.toList sep.data.toList).2.1
  refine cj_lift (R := [.rd [v] a, .rd [mxV] (GI.mk m)]) (A := fun q : Value × Value => [.ow [q.1] (ppL s sep), .ow [q.2] (ppR s sep)]) (fun w1 => ?_) (reads_cons h (reads_cons hg (inferInstance))) (fun _ => inferInstance)
  simp only [List.cons_append, List.nil_append]
  refine cj_enter Tryd.func101 Tryd.ntmps101 ?_
  repeat' (first | refine red ?_ | refine redf fun hbi => ?_ | refine reds ?_ | refine redc fun r => ?_ | refine redp (fun r => ?_) (fun r => ?_) | refine redv fun sv => ?_ | refine redn fun b => ?_ | refine redz fun zs => ?_ | refine redq (fun hc => ?_) (fun hc => ?_) | with_reducible refine wq_blk_o rfl ?_ | (refine redi (fun hc => ?_) (fun hc => ?_) <;> try first | (exfalso; omega) | with_reducible first | exact absurd rfl hc | exact absurd hc Bool.false_ne_true | exact absurd hc Bool.false_ne_true.symm) | fail)
  · have hn : ¬ (cutP s sep).2.2 = true := fun h => by rw [show (cutP s sep).2.2 = false from hc] at h; cases h
    refine ⟨(.slice none 0 0, .slice none 0 0), by rw [decide_eq_false (fun h : ppB a s sep => hn h.1)], ?_⟩
    rw [ppL, ppR, if_neg hn, if_neg hn]
    exact ent_e
  · have hy : (cutP s sep).2.2 = true := ‹_›
    refine ⟨(_, _), by rw [show decide (ppB a s sep) = decide (ptB a (S (Lib.cut s.data.toList sep.data.toList).snd.fst)) from decide_eq_decide.2 ⟨fun h => h.2.2, fun h => ⟨hy, hc, h⟩⟩], ?_⟩
    rw [ppL, ppR, if_pos hy, if_pos hy]
    exact ent_e
  · have hy : (cutP s sep).2.2 = true := ‹_›
    refine ⟨(_, _), by rw [decide_eq_false (fun h : ppB a s sep => hc h.2.1)], ?_⟩
    rw [ppL, ppR, if_pos hy, if_pos hy]
    exact ent_e
instance parsePair_ctr {Γ : List Atom} {v : Value} {a : List Int} {s sep : ByteArray} {m : Int} [h : HasRd (List Int) repList Γ [v] a] [hg : HasRd (GI) repGI Γ [mxV] (GI.mk m)] :
    CtrC Tryd.prog 101 [.agg #[v], .string s, .string sep] Γ (s.size ≤ 1000000) (Value × Value) (fun q : Value × Value => .tuple #[q.1, q.2, .bool (decide (ppB a s sep))]) (fun q => .ow [q.1] (ppL s sep) :: .ow [q.2] (ppR s sep) :: Γ) := ⟨fun s w0 => parsePair_spec s⟩

abbrev arw : ByteArray := { data := #[32, 45, 62, 32] }
def prB (a : List Int) (s : ByteArray) : Prop := ppB a s arw ∧ ruleOk a (ppL s arw, ppR s arw) = true
instance {a : List Int} {s : ByteArray} : Decidable (prB a s) := by unfold prB; infer_instance
def prR (a : List Int) (s : ByteArray) : SRule := if prB a s then (ppL s arw, ppR s arw) else ([], [])
theorem impl_RuleOkP_spec {w0 : World} {Γ : List Atom} {v v0 v1 : Value} {a x y : List Int} [h : HasRd (List Int) repList Γ [v] a] [h0 : HasRd (List Int) repList Γ [v0] x] [h1 : HasRd (List Int) repList Γ [v1] y] : CJ Tryd.prog 102 [.agg #[v], .agg #[v0, v1]] w0 Γ (fun _ : Unit => .bool (ruleOk a (x, y))) (fun _ => Γ) := by
  exact impl_RuleOk_spec (x := (x, y))
instance impl_RuleOkP_ctr {Γ : List Atom} {v v0 v1 : Value} {a x y : List Int} [h : HasRd (List Int) repList Γ [v] a] [h0 : HasRd (List Int) repList Γ [v0] x] [h1 : HasRd (List Int) repList Γ [v1] y] :
    CtrC Tryd.prog 102 [.agg #[v], .agg #[v0, v1]] Γ (True) (Unit) (fun _ : Unit => .bool (ruleOk a (x, y))) (fun _ => Γ) := ⟨fun s w0 => impl_RuleOkP_spec⟩

theorem parseRule_spec {w0 : World} {Γ : List Atom} {v : Value} {a : List Int} {s : ByteArray} {m : Int} [h : HasRd (List Int) repList Γ [v] a] [hg : HasRd (GI) repGI Γ [mxV] (GI.mk m)] (hs : s.size ≤ 1000000) :
    CJ Tryd.prog 74 [.agg #[v], .string s] w0 Γ (fun q : Value × Value => .tuple #[.agg #[q.1, q.2], .bool (decide (prB a s))]) (fun q => .ow [q.1] (prR a s).1 :: .ow [q.2] (prR a s).2 :: Γ) := by
  refine cj_lift (R := [.rd [v] a, .rd [mxV] (GI.mk m)]) (A := fun q : Value × Value => [.ow [q.1] (prR a s).1, .ow [q.2] (prR a s).2]) (fun w1 => ?_) (reads_cons h (reads_cons hg (inferInstance))) (fun _ => inferInstance)
  simp only [List.cons_append, List.nil_append]
  refine cj_enter Tryd.func74 Tryd.ntmps74 ?_
  repeat' (first | refine red ?_ | refine redf fun hbi => ?_ | refine reds ?_ | refine redc fun r => ?_ | refine redp (fun r => ?_) (fun r => ?_) | refine redv fun sv => ?_ | refine redn fun b => ?_ | refine redz fun zs => ?_ | refine redq (fun hc => ?_) (fun hc => ?_) | with_reducible refine wq_blk_o rfl ?_ | (refine redi (fun hc => ?_) (fun hc => ?_) <;> try first | (exfalso; omega) | with_reducible first | exact absurd rfl hc | exact absurd hc Bool.false_ne_true | exact absurd hc Bool.false_ne_true.symm) | fail)
  · refine ⟨(.slice none 0 0, .slice none 0 0), by rw [decide_eq_false (fun h : prB a s => hc h.1)], ?_⟩
    rw [prR, if_neg (fun h : prB a s => hc h.1)]
    exact ent_e
  · have hn : ¬ prB a s := fun h => by rw [h.2] at hc; cases hc
    refine ⟨(.slice none 0 0, .slice none 0 0), by rw [decide_eq_false hn], ?_⟩
    rw [prR, if_neg hn]
    exact ent_e
  · have hy : prB a s := ⟨‹_›, hc⟩
    refine ⟨(_, _), by rw [decide_eq_true hy], ?_⟩
    rw [prR, if_pos hy]
    exact ent_e
instance parseRule_ctr {Γ : List Atom} {v : Value} {a : List Int} {s : ByteArray} {m : Int} [h : HasRd (List Int) repList Γ [v] a] [hg : HasRd (GI) repGI Γ [mxV] (GI.mk m)] :
    CtrC Tryd.prog 74 [.agg #[v], .string s] Γ (s.size ≤ 1000000) (Value × Value) (fun q : Value × Value => .tuple #[.agg #[q.1, q.2], .bool (decide (prB a s))]) (fun q => .ow [q.1] (prR a s).1 :: .ow [q.2] (prR a s).2 :: Γ) := ⟨fun s w0 => parseRule_spec s⟩

end Go.Proofs.YtcaljjkmaffedaaDoor
