/- The theories: their names and texts, and the program's table of them. -/
import Derived.Test.YtcaljjkmaffedaaDoorMap
import Derived.Test.YtcaljjkmaffedaaDoorInst
namespace Go.Proofs.YtcaljjkmaffedaaDoor
open Go Go.Eng
set_option linter.unusedVariables false
set_option linter.unusedSimpArgs false
set_option synthInstance.maxHeartbeats 400000
set_option synthInstance.maxSize 1000
set_option maxRecDepth 20000

def thN : List ByteArray := [{ data := #[115, 117, 109, 115] }, { data := #[115, 101, 109, 105, 103, 114, 111, 117, 112] }, { data := #[109, 111, 110, 111, 105, 100] }, { data := #[105, 110, 118, 111, 108, 117, 116, 105, 111, 110] }, { data := #[105, 100, 108, 101] }, { data := #[103, 114, 111, 117, 112, 111, 105, 100] }, { data := #[103, 114, 111, 117, 112] }]
def thTx : Nat → List ByteArray × Nat
  | 0 => ([{ data := #[102, 48, 40, 102, 50, 44, 120, 48, 41, 32, 45, 62, 32, 120, 48] }, { data := #[102, 48, 40, 102, 49, 40, 120, 48, 41, 44, 120, 49, 41, 32, 45, 62, 32, 102, 49, 40, 102, 48, 40, 120, 48, 44, 120, 49, 41, 41] }], 2)
  | 1 => ([{ data := #[102, 48, 40, 102, 48, 40, 120, 48, 44, 120, 49, 41, 44, 120, 50, 41, 32, 45, 62, 32, 102, 48, 40, 120, 48, 44, 102, 48, 40, 120, 49, 44, 120, 50, 41, 41] }], 1)
  | 2 => ([{ data := #[102, 48, 40, 102, 50, 44, 120, 48, 41, 32, 45, 62, 32, 120, 48] }, { data := #[102, 48, 40, 120, 48, 44, 102, 50, 41, 32, 45, 62, 32, 120, 48] }, { data := #[102, 48, 40, 102, 48, 40, 120, 48, 44, 120, 49, 41, 44, 120, 50, 41, 32, 45, 62, 32, 102, 48, 40, 120, 48, 44, 102, 48, 40, 120, 49, 44, 120, 50, 41, 41] }], 3)
  | 3 => ([{ data := #[102, 49, 40, 102, 49, 40, 120, 48, 41, 41, 32, 45, 62, 32, 120, 48] }, { data := #[102, 49, 40, 102, 48, 40, 120, 48, 44, 120, 49, 41, 41, 32, 45, 62, 32, 102, 48, 40, 102, 49, 40, 120, 49, 41, 44, 102, 49, 40, 120, 48, 41, 41] }], 2)
  | 4 => ([{ data := #[102, 48, 40, 120, 48, 44, 120, 48, 41, 32, 45, 62, 32, 120, 48] }, { data := #[102, 49, 40, 120, 48, 41, 32, 45, 62, 32, 120, 48] }], 2)
  | 5 => ([{ data := #[102, 48, 40, 102, 48, 40, 120, 48, 44, 120, 49, 41, 44, 102, 48, 40, 120, 49, 44, 120, 50, 41, 41, 32, 45, 62, 32, 120, 49] }, { data := #[102, 48, 40, 120, 48, 44, 102, 48, 40, 102, 48, 40, 120, 48, 44, 120, 49, 41, 44, 120, 50, 41, 41, 32, 45, 62, 32, 102, 48, 40, 120, 48, 44, 120, 49, 41] }, { data := #[102, 48, 40, 102, 48, 40, 120, 48, 44, 102, 48, 40, 120, 49, 44, 120, 50, 41, 41, 44, 120, 50, 41, 32, 45, 62, 32, 102, 48, 40, 120, 49, 44, 120, 50, 41] }], 1)
  | 6 => ([{ data := #[102, 48, 40, 102, 50, 44, 120, 48, 41, 32, 45, 62, 32, 120, 48] }, { data := #[102, 48, 40, 102, 49, 40, 120, 48, 41, 44, 120, 48, 41, 32, 45, 62, 32, 102, 50] }, { data := #[102, 48, 40, 102, 48, 40, 120, 48, 44, 120, 49, 41, 44, 120, 50, 41, 32, 45, 62, 32, 102, 48, 40, 120, 48, 44, 102, 48, 40, 120, 49, 44, 120, 50, 41, 41] }, { data := #[102, 48, 40, 102, 49, 40, 120, 48, 41, 44, 102, 48, 40, 120, 48, 44, 120, 49, 41, 41, 32, 45, 62, 32, 120, 49] }, { data := #[102, 48, 40, 120, 48, 44, 102, 50, 41, 32, 45, 62, 32, 120, 48] }, { data := #[102, 49, 40, 102, 50, 41, 32, 45, 62, 32, 102, 50] }, { data := #[102, 49, 40, 102, 49, 40, 120, 48, 41, 41, 32, 45, 62, 32, 120, 48] }, { data := #[102, 48, 40, 120, 48, 44, 102, 49, 40, 120, 48, 41, 41, 32, 45, 62, 32, 102, 50] }, { data := #[102, 48, 40, 120, 48, 44, 102, 48, 40, 102, 49, 40, 120, 48, 41, 44, 120, 49, 41, 41, 32, 45, 62, 32, 120, 49] }, { data := #[102, 49, 40, 102, 48, 40, 120, 48, 44, 120, 49, 41, 41, 32, 45, 62, 32, 102, 48, 40, 102, 49, 40, 120, 49, 41, 44, 102, 49, 40, 120, 48, 41, 41] }], 3)
  | _ => ([], 0)
theorem thN_len : thN.length = 7 := rfl
theorem theoryNames_spec {w0 : World} {Γ : List Atom} : CJ Tryd.prog 71 [] w0 Γ (fun r : Value => r) (fun r => .ow [r] thN :: Γ) := by
  refine cj_enter Tryd.func71 Tryd.ntmps71 ?_
  repeat' (first | refine red ?_ | refine redf fun hbi => ?_ | refine reds ?_ | refine redc fun r => ?_ | refine redp (fun r => ?_) (fun r => ?_) | refine redv fun sv => ?_ | refine redn fun b => ?_ | refine redz fun zs => ?_ | refine redq (fun hc => ?_) (fun hc => ?_) | with_reducible refine wq_blk_o rfl ?_ | (refine redi (fun hc => ?_) (fun hc => ?_) <;> try first | (exfalso; omega) | with_reducible first | exact absurd rfl hc | exact absurd hc Bool.false_ne_true | exact absurd hc Bool.false_ne_true.symm) | fail)
  refine redv (fun sv => ?_) (by decide)
  repeat' (first | refine red ?_ | refine redf fun hbi => ?_ | refine reds ?_ | refine redc fun r => ?_ | refine redp (fun r => ?_) (fun r => ?_) | refine redv fun sv => ?_ | refine redn fun b => ?_ | refine redz fun zs => ?_ | refine redq (fun hc => ?_) (fun hc => ?_) | with_reducible refine wq_blk_o rfl ?_ | (refine redi (fun hc => ?_) (fun hc => ?_) <;> try first | (exfalso; omega) | with_reducible first | exact absurd rfl hc | exact absurd hc Bool.false_ne_true | exact absurd hc Bool.false_ne_true.symm) | fail)
  exact ⟨sv, rfl, by unfold thN; exact ent_e⟩
instance theoryNames_ctr {Γ : List Atom} :
    CtrC Tryd.prog 71 [] Γ (True) (Value) (fun r : Value => r) (fun r => .ow [r] thN :: Γ) := ⟨fun s w0 => theoryNames_spec⟩

theorem theoryOk_spec {w0 : World} {Γ : List Atom} {k : Int} : CJ Tryd.prog 31 [.int .i64 k] w0 Γ (fun _ : Unit => .bool (decide (0 ≤ k ∧ k < 7))) (fun _ => Γ) := by
  have hl := thN_len
  refine cj_enter Tryd.func31 Tryd.ntmps31 ?_
  repeat' (first | refine red ?_ | refine redf fun hbi => ?_ | refine reds ?_ | refine redc fun r => ?_ | refine redp (fun r => ?_) (fun r => ?_) | refine redv fun sv => ?_ | refine redn fun b => ?_ | refine redz fun zs => ?_ | refine redq (fun hc => ?_) (fun hc => ?_) | with_reducible refine wq_blk_o rfl ?_ | (refine redi (fun hc => ?_) (fun hc => ?_) <;> try first | (exfalso; omega) | with_reducible first | exact absurd rfl hc | exact absurd hc Bool.false_ne_true | exact absurd hc Bool.false_ne_true.symm) | fail)
  · exact ⟨(), ret_bool (decide_eq_decide.2 ⟨fun h => by omega, fun h => by omega⟩), ent_e⟩
  · exact ⟨(), ret_bool (decide_eq_false (by omega)), ent_e⟩
instance theoryOk_ctr {Γ : List Atom} {k : Int} :
    CtrC Tryd.prog 31 [.int .i64 k] Γ (True) (Unit) (fun _ : Unit => .bool (decide (0 ≤ k ∧ k < 7))) (fun _ => Γ) := ⟨fun s w0 => theoryOk_spec⟩

theorem TheoryName_spec {w0 : World} {Γ : List Atom} {k : Int} (hk : 0 ≤ k ∧ k < 7) : CJ Tryd.prog 100 [.int .i64 k] w0 Γ (fun _ : Unit => .string (thN.getD k.toNat ByteArray.empty)) (fun _ => Γ) := by
  have hl := thN_len
  refine cj_enter Tryd.func100 Tryd.ntmps100 ?_
  repeat' (first | refine red ?_ | refine redf fun hbi => ?_ | refine reds ?_ | refine redc fun r => ?_ | refine redp (fun r => ?_) (fun r => ?_) | refine redv fun sv => ?_ | refine redn fun b => ?_ | refine redz fun zs => ?_ | refine redq (fun hc => ?_) (fun hc => ?_) | with_reducible refine wq_blk_o rfl ?_ | (refine redd fun p cs as_ hcs has hf => ?_; simp only [Un.cells, Un.atoms, Un.fact, List.cons_append, List.nil_append] at hcs has hf; subst hcs has) | (refine redi (fun hc => ?_) (fun hc => ?_) <;> try first | (exfalso; omega) | with_reducible first | exact absurd rfl hc | exact absurd hc Bool.false_ne_true | exact absurd hc Bool.false_ne_true.symm) | fail)
  · exact ⟨(), rfl, ent_e⟩
instance TheoryName_ctr {Γ : List Atom} {k : Int} :
    CtrC Tryd.prog 100 [.int .i64 k] Γ (0 ≤ k ∧ k < 7) (Unit) (fun _ : Unit => .string (thN.getD k.toNat ByteArray.empty)) (fun _ => Γ) := ⟨fun s w0 => TheoryName_spec s⟩

theorem th0_spec {w0 : World} {Γ : List Atom} : CJ Tryd.prog 93 [] w0 Γ (fun r : Value => .tuple #[r, .int .i64 2]) (fun r => .ow [r] (thTx 0).1 :: Γ) := by
  refine cj_enter Tryd.func93 Tryd.ntmps93 ?_
  repeat' (first | refine red ?_ | refine redf fun hbi => ?_ | refine reds ?_ | refine redc fun r => ?_ | refine redp (fun r => ?_) (fun r => ?_) | refine redv fun sv => ?_ | refine redn fun b => ?_ | refine redz fun zs => ?_ | refine redq (fun hc => ?_) (fun hc => ?_) | with_reducible refine wq_blk_o rfl ?_ | (refine redi (fun hc => ?_) (fun hc => ?_) <;> try first | (exfalso; omega) | with_reducible first | exact absurd rfl hc | exact absurd hc Bool.false_ne_true | exact absurd hc Bool.false_ne_true.symm) | fail)
  refine redv (fun sv => ?_) (by decide)
  repeat' (first | refine red ?_ | refine redf fun hbi => ?_ | refine reds ?_ | refine redc fun r => ?_ | refine redp (fun r => ?_) (fun r => ?_) | refine redv fun sv => ?_ | refine redn fun b => ?_ | refine redz fun zs => ?_ | refine redq (fun hc => ?_) (fun hc => ?_) | with_reducible refine wq_blk_o rfl ?_ | (refine redi (fun hc => ?_) (fun hc => ?_) <;> try first | (exfalso; omega) | with_reducible first | exact absurd rfl hc | exact absurd hc Bool.false_ne_true | exact absurd hc Bool.false_ne_true.symm) | fail)
  exact ⟨sv, rfl, by unfold thTx; exact ent_e⟩
instance th0_ctr {Γ : List Atom} :
    CtrC Tryd.prog 93 [] Γ (True) (Value) (fun r : Value => .tuple #[r, .int .i64 2]) (fun r => .ow [r] (thTx 0).1 :: Γ) := ⟨fun s w0 => th0_spec⟩

theorem th1_spec {w0 : World} {Γ : List Atom} : CJ Tryd.prog 94 [] w0 Γ (fun r : Value => .tuple #[r, .int .i64 1]) (fun r => .ow [r] (thTx 1).1 :: Γ) := by
  refine cj_enter Tryd.func94 Tryd.ntmps94 ?_
  repeat' (first | refine red ?_ | refine redf fun hbi => ?_ | refine reds ?_ | refine redc fun r => ?_ | refine redp (fun r => ?_) (fun r => ?_) | refine redv fun sv => ?_ | refine redn fun b => ?_ | refine redz fun zs => ?_ | refine redq (fun hc => ?_) (fun hc => ?_) | with_reducible refine wq_blk_o rfl ?_ | (refine redi (fun hc => ?_) (fun hc => ?_) <;> try first | (exfalso; omega) | with_reducible first | exact absurd rfl hc | exact absurd hc Bool.false_ne_true | exact absurd hc Bool.false_ne_true.symm) | fail)
  refine redv (fun sv => ?_) (by decide)
  repeat' (first | refine red ?_ | refine redf fun hbi => ?_ | refine reds ?_ | refine redc fun r => ?_ | refine redp (fun r => ?_) (fun r => ?_) | refine redv fun sv => ?_ | refine redn fun b => ?_ | refine redz fun zs => ?_ | refine redq (fun hc => ?_) (fun hc => ?_) | with_reducible refine wq_blk_o rfl ?_ | (refine redi (fun hc => ?_) (fun hc => ?_) <;> try first | (exfalso; omega) | with_reducible first | exact absurd rfl hc | exact absurd hc Bool.false_ne_true | exact absurd hc Bool.false_ne_true.symm) | fail)
  exact ⟨sv, rfl, by unfold thTx; exact ent_e⟩
instance th1_ctr {Γ : List Atom} :
    CtrC Tryd.prog 94 [] Γ (True) (Value) (fun r : Value => .tuple #[r, .int .i64 1]) (fun r => .ow [r] (thTx 1).1 :: Γ) := ⟨fun s w0 => th1_spec⟩

theorem th2_spec {w0 : World} {Γ : List Atom} : CJ Tryd.prog 95 [] w0 Γ (fun r : Value => .tuple #[r, .int .i64 3]) (fun r => .ow [r] (thTx 2).1 :: Γ) := by
  refine cj_enter Tryd.func95 Tryd.ntmps95 ?_
  repeat' (first | refine red ?_ | refine redf fun hbi => ?_ | refine reds ?_ | refine redc fun r => ?_ | refine redp (fun r => ?_) (fun r => ?_) | refine redv fun sv => ?_ | refine redn fun b => ?_ | refine redz fun zs => ?_ | refine redq (fun hc => ?_) (fun hc => ?_) | with_reducible refine wq_blk_o rfl ?_ | (refine redi (fun hc => ?_) (fun hc => ?_) <;> try first | (exfalso; omega) | with_reducible first | exact absurd rfl hc | exact absurd hc Bool.false_ne_true | exact absurd hc Bool.false_ne_true.symm) | fail)
  refine redv (fun sv => ?_) (by decide)
  repeat' (first | refine red ?_ | refine redf fun hbi => ?_ | refine reds ?_ | refine redc fun r => ?_ | refine redp (fun r => ?_) (fun r => ?_) | refine redv fun sv => ?_ | refine redn fun b => ?_ | refine redz fun zs => ?_ | refine redq (fun hc => ?_) (fun hc => ?_) | with_reducible refine wq_blk_o rfl ?_ | (refine redi (fun hc => ?_) (fun hc => ?_) <;> try first | (exfalso; omega) | with_reducible first | exact absurd rfl hc | exact absurd hc Bool.false_ne_true | exact absurd hc Bool.false_ne_true.symm) | fail)
  exact ⟨sv, rfl, by unfold thTx; exact ent_e⟩
instance th2_ctr {Γ : List Atom} :
    CtrC Tryd.prog 95 [] Γ (True) (Value) (fun r : Value => .tuple #[r, .int .i64 3]) (fun r => .ow [r] (thTx 2).1 :: Γ) := ⟨fun s w0 => th2_spec⟩

theorem th3_spec {w0 : World} {Γ : List Atom} : CJ Tryd.prog 96 [] w0 Γ (fun r : Value => .tuple #[r, .int .i64 2]) (fun r => .ow [r] (thTx 3).1 :: Γ) := by
  refine cj_enter Tryd.func96 Tryd.ntmps96 ?_
  repeat' (first | refine red ?_ | refine redf fun hbi => ?_ | refine reds ?_ | refine redc fun r => ?_ | refine redp (fun r => ?_) (fun r => ?_) | refine redv fun sv => ?_ | refine redn fun b => ?_ | refine redz fun zs => ?_ | refine redq (fun hc => ?_) (fun hc => ?_) | with_reducible refine wq_blk_o rfl ?_ | (refine redi (fun hc => ?_) (fun hc => ?_) <;> try first | (exfalso; omega) | with_reducible first | exact absurd rfl hc | exact absurd hc Bool.false_ne_true | exact absurd hc Bool.false_ne_true.symm) | fail)
  refine redv (fun sv => ?_) (by decide)
  repeat' (first | refine red ?_ | refine redf fun hbi => ?_ | refine reds ?_ | refine redc fun r => ?_ | refine redp (fun r => ?_) (fun r => ?_) | refine redv fun sv => ?_ | refine redn fun b => ?_ | refine redz fun zs => ?_ | refine redq (fun hc => ?_) (fun hc => ?_) | with_reducible refine wq_blk_o rfl ?_ | (refine redi (fun hc => ?_) (fun hc => ?_) <;> try first | (exfalso; omega) | with_reducible first | exact absurd rfl hc | exact absurd hc Bool.false_ne_true | exact absurd hc Bool.false_ne_true.symm) | fail)
  exact ⟨sv, rfl, by unfold thTx; exact ent_e⟩
instance th3_ctr {Γ : List Atom} :
    CtrC Tryd.prog 96 [] Γ (True) (Value) (fun r : Value => .tuple #[r, .int .i64 2]) (fun r => .ow [r] (thTx 3).1 :: Γ) := ⟨fun s w0 => th3_spec⟩

theorem th4_spec {w0 : World} {Γ : List Atom} : CJ Tryd.prog 97 [] w0 Γ (fun r : Value => .tuple #[r, .int .i64 2]) (fun r => .ow [r] (thTx 4).1 :: Γ) := by
  refine cj_enter Tryd.func97 Tryd.ntmps97 ?_
  repeat' (first | refine red ?_ | refine redf fun hbi => ?_ | refine reds ?_ | refine redc fun r => ?_ | refine redp (fun r => ?_) (fun r => ?_) | refine redv fun sv => ?_ | refine redn fun b => ?_ | refine redz fun zs => ?_ | refine redq (fun hc => ?_) (fun hc => ?_) | with_reducible refine wq_blk_o rfl ?_ | (refine redi (fun hc => ?_) (fun hc => ?_) <;> try first | (exfalso; omega) | with_reducible first | exact absurd rfl hc | exact absurd hc Bool.false_ne_true | exact absurd hc Bool.false_ne_true.symm) | fail)
  refine redv (fun sv => ?_) (by decide)
  repeat' (first | refine red ?_ | refine redf fun hbi => ?_ | refine reds ?_ | refine redc fun r => ?_ | refine redp (fun r => ?_) (fun r => ?_) | refine redv fun sv => ?_ | refine redn fun b => ?_ | refine redz fun zs => ?_ | refine redq (fun hc => ?_) (fun hc => ?_) | with_reducible refine wq_blk_o rfl ?_ | (refine redi (fun hc => ?_) (fun hc => ?_) <;> try first | (exfalso; omega) | with_reducible first | exact absurd rfl hc | exact absurd hc Bool.false_ne_true | exact absurd hc Bool.false_ne_true.symm) | fail)
  exact ⟨sv, rfl, by unfold thTx; exact ent_e⟩
instance th4_ctr {Γ : List Atom} :
    CtrC Tryd.prog 97 [] Γ (True) (Value) (fun r : Value => .tuple #[r, .int .i64 2]) (fun r => .ow [r] (thTx 4).1 :: Γ) := ⟨fun s w0 => th4_spec⟩

theorem th5_spec {w0 : World} {Γ : List Atom} : CJ Tryd.prog 98 [] w0 Γ (fun r : Value => .tuple #[r, .int .i64 1]) (fun r => .ow [r] (thTx 5).1 :: Γ) := by
  refine cj_enter Tryd.func98 Tryd.ntmps98 ?_
  repeat' (first | refine red ?_ | refine redf fun hbi => ?_ | refine reds ?_ | refine redc fun r => ?_ | refine redp (fun r => ?_) (fun r => ?_) | refine redv fun sv => ?_ | refine redn fun b => ?_ | refine redz fun zs => ?_ | refine redq (fun hc => ?_) (fun hc => ?_) | with_reducible refine wq_blk_o rfl ?_ | (refine redi (fun hc => ?_) (fun hc => ?_) <;> try first | (exfalso; omega) | with_reducible first | exact absurd rfl hc | exact absurd hc Bool.false_ne_true | exact absurd hc Bool.false_ne_true.symm) | fail)
  refine redv (fun sv => ?_) (by decide)
  repeat' (first | refine red ?_ | refine redf fun hbi => ?_ | refine reds ?_ | refine redc fun r => ?_ | refine redp (fun r => ?_) (fun r => ?_) | refine redv fun sv => ?_ | refine redn fun b => ?_ | refine redz fun zs => ?_ | refine redq (fun hc => ?_) (fun hc => ?_) | with_reducible refine wq_blk_o rfl ?_ | (refine redi (fun hc => ?_) (fun hc => ?_) <;> try first | (exfalso; omega) | with_reducible first | exact absurd rfl hc | exact absurd hc Bool.false_ne_true | exact absurd hc Bool.false_ne_true.symm) | fail)
  exact ⟨sv, rfl, by unfold thTx; exact ent_e⟩
instance th5_ctr {Γ : List Atom} :
    CtrC Tryd.prog 98 [] Γ (True) (Value) (fun r : Value => .tuple #[r, .int .i64 1]) (fun r => .ow [r] (thTx 5).1 :: Γ) := ⟨fun s w0 => th5_spec⟩

theorem th6_spec {w0 : World} {Γ : List Atom} : CJ Tryd.prog 99 [] w0 Γ (fun r : Value => .tuple #[r, .int .i64 3]) (fun r => .ow [r] (thTx 6).1 :: Γ) := by
  refine cj_enter Tryd.func99 Tryd.ntmps99 ?_
  repeat' (first | refine red ?_ | refine redf fun hbi => ?_ | refine reds ?_ | refine redc fun r => ?_ | refine redp (fun r => ?_) (fun r => ?_) | refine redv fun sv => ?_ | refine redn fun b => ?_ | refine redz fun zs => ?_ | refine redq (fun hc => ?_) (fun hc => ?_) | with_reducible refine wq_blk_o rfl ?_ | (refine redi (fun hc => ?_) (fun hc => ?_) <;> try first | (exfalso; omega) | with_reducible first | exact absurd rfl hc | exact absurd hc Bool.false_ne_true | exact absurd hc Bool.false_ne_true.symm) | fail)
  refine redv (fun sv => ?_) (by decide)
  repeat' (first | refine red ?_ | refine redf fun hbi => ?_ | refine reds ?_ | refine redc fun r => ?_ | refine redp (fun r => ?_) (fun r => ?_) | refine redv fun sv => ?_ | refine redn fun b => ?_ | refine redz fun zs => ?_ | refine redq (fun hc => ?_) (fun hc => ?_) | with_reducible refine wq_blk_o rfl ?_ | (refine redi (fun hc => ?_) (fun hc => ?_) <;> try first | (exfalso; omega) | with_reducible first | exact absurd rfl hc | exact absurd hc Bool.false_ne_true | exact absurd hc Bool.false_ne_true.symm) | fail)
  exact ⟨sv, rfl, by unfold thTx; exact ent_e⟩
instance th6_ctr {Γ : List Atom} :
    CtrC Tryd.prog 99 [] Γ (True) (Value) (fun r : Value => .tuple #[r, .int .i64 3]) (fun r => .ow [r] (thTx 6).1 :: Γ) := ⟨fun s w0 => th6_spec⟩

instance : NeK ({ data := #[115, 117, 109, 115] } : ByteArray) { data := #[115, 101, 109, 105, 103, 114, 111, 117, 112] } := ⟨by decide⟩
instance : NeK ({ data := #[115, 117, 109, 115] } : ByteArray) { data := #[109, 111, 110, 111, 105, 100] } := ⟨by decide⟩
instance : NeK ({ data := #[115, 117, 109, 115] } : ByteArray) { data := #[105, 110, 118, 111, 108, 117, 116, 105, 111, 110] } := ⟨by decide⟩
instance : NeK ({ data := #[115, 117, 109, 115] } : ByteArray) { data := #[105, 100, 108, 101] } := ⟨by decide⟩
instance : NeK ({ data := #[115, 117, 109, 115] } : ByteArray) { data := #[103, 114, 111, 117, 112, 111, 105, 100] } := ⟨by decide⟩
instance : NeK ({ data := #[115, 117, 109, 115] } : ByteArray) { data := #[103, 114, 111, 117, 112] } := ⟨by decide⟩
instance : NeK ({ data := #[115, 101, 109, 105, 103, 114, 111, 117, 112] } : ByteArray) { data := #[109, 111, 110, 111, 105, 100] } := ⟨by decide⟩
instance : NeK ({ data := #[115, 101, 109, 105, 103, 114, 111, 117, 112] } : ByteArray) { data := #[105, 110, 118, 111, 108, 117, 116, 105, 111, 110] } := ⟨by decide⟩
instance : NeK ({ data := #[115, 101, 109, 105, 103, 114, 111, 117, 112] } : ByteArray) { data := #[105, 100, 108, 101] } := ⟨by decide⟩
instance : NeK ({ data := #[115, 101, 109, 105, 103, 114, 111, 117, 112] } : ByteArray) { data := #[103, 114, 111, 117, 112, 111, 105, 100] } := ⟨by decide⟩
instance : NeK ({ data := #[115, 101, 109, 105, 103, 114, 111, 117, 112] } : ByteArray) { data := #[103, 114, 111, 117, 112] } := ⟨by decide⟩
instance : NeK ({ data := #[109, 111, 110, 111, 105, 100] } : ByteArray) { data := #[105, 110, 118, 111, 108, 117, 116, 105, 111, 110] } := ⟨by decide⟩
instance : NeK ({ data := #[109, 111, 110, 111, 105, 100] } : ByteArray) { data := #[105, 100, 108, 101] } := ⟨by decide⟩
instance : NeK ({ data := #[109, 111, 110, 111, 105, 100] } : ByteArray) { data := #[103, 114, 111, 117, 112, 111, 105, 100] } := ⟨by decide⟩
instance : NeK ({ data := #[109, 111, 110, 111, 105, 100] } : ByteArray) { data := #[103, 114, 111, 117, 112] } := ⟨by decide⟩
instance : NeK ({ data := #[105, 110, 118, 111, 108, 117, 116, 105, 111, 110] } : ByteArray) { data := #[105, 100, 108, 101] } := ⟨by decide⟩
instance : NeK ({ data := #[105, 110, 118, 111, 108, 117, 116, 105, 111, 110] } : ByteArray) { data := #[103, 114, 111, 117, 112, 111, 105, 100] } := ⟨by decide⟩
instance : NeK ({ data := #[105, 110, 118, 111, 108, 117, 116, 105, 111, 110] } : ByteArray) { data := #[103, 114, 111, 117, 112] } := ⟨by decide⟩
instance : NeK ({ data := #[105, 100, 108, 101] } : ByteArray) { data := #[103, 114, 111, 117, 112, 111, 105, 100] } := ⟨by decide⟩
instance : NeK ({ data := #[105, 100, 108, 101] } : ByteArray) { data := #[103, 114, 111, 117, 112] } := ⟨by decide⟩
instance : NeK ({ data := #[103, 114, 111, 117, 112, 111, 105, 100] } : ByteArray) { data := #[103, 114, 111, 117, 112] } := ⟨by decide⟩
abbrev tMap : TypeId := 117
instance : KyT Tryd.prog tMap ByteArray := ⟨kyStr⟩
instance : MpT Tryd.prog tMap 9 .nilFunc := ⟨_, Tryd.underlying117, Tryd.zeroValue116⟩
theorem theoryTexts_spec {w0 : World} {Γ : List Atom} {k : Int} (hk : 0 ≤ k ∧ k < 7) : CJ Tryd.prog 72 [.int .i64 k] w0 Γ (fun r : Value => .tuple #[r, .int .i64 (thTx k.toNat).2]) (fun r => .ow [r] (thTx k.toNat).1 :: Γ) := by
  have h0 : Ky.ok ({ data := #[115, 117, 109, 115] } : ByteArray) ∧ 0 < maxLen := ⟨by show _ ≤ maxLen; decide, by decide⟩
  have g0 := h0.1
  have h1 : Ky.ok ({ data := #[115, 101, 109, 105, 103, 114, 111, 117, 112] } : ByteArray) ∧ 0 + 1 < maxLen := ⟨by show _ ≤ maxLen; decide, by decide⟩
  have g1 := h1.1
  have h2 : Ky.ok ({ data := #[109, 111, 110, 111, 105, 100] } : ByteArray) ∧ 0 + 1 + 1 < maxLen := ⟨by show _ ≤ maxLen; decide, by decide⟩
  have g2 := h2.1
  have h3 : Ky.ok ({ data := #[105, 110, 118, 111, 108, 117, 116, 105, 111, 110] } : ByteArray) ∧ 0 + 1 + 1 + 1 < maxLen := ⟨by show _ ≤ maxLen; decide, by decide⟩
  have g3 := h3.1
  have h4 : Ky.ok ({ data := #[105, 100, 108, 101] } : ByteArray) ∧ 0 + 1 + 1 + 1 + 1 < maxLen := ⟨by show _ ≤ maxLen; decide, by decide⟩
  have g4 := h4.1
  have h5 : Ky.ok ({ data := #[103, 114, 111, 117, 112, 111, 105, 100] } : ByteArray) ∧ 0 + 1 + 1 + 1 + 1 + 1 < maxLen := ⟨by show _ ≤ maxLen; decide, by decide⟩
  have g5 := h5.1
  have h6 : Ky.ok ({ data := #[103, 114, 111, 117, 112] } : ByteArray) ∧ 0 + 1 + 1 + 1 + 1 + 1 + 1 < maxLen := ⟨by show _ ≤ maxLen; decide, by decide⟩
  have g6 := h6.1
  refine cj_enter Tryd.func72 Tryd.ntmps72 ?_
  repeat' (first | refine red ?_ | refine redf fun hbi => ?_ | refine reds ?_ | refine redc fun r => ?_ | refine redp (fun r => ?_) (fun r => ?_) | refine redv fun sv => ?_ | refine redn fun b => ?_ | refine redz fun zs => ?_ | refine redq (fun hc => ?_) (fun hc => ?_) | with_reducible refine wq_blk_o rfl ?_ | (refine redi (fun hc => ?_) (fun hc => ?_) <;> try first | (exfalso; omega) | with_reducible first | exact absurd rfl hc | exact absurd hc Bool.false_ne_true | exact absurd hc Bool.false_ne_true.symm) | fail)
  rcases (show k = 0 ∨ k = 1 ∨ k = 2 ∨ k = 3 ∨ k = 4 ∨ k = 5 ∨ k = 6 by omega) with rfl | rfl | rfl | rfl | rfl | rfl | rfl
  · rw [show thN.getD (0 : Int).toNat ByteArray.empty = ({ data := #[115, 117, 109, 115] } : ByteArray) from rfl]
    repeat' (first | refine red ?_ | refine redf fun hbi => ?_ | refine reds ?_ | refine redc fun r => ?_ | refine redp (fun r => ?_) (fun r => ?_) | refine redv fun sv => ?_ | refine redn fun b => ?_ | refine redz fun zs => ?_ | refine redq (fun hc => ?_) (fun hc => ?_) | with_reducible refine wq_blk_o rfl ?_ | (refine redi (fun hc => ?_) (fun hc => ?_) <;> try first | (exfalso; omega) | with_reducible first | exact absurd rfl hc | exact absurd hc Bool.false_ne_true | exact absurd hc Bool.false_ne_true.symm) | fail)
    exact ⟨r, rfl, by rw [show Int.toNat 0 = 0 from rfl]; exact ent_e⟩
  · rw [show thN.getD (1 : Int).toNat ByteArray.empty = ({ data := #[115, 101, 109, 105, 103, 114, 111, 117, 112] } : ByteArray) from rfl]
    repeat' (first | refine red ?_ | refine redf fun hbi => ?_ | refine reds ?_ | refine redc fun r => ?_ | refine redp (fun r => ?_) (fun r => ?_) | refine redv fun sv => ?_ | refine redn fun b => ?_ | refine redz fun zs => ?_ | refine redq (fun hc => ?_) (fun hc => ?_) | with_reducible refine wq_blk_o rfl ?_ | (refine redi (fun hc => ?_) (fun hc => ?_) <;> try first | (exfalso; omega) | with_reducible first | exact absurd rfl hc | exact absurd hc Bool.false_ne_true | exact absurd hc Bool.false_ne_true.symm) | fail)
    exact ⟨r, rfl, by rw [show Int.toNat 1 = 1 from rfl]; exact ent_e⟩
  · rw [show thN.getD (2 : Int).toNat ByteArray.empty = ({ data := #[109, 111, 110, 111, 105, 100] } : ByteArray) from rfl]
    repeat' (first | refine red ?_ | refine redf fun hbi => ?_ | refine reds ?_ | refine redc fun r => ?_ | refine redp (fun r => ?_) (fun r => ?_) | refine redv fun sv => ?_ | refine redn fun b => ?_ | refine redz fun zs => ?_ | refine redq (fun hc => ?_) (fun hc => ?_) | with_reducible refine wq_blk_o rfl ?_ | (refine redi (fun hc => ?_) (fun hc => ?_) <;> try first | (exfalso; omega) | with_reducible first | exact absurd rfl hc | exact absurd hc Bool.false_ne_true | exact absurd hc Bool.false_ne_true.symm) | fail)
    exact ⟨r, rfl, by rw [show Int.toNat 2 = 2 from rfl]; exact ent_e⟩
  · rw [show thN.getD (3 : Int).toNat ByteArray.empty = ({ data := #[105, 110, 118, 111, 108, 117, 116, 105, 111, 110] } : ByteArray) from rfl]
    repeat' (first | refine red ?_ | refine redf fun hbi => ?_ | refine reds ?_ | refine redc fun r => ?_ | refine redp (fun r => ?_) (fun r => ?_) | refine redv fun sv => ?_ | refine redn fun b => ?_ | refine redz fun zs => ?_ | refine redq (fun hc => ?_) (fun hc => ?_) | with_reducible refine wq_blk_o rfl ?_ | (refine redi (fun hc => ?_) (fun hc => ?_) <;> try first | (exfalso; omega) | with_reducible first | exact absurd rfl hc | exact absurd hc Bool.false_ne_true | exact absurd hc Bool.false_ne_true.symm) | fail)
    exact ⟨r, rfl, by rw [show Int.toNat 3 = 3 from rfl]; exact ent_e⟩
  · rw [show thN.getD (4 : Int).toNat ByteArray.empty = ({ data := #[105, 100, 108, 101] } : ByteArray) from rfl]
    repeat' (first | refine red ?_ | refine redf fun hbi => ?_ | refine reds ?_ | refine redc fun r => ?_ | refine redp (fun r => ?_) (fun r => ?_) | refine redv fun sv => ?_ | refine redn fun b => ?_ | refine redz fun zs => ?_ | refine redq (fun hc => ?_) (fun hc => ?_) | with_reducible refine wq_blk_o rfl ?_ | (refine redi (fun hc => ?_) (fun hc => ?_) <;> try first | (exfalso; omega) | with_reducible first | exact absurd rfl hc | exact absurd hc Bool.false_ne_true | exact absurd hc Bool.false_ne_true.symm) | fail)
    exact ⟨r, rfl, by rw [show Int.toNat 4 = 4 from rfl]; exact ent_e⟩
  · rw [show thN.getD (5 : Int).toNat ByteArray.empty = ({ data := #[103, 114, 111, 117, 112, 111, 105, 100] } : ByteArray) from rfl]
    repeat' (first | refine red ?_ | refine redf fun hbi => ?_ | refine reds ?_ | refine redc fun r => ?_ | refine redp (fun r => ?_) (fun r => ?_) | refine redv fun sv => ?_ | refine redn fun b => ?_ | refine redz fun zs => ?_ | refine redq (fun hc => ?_) (fun hc => ?_) | with_reducible refine wq_blk_o rfl ?_ | (refine redi (fun hc => ?_) (fun hc => ?_) <;> try first | (exfalso; omega) | with_reducible first | exact absurd rfl hc | exact absurd hc Bool.false_ne_true | exact absurd hc Bool.false_ne_true.symm) | fail)
    exact ⟨r, rfl, by rw [show Int.toNat 5 = 5 from rfl]; exact ent_e⟩
  · rw [show thN.getD (6 : Int).toNat ByteArray.empty = ({ data := #[103, 114, 111, 117, 112] } : ByteArray) from rfl]
    repeat' (first | refine red ?_ | refine redf fun hbi => ?_ | refine reds ?_ | refine redc fun r => ?_ | refine redp (fun r => ?_) (fun r => ?_) | refine redv fun sv => ?_ | refine redn fun b => ?_ | refine redz fun zs => ?_ | refine redq (fun hc => ?_) (fun hc => ?_) | with_reducible refine wq_blk_o rfl ?_ | (refine redi (fun hc => ?_) (fun hc => ?_) <;> try first | (exfalso; omega) | with_reducible first | exact absurd rfl hc | exact absurd hc Bool.false_ne_true | exact absurd hc Bool.false_ne_true.symm) | fail)
    exact ⟨r, rfl, by rw [show Int.toNat 6 = 6 from rfl]; exact ent_e⟩
instance theoryTexts_ctr {Γ : List Atom} {k : Int} :
    CtrC Tryd.prog 72 [.int .i64 k] Γ (0 ≤ k ∧ k < 7) (Value) (fun r : Value => .tuple #[r, .int .i64 (thTx k.toNat).2]) (fun r => .ow [r] (thTx k.toNat).1 :: Γ) := ⟨fun s w0 => theoryTexts_spec s⟩

end Go.Proofs.YtcaljjkmaffedaaDoor
