/- The rules of the walk: numbers of 32 bits that stand for sets. -/
import Derived.Test.YtfdpmkilhllkoaaEngR
import Derived.Laws.BitsAllLaws
import Derived.Laws.Shifts
namespace Go.Eng
open Go Go.RowKit
set_option linter.unusedVariables false
set_option linter.unusedSimpArgs false
set_option synthInstance.maxHeartbeats 400000
set_option synthInstance.maxSize 1000
section s
variable {P : Program} {w0 : World} {l : List Value} {Γ : List Atom} {ty : TypeId}

/-- T is a type of whole numbers of 64 bits without sign. -/
class U64T (P : Program) (T : TypeId) : Prop where
  eq : P.underlying T = some (.int .u64)
theorem pu_conv_u {S T : TypeId} {x : Operand} {n : Int} [hx : Ev l x (.int .i64 n)] [hS : I64T P S] [hT : U64T P T] (h : 0 ≤ n ∧ n ≤ 9223372036854775807) : Pu P w0 l Γ (.convert S T x) ty (.int .u64 n) :=
  pu_of (s := convert S T (.int .i64 n)) (fun o ho _ => by unfold execOp; rw [ho]; simp only [hx.eq]) (fun w _ => by
    simp only [convert, Sem.run_bind, run_underlying hS.eq, run_underlying hT.eq, Result.andThen_ok, Conv.intToInt, Sem.run_pure]
    rw [IntKind.wrap_u64, Int.emod_eq_of_lt (by omega) (by omega)])
instance {S T : TypeId} {x : Operand} {n : Int} [hx : Ev l x (.int .i64 n)] [hS : I64T P S] [hT : U64T P T] : PuS P l Γ (.convert S T x) ty (.int .u64 n) (0 ≤ n ∧ n ≤ 9223372036854775807) := ⟨fun h _ => pu_conv_u h⟩

def bitN (m : Nat) : Nat := 2 ^ m
def setB (a m : Nat) : Nat := a ||| 2 ^ m
def shrN (a m : Nat) : Nat := a / 2 ^ m
def lack (a b : Nat) : Nat := a &&& (4294967295 - b)
theorem shr_one {a m : Nat} : ((shrN a m % 2 : Nat) : Int) = 1 ↔ a.testBit m = true := by
  unfold shrN
  rw [Nat.testBit_eq_decide_div_mod_eq, decide_eq_true_iff]
  omega
theorem setB_bit {a m i : Nat} : (setB a m).testBit i = true ↔ i = m ∨ a.testBit i = true := by
  unfold setB
  rw [Nat.testBit_or, Bool.or_eq_true, Nat.testBit_two_pow, decide_eq_true_iff]
  constructor
  · rintro (h | h)
    · exact .inr h
    · exact .inl h.symm
  · rintro (h | h)
    · exact .inr h.symm
    · exact .inl h
theorem setB_lt {a m : Nat} (h : a < 65536) (hm : m < 16) : setB a m < 65536 := by
  unfold setB
  have h2 : 2 ^ m < 2 ^ 16 := Nat.pow_lt_pow_right (by omega) hm
  exact Nat.or_lt_two_pow (n := 16) h h2
theorem lack_bit {a b i : Nat} (hb : b < 4294967296) : (lack a b).testBit i = true ↔ a.testBit i = true ∧ (i < 32 ∧ b.testBit i = false) := by
  unfold lack
  rw [Nat.testBit_and, Bool.and_eq_true]
  have h : (4294967295 - b).testBit i = (decide (i < 32) && !b.testBit i) := by
    have := Nat.testBit_two_pow_sub_succ (n := 32) (x := b) (by omega) i
    rw [show 2 ^ 32 - (b + 1) = 4294967295 - b by omega] at this
    exact this
  rw [h]
  simp
theorem lack_zero {a b : Nat} (ha : a < 4294967296) (hb : b < 4294967296) : ((lack a b : Nat) : Int) = 0 ↔ ∀ i, a.testBit i = true → b.testBit i = true := by
  have e : ((lack a b : Nat) : Int) = 0 ↔ lack a b = 0 := by omega
  rw [e]
  constructor
  · intro h i hi
    by_cases hbi : b.testBit i = true
    · exact hbi
    · exfalso
      have hlt : i < 32 := by
        by_cases h32 : i < 32
        · exact h32
        · exfalso
          have : a.testBit i = false := Nat.testBit_lt_two_pow (Nat.lt_of_lt_of_le ha (by
            have := Nat.pow_le_pow_right (n := 2) (by omega) (show 32 ≤ i by omega)
            omega))
          rw [this] at hi; cases hi
      have := (lack_bit (a := a) (i := i) hb).2 ⟨hi, hlt, by simpa using hbi⟩
      rw [h] at this
      simp at this
  · intro h
    apply Nat.eq_of_testBit_eq
    intro i
    rw [Nat.zero_testBit]
    by_cases hl : (lack a b).testBit i = true
    · have := (lack_bit hb).1 hl
      rw [h i this.1] at this
      cases this.2.2
    · simpa using hl
section ops
variable {T U : TypeId} {x y : Operand} {a b m : Nat} {k : Int}
theorem pu_shr32 [hx : Ev l x (.int .u32 (a : Int))] [hy : Ev l y (.int .u64 k)] [hm : ToN k m] (h : 0 ≤ k ∧ k ≤ 31) : Pu P w0 l Γ (.binOp .shr T x y U) ty (.int .u32 ((shrN a m : Nat) : Int)) :=
  pu_bin eqGuard_int (fun w => by
    have e : binOp .shr T (.int .u32 (a : Int)) (.int .u64 k) = Op.shift .shr .u32 a .u64 k := rfl
    rw [e, shift_shr_any _ _ _ _ h.1]
    have hk := hm.eq
    have h32 : min k.toNat (IntKind.bits .u32) = m := by
      show min k.toNat 32 = m
      omega
    rw [h32, Sem.run_pure]
    congr 2)
theorem pu_shl32 [hx : Ev l x (.int .u32 1)] [hy : Ev l y (.int .u64 k)] [hm : ToN k m] (h : 0 ≤ k ∧ k ≤ 31) : Pu P w0 l Γ (.binOp .shl T x y U) ty (.int .u32 ((bitN m : Nat) : Int)) :=
  pu_bin eqGuard_int (fun w => by
    have e : binOp .shl T (.int .u32 1) (.int .u64 k) = Op.shift .shl .u32 1 .u64 k := rfl
    rw [e, shift_shl_any _ _ _ _ h.1]
    have hk := hm.eq
    have h32 : min k.toNat (IntKind.bits .u32) = m := by
      show min k.toNat 32 = m
      omega
    rw [h32, Sem.run_pure]
    congr 2
    rw [IntKind.wrap_u32']
    unfold bitN
    have h2 : 2 ^ m < 2 ^ 32 := Nat.pow_lt_pow_right (by omega) (by omega)
    have h3 : ((2 : Int) ^ m) = ((2 ^ m : Nat) : Int) := by simp
    rw [h3, Int.one_mul]
    generalize 2 ^ m = z at h2
    exact Int.emod_eq_of_lt (by omega) (by omega))
theorem pu_or32 [hx : Ev l x (.int .u32 (a : Int))] [hy : Ev l y (.int .u32 ((bitN m : Nat) : Int))] (h : a < 4294967296 ∧ m < 32) : Pu P w0 l Γ (.binOp .or T x y U) ty (.int .u32 ((setB a m : Nat) : Int)) :=
  pu_bin eqGuard_int (fun w => by
    have h2 : 2 ^ m < 2 ^ 32 := Nat.pow_lt_pow_right (by omega) h.2
    rw [binOp_or, intBits_or, u32_or_nat a (bitN m) h.1 h2, Sem.run_pure]
    rfl)
theorem pu_andNot32 [hx : Ev l x (.int .u32 (a : Int))] [hy : Ev l y (.int .u32 (b : Int))] (h : a < 4294967296 ∧ b < 4294967296) : Pu P w0 l Γ (.binOp .andNot T x y U) ty (.int .u32 ((lack a b : Nat) : Int)) :=
  pu_bin eqGuard_int (fun w => by
    rw [binOp_andNot, intBits_andNot, u32_andNot_nat a b h.1 h.2, Sem.run_pure]
    rfl)
theorem pu_and1_32 [hx : Ev l x (.int .u32 (a : Int))] [hy : Ev l y (.int .u32 1)] (h : a < 4294967296) : Pu P w0 l Γ (.binOp .and T x y U) ty (.int .u32 ((a % 2 : Nat) : Int)) :=
  pu_bin eqGuard_int (fun w => by
    have := u32_and_nat a 1 h (by omega)
    rw [binOp_and, intBits_and, show ((1 : Int)) = ((1 : Nat) : Int) from rfl, this, Sem.run_pure, Nat.and_one_is_mod])
instance [hx : Ev l x (.int .u32 (a : Int))] [hy : Ev l y (.int .u64 k)] [hm : ToN k m] : PuS P l Γ (.binOp .shr T x y U) ty (.int .u32 ((shrN a m : Nat) : Int)) (0 ≤ k ∧ k ≤ 31) := ⟨fun h _ => pu_shr32 h⟩
instance [hx : Ev l x (.int .u32 1)] [hy : Ev l y (.int .u64 k)] [hm : ToN k m] : PuS P l Γ (.binOp .shl T x y U) ty (.int .u32 ((bitN m : Nat) : Int)) (0 ≤ k ∧ k ≤ 31) := ⟨fun h _ => pu_shl32 h⟩
instance [hx : Ev l x (.int .u32 (a : Int))] [hy : Ev l y (.int .u32 ((bitN m : Nat) : Int))] : PuS P l Γ (.binOp .or T x y U) ty (.int .u32 ((setB a m : Nat) : Int)) (a < 4294967296 ∧ m < 32) := ⟨fun h _ => pu_or32 h⟩
instance [hx : Ev l x (.int .u32 (a : Int))] [hy : Ev l y (.int .u32 (b : Int))] : PuS P l Γ (.binOp .andNot T x y U) ty (.int .u32 ((lack a b : Nat) : Int)) (a < 4294967296 ∧ b < 4294967296) := ⟨fun h _ => pu_andNot32 h⟩
instance [hx : Ev l x (.int .u32 (a : Int))] [hy : Ev l y (.int .u32 1)] : PuS P l Γ (.binOp .and T x y U) ty (.int .u32 ((a % 2 : Nat) : Int)) (a < 4294967296) := ⟨fun h _ => pu_and1_32 h⟩
theorem shrN_le {a m : Nat} : shrN a m ≤ a := Nat.div_le_self _ _
end ops
end s
end Go.Eng
