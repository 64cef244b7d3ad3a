/- The builder of strings. -/
import Derived.Test.YtogmjihokkdcfaaGreatDoorEngX
import Derived.Test.YtogmjihokkdcfaaGreatDoorInst
import Derived.Laws.Externs
namespace Go.Proofs.YtogmjihokkdcfaaGreatDoor
open Go Go.Eng
set_option linter.unusedVariables false
set_option linter.unusedSimpArgs false
set_option synthInstance.maxHeartbeats 400000
set_option synthInstance.maxSize 1000
abbrev tB : TypeId := 96
abbrev t8 : TypeId := 5
instance : IsTb Tryz.prog 96 := ⟨trivial⟩
instance : BySl Tryz.prog 94 5 := ⟨Tryz.underlying94, Tryz.t5, _, by kernel_rfl, rfl, rfl, rfl, rfl⟩
instance : ByPt Tryz.prog 114 5 := ⟨by kernel_rfl, by kernel_rfl⟩
instance : ByS8 Tryz.prog 94 := ⟨5, Tryz.underlying94, by kernel_rfl⟩
instance : U8T Tryz.prog 5 := ⟨by kernel_rfl⟩
instance : Op_ Tryz.prog 5 UInt8 repU8 := op_u8 Tryz.underlying5 (by kernel_rfl)
instance : Op_ Tryz.prog 94 (List UInt8) repList := op_slice Tryz.underlying94 (by kernel_rfl) inferInstance
instance : PtrT Tryz.prog 93 := ⟨by kernel_rfl, Tryz.t96, by kernel_rfl, by decide⟩
instance : CvTo Tryz.prog 93 144 := ⟨96, Tryz.t96, Tryz.underlying93, Tryz.underlying144, by kernel_rfl, by decide⟩
instance : CvFrom Tryz.prog 144 93 96 2 := ⟨96, Tryz.t96, Tryz.underlying144, Tryz.underlying93, by kernel_rfl, by kernel_rfl⟩
instance : IsId Tryz.prog 118 := ⟨fun x w => by
  rw [run_callFunc_extern Tryz.func118 (by kernel_rfl) (by kernel_rfl) (by kernel_rfl) (e := Extern.AbiNoEscape.same) (by kernel_rfl)]
  rfl⟩
theorem copyCheck_spec {w0 : World} {Γ Δ : List Atom} {b : Nat} {pv bv : Value} [h : PullTb Γ b tB [pv, bv] Δ] (hp : pv = .pointer none ∨ pv = .pointer (some ⟨b, 0, none⟩)) :
    CJ Tryz.prog 110 [.pointer (some ⟨b, 0, none⟩)] w0 Γ (fun _ : Unit => .tuple #[]) (fun _ => @Atom.ow (TB tB) repTB [.pointer (some ⟨b, 0, none⟩)] (TB.mk [.pointer (some ⟨b, 0, none⟩), bv]) :: Δ) := by
  refine cj_perm h.perm ?_
  rcases hp with rfl | rfl
  · refine cj_enter Tryz.func110 Tryz.ntmps110 ?_
    repeat' (first | refine red ?_ | refine redf fun hbi => ?_ | refine reds ?_ | refine redc fun r => ?_ | refine redp (fun r => ?_) (fun r => ?_) | refine redv fun sv => ?_ | refine redn fun b => ?_ | refine redz fun zs => ?_ | refine redq (fun hc => ?_) (fun hc => ?_) | with_reducible refine wq_blk_o rfl ?_ | (refine redi (fun hc => ?_) (fun hc => ?_) <;> try first | (exfalso; omega) | exact absurd rfl hc) | fail)
    exact ⟨(), rfl, ent_e⟩
  · refine cj_enter Tryz.func110 Tryz.ntmps110 ?_
    repeat' (first | refine red ?_ | refine redf fun hbi => ?_ | refine reds ?_ | refine redc fun r => ?_ | refine redp (fun r => ?_) (fun r => ?_) | refine redv fun sv => ?_ | refine redn fun b => ?_ | refine redz fun zs => ?_ | refine redq (fun hc => ?_) (fun hc => ?_) | with_reducible refine wq_blk_o rfl ?_ | (refine redi (fun hc => ?_) (fun hc => ?_) <;> try first | (exfalso; omega) | exact absurd rfl hc) | fail)
    exact ⟨(), rfl, ent_e⟩
instance copyCheck_ctr {Γ Δ : List Atom} {b : Nat} {pv bv : Value} [h : PullTb Γ b tB [pv, bv] Δ] :
    CtrC Tryz.prog 110 [.pointer (some ⟨b, 0, none⟩)] Γ (pv = .pointer none ∨ pv = .pointer (some ⟨b, 0, none⟩)) (Unit) (fun _ : Unit => .tuple #[]) (fun _ => @Atom.ow (TB tB) repTB [.pointer (some ⟨b, 0, none⟩)] (TB.mk [.pointer (some ⟨b, 0, none⟩), bv]) :: Δ) := ⟨fun s w0 => copyCheck_spec s⟩

theorem WriteString_spec {w0 : World} {Γ Δ1 Δ : List Atom} {b : Nat} {pv bv : Value} {bs : List UInt8} {s : ByteArray} [h : PullTb Γ b tB [pv, bv] Δ1] [h1 : PullOw (TBy t8) repTBy Δ1 [bv] (TBy.mk bs) Δ] (hp : pv = .pointer none ∨ pv = .pointer (some ⟨b, 0, none⟩)) (hl : bs.length + s.size ≤ 140737488355328) :
    CJ Tryz.prog 96 [.pointer (some ⟨b, 0, none⟩), .string s] w0 Γ (fun _ : Value => .tuple #[.int .i64 s.size, .nilIface]) (fun q => @Atom.ow (TB tB) repTB [.pointer (some ⟨b, 0, none⟩)] (TB.mk [.pointer (some ⟨b, 0, none⟩), q]) :: @Atom.ow (TBy t8) repTBy [q] (TBy.mk (bs ++ s.data.toList)) :: Δ) := by
  refine cj_perm (h.perm.trans (h1.perm.cons _)) ?_
  refine cj_enter Tryz.func96 Tryz.ntmps96 ?_
  repeat' (first | refine red ?_ | refine redf fun hbi => ?_ | refine reds ?_ | refine redc fun r => ?_ | refine redp (fun r => ?_) (fun r => ?_) | refine redv fun sv => ?_ | refine redn fun b => ?_ | refine redz fun zs => ?_ | refine redq (fun hc => ?_) (fun hc => ?_) | with_reducible refine wq_blk_o rfl ?_ | (refine redi (fun hc => ?_) (fun hc => ?_) <;> try first | (exfalso; omega) | exact absurd rfl hc) | fail)
  exact ⟨sv, rfl, ent_e⟩
instance WriteString_ctr {Γ Δ1 Δ : List Atom} {b : Nat} {pv bv : Value} {bs : List UInt8} {s : ByteArray} [h : PullTb Γ b tB [pv, bv] Δ1] [h1 : PullOw (TBy t8) repTBy Δ1 [bv] (TBy.mk bs) Δ] :
    CtrC Tryz.prog 96 [.pointer (some ⟨b, 0, none⟩), .string s] Γ ((pv = .pointer none ∨ pv = .pointer (some ⟨b, 0, none⟩)) ∧ (bs.length + s.size ≤ 140737488355328)) (Value) (fun _ : Value => .tuple #[.int .i64 s.size, .nilIface]) (fun q => @Atom.ow (TB tB) repTB [.pointer (some ⟨b, 0, none⟩)] (TB.mk [.pointer (some ⟨b, 0, none⟩), q]) :: @Atom.ow (TBy t8) repTBy [q] (TBy.mk (bs ++ s.data.toList)) :: Δ) := ⟨fun s w0 => WriteString_spec s.1 s.2⟩

theorem WriteByte_spec {w0 : World} {Γ Δ1 Δ : List Atom} {b : Nat} {pv bv : Value} {bs : List UInt8} {n : Int} [h : PullTb Γ b tB [pv, bv] Δ1] [h1 : PullOw (TBy t8) repTBy Δ1 [bv] (TBy.mk bs) Δ] (hp : pv = .pointer none ∨ pv = .pointer (some ⟨b, 0, none⟩)) (hl : bs.length ≤ 140737488355320) (hn : 0 ≤ n ∧ n < 256) :
    CJ Tryz.prog 97 [.pointer (some ⟨b, 0, none⟩), .int .u8 n] w0 Γ (fun _ : Value => .nilIface) (fun q => @Atom.ow (TB tB) repTB [.pointer (some ⟨b, 0, none⟩)] (TB.mk [.pointer (some ⟨b, 0, none⟩), q]) :: @Atom.ow (TBy t8) repTBy [q] (TBy.mk (bs ++ [UInt8.ofNat n.toNat])) :: Δ) := by
  refine cj_perm (h.perm.trans (h1.perm.cons _)) ?_
  have hu : n = (((UInt8.ofNat n.toNat).toNat : Nat) : Int) := by
    rw [UInt8.toNat_ofNat', Nat.mod_eq_of_lt (by omega), Int.toNat_of_nonneg hn.1]
  generalize UInt8.ofNat n.toNat = c at hu ⊢
  subst hu
  refine cj_enter Tryz.func97 Tryz.ntmps97 ?_
  repeat' (first | refine red ?_ | refine redf fun hbi => ?_ | refine reds ?_ | refine redc fun r => ?_ | refine redp (fun r => ?_) (fun r => ?_) | refine redv fun sv => ?_ | refine redn fun b => ?_ | refine redz fun zs => ?_ | refine redq (fun hc => ?_) (fun hc => ?_) | with_reducible refine wq_blk_o rfl ?_ | (refine redi (fun hc => ?_) (fun hc => ?_) <;> try first | (exfalso; omega) | exact absurd rfl hc) | fail)
  exact ⟨sv, rfl, ent_e⟩
instance WriteByte_ctr {Γ Δ1 Δ : List Atom} {b : Nat} {pv bv : Value} {bs : List UInt8} {n : Int} [h : PullTb Γ b tB [pv, bv] Δ1] [h1 : PullOw (TBy t8) repTBy Δ1 [bv] (TBy.mk bs) Δ] :
    CtrC Tryz.prog 97 [.pointer (some ⟨b, 0, none⟩), .int .u8 n] Γ ((pv = .pointer none ∨ pv = .pointer (some ⟨b, 0, none⟩)) ∧ (bs.length ≤ 140737488355320) ∧ (0 ≤ n ∧ n < 256)) (Value) (fun _ : Value => .nilIface) (fun q => @Atom.ow (TB tB) repTB [.pointer (some ⟨b, 0, none⟩)] (TB.mk [.pointer (some ⟨b, 0, none⟩), q]) :: @Atom.ow (TBy t8) repTBy [q] (TBy.mk (bs ++ [UInt8.ofNat n.toNat])) :: Δ) := ⟨fun s w0 => WriteByte_spec s.1 s.2.1 s.2.2⟩

theorem String_spec {w0 : World} {Γ Δ1 Δ : List Atom} {b : Nat} {pv bv : Value} {bs : List UInt8} [h : PullTb Γ b tB [pv, bv] Δ1] [h1 : PullOw (TBy t8) repTBy Δ1 [bv] (TBy.mk bs) Δ] (hl : 0 < bs.length) :
    CJ Tryz.prog 83 [.pointer (some ⟨b, 0, none⟩)] w0 Γ (fun _ : Unit => .string ⟨bs.toArray⟩) (fun _ => Δ) := by
  refine cj_perm (h.perm.trans (h1.perm.cons _)) ?_
  refine cj_enter Tryz.func83 Tryz.ntmps83 ?_
  repeat' (first | refine red ?_ | refine redf fun hbi => ?_ | refine reds ?_ | refine redc fun r => ?_ | refine redp (fun r => ?_) (fun r => ?_) | refine redv fun sv => ?_ | refine redn fun b => ?_ | refine redz fun zs => ?_ | refine redq (fun hc => ?_) (fun hc => ?_) | with_reducible refine wq_blk_o rfl ?_ | (refine redi (fun hc => ?_) (fun hc => ?_) <;> try first | (exfalso; omega) | exact absurd rfl hc) | ((refine wa_begin 1 [false, false, false, false, false, false, false, false, false, false, false, false] [10] ?_ <;> (first | refine wa_p 0 ?_ | refine wa_p0 0 ?_) <;> (first | refine wa_p 1 ?_ | refine wa_p0 1 ?_ | fail) <;> (first | refine wa_p 2 ?_ | refine wa_p0 2 ?_ | fail) <;> (first | refine wa_f 3 fun hbi => ?_ | refine wa_p 3 ?_ | fail) <;> (first | refine wa_p 5 ?_ | refine wa_p0 5 ?_) <;> (first | refine wa_p 6 ?_ | refine wa_p0 6 ?_ | fail) <;> (first | refine wa_p 7 ?_ | refine wa_p0 7 ?_ | fail) <;> (first | refine wa_f 8 fun hbi => ?_ | refine wa_p 8 ?_ | fail) <;> (first | refine wa_p 9 ?_ | refine wa_p0 9 ?_ | fail) <;> (refine wa_do 4 ?_ <;> (repeat' (first | refine red ?_ | refine redc fun r => ?_ | refine redv fun sv => ?_ | refine redf fun hbi => ?_ | refine redn fun b => ?_ | refine reds ?_ | refine redi (fun hc => ?_) (fun hc => ?_) | refine redq (fun hc => ?_) (fun hc => ?_) | refine redp (fun r => ?_) (fun r => ?_) | fail))) <;> (refine wa_do 10 ?_ <;> (repeat' (first | refine red ?_ | refine redc fun r => ?_ | refine redv fun sv => ?_ | refine redo fun sv => ?_ | refine redl fun qa qc => ?_ | refine redf fun hbi => ?_ | refine redn fun b => ?_ | refine reds ?_ | refine redi (fun hc => ?_) (fun hc => ?_) | refine redq (fun hc => ?_) (fun hc => ?_) | refine redp (fun r => ?_) (fun r => ?_) | fail))) <;> (first | refine wa_p 11 ?_ | refine wa_p0 11 ?_)) <;> (first | refine wa_end ?_ | with_reducible refine wq_keep ?_)) | fail)
  exact ⟨(), rfl, ent_e⟩
instance String_ctr {Γ Δ1 Δ : List Atom} {b : Nat} {pv bv : Value} {bs : List UInt8} [h : PullTb Γ b tB [pv, bv] Δ1] [h1 : PullOw (TBy t8) repTBy Δ1 [bv] (TBy.mk bs) Δ] :
    CtrC Tryz.prog 83 [.pointer (some ⟨b, 0, none⟩)] Γ (0 < bs.length) (Unit) (fun _ : Unit => .string ⟨bs.toArray⟩) (fun _ => Δ) := ⟨fun s w0 => String_spec s⟩

end Go.Proofs.YtogmjihokkdcfaaGreatDoor
