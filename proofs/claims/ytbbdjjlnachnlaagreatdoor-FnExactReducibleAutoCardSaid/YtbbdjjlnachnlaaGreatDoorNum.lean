/- The builder of strings. -/
import Derived.Test.YtbbdjjlnachnlaaGreatDoorEngY
import Derived.Test.YtbbdjjlnachnlaaGreatDoorInst
import Derived.Laws.Externs
import Derived.Test.YtbbdjjlnachnlaaGreatDoorBase
namespace Go.Proofs.YtbbdjjlnachnlaaGreatDoor
open Go Go.Eng
set_option linter.unusedVariables false
set_option linter.unusedSimpArgs false
set_option synthInstance.maxHeartbeats 400000
set_option synthInstance.maxSize 1000
abbrev tB : TypeId := 226
abbrev t8 : TypeId := 5
instance : IsTb Tryz.prog 226 := ⟨trivial⟩
instance : BySl Tryz.prog 22 5 := ⟨Tryz.underlying22, Tryz.t5, _, by kernel_rfl, rfl, rfl, rfl, rfl⟩
instance : ByPt Tryz.prog 233 5 := ⟨by kernel_rfl, by kernel_rfl⟩
instance : ByS8 Tryz.prog 22 := ⟨5, Tryz.underlying22, by kernel_rfl⟩
instance : U8T Tryz.prog 5 := ⟨by kernel_rfl⟩
instance : Op_ Tryz.prog 5 UInt8 repU8 := op_u8 Tryz.underlying5 (by kernel_rfl)
instance : Op_ Tryz.prog 22 (List UInt8) repList := op_slice Tryz.underlying22 (by kernel_rfl) inferInstance
instance : PtrT Tryz.prog 224 := ⟨by kernel_rfl, Tryz.t226, by kernel_rfl, by decide⟩
instance : CvTo Tryz.prog 224 239 := ⟨226, Tryz.t226, Tryz.underlying224, Tryz.underlying239, by kernel_rfl, by decide⟩
instance : CvFrom Tryz.prog 239 224 226 2 := ⟨226, Tryz.t226, Tryz.underlying239, Tryz.underlying224, by kernel_rfl, by kernel_rfl⟩
instance : IsId Tryz.prog 213 := ⟨fun x w => by
  rw [run_callFunc_extern Tryz.func213 (by kernel_rfl) (by kernel_rfl) (by kernel_rfl) (e := Extern.AbiNoEscape.same) (by kernel_rfl)]
  rfl⟩
theorem copyCheck_spec {w0 : World} {Γ Δ : List Atom} {b : Nat} {pv bv : Value} [h : PullTb Γ b tB [pv, bv] Δ] (hp : pv = .pointer none ∨ pv = .pointer (some ⟨b, 0, none⟩)) :
    CJ Tryz.prog 207 [.pointer (some ⟨b, 0, none⟩)] w0 Γ (fun _ : Unit => .tuple #[]) (fun _ => @Atom.ow (TB tB) repTB [.pointer (some ⟨b, 0, none⟩)] (TB.mk [.pointer (some ⟨b, 0, none⟩), bv]) :: Δ) := by
  refine cj_perm h.perm ?_
  rcases hp with rfl | rfl
  · refine cj_enter Tryz.func207 Tryz.ntmps207 ?_
    repeat' (first | refine red ?_ | refine reds ?_ | fail)
    exact ⟨(), rfl, ent_e⟩
  · refine cj_enter Tryz.func207 Tryz.ntmps207 ?_
    repeat' (first | refine red ?_ | fail)
    exact ⟨(), rfl, ent_e⟩
instance copyCheck_ctr {Γ Δ : List Atom} {b : Nat} {pv bv : Value} [h : PullTb Γ b tB [pv, bv] Δ] :
    CtrC Tryz.prog 207 [.pointer (some ⟨b, 0, none⟩)] Γ (pv = .pointer none ∨ pv = .pointer (some ⟨b, 0, none⟩)) (Unit) (fun _ : Unit => .tuple #[]) (fun _ => @Atom.ow (TB tB) repTB [.pointer (some ⟨b, 0, none⟩)] (TB.mk [.pointer (some ⟨b, 0, none⟩), bv]) :: Δ) := ⟨fun s w0 => copyCheck_spec s⟩

theorem WriteString_spec {w0 : World} {Γ Δ1 Δ : List Atom} {b : Nat} {pv bv : Value} {bs : List UInt8} {s : ByteArray} [h : PullTb Γ b tB [pv, bv] Δ1] [h1 : PullOw (TBy t8) repTBy Δ1 [bv] (TBy.mk bs) Δ] (hp : pv = .pointer none ∨ pv = .pointer (some ⟨b, 0, none⟩)) (hl : bs.length + s.size ≤ 140737488355328) :
    CJ Tryz.prog 204 [.pointer (some ⟨b, 0, none⟩), .string s] w0 Γ (fun _ : Value => .tuple #[.int .i64 s.size, .nilIface]) (fun q => @Atom.ow (TB tB) repTB [.pointer (some ⟨b, 0, none⟩)] (TB.mk [.pointer (some ⟨b, 0, none⟩), q]) :: @Atom.ow (TBy t8) repTBy [q] (TBy.mk (bs ++ s.data.toList)) :: Δ) := by
  refine cj_perm (h.perm.trans (h1.perm.cons _)) ?_
  refine cj_enter Tryz.func204 Tryz.ntmps204 ?_
  repeat' (first | refine red ?_ | refine reds ?_ | refine redc fun r => ?_ | refine redv fun sv => ?_ | fail)
  exact ⟨sv, rfl, ent_e⟩
instance WriteString_ctr {Γ Δ1 Δ : List Atom} {b : Nat} {pv bv : Value} {bs : List UInt8} {s : ByteArray} [h : PullTb Γ b tB [pv, bv] Δ1] [h1 : PullOw (TBy t8) repTBy Δ1 [bv] (TBy.mk bs) Δ] :
    CtrC Tryz.prog 204 [.pointer (some ⟨b, 0, none⟩), .string s] Γ ((pv = .pointer none ∨ pv = .pointer (some ⟨b, 0, none⟩)) ∧ (bs.length + s.size ≤ 140737488355328)) (Value) (fun _ : Value => .tuple #[.int .i64 s.size, .nilIface]) (fun q => @Atom.ow (TB tB) repTB [.pointer (some ⟨b, 0, none⟩)] (TB.mk [.pointer (some ⟨b, 0, none⟩), q]) :: @Atom.ow (TBy t8) repTBy [q] (TBy.mk (bs ++ s.data.toList)) :: Δ) := ⟨fun s w0 => WriteString_spec s.1 s.2⟩

theorem String_spec {w0 : World} {Γ Δ1 Δ : List Atom} {b : Nat} {pv bv : Value} {bs : List UInt8} [h : PullTb Γ b tB [pv, bv] Δ1] [h1 : PullOw (TBy t8) repTBy Δ1 [bv] (TBy.mk bs) Δ] (hl : 0 < bs.length) :
    CJ Tryz.prog 205 [.pointer (some ⟨b, 0, none⟩)] w0 Γ (fun _ : Unit => .string ⟨bs.toArray⟩) (fun _ => Δ) := by
  refine cj_perm (h.perm.trans (h1.perm.cons _)) ?_
  refine cj_enter Tryz.func205 Tryz.ntmps205 ?_
  repeat' (first | refine red ?_ | ((refine wa_begin 1 [false, false, false, false, false, false, false, false, false, false, false, false] [10] ?_ <;> refine wa_p 0 ?_ <;> (first | refine wa_p 1 ?_ | fail) <;> (first | refine wa_p 2 ?_ | fail) <;> (first | refine wa_p 3 ?_ | fail) <;> refine wa_p 5 ?_ <;> (first | refine wa_p 6 ?_ | fail) <;> (first | refine wa_p 7 ?_ | fail) <;> (first | refine wa_p 8 ?_ | fail) <;> (first | refine wa_p 9 ?_ | fail) <;> (refine wa_do 4 ?_ <;> (repeat' (first | refine red ?_ | refine reds ?_ | fail))) <;> (refine wa_do 10 ?_ <;> (repeat' (first | refine red ?_ | refine reds ?_ | fail))) <;> refine wa_p0 11 ?_) <;> (refine wa_end ?_)) | fail)
  exact ⟨(), rfl, ent_e⟩
instance String_ctr {Γ Δ1 Δ : List Atom} {b : Nat} {pv bv : Value} {bs : List UInt8} [h : PullTb Γ b tB [pv, bv] Δ1] [h1 : PullOw (TBy t8) repTBy Δ1 [bv] (TBy.mk bs) Δ] :
    CtrC Tryz.prog 205 [.pointer (some ⟨b, 0, none⟩)] Γ (0 < bs.length) (Unit) (fun _ : Unit => .string ⟨bs.toArray⟩) (fun _ => Δ) := ⟨fun s w0 => String_spec s⟩

end Go.Proofs.YtbbdjjlnachnlaaGreatDoor
namespace Go.Proofs.YtbbdjjlnachnlaaGreatDoor
open Go Go.Eng
set_option linter.unusedVariables false
set_option linter.unusedSimpArgs false
set_option synthInstance.maxHeartbeats 400000
set_option synthInstance.maxSize 1000
set_option maxRecDepth 20000

def S (l : List UInt8) : ByteArray := ⟨l.toArray⟩
def numL (n : Nat) : List UInt8 := if n < 10 then [UInt8.ofNat (48 + n)] else [UInt8.ofNat (48 + n / 10), UInt8.ofNat (48 + n % 10)]
theorem S_size (l : List UInt8) : (S l).size = l.length := by simp [S, ByteArray.size]
theorem S_list (l : List UInt8) : (S l).data.toList = l := rfl
theorem S_app (x y : List UInt8) : S x ++ S y = S (x ++ y) := by
  apply ByteArray.ext
  simp [S, ByteArray.data_append]
theorem numL_len (n : Nat) : 1 ≤ (numL n).length ∧ (numL n).length ≤ 2 := by
  unfold numL; split <;> simp
end Go.Proofs.YtbbdjjlnachnlaaGreatDoor
