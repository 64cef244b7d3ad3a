/- The rules of the walk: lists of numbers of 32 bits. -/
import Derived.Test.YtfdpmkilhllkoaaEngS
namespace Go.Eng
open Go Go.RowKit
set_option linter.unusedVariables false
set_option linter.unusedSimpArgs false
set_option synthInstance.maxHeartbeats 400000
set_option synthInstance.maxSize 1000
/-- A number of 32 bits. -/
structure U32 : Type where
  n : Nat
instance : Inhabited U32 := ⟨⟨0⟩⟩
instance repU32 : Rep U32 where
  sz := 1
  rd _ _ cs b := cs = [.int .u32 (b.n : Int)]
  ow _ _ F cs b := F = [] ∧ cs = [.int .u32 (b.n : Int)]
  pos := by decide
  rd_len := by rintro _ _ _ _ rfl; rfl
  rd_one := by rintro _ _ _ _ rfl; simp [Value.oneCell']
  rd_mono := fun h _ => h
  ow_mono := fun h _ _ => h
  ow_rd := fun h _ _ => h.2
  ow_lt := by rintro _ _ _ _ _ ⟨rfl, _⟩ b hb; cases hb
instance : Flat U32 := ⟨trivial⟩
instance : One U32 := ⟨trivial⟩
instance : SzIs U32 1 := ⟨rfl⟩
instance : NoSh U32 := ⟨fun h => h⟩
instance : Cp U32 := ⟨fun h => ⟨rfl, h⟩⟩
instance unU32 : Un U32 := ⟨Unit, fun _ b => [.int .u32 (b.n : Int)], fun _ _ => [], fun _ => True, fun h => ⟨(), h, rfl, trivial⟩, fun _ _ => rfl, fun _ => rfl⟩
instance unoU32 : UnO U32 := ⟨Unit, fun _ b => [.int .u32 (b.n : Int)], fun _ _ => [], fun _ => True, fun h => ⟨(), h.2, h.1, trivial⟩⟩
theorem op_u32 {P : Program} {T : TypeId} (h : P.underlying T = some (.int .u32)) (hs : P.cellsOf T = 1) : Op_ P T U32 repU32 := ⟨fun ht => by
  obtain ⟨n, rfl, _, hw⟩ := DataW.trod_int h ht
  have h1 : 0 ≤ n := by
    simp [Lit.wf, IntKind.min, IntKind.signed] at hw
    omega
  refine ⟨⟨n.toNat⟩, ?_⟩
  show [Value.int .u32 n] = [Value.int .u32 ((n.toNat : Nat) : Int)]
  rw [show ((n.toNat : Nat) : Int) = n by omega], hs⟩
section t
variable {P : Program} {ops : Array Oper} {Q : Exit → Act → World → Prop} {w0 : World} {rest : List Oper} {l l' : List Value} {Γ Γb Δ Ε : List Atom} {ty : TypeId} {v : Value} {pos : String} {after : Array Edge} {d : Nat}
theorem own_u32 {n : Nat} : Own Γ [.int .u32 (n : Int)] (U32.mk n) Γ := fun {_ _ F} hs => ⟨F, .refl _, [], F, rfl, ⟨rfl, rfl⟩, hs⟩
instance {n : Nat} : OwnC U32 Γ [.int .u32 (n : Int)] ⟨n⟩ Γ True := ⟨fun _ => own_u32⟩
theorem pu_load_u32 {T : TypeId} {x : Operand} {sv : Value} {n : Int} {xs : List U32} [h : Ev l x (.pointer (some (elemA sv n 1)))] [hT : Sc P T] [hr : HasRd (List U32) repList Γ [sv] xs]
    (hi : 0 ≤ n ∧ n < xs.length) : Pu P w0 l Γ (.load T x) ty (.int .u32 ((xs.getD n.toNat default).n : Int)) :=
  pu_of (s := Instr.loadAt T (.pointer (some (elemA sv n 1)))) (fun o ho _ => by unfold execOp; rw [ho]; simp only [h.eq]) (fun w hs => by
    obtain ⟨a, cap, b, off, p, c, s, rfl, _, _, hca, hp, he, hrd⟩ := elem_cells (hs.rd (hr := hr)) hi.1 hi.2
    have hrd' : c = [.int .u32 _] := hrd
    subst hrd'
    have he' : elemA (.slice (some ⟨b, off, none⟩) xs.length cap) n 1 = ⟨b, off + p.length, none⟩ := he
    have := hca.part 0 (by simp)
    simp only [Nat.add_zero, List.getElem?_cons_zero] at this
    rw [he', List.getD_eq_getElem?_getD, List.getElem?_eq_getElem (by omega), Option.getD_some]
    simp [Instr.loadAt, Instr.sureAddr, loadVar, Sem.run_bind, hT.agg, load, Sem.run, this])
instance {T : TypeId} {x : Operand} {sv : Value} {n : Int} {m : Nat} {xs : List U32} [h : Ev l x (.pointer (some (elemA sv n 1)))] [hm : ToN n m] [hT : Sc P T] [hr : HasRd (List U32) repList Γ [sv] xs] : PuS P l Γ (.load T x) ty (.int .u32 ((xs.getD m default).n : Int)) (0 ≤ n ∧ n < xs.length) := ⟨fun h _ => hm.eq ▸ pu_load_u32 h⟩
end t
end Go.Eng
