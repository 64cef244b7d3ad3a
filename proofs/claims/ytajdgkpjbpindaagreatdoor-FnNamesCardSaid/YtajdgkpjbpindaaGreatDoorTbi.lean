/- Texts of the proof of FnNames. -/
import Derived.Test.YtajdgkpjbpindaaGreatDoorTab
set_option linter.unusedVariables false
set_option linter.unusedSimpArgs false
set_option linter.unusedSectionVars false
namespace Go.Eng
open Go Go.RowKit
section
variable {P:Program} {ops:Array Oper} {Q:Exit->Act->World->Prop} {w0:World} {rest:List Oper} {l l':List Value} {I Y:List Atom} {ty:TypeId} {pos:String} {after:Array Edge} {d:Nat}
theorem aXe{s:ByteArray}{m:Nat}(h:m<s.size):s[m]?=some (s.data.toList.getD m 0):=by
 have h2:m<s.data.size:=h
 rw[getElem?_pos s m h,aC,Array.getElem?_toList,Array.getElem?_eq_getElem h2]
 rfl
theorem aM7{T:TypeId}{x y:Operand}{s:ByteArray}{n:Int}{m:Nat}{k:IntKind}[hT:kX P T][hx:Ev l x (.string s)][hy:Ev l y (.int k n)][hm:fJ n m](h:0<=n/\n<s.size) :
  Pu P w0 l I (.index T x y) ty (.int .u8 (((s.data.toList.getD m 0).toNat:Nat):Int)):=
 fT (s:=Instr.index T (.string s) (.int k n)) (fun o ho _=>by unfold execOp;rw[ho];simp only[hx.eq,hy.eq]) (fun w _=>by
  have hmn:n.toNat=m:=by have:=hm.eq;omega
  have hb:=aXe (s:=s) (m:=m) (by omega)
  simp [Instr.index,asIntOf,run_underlying hT.eq,Sem.run_bind,h.1,hmn,hb])
instance {T:TypeId}{x y:Operand}{s:ByteArray}{n:Int}{m:Nat}{k:IntKind}[hT:kX P T][hx:Ev l x (.string s)][hy:Ev l y (.int k n)][hm:fJ n m] :
  mI P l I (.index T x y) ty (.int .u8 (((s.data.toList.getD m 0).toNat:Nat):Int)) (0<=n/\n<s.size):=⟨fun h _=>aM7 h⟩
theorem wY{a:UInt8}{n:Int}(h:0<=n/\n<=a.toNat):(((a-UInt8.ofNat n.toNat).toNat:Nat):Int)=(a.toNat:Int)-n:=by
 have ha:a.toNat<256:=a.toNat_lt
 have hb:(UInt8.ofNat n.toNat).toNat=n.toNat:=by rw[dR,Nat.mod_eq_of_lt (by omega)]
 rw[UInt8.toNat_sub,hb]
 omega
theorem aVc{T U:TypeId}{x y:Operand}{a:UInt8}{n:Int}[hx:Ev l x (.int .u8 ((a.toNat:Nat):Int))][hy:Ev l y (.int .u8 n)](h:0<=n/\n<=a.toNat):Pu P w0 l I (.binOp .sub T x y U) ty (.int .u8 (((a-UInt8.ofNat n.toNat).toNat:Nat):Int)):=
 fZ eR (fun w=>by
  have ha:a.toNat<256:=a.toNat_lt
  simp only[binOp,Op.intArith,ne_eq,not_true_eq_false,if_false]
  rw[show IntKind.u8.wrap ((a.toNat:Int)-n)=(a.toNat:Int)-n from(show IntKind.u8.wrap ((a.toNat:Int)-n)=((a.toNat:Int)-n) % 256 from rfl).trans (by omega),wY h]
  rfl)
instance {T U:TypeId}{x y:Operand}{a:UInt8}{n:Int}[hx:Ev l x (.int .u8 ((a.toNat:Nat):Int))][hy:Ev l y (.int .u8 n)]:mI P l I (.binOp .sub T x y U) ty (.int .u8 (((a-UInt8.ofNat n.toNat).toNat:Nat):Int)) (0<=n/\n<=a.toNat):=⟨fun h _=>aVc h⟩
end
end Go.Eng
