/- Texts of the proof of FnNames. -/
import Derived.Test.YtajdgkpjbpindaaGreatDoorTal
import Derived.Test.YtajdgkpjbpindaaGreatDoorTab
set_option linter.unusedVariables false
set_option linter.unusedSimpArgs false
set_option linter.unusedSectionVars false
namespace Go.Eng
open Go Go.RowKit
set_option synthInstance.maxHeartbeats 400000
section
variable {P:Program} {ops:Array Oper} {Q:Exit->Act->World->Prop} {w0:World} {rest:List Oper} {l l':List Value} {I Y Ε:List Atom} {ty:TypeId} {v:Value} {pos:String} {after:Array Edge} {d:Nat}
theorem aG8{β:Type}{iβ:cB β}(sv:Value){xs:List (Sh β)}[hp:cQ (List (Sh β)) bA I [sv] xs Y](h:WL P ops Q w0 rest l (@Atom.rd (List β) bA [sv] (xs.map Sh.v)::Y)):WL P ops Q w0 rest l I:=fun w hs=>h w (by
 haveI hi:aZk (List β) bA I sv (xs.map Sh.v) Y True:=inferInstance
 exact hi.ent trivial w0 w hs)
theorem aAb{T k by_:Nat}{x y:Operand}{ov tv:Value}{β:Type}{iβ:cB β}{ys:List β}[hx:Ev l x ov][hy:Ev l y tv][hT:Sl P T k by_][h1:cQ (List β) bA I [ov] [] Y][h2:eK β Y tv ys][hk:iI β k] :
  mW (WL P ops Q w0 (⟨some d,.call { callee:=.builtin .append,args:=#[x,y],argTypes:=#[T,T] },ty,pos,after,none⟩::rest) l I) (ys.length*by_<=140737488355328) (fun sv=>WL P ops Q w0 rest (l.set d sv) (.ow [sv] (ys.map Sh.mk)::Y)):=⟨fun s h=>by
 refine vJ (xs:=([]:List β)) ov ?_
 haveI:cQ (List (Sh β)) bA (@Atom.ow (List (Sh β)) bA [ov] (([]:List β).map Sh.mk)::Y) [ov] ([]:List (Sh β)) Y:=⟨.refl _⟩
 exact vO (xs:=([]:List (Sh β))) (ys:=ys) hk.eq (by simpa using s) h⟩
end
instance (priority:=390) bH5{I:List Atom}{V β:Type}{iα:cB V}{iβ:cB β}{a b c:Value}{cs:List Value}{x:V}{y:β}[h:fK V iα I [a] x][h':fK β iβ I (b::c::cs) y]:fK (V×β) eS I (a::b::c::cs) (x,y):=⟨fun hs=>⟨[a],b::c::cs,rfl,h.get hs,h'.get hs⟩⟩
class I6(n:Int):Prop where
 h:-9223372036854775808<=n/\n<=9223372036854775807
instance (priority:=380) bOv{I:List Atom}{n:Int}[h:I6 n]:fK Int xD I [.int .i64 n] n:=⟨fun _=>⟨rfl,h.h⟩⟩
instance (priority:=380) bKk{I:List Atom}{t:Bool}:fK Bool aGx I [.bool t] t:=⟨fun _=>rfl⟩
end Go.Eng
namespace Go.Proofs.YtajdgkpjbpindaaGreatDoor
open Go Go.Eng
set_option linter.unusedVariables false
set_option linter.unusedSimpArgs false
set_option synthInstance.maxHeartbeats 400000
theorem uD{V:Type}(l:List V):(l.map Sh.mk).map Sh.v=l:=by rw[List.map_map];exact List.map_id l
theorem aHw{w0:World}{I Ε:List Atom}{V:Type}{i:cB V}(c:Value){x:V}[h:fK V i I [c] x](h2:Go.Eng.Ent w0 (@Atom.rd V i [c] x::I) Ε):Go.Eng.Ent w0 I Ε:=fun w hs=>h2 w (hs.addrd (fun F h'=>h.get h'))
theorem sH{P:Program}{Q:Exit->Act->World->Prop}{w0:World}{l:List Value}{I Y:List Atom}{c:Code}{β:Type}{iβ:cB β}(sv:Value){xs:List (Sh β)}[hp:cQ (List (Sh β)) bA I [sv] xs Y](h:WC P Q w0 c l (@Atom.rd (List β) bA [sv] (xs.map Sh.v)::Y)):WC P Q w0 c l I:=fun w hs=>h w (by
 haveI hi:aZk (List β) bA I sv (xs.map Sh.v) Y True:=inferInstance
 exact hi.ent trivial w0 w hs)
theorem aY5{I:List Atom}{v:Value}{β:Type}{iβ:cB β}{xs:List (Sh β)}(h:bK (Sh β) I v xs):bK β I v (xs.map Sh.v):=⟨fun hs=>by
 have h1:=h.get hs
 have e:(xs.map Sh.v).map Sh.mk=xs:=by rw[List.map_map];exact List.map_id _
 rw[← e] at h1
 exact aO4 h1⟩
theorem wB{P:Program}{Q:Exit->Act->World->Prop}{w0:World}{l:List Value}{I Y:List Atom}{c:Code}{β:Type}{iβ:cB β}(sv:Value){xs:List β}[hp:cQ (List β) bA I [sv] xs Y](h:WC P Q w0 c l (@Atom.ow (List (Sh β)) bA [sv] (xs.map Sh.mk)::Y)):WC P Q w0 c l I:=fun w hs=>h w (nP sv w hs)
theorem aPs{w0:World}{I Y Ε:List Atom}{β:Type}{iβ:cB β}(sv:Value){xs:List β}[hp:cQ (List β) bA I [sv] xs Y](h:Go.Eng.Ent w0 (@Atom.ow (List (Sh β)) bA [sv] (xs.map Sh.mk)::Y) Ε):Go.Eng.Ent w0 I Ε:=fun w hs=>h w (nP sv w hs)
end Go.Proofs.YtajdgkpjbpindaaGreatDoor

