/- Texts of the proof of FnNames. -/
import Derived.Test.YtajdgkpjbpindaaGreatDoorTac
import Derived.Test.YtajdgkpjbpindaaGreatDoorTab
set_option linter.unusedVariables false
set_option linter.unusedSimpArgs false
set_option linter.unusedSectionVars false
namespace Go.Proofs.YtajdgkpjbpindaaGreatDoor
open Go Go.Eng
theorem bL4{a s t u v:List Int}{n:Nat}(hs:wJ a s n)(ht:wJ a t n)(h:s++u=t++v):s=t:=by
 unfold wJ at hs ht
 have h1:=pZ a (dS a) u s n (by rw[hs])
 have h2:=pZ a (dS a) v t n (by rw[ht])
 rw[h,h2,ht,hs] at h1
 have hl:t.length=s.length:=by simpa using h1
 exact(List.append_inj h hl.symm).1
theorem sT(l:List Int)(c:Nat):l.take c++l.drop (l.take c).length=l:=by
 rw[aN]
 by_cases hle:c<=l.length
 ·rw[Nat.min_eq_left hle,dF]
 ·rw[Nat.min_eq_right (by omega),bE (by omega),List.drop_length,cF]
def oU(a t:List Int)(p i:Nat):List Int:=(t.drop (p+1)).take (fO a t (p+1) i-(p+1))
theorem xJ{a t:List Int}(h:bB a t=true){p:Nat}(hp:p<t.length){i:Nat}(hi:i<hC a t p):oU a t p (i+1)=oU a t p i++eX a t (fO a t (p+1) i):=by
 have h1:=kQ h hp hi
 unfold oU
 show(t.drop (p+1)).take (fO a t (p+1) i+sz a t (fO a t (p+1) i)-(p+1))=_
 rw[show fO a t (p+1) i+sz a t (fO a t (p+1) i)-(p+1)=(fO a t (p+1) i-(p+1))+sz a t (fO a t (p+1) i) by omega,List.take_add,List.drop_drop,show p+1+(fO a t (p+1) i-(p+1))=fO a t (p+1) i by omega]
 rfl
theorem aPg{a t:List Int}(h:bB a t=true){p:Nat}(hp:p<t.length):∀ i,i<=hC a t p->wJ a (oU a t p i) i
 | 0,_=>by
  have:oU a t p 0=[]:=by unfold oU fO;simp
  rw[this];exact bI4
 | i+1,hi=>by
  rw[xJ h hp (by omega)]
  exact bJo (aPg h hp i (by omega)) (yT (gL h (kQ h hp (by omega)).2))
theorem aBo{a t:List Int}(h:bB a t=true){p:Nat}(hp:p<t.length):eX a t p=t.getD p 0::oU a t p (hC a t p):=by
 obtain ⟨r,hr⟩:=aRq h hp
 have h1:wJ a (eX a t p) 1:=yT (gL h hp)
 rw[hr] at h1
 have h2:=(bD7 h1).2
 rw[cR] at h2
 rw[hr]
 congr 1
 refine bL4 h2 (aPg h hp _ (aM _)) (u:=(t.drop (p+1)).drop r.length) (v:=(t.drop (p+1)).drop (oU a t p (hC a t p)).length) ?_
 have e:eX a t p=(t.drop p).take (sz a t p):=rfl
 rw[hr,fA hp] at e
 have hz:=mD h hp
 rw[hr] at hz
 rw[← hz,aF,List.take_succ_cons] at e
 injection e with _ e
 have e2:oU a t p (hC a t p)=(t.drop (p+1)).take (oU a t p (hC a t p)).length:=by
  have:oU a t p (hC a t p)=(t.drop (p+1)).take (fO a t (p+1) (hC a t p)-(p+1)):=rfl
  conv=>rhs;rw[this]
  rw[aN]
  by_cases hle:fO a t (p+1) (hC a t p)-(p+1)<=(t.drop (p+1)).length
  ·rw[Nat.min_eq_left hle];exact this
  ·rw[Nat.min_eq_right (by omega),this,bE (by omega),cZ]
 have a1:r++(t.drop (p+1)).drop r.length=t.drop (p+1):=by
  conv=>lhs;rw[e]
  exact sT _ _
 have a2:oU a t p (hC a t p)++(t.drop (p+1)).drop (oU a t p (hC a t p)).length=t.drop (p+1):=by
  conv=>lhs;rw[e2]
  exact sT _ _
 rw[a1,a2]
section
variable {a s t:List Int} {p q:Nat}
end
end Go.Proofs.YtajdgkpjbpindaaGreatDoor
