/- Texts of the proof of FnNames. -/
import Derived.Test.YtajdgkpjbpindaaGreatDoorTaw
import Derived.Test.YtajdgkpjbpindaaGreatDoorTbc
set_option linter.unusedVariables false
set_option linter.unusedSimpArgs false
set_option linter.unusedSectionVars false
namespace Go.Proofs.YtajdgkpjbpindaaGreatDoor
open Go Go.Eng Tryz
set_option synthInstance.maxHeartbeats 400000
set_option synthInstance.maxSize 1000
set_option maxHeartbeats 4000000
set_option maxRecDepth 20000
instance aNl{I Y:List Atom}{bc:Nat}{vb:Value}{code:List UInt8}{p:eL code}[hb:eO I bc (dV vb p) Y][hv:bK UInt8 Y vb code] :
  bQ prog 106 [.pointer (some ⟨bc,0,none⟩)] I (True) ({ q:Int×eL code // 0<=q.1/\q.1<=4 }) (fun q:{ q:Int×eL code // 0<=q.1/\q.1<=4 }=>.int .i64 q.1.1) (fun q=>.bk bc (dV vb q.1.2)::Y):=⟨fun _ w0=>by
 refine eN hb.perm ?_
 refine aK func106 ntmps106 ?_
 repeat' (first|refine aU ?_|refine bP ?_|refine cV fun r hr=>?_|refine aW fun r=>?_|refine bV fun hc=>?_|refine bW fun hc=>?_|refine aS (fun hc=>?_) fun hc=>?_|fail)
 ·exact⟨⟨(r.1.1,r.1.2),hr⟩,rfl,aH⟩
 ·exact⟨⟨(1+r.1.1,r.1.2),by simp only;omega⟩,rfl,aH⟩⟩
abbrev SbT(code:List UInt8):Type:={ q:Value×List (List Int)×eL code // ∀ t∈q.2.1,t.length<=60 }
instance aKs{I Y:List Atom}{bc:Nat}{vb va:Value}{code:List UInt8}{p:eL code}{a:List Int}[hb:eO I bc (dV vb p) Y][hv:bK UInt8 Y vb code][ha:bK Int Y va a] :
  bQ prog 152 [.pointer (some ⟨bc,0,none⟩),.agg #[va]] I (eA a=true) (SbT code) (fun q:SbT code=>.agg #[q.1.1]) (fun q=>.rd [q.1.1] q.1.2.1::.bk bc (dV vb q.1.2.2)::Y):=⟨fun h w0=>by
 refine jS (aK7 (p:=p) h) (fun q=>⟨⟨(q.1.1,q.1.2.1.map Sh.v,q.1.2.2),fun t ht=>?_⟩,rfl,fun w hs=>?_⟩)
 ·obtain ⟨y,hy,e⟩:=dT.1 ht
  have:=q.2.el y hy
  rw[← e];omega
 ·haveI hi:aZk (List (List Int)) bA (.ow [q.1.1] q.1.2.1::.bk bc (dV vb q.1.2.2)::Y) q.1.1 (q.1.2.1.map Sh.v) (.bk bc (dV vb q.1.2.2)::Y) True:=inferInstance
  exact hi.ent trivial w0 w hs⟩
attribute [local instance 2000] yZ aKs
instance aXd{I Y:List Atom}{bc:Nat}{vb v0 v1:Value}{code:List UInt8}{p:eL code}{x:aQ}[hb:eO I bc (dV vb p) Y][hv:bK UInt8 Y vb code][h0:eK Int Y v0 x.1][h1:eK cM Y v1 x.2] :
  bQ prog 105 [.pointer (some ⟨bc,0,none⟩),.agg #[v0,v1]] I (True) ({ q:Value×List Int×eL code // q.2.1.length<=60 }) (fun q:{ q:Value×List Int×eL code // q.2.1.length<=60 }=>q.1.1) (fun q=>.rd [q.1.1] q.1.2.1::.bk bc (dV vb q.1.2.2)::Y):=⟨fun _ w0=>by
 refine eN hb.perm ?_
 refine aK func105 ntmps105 ?_
 repeat' (first|refine aU ?_|refine cV fun r hr=>?_|refine aW fun r=>?_|refine bT fun b=>?_|refine bV fun hc=>?_|refine bW fun hc=>?_|refine aS (fun hc=>?_) fun hc=>?_|fail)
 all_goals try exact⟨⟨(r.1.1,r.1.2.1,r.1.2.2),by simp only;omega⟩,rfl,aH⟩
 have hok:eE x=true:=by assumption
 have hsg:=(eM.1 hok).1
 have hsl:=eC hsg.1
 have hsig:=hsg.1
 ((refine wbi 4 [] ?_<;>repeat' (first|refine aU ?_|(refine aW fun r=>?_;(try have hr:=Subtype.property r);try ((have hL:=nL hok (k:=r.1.1.toNat) (by omega));(have hLl:=(aX hL).2);have hLm:=uZ hL))|refine xp ?_|(refine xd fun p c d e f g h hf=>?_;simp only[Un.cells,Un.atoms,Un.fact,aA,aB] at f g h hf;subst f g h)|refine xy ?_|fail))<;>refine bI ?_)
 rename Value=>vf
 rename SbT code=>sb
 rename { q:Int×eL code // _ }=>bl
 have hfl:=aPm sb.1.2.1 (x.2.getD bl.1.1.toNat default).1
 generalize (iC sb.1.2.1 (x.2.getD bl.1.1.toNat default).1).getD []=t at hfl ⊢
 repeat' (first|refine aU ?_|refine cV fun r hr=>?_|refine aW fun r=>?_|refine bV fun hc=>?_|refine bW fun hc=>?_|refine aS (fun hc=>?_) fun hc=>?_|fail)
 ·exact⟨⟨(vf,t,r.2),hfl⟩,rfl,dJ vf aH⟩
 ·have hu:=aZn hsig hr.2 (by omega)
  have hpl:=fun k=>aKr x.1 r.1.2.1 k t
  generalize r.1.2.1=u at hu hpl hr ⊢
  repeat' (first|refine aU ?_|refine cV fun r hr=>?_|refine aW fun r=>?_|refine bV fun hc=>?_|refine bW fun hc=>?_|refine aS (fun hc=>?_) fun hc=>?_|refine wN 9 [] ?_|refine xp ?_|refine xy ?_|refine bI ?_|fail)
  all_goals first
   | exact⟨⟨(r.1.1,r.1.2.1,r.1.2.2),by simp only;omega⟩,rfl,aH⟩
   | (
     rename { q:Int×eL code // _ }=>b2
     exact⟨⟨(r,(lN x.1 u b2.1.1.toNat t).getD [],b2.1.2),hpl _⟩,rfl,dJ r aH⟩)
 ·exact⟨⟨(r.1.1,r.1.2.1,r.1.2.2),by simp only;omega⟩,rfl,aH⟩⟩
end Go.Proofs.YtajdgkpjbpindaaGreatDoor
