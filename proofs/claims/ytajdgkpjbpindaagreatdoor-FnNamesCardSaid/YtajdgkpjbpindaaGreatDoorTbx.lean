/- Texts of the proof of FnNames. -/
import Derived.Test.YtajdgkpjbpindaaGreatDoorTbg
import Derived.Test.YtajdgkpjbpindaaGreatDoorTbj
import Derived.Test.YtajdgkpjbpindaaGreatDoorTbw
import Derived.LaidMore
import Derived.Stop.Joined
import Derived.SevenTiedAt
set_option linter.unusedVariables false
set_option linter.unusedSimpArgs false
set_option linter.unusedSectionVars false
namespace Go.Proofs.YtajdgkpjbpindaaGreatDoor
open Go Go.Eng Tryz
set_option synthInstance.maxHeartbeats 400000
set_option synthInstance.maxSize 1000
set_option maxHeartbeats 4000000
set_option maxRecDepth 20000
theorem bJ2(a:List Int)(n:dK)(h:∀ x∈n.2.1,aCf x)(h':∀ x∈n.2.2.2,aCf x):(ndT a n).size<=100000:=by
 unfold ndT
 split
 ·rename_i hp
  obtain ⟨h1,h2,h3⟩:=hp
  have hnp:nJ n 64:=of_decide_eq_true h2
  obtain ⟨⟨_,hk1,hk2⟩,⟨ha,hb,hc⟩,hd,he⟩:=id hnp
  have e1:=wV n.2.1 h
  have e2:=wV n.2.2.2 h'
  have e3:=aL0 n.1
  have e4:(trT a n.2.2.1).size<=40000:=by
   unfold trT
   split
   ·rw[eZ];simp
   ·rw[eZ]
    have hlen:=(pV 59 (tT a n.2.2.1) n.2.2.1.length).1
    have hs2:=aF5 (tT a n.2.2.1) 480 (fun s hs=>by
     obtain ⟨t,ht,rfl⟩:=dT.1 hs
     obtain ⟨i,hi,rfl⟩:=cO ht
     have hok:=h3 i hi
     have hl:=aIu hnp hi
     rw[aC,aG hi,aZ] at hok hl
     have hpos:=aX hok
     have:=qO hok _ 0 (by omega) (aM _)
     have hsl:(eX a n.2.2.1[i] 0).length<=n.2.2.1[i].length:=by
      unfold eX;rw[aN,aR];omega
     rw[eZ]
     omega) n.2.2.1.length
    omega
  simp only[aU9]
  have:(S [32]).size=1:=rfl
  omega
 ·exact aI _
instance aCq{I:List Atom}{v va vb vc:Value}{a:List Int}{n:dK}[h:bK Int I v a][ha:bK Int I va n.2.1][hb:bK (List Int) I vb n.2.2.1][hc':bK Int I vc n.2.2.2] :
  bQ prog 18 [.agg #[v],.agg #[.int .i64 n.1,va,vb,vc]] I (-9223372036854775808<=n.1/\n.1<=9223372036854775807) ({ s:ByteArray // s.size<=100000 }) (fun q:{ s:ByteArray // s.size<=100000 }=>.string q.1) (fun _=>I):=⟨fun hk w0=>by
 refine oP va fun h1=>?_
 refine oP vc fun h2=>?_
 exact jS (nQ hk) (fun _=>⟨⟨ndT a n,bJ2 a n h1 h2⟩,rfl,fun w hs=>hs⟩)⟩
instance aK5{I Y:List Atom}{bc:Nat}{vb:Value}{code:List UInt8}{p:eL code}{s:ByteArray}[hb:eO I bc (dV vb p) Y][hv:bK UInt8 Y vb code] :
  bQ prog 20 [.pointer (some ⟨bc,0,none⟩),.string s,.string { data:=#[48,49,44,59,32,45,102,120,40,41] }] I (s.size<=100000) ({ q:ByteArray×eL code // q.1.size<=100002 }) (fun q:{ q:ByteArray×eL code // q.1.size<=100002 }=>.string q.1.1) (fun q=>.bk bc (dV vb q.1.2)::Y):=⟨fun hs w0=>by
 exact jS (aKc (g:={ data:=#[48,49,44,59,32,45,102,120,40,41] }) ⟨by omega,by decide,by decide⟩) (fun q=>⟨⟨q.1,by have:=q.2;omega⟩,rfl,fun w hs=>hs⟩)⟩
section
attribute [local instance 2000] aCq aK5
abbrev DtT:Type:={ q:Value×List Int×ByteArray // q.2.1.length<=9/\q.2.2.size<=1000000 }
instance aTd{I:List Atom}{vc:Value}{code:List UInt8}[hv:bK UInt8 I vc code] :
  bQ prog 7 [vc] I True DtT (fun q:DtT=>.tuple #[.agg #[q.1.1],.string q.1.2.2]) (fun q=>.rd [q.1.1] q.1.2.1::I):=⟨fun _ w0=>by
 refine aK func7 ntmps7 ?_
 repeat' (first|refine aU ?_|refine cV fun r hr=>?_|refine aW fun r=>?_|refine bT fun b=>?_|refine bV fun hc=>?_|refine bW fun hc=>?_|refine aS (fun hc=>?_) fun hc=>?_|refine wN 6 [4] ?_|refine xp ?_|refine x0 ?_|refine xy ?_|refine bI ?_|fail)
 ·rename LnT code=>y
  rename { s:ByteArray // s.size<=100000 }=>z
  exact⟨⟨(y.1.1.1,y.1.2.1,z.1),y.2.1,by have:=z.2;simp only;omega⟩,rfl,aH⟩
 ·rename LnT code=>y
  exact⟨⟨(y.1.1.1,y.1.2.1,r.1.1),y.2.1,by have:=r.2;simp only;omega⟩,rfl,aH⟩⟩
end
theorem bCw{a:List Int}{s:ByteArray}(h:(tnO a s).isSome=true):ndT a (vI a s)=s:=by
 by_cases hc:s.size<=6000/\(gG 32 s.data.toList).length=4
 ·obtain ⟨x,y,z,u,he⟩:=aGq hc.2
  have e:=aO9 (a:=a) hc.1 he
  unfold vI
  rw[e] at h ⊢
  by_cases hp:(mT (S y)).isSome=true/\(sX a (S z)).isSome=true/\(mT (S u)).isSome=true/\eA a=true/\jN (yO (S x),(mT (S y)).getD [],(sX a (S z)).getD [],(mT (S u)).getD []) 64=true
  ·rw[zV hp.1 hp.2.1 hp.2.2.1 hp.2.2.2,aZ]
   exact(aJy he hp.1 hp.2.1 hp.2.2.1).2 hp.2.2.2
  ·rw[aGd hp] at h
   cases h
 ·rw[xO hc] at h
  cases h
theorem bNr:∀ i:Nat,1<=i->i<=12->yO (knT (i:Int))=(i:Int)/\knT (i:Int)≠{ data:=#[] }:=by
 intro i h1 h2
 have h:i=1∨i=2∨i=3∨i=4∨i=5∨i=6∨i=7∨i=8∨i=9∨i=10∨i=11∨i=12:=by omega
 rcases h with rfl|rfl|rfl|rfl|rfl|rfl|rfl|rfl|rfl|rfl|rfl|rfl<;>decide
end Go.Proofs.YtajdgkpjbpindaaGreatDoor
namespace Go.Proofs.YtajdgkpjbpindaaGreatDoor
open Go Go.Eng Go.ChangeShapes Go.WideShapes Go.ChangeAt Go.RowKit Tryz
set_option synthInstance.maxHeartbeats 400000
set_option synthInstance.maxSize 1000
set_option maxHeartbeats 4000000
set_option maxRecDepth 20000
theorem bOg(a:List Int)(s:ByteArray):-9223372036854775808<=(vI a s).1/\(vI a s).1<=9223372036854775807:=by
 by_cases hc:s.size<=6000/\(gG 32 s.data.toList).length=4
 ·obtain ⟨x,y,z,u,he⟩:=aGq hc.2
  have e:=aO9 (a:=a) hc.1 he
  unfold vI
  rw[e]
  by_cases hp:(mT (S y)).isSome=true/\(sX a (S z)).isSome=true/\(mT (S u)).isSome=true/\eA a=true/\jN (yO (S x),(mT (S y)).getD [],(sX a (S z)).getD [],(mT (S u)).getD []) 64=true
  ·rw[zV hp.1 hp.2.1 hp.2.2.1 hp.2.2.2,aZ]
   have:=sI (S x)
   simp only
   omega
  ·rw[aGd hp]
   exact⟨by decide,by decide⟩
 ·unfold vI
  rw[xO hc]
  exact⟨by decide,by decide⟩
theorem aHg{w0:World}{I:List Atom}{v:Value}{code:List UInt8}{m:Int}{e1 e2:GE}[hv:bK UInt8 I v code][hes:dZ (GE) repGE I [esV] e1][her:dZ (GE) repGE I [erV] e2][htab:dZ (Tab) repTab I [tabV] (Tab.mk Lib.pow10Tab)][hmx:dZ (GI) repGI I [mxV] (GI.mk m)] :
  CJ prog 3 [v] w0 I (fun _:Unit=>.bool true) (fun _=>I):=by
 refine aK func3 ntmps3 ?_
 repeat' (first|refine aU ?_|refine cV fun r hr=>?_|refine aW fun r=>?_|refine bV fun hc=>?_|refine bW fun hc=>?_|refine aS (fun hc=>?_) fun hc=>?_|fail)
 ·exact⟨(),rfl,aH⟩
 refine lc_ [3] [14,15,18,19,20,21,22,23,24,25,26,27,2,16,17] (Z:=Nat) (fun i=>[.int .i64 i]) (fun i=>1<=i/\i<=13) (fun i=>13-i) 1 ⟨aM _,by decide⟩ ?_
 intro i u l' hl' ⟨hi1,hi2⟩
 simp only[bM,List.map,List.set] at hl'
 subst hl'
 by_cases hil:i<13
 ·obtain ⟨hk1,hk2⟩:=bNr i hi1 (by omega)
  repeat' (first|refine aU ?_|refine bP ?_|refine cV fun r hr=>?_|refine aW fun r=>?_|refine bV fun hc=>?_|refine bW fun hc=>?_|refine aS (fun hc=>?_) fun hc=>?_|fail)
  ·exact absurd (by assumption) hk2
  ·exact eB (i+1) ⟨by omega,by omega⟩
 ·repeat' (first|refine aU ?_|refine cV fun r hr=>?_|refine aW fun r=>?_|refine bT fun b=>?_|refine bV fun hc=>?_|refine bW fun hc=>?_|refine aS (fun hc=>?_) fun hc=>?_|fail)
  rename DtT=>d
  have hz:=d.2.2
  have hkk:=bOg d.1.2.1 d.1.2.2
  have ht:(tnO d.1.2.1 d.1.2.2).isSome=true->ndT d.1.2.1 (vI d.1.2.1 d.1.2.2)=d.1.2.2:=bCw
  ((refine wb 12 [] ?_<;>repeat' (first|refine aU ?_|refine cV fun r hr=>?_|refine aW fun r=>?_|refine aS (fun hc=>?_) (fun hc=>?_)|refine xp ?_|refine xg ?_|refine xn ?_|refine pM fun hc=>?_|refine pN fun hc=>?_|refine xi (fun hc=>?_) fun hc=>?_|refine xy ?_|fail))<;>refine bI ?_)
  all_goals repeat' (first|refine aU ?_|fail)
  all_goals first
   | exact⟨(),rfl,aH⟩
   | exact absurd rfl ‹¬ aRh _ _ _=aRh _ _ _›
   | exact absurd rfl ‹¬ (tnO _ _).isSome=(tnO _ _).isSome›
   | exact absurd (ht (by assumption)) (by assumption)
theorem FnNames_law{w0:World}{I:List Atom}{x0:List UInt8}{v0_0:Value}{m:Int}{e1 e2:GE}[h0_0:bK UInt8 I v0_0 x0][hes:dZ (GE) repGE I [esV] e1][her:dZ (GE) repGE I [erV] e2][htab:dZ (Tab) repTab I [tabV] (Tab.mk Lib.pow10Tab)][hmx:dZ (GI) repGI I [mxV] (GI.mk m)](hf0:x0.length<=9223372036854775807) :
  CJ prog 3 [v0_0] w0 I (fun _:Unit=>.bool true) (fun _=>I):=aHg
end Go.Proofs.YtajdgkpjbpindaaGreatDoor
