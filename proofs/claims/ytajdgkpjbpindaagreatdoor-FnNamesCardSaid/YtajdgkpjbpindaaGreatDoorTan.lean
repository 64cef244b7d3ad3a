/- Texts of the proof of FnNames. -/
import Derived.Test.YtajdgkpjbpindaaGreatDoorTai
import Derived.Test.YtajdgkpjbpindaaGreatDoorTam
set_option linter.unusedVariables false
set_option linter.unusedSimpArgs false
set_option linter.unusedSectionVars false
namespace Go.Proofs.YtajdgkpjbpindaaGreatDoor
open Go Go.Eng Tryz
set_option synthInstance.maxHeartbeats 400000
set_option synthInstance.maxSize 1000
set_option maxHeartbeats 4000000
set_option maxRecDepth 20000
attribute [local instance 1250] aAb
instance aDn{I:List Atom}{v1 v2:Value}{a xs:List Int}[h1:bK Int I v1 a][h2:bK Int I v2 xs] :
  bQ prog 239 [.agg #[v1],v2] I (PlC a xs) (Value×PlT a) (fun q:Value×PlT a=>q.1) (fun q=>.rd [q.1] q.2.1::I):=⟨fun hs w0=>by
 exact jS (tC hs) (fun q=>⟨q,rfl,dJ q.1 aH⟩)⟩
attribute [local instance 2000] aDn
structure MkC(x:aQ)(ds:List iR)(s:List Int)(pl:List cJ)(most:List Int):Prop where
 wg:WgC x ds s
 pp:gU x.1 pl
 ml:most.length=gW x.1 x.1.length
 md:Dg1 most
abbrev MkT(x:aQ)(ds:List iR)(s:List Int)(pl:List cJ):Type:={ q:List cJ×Bool // q.2=true->oM x.1 q.1/\q.1.take x.1.length=pl/\aHx x ds s q.1/\0<(aHp x ds s q.1).length }
theorem aY8{a:List Int}{pl pm:List cJ}(h1:gU a pl)(h2:gU a pm):oM a (pl++pm)/\(pl++pm).take a.length=pl:=by
 have e1:(pl++pm).take a.length=pl:=by rw[← h1.2.1];exact List.take_left
 have e2:(pl++pm).drop a.length=pm:=by rw[← h1.2.1];exact List.drop_left
 have l1:=h1.2.1
 have l2:=h2.2.1
 exact⟨⟨by rw[aD];omega,by rw[e1];exact h1,by rw[e2];exact h2⟩,e1⟩
theorem aYc{n i j:Nat}{m:Bool}(hj:j<4 ^ n)(h:m=true->i<j):(if m=true then 4 ^ n-j+1 else 0)<(if true=true then 4 ^ n-i+1 else 0):=by
 rw[if_pos rfl]
 cases m with
 | false=>rw[if_neg (by decide)];omega
 | true=>have:=h rfl;rw[if_pos rfl];omega
instance bAl{I:List Atom}{v0 v1 vd vs vp vm:Value}{x:aQ}{ds:List iR}{s most:List Int}{pl:List cJ}[h0:eK Int I v0 x.1][h1:eK cM I v1 x.2][h4:eK iR I vd ds][h2:eK Int I vs s][h3:eK cJ I vp pl][h5:eK Int I vm most] :
  bQ prog 335 [.agg #[v0,v1],vd,vs,vp,vm] I (MkC x ds s pl most) (Value×MkT x ds s pl) (fun q:Value×MkT x ds s pl=>.tuple #[q.1,.bool q.2.1.2]) (fun q=>.rd [q.1] q.2.1.1::I):=⟨fun hs w0=>by
 obtain ⟨hwg,hpp,hml,hmd⟩:=hs
 have hsa:=(eM.1 hwg.ok).1.1
 have hsg:=eC hsa
 have hmx:=lF hsa x.1.length (aM _)
 have hll:=hpp.2.1
 refine aK func335 ntmps335 ?_
 repeat' (first|refine aU ?_|refine bG fun sv=>?_|refine bT fun b=>?_|fail)
 refine lp_ [12,13] [22,23,24,25,26,27,28,29,30,14,32,33,34,35,36,31,37,38,15,16,39,40,41,42,43,44,45,10,11,47,48,49,46,50,51,17,18,52,53] (Z:=Value×List Int×Bool) (fun k=>[k.1,.bool k.2.2]) (fun k=>[.ow [k.1] k.2.1]) (fun k=>k.2.1.length=most.length/\Dg1 k.2.1) (fun k=>if k.2.2=true then 4 ^ most.length-nY k.2.1+1 else 0) (sv,List.replicate most.length 0,true) [.ow [sv] (List.replicate most.length (0:Int))] ⟨by simp,fun q hq=>by have:=(List.mem_replicate.1 hq).2;omega⟩ ?_
 intro ⟨sq,xs,mo⟩ u l' hl' ⟨hxl,hxd⟩
 simp only[bM,List.map,List.set] at hl'
 subst hl'
 simp only[aA,aB] at hxl hxd ⊢
 have hv:=oC hxd.dig
 rw[hxl] at hv
 cases mo with
 | false=>
  repeat' (first|refine aU ?_|refine bG fun sv=>?_|fail)
  exact⟨(sv,⟨([],false),fun h=>nomatch h⟩),rfl,dJ sv aH⟩
 | true=>
  have hplc:PlC x.1 xs:=⟨hsa,by omega,hxd.n⟩
  have hnxc:NxC xs most:=⟨hxl,by omega,hxd,hmd⟩
  have hlm:(List.map Sh.mk pl).length=x.1.length:=by rw[aY];exact hll
  repeat' (first|refine aU ?_|fail)
  ((refine wbi 4 [] ?_<;>repeat' (first|refine aU ?_|refine bG fun sv=>?_|(refine aW fun r=>?_;(try have hr:=Subtype.property r);try (have hr2:=r.2.2.2.1))|refine xp ?_|refine xy ?_|fail))<;>refine bI ?_)
  repeat' (first|refine aU ?_|fail)
  refine aG8 sv ?_
  simp only[cG,uD]
  obtain ⟨hmk,hpt⟩:=aY8 hpp r.2.2
  rename Value×PlT x.1=>q
  repeat' (first|refine aU ?_|refine cV fun r hr=>?_|refine aW fun r=>?_|refine bV fun hc=>?_|refine bW fun hc=>?_|refine aS (fun hc=>?_) fun hc=>?_|fail)
  ·exact⟨(sv,⟨(pl++q.2.1,true),fun _=>⟨hmk,hpt,by assumption,by simp only;omega⟩⟩),rfl,aH⟩
  all_goals
   have hr3:=r.2.2
   have hvr:=oC hr3.2.1.dig
   rw[hr3.1.trans hxl] at hvr
   exact eB (r.1,r.2.1.1,r.2.1.2) ⟨hr3.1.trans hxl,hr3.2.1⟩ (aYc hvr hr3.2.2)⟩
abbrev FmT(x:aQ)(s:List Int):Type:={ q:List cJ×Bool // q.2=true->xA x s q.1/\0<(aGj x s q.1).length }
instance aUw{I:List Atom}{v0 v1 vs:Value}{x:aQ}{s:List Int}[h0:eK Int I v0 x.1][h1:eK cM I v1 x.2][h2:eK Int I vs s] :
  bQ prog 301 [.agg #[v0,v1],vs] I (True) (Value×FmT x s) (fun q:Value×FmT x s=>.tuple #[q.1,.bool q.2.1.2]) (fun q=>.rd [q.1] q.2.1.1::I):=⟨fun _ w0=>by
 have hpl:=kR x
 by_cases hP:iY x/\xZ (eP x).length s
 ·obtain ⟨hok,hst⟩:=hP
  have hph:=nU hok
  have hsl:=hst.len
  have hsa:=(eM.1 hok.1).1.1
  have hsg:=eC hsa
  have hmx:=lF hsa x.1.length (aM _)
  have hhd:HdC (eP x) s:=⟨hpl,hst,fun k hk=>by
   have h:=hph.c.tm k hk
   have h1:=aX h.1
   have h2:=aX h.2
   omega⟩
  refine aK func301 ntmps301 ?_
  repeat' (first|refine aU ?_|refine cV fun r hr=>?_|refine aW fun r=>?_|refine bG fun sv=>?_|refine bT fun b=>?_|refine bV fun hc=>?_|refine bW fun hc=>?_|refine aS (fun hc=>?_) fun hc=>?_|refine wb 4 [] ?_|refine xp ?_|refine xy ?_|refine bI ?_|fail)
  ·exact absurd hok hc
  ·exact absurd hst hc
  ·rename Value×MsT x.1=>ms
   obtain ⟨vm,mst,hml,hmd⟩:=ms
   simp only
   rename_i pv _ _
   refine fC pv ?_
   refine fC vm ?_
   refine lc_ [9,10] [40,41,42,43,46,47,48,49,50,51,52,44,45] (Z:=Int×Nat) (fun k=>[.int .i64 k.1,.int .i64 k.2]) (fun k=>k.2<=mst.length/\-1<=k.1/\k.1<=20000) (fun k=>mst.length-k.2) (1,0) ⟨aI _,by decide,by decide⟩ ?_
   intro ⟨tr,k⟩ u l' hl' ⟨hk,ht1,ht2⟩
   simp only[bM,List.map,List.set] at hl'
   subst hl'
   simp only at hk ht1 ht2 ⊢
   by_cases hkl:k<mst.length
   ·have hmk:=hmd _ (eD hkl)
    repeat' (first|refine aU ?_|refine eF fun hbi=>?_|refine bP ?_|refine cV fun r hr=>?_|refine aW fun r=>?_|refine bV fun hc=>?_|refine bW fun hc=>?_|refine aS (fun hc=>?_) fun hc=>?_|fail)
    exact eB (r.1,k+1) ⟨by simp only;omega,r.2⟩
   ·obtain rfl:k=mst.length:=by omega
    have hq:((mst.length:Nat):Int).tdiv 2=((gW x.1 x.1.length:Nat):Int):=by
     rw[Int.tdiv_eq_ediv_of_nonneg (by omega)];omega
    repeat' (first|refine aU ?_|refine bP ?_|refine bG fun sv=>?_|refine bV fun hc=>?_|refine bW fun hc=>?_|refine aS (fun hc=>?_) fun hc=>?_|fail)
    simp only[hq,bH]
    refine lp_ [12,13] [60,61,62,63,64,14,65,66,67,69,70,71,72,73,74,75,76,68,77,78,15,16,79,80,4,5,82,83,84,85,86,81,87,88,17,18,89,90] (Z:=Value×List Int×Bool) (fun k=>[k.1,.bool k.2.2]) (fun k=>[.ow [k.1] k.2.1]) (fun k=>k.2.1.length=gW x.1 x.1.length/\Dg1 k.2.1) (fun k=>if k.2.2=true then 4 ^ gW x.1 x.1.length-nY k.2.1+1 else 0) (sv,List.replicate (gW x.1 x.1.length) 0,decide (0<tr)) [.ow [sv] (List.replicate (gW x.1 x.1.length) (0:Int))] ⟨by simp,fun q hq=>by have:=(List.mem_replicate.1 hq).2;omega⟩ ?_
    intro ⟨sq,xs,mo⟩ u l' hl' ⟨hxl,hxd⟩
    simp only[bM,List.map,List.set] at hl'
    subst hl'
    simp only[aA,aB] at hxl hxd ⊢
    have hv:=oC hxd.dig
    rw[hxl] at hv
    cases mo with
    | false=>
     repeat' (first|refine aU ?_|refine bG fun sv=>?_|fail)
     exact⟨(sv,⟨([],false),fun h=>nomatch h⟩),rfl,dJ sv aH⟩
    | true=>
     have hplc:PlC x.1 xs:=⟨hsa,hxl,hxd.n⟩
     have hdt:∀ n,Dg1 (mst.take n):=fun n q h=>hmd q (List.mem_of_mem_take h)
     have hdd:∀ n,Dg1 (mst.drop n):=fun n q h=>hmd q (List.mem_of_mem_drop h)
     have hnxc:NxC xs (mst.take (gW x.1 x.1.length)):=⟨by rw[aN];omega,by rw[aN];omega,hxd,hdt _⟩
     have hdl:(mst.drop (gW x.1 x.1.length)).length=gW x.1 x.1.length:=by rw[aR];omega
     have hwg:WgC x (eP x) s:=⟨hok.1,hpl,hst⟩
     have hnl:∀ r:Value×NxT xs,nY r.2.1.1<4 ^ gW x.1 x.1.length:=fun r=>by
      have h:=oC r.2.2.2.1.dig
      rwa [r.2.2.1.trans hxl] at h
     repeat' (first|refine aU ?_|refine cV fun r hr=>?_|refine aW fun r=>?_|refine bG fun sv=>?_|refine bV fun hc=>?_|refine bW fun hc=>?_|refine aS (fun hc=>?_) fun hc=>?_|fail)
     ·rename Value×PlT x.1=>q
      have hmc:MkC x (eP x) s q.2.1 (mst.drop (gW x.1 x.1.length)):=⟨hwg,q.2.2,hdl,hdd _⟩
      repeat' (first|refine aU ?_|refine cV fun r hr=>?_|refine aW fun r=>?_|refine bG fun sv=>?_|refine bV fun hc=>?_|refine bW fun hc=>?_|refine aS (fun hc=>?_) fun hc=>?_|refine wb 16 [] ?_|refine xp ?_|refine xy ?_|refine bI ?_|fail)
      ·obtain ⟨g1,g2,g3,g4⟩:=r.2.2 hc
       have hW:xA x s r.2.1.1:=⟨hok,hst,g1,by rw[g2];assumption,g3⟩
       exact⟨(r.1,⟨(r.2.1.1,true),fun _=>⟨hW,by rw[aJp hW];exact g4⟩⟩),rfl,aH⟩
      ·exact eB (r.1,r.2.1.1,r.2.1.2) ⟨r.2.2.1.trans hxl,r.2.2.2.1⟩ (aYc (hnl r) r.2.2.2.2)
     ·exact eB (r.1,r.2.1.1,r.2.1.2) ⟨r.2.2.1.trans hxl,r.2.2.2.1⟩ (aYc (hnl r) r.2.2.2.2)
 ·refine aK func301 ntmps301 ?_
  repeat' (first|refine aU ?_|refine cV fun r hr=>?_|refine aW fun r=>?_|refine bG fun sv=>?_|refine bT fun b=>?_|refine bV fun hc=>?_|refine bW fun hc=>?_|refine aS (fun hc=>?_) fun hc=>?_|fail)
  ·exact⟨(sv,⟨([],false),fun h=>nomatch h⟩),rfl,dJ sv aH⟩
  ·exact⟨(sv,⟨([],false),fun h=>nomatch h⟩),rfl,dJ sv aH⟩
  ·exact absurd ⟨by assumption,by assumption⟩ hP⟩
end Go.Proofs.YtajdgkpjbpindaaGreatDoor
namespace Go.Proofs.YtajdgkpjbpindaaGreatDoor
open Go Go.Eng Tryz
set_option synthInstance.maxHeartbeats 400000
set_option synthInstance.maxSize 1000
set_option maxHeartbeats 4000000
set_option maxRecDepth 20000
theorem aD1{m:Nat}:∀ {xs:List cJ},(∀ q∈xs,q.2.length<=m)->nA.size xs<=xs.length*(1+m)
 | [],_=>by simp [iE,nR]
 | q::xs,h=>by
  have h1:=aD1 (xs:=xs) fun z hz=>h z (by simp [hz])
  have h2:=h q (by simp)
  have h3:nA.size q=q.2.length:=by rw[nM,aH0,lE,cR]
  rw[iE] at h1 ⊢
  have h4:nR (q::xs)=nA.size q+nR xs:=rfl
  rw[h4,h3,aF,Nat.succ_mul]
  omega
theorem aYg{a:List Int}{ps:List cJ}(h:oM a ps):nA.size ps<=64:=by
 have hsg:=eC h.p.1
 have hl:=h.l
 have hm:∀ q∈ps,q.2.length<=3:=fun q hq=>by
  have key:∀ qs:List cJ,gU a qs->q∈qs->q.2.length<=3:=fun qs hp hm=>by
   obtain ⟨i,hi,e⟩:=cO hm
   have h1:=(hp.2.2 i hi).2.1
   have h2:=fM hp.1 (k:=i) (by have:=hp.2.1;omega)
   rw[aC,aG hi,aZ,e] at h1
   omega
  rw[← dF a.length ps] at hq
  rcases aP.1 hq with hq|hq
  ·exact key _ h.p hq
  ·exact key _ h.q hq
 have:=aD1 hm
 omega
structure bNm(s:List Int)(t:eG):Prop where
 p:t.1=s
 g:t.2.2.2.Sublist s
 gp:0<t.2.2.2.length
 sz:nA.size t<=1000
abbrev wI(s:List Int):Type:={ t:eG×Bool // t.2=true->bNm s t.1 }
instance bF4{I:List Atom}{v0 v1 vs:Value}{x:aQ}{s:List Int}[h0:eK Int I v0 x.1][h1:eK cM I v1 x.2][h2:eK Int I vs s] :
  bQ prog 244 [.agg #[v0,v1],vs] I (True) ((Value×Value×Value×Value)×wI s) (fun q:(Value×Value×Value×Value)×wI s=>.tuple #[.agg #[q.1.1,q.1.2.1,q.1.2.2.1,q.1.2.2.2],.bool q.2.1.2]) (fun q=>.rd [q.1.1] q.2.1.1.1::.rd [q.1.2.1] q.2.1.1.2.1::.rd [q.1.2.2.1] q.2.1.1.2.2.1::.rd [q.1.2.2.2] q.2.1.1.2.2.2::I):=⟨fun _ w0=>by
 have hpl:=kR x
 refine aK func244 ntmps244 ?_
 repeat' (first|refine aU ?_|refine cV fun r hr=>?_|refine aW fun r=>?_|refine bT fun b=>?_|refine bV fun hc=>?_|refine bW fun hc=>?_|refine aS (fun hc=>?_) fun hc=>?_|fail)
 ·rename Value×FpT x s=>f
  obtain ⟨hP,hg⟩:=f.2.2.2 hc
  have h1:=f.2.2.1
  have h2:=hP.st.len
  have h3:=(aLa x s f.2.1.1).length_le
  exact⟨((vs,f.1,.slice none 0 0,r),⟨((s,f.2.1.1,[],aGc x s f.2.1.1),true),fun _=>⟨rfl,aLa x s _,hg,by simp only[nM,lE];have:nA.size ([]:List cJ)=0:=rfl;omega⟩⟩),rfl,aHw vs (dJ r (dJ f.1 aH))⟩
 ·rename Value×FmT x s=>f
  obtain ⟨hP,hg⟩:=f.2.2 hc
  have h1:=aYg hP.mm
  have h2:=hP.st.len
  have h3:=(aKg x s f.2.1.1).length_le
  exact⟨((vs,.slice none 0 0,f.1,r),⟨((s,[],f.2.1.1,aGj x s f.2.1.1),true),fun _=>⟨rfl,aKg x s _,hg,by simp only[nM,lE,aL];omega⟩⟩),rfl,aHw vs (dJ r aH)⟩
 ·exact⟨((.slice none 0 0,.slice none 0 0,.slice none 0 0,.slice none 0 0),⟨(([],[],[],[]),false),fun h=>nomatch h⟩),rfl,aH⟩⟩
instance aCv{I:List Atom}{vg vs:Value}{g:List (List Int)}{s:List Int}[h0:bK (List Int) I vg g][h1:bK Int I vs s] :
  bQ prog 242 [vg,vs] I (aTf g s) (Value×aFg g.length s) (fun q:Value×aFg g.length s=>q.1) (fun q=>.ow [q.1] (q.2.1.map Sh.mk)::I):=⟨fun hs w0=>by
 exact jS (aDx hs) (fun q=>⟨q,rfl,nP q.1⟩)⟩
attribute [local instance 2000] aCv
abbrev TrT:Type:={ q:List eG×Bool // q.1.length<=64/\nA.size q.1<=100000 }
theorem aOm{n:Nat}{s:List Int}{ps:List (List Int)}(h:aSc n s ps):(List.map Sh.mk ps).length<=s.length:=by
 rw[aY]
 exact Nat.le_trans (rQ ps fun q hq=>(h.pt q hq).2) h.sum
theorem aQ7(xs:List eG)(t:eG):nA.size (xs++[t])=nA.size xs+(1+nA.size t):=by
 induction xs with
 | nil=>rw[aB,iE,iE];simp [nR]
 | cons x xs ih=>
  rw[iE] at ih
  rw[aA,iE,iE]
  rw[iE] at ih
  simp only[nR,aF] at ih ⊢
  omega
theorem bBr{s g:List Int}(h:g.Sublist s)(hp:0<g.length):(s.filter fun v=>kZ (v∉g)).length<s.length:=by
 refine List.length_filter_lt_length_iff_exists.2 ?_
 cases g with
 | nil=>simp at hp
 | cons z g=>exact⟨z,h.subset (by simp),by rw[eV (fun hn=>hn (by simp))];decide⟩
structure TdP(n:Nat)(td:List (List Int))(ot:List eG):Prop where
 pt:∀ q∈td,xZ n q/\0<q.length
 le:td.flatten.length+ot.length<=64
 sz:nA.size ot<=1001*ot.length
theorem aLl{n m:Nat}{s:List Int}{ps:List (List Int)}(e:n=m)(h:aSc n s ps):aSc m s ps:=e▸h
theorem bC2{n:Nat}{td:List (List Int)}{ot:List eG}{t:eG}{less:List Int}{ps:List (List Int)}(h:TdP n td ot)(htd:0<td.length)(hl:less.length<(td.getD 0 default).length)(hz:nA.size t<=1000)(hp:aSc n less ps):TdP n (ps++td.drop 1) (ot++[t])/\(ps++td.drop 1).flatten.length<td.flatten.length:=by
 cases td with
 | nil=>simp at htd
 | cons q td=>
  have h1:=hp.sum
  have h2:=h.le
  have h3:=h.sz
  have h4:less.length<q.length:=hl
  have e1:(ps++(q::td).drop 1).flatten.length=ps.flatten.length+td.flatten.length:=by
   rw[List.flatten_append,aD];rfl
  have e2:(q::td).flatten.length=q.length+td.flatten.length:=by rw[List.flatten_cons,aD]
  have e3:(ot++[t]).length=ot.length+1:=by rw[aD];rfl
  refine⟨⟨fun z hz=>?_,by omega,by rw[aQ7];omega⟩,by omega⟩
  rcases aP.1 hz with hz|hz
  ·exact hp.pt z hz
  ·exact h.pt z (List.mem_cons_of_mem _ hz)
instance bF2{I:List Atom}{v0 v1:Value}{x:aQ}[h0:eK Int I v0 x.1][h1:eK cM I v1 x.2] :
  bQ prog 180 [.agg #[v0,v1]] I (True) (Value×TrT) (fun q:Value×TrT=>.tuple #[q.1,.bool q.2.1.2]) (fun q=>.ow [q.1] (q.2.1.1.map Sh.mk)::I):=⟨fun _ w0=>by
 have hpl:=kR x
 by_cases hok:iY x
 ·have hph:=nU hok
  have hpc:=hph.c
  have hst:=aO6 (eP x).length
  refine aK func180 ntmps180 ?_
  repeat' (first|refine aU ?_|refine cV fun r hr=>?_|refine aW fun r=>?_|refine bG fun sv=>?_|refine bT fun b=>?_|refine bV fun hc=>?_|refine bW fun hc=>?_|refine aS (fun hc=>?_) fun hc=>?_|fail)
  ·exact absurd hok hc
  rename Value×aXt (eP x).length=>gr
  have hgr:=gr.2.2
  have hgl:=hgr.len
  have hfa:aTf gr.2.1 (List.map Int.ofNat (List.range (eP x).length)):=⟨by omega,by rw[hgl];exact hgr,by rw[hgl];exact hst⟩
  repeat' (first|refine aU ?_|refine cV fun r hr=>?_|refine aW fun r=>?_|refine bG fun sv=>?_|fail)
  rename Value×aFg gr.2.1.length (List.map Int.ofNat (List.range (eP x).length))=>pr
  have hpr:=pr.2.2
  have hal:(List.map Int.ofNat (List.range (eP x).length)).length=(eP x).length:=by simp
  have hps:=hpr.sum
  refine fC gr.1 ?_
  refine sH pr.1 ?_
  simp only[uD]
  refine aH1 (V:=eG) (β:=Sh eG) sv rfl ?_
  refine lp_ [7,8] [27,28,29,31,32,33,34,35,30,36,37,9,10,38,39,40,2,3,41,42,43,44,45,46,47,48,49,50,51,52,53,54,55] (Z:=(Value×List (List Int))×(Value×List eG)) (fun k=>[k.1.1,k.2.1]) (fun k=>[.rd [k.1.1] k.1.2,.ow [k.2.1] (k.2.2.map Sh.mk)]) (fun k=>TdP (eP x).length k.1.2 k.2.2) (fun k=>k.1.2.flatten.length) ((pr.1,pr.2.1),(sv,[])) [.rd [pr.1] pr.2.1,.ow [sv] ([]:List (Sh eG))] ⟨fun q hq=>by have h:=hpr.pt q hq;rw[hgl] at h;exact h,by simp only[aL];omega,aI _⟩ ?_
  intro ⟨⟨vt,td⟩,⟨vo,ot⟩⟩ u l' hl' hT
  simp only[bM,List.map,List.set] at hl'
  subst hl'
  simp only[aA,aB] at hT ⊢
  have hfl:=rQ td fun q hq=>(hT.pt q hq).2
  have hle:=hT.le
  have hsz:=hT.sz
  by_cases htd:0<td.length
  ·have hq0:=hT.pt _ (dX htd)
   have hom:(List.map Sh.mk ot).length=ot.length:=aY ..
   have hql:=hq0.1.len
   repeat' (first|refine aU ?_|refine bG fun sv=>?_|refine bV fun hc=>?_|refine bW fun hc=>?_|refine aS (fun hc=>?_) fun hc=>?_|refine bT fun b=>?_|refine cV fun r hr=>?_|refine aW fun r=>?_|refine wb 8 [] ?_|refine xp ?_|(refine xd fun p c d e f g h hf=>?_;simp only[Un.cells,Un.atoms,Un.fact,aA,aB] at f g h hf;subst f g h)|refine xy ?_|refine x2 ?_ ?_|refine bI ?_|fail)
   all_goals try exact⟨(sv,⟨([],false),by simp,aI _⟩),rfl,aPs sv aH⟩
   all_goals
    rename Value=>vo2
    rename (Value×Value×Value×Value)×wI (td.getD 0 default)=>st
    obtain ⟨hp,hg,hgp,hsz2⟩:=st.2.2 (by assumption)
    have hlt:=bBr hg hgp
    have hfa2:aTf gr.2.1 ((td.getD 0 default).filter fun v=>kZ (v∉st.2.1.1.2.2.2)):=⟨by omega,by rw[hgl];exact hgr,by rw[hgl];exact hq0.1.sub List.filter_sublist⟩
    have hnx:∀ ps:aFg gr.2.1.length ((td.getD 0 default).filter fun v=>kZ (v∉st.2.1.1.2.2.2)),TdP (eP x).length (ps.1++td.drop 1) (ot++[st.2.1.1])/\(ps.1++td.drop 1).flatten.length<td.flatten.length:=fun ps=>bC2 hT htd hlt hsz2 (aLl hgl ps.2)
    ((refine wbi 12 [] ?_<;>repeat' (first|refine aU ?_|refine bG fun sv=>?_|(refine aW fun r=>?_;(try have hr:=Subtype.property r);try (have hrr:=aOm r.2.2))|refine xp ?_|refine xy ?_|refine x2 ?_ ?_|fail))<;>refine bI ?_)
    repeat' (first|refine aU ?_|fail)
    all_goals
     rename Value×aFg gr.2.1.length ((td.getD 0 default).filter fun v=>kZ (v∉st.2.1.1.2.2.2))=>ps
     exact dH ((sv,ps.2.1++td.drop 1),(vo2,ot++[st.2.1.1])) (hnx ps.2).1 (hnx ps.2).2 (by kernel_rfl) (by simp only[← cG];exact iN (ys:=ps.2.1++td.drop 1) sv aH)
  ·obtain rfl:td=[]:=List.length_eq_zero_iff.1 (by omega)
   simp only[List.flatten_nil,aL] at hle hfl
   repeat' (first|refine aU ?_|refine bV fun hc=>?_|refine bW fun hc=>?_|refine aS (fun hc=>?_) fun hc=>?_|fail)
   exact⟨(vo,⟨(ot,true),by simp only;omega,by simp only;omega⟩),rfl,aH⟩
 ·refine aK func180 ntmps180 ?_
  repeat' (first|refine aU ?_|refine cV fun r hr=>?_|refine aW fun r=>?_|refine bG fun sv=>?_|refine bT fun b=>?_|refine bV fun hc=>?_|refine bW fun hc=>?_|refine aS (fun hc=>?_) fun hc=>?_|fail)
  ·exact⟨(sv,⟨([],false),by simp,aI _⟩),rfl,aPs sv aH⟩
  ·exact absurd hc hok⟩
end Go.Proofs.YtajdgkpjbpindaaGreatDoor
