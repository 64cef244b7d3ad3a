/- Texts of the proof of FnNames. -/
import Derived.Test.YtajdgkpjbpindaaGreatDoorTaq
import Derived.Test.YtajdgkpjbpindaaGreatDoorTam
set_option linter.unusedVariables false
set_option linter.unusedSimpArgs false
set_option linter.unusedSectionVars false
namespace Go.Proofs.YtajdgkpjbpindaaGreatDoor
open Go Go.Eng Tryz
set_option synthInstance.maxHeartbeats 400000
set_option synthInstance.maxSize 1000
set_option maxHeartbeats 4000000
set_option maxRecDepth 20000
instance bEs{I:List Atom}{v0 v1 vs vt:Value}{a s t:List Int}{ps:List cJ}[h0:bK Int I v0 a][h1:bK cJ I v1 ps][h2:bK Int I vs s][h3:bK Int I vt t] :
  bQ prog 286 [.agg #[v0],v1,vs,vt] I True Bool (fun q:Bool=>.bool q) (fun _=>I):=⟨fun _ w0=>by
 refine jV (fun w1=>?_) (aE h0 (aE h1 (aE h2 (aE h3 fI))))
 refine aK func286 ntmps286 ?_
 repeat' (first|refine aU ?_|refine cV fun r hr=>?_|refine aW fun r=>?_|refine bT fun b=>?_|refine bV fun hc=>?_|refine bW fun hc=>?_|refine aS (fun hc=>?_) fun hc=>?_|fail)
 all_goals exact⟨_,rfl,aH⟩⟩
instance bBh{I:List Atom}{va v:Value}{a:List Int}{ps:List cJ}[h0:bK Int I va a][h:bK cJ I v ps] :
  bQ prog 285 [.agg #[va],v] I (True) ({ t:Bool // t=true->gU a ps }) (fun q:{ t:Bool // t=true->gU a ps }=>.bool q.1) (fun _=>I):=⟨fun _ w0=>by
 refine jV (fun w1=>?_) (aE h0 (aE h fI))
 refine dQ v fun hlz=>?_
 refine aK func285 ntmps285 ?_
 repeat' (first|refine aU ?_|refine cV fun r hr=>?_|refine aW fun r=>?_|refine bT fun b=>?_|refine bV fun hc=>?_|refine bW fun hc=>?_|refine aS (fun hc=>?_) fun hc=>?_|fail)
 ·exact⟨⟨false,fun h=>nomatch h⟩,rfl,aH⟩
 have hP:gU a ps:=by assumption
 refine lc_ [5] [11,12,13,14,6,17,18,19,20,21,22,23,24,27,28,29,30,31,32,33,34,35,4,25,26,15,16] (Z:=Nat) (fun k=>[.int .i64 k]) (fun k=>k<=ps.length) (fun k=>ps.length-k) 0 (aI _) ?_
 intro i u l' hl' hi
 simp only[bM,List.map,List.set] at hl'
 subst hl'
 by_cases hil:i<ps.length
 ·have hP1:=hP.2.2 i hil
  have hpl:=hP1.2.1
  have hsg:=eC hP.1
  have haf:=fM hP.1 (k:=i) (by have:=hP.2.1;omega)
  repeat' (first|refine aU ?_|refine bV fun hc=>?_|refine bW fun hc=>?_|refine aS (fun hc=>?_) fun hc=>?_|fail)
  refine lc_ [6] [17,18,19,20,21,22,23,24,27,28,29,30,31,32,33,34,35,4,25,26] (Z:=Nat) (fun k=>[.int .i64 k]) (fun k=>k<=(ps.getD i default).2.length) (fun k=>(ps.getD i default).2.length-k) 0 (aI _) ?_
  intro k u2 l2 hl2 hk
  simp only[bM,List.map,List.set] at hl2
  subst hl2
  by_cases hkl:k<(ps.getD i default).2.length
  ·repeat' (first|refine aU ?_|refine eF fun hbi=>?_|refine bP ?_|(refine iH fun p c d f g hf=>?_;simp only[Un.cells,Un.atoms,Un.fact,aA,aB] at f g hf;subst f g)|refine bV fun hc=>?_|refine bW fun hc=>?_|refine aS (fun hc=>?_) fun hc=>?_|fail)
   ·exact⟨⟨false,fun h=>nomatch h⟩,rfl,aH⟩
   ·exact eB (k+1) (by omega)
  ·repeat' (first|refine aU ?_|refine bP ?_|(refine iH fun p c d f g hf=>?_;simp only[Un.cells,Un.atoms,Un.fact,aA,aB] at f g hf;subst f g)|refine bV fun hc=>?_|refine bW fun hc=>?_|refine aS (fun hc=>?_) fun hc=>?_|fail)
   exact eB (i+1) (by omega)
 ·repeat' (first|refine aU ?_|refine bV fun hc=>?_|refine bW fun hc=>?_|refine aS (fun hc=>?_) fun hc=>?_|fail)
  exact⟨⟨true,fun _=>hP⟩,rfl,aH⟩⟩
instance aUy{I:List Atom}{v v' v1:Value}{x:aQ}{ps:List cJ}[h:bK Int I v x.1][h':bK cM I v' x.2][h1:bK cJ I v1 ps] :
  bQ prog 227 [.agg #[v,v'],v1] I (True) ({ t:Bool // t=true->gU x.1 ps/\eE x=true }) (fun q:{ t:Bool // t=true->gU x.1 ps/\eE x=true }=>.bool q.1) (fun _=>I):=⟨fun _ w0=>by
 refine jV (fun w1=>?_) (aE h (aE h' (aE h1 fI)))
 refine dQ v' fun hlr=>?_
 refine aK func227 ntmps227 ?_
 repeat' (first|refine aU ?_|refine cV fun r hr=>?_|refine aW fun r=>?_|refine bT fun b=>?_|refine bV fun hc=>?_|refine bW fun hc=>?_|refine aS (fun hc=>?_) fun hc=>?_|fail)
 all_goals try exact⟨⟨false,fun h=>nomatch h⟩,rfl,aH⟩
 have hok:eE x=true:=by assumption
 have hP:gU x.1 ps:=hr (by assumption)
 refine lc_ [5] [16,17,18,19,20,23,24,25,26,27,28,29,30,31,32,33,34,35,36,37,38,39,4,21,22] (Z:=Nat) (fun k=>[.int .i64 k]) (fun k=>k<=x.2.length) (fun k=>x.2.length-k) 0 (aI _) ?_
 intro i u l' hl' hi
 simp only[bM,List.map,List.set] at hl'
 subst hl'
 by_cases hil:i<x.2.length
 ·repeat' (first|refine aU ?_|refine bP ?_|refine bV fun hc=>?_|refine bW fun hc=>?_|refine aS (fun hc=>?_) fun hc=>?_|refine cV fun r hr=>?_|refine aW fun r=>?_|refine wb 6 [] ?_|refine xp ?_|(refine xd fun p c d e f g h hf=>?_;simp only[Un.cells,Un.atoms,Un.fact,aA,aB] at f g h hf;subst f g h)|refine xy ?_|refine bI ?_|fail)
  ·exact⟨⟨false,fun h=>nomatch h⟩,rfl,aH⟩
  ·exact eB (i+1) (by omega)
 ·repeat' (first|refine aU ?_|refine bV fun hc=>?_|refine bW fun hc=>?_|refine aS (fun hc=>?_) fun hc=>?_|fail)
  exact⟨⟨true,fun _=>⟨hP,hok⟩⟩,rfl,aH⟩⟩
theorem aPz{n i j:Nat}{m:Bool}(h:m=true->j<16 ^ n/\i<j):(if m=true then 16 ^ n-j+1 else 0)<(if true=true then 16 ^ n-i+1 else 0):=by
 rw[if_pos rfl]
 cases m with
 | false=>rw[if_neg (by decide)];omega
 | true=>have:=h rfl;rw[if_pos rfl];omega
abbrev bNl(a:List Int):Type:={ q:List cJ×Bool // q.2=true->gU a q.1 }
instance aY3{I:List Atom}{v0 v1:Value}{x:aQ}{m:Int}[h0:eK Int I v0 x.1][h1:eK cM I v1 x.2] :
  bQ prog 179 [.agg #[v0,v1],.int .i64 m] I (True) (Value×bNl x.1) (fun q:Value×bNl x.1=>.tuple #[q.1,.bool q.2.1.2]) (fun q=>.rd [q.1] q.2.1.1::I):=⟨fun _ w0=>by
 by_cases hok:eE x=true
 ·have hsa:=(eM.1 hok).1.1
  have hsg:=eC hsa
  have hmx:=lF hsa x.1.length (aM _)
  refine aK func179 ntmps179 ?_
  repeat' (first|refine aU ?_|refine cV fun r hr=>?_|refine aW fun r=>?_|refine bG fun sv=>?_|refine bT fun b=>?_|refine bV fun hc=>?_|refine bW fun hc=>?_|refine aS (fun hc=>?_) fun hc=>?_|fail)
  ·exact⟨(sv,⟨([],false),fun h=>nomatch h⟩),rfl,dJ sv aH⟩
  ·exact⟨(sv,⟨([],false),fun h=>nomatch h⟩),rfl,dJ sv aH⟩
  obtain ⟨hrl,hrd⟩:=r.2.2
  have hmm:=hr.2.2 (.inr (by assumption))
  repeat' (first|refine aU ?_|refine cV fun r hr=>?_|refine aW fun r=>?_|fail)
  rename_i rc
  refine lp_ [9,10] [34,35,36,37,38,11,39,40,41,42,4,5,44,45,46,47,43,48,49,12,13,50,51] (Z:=Value×List Int×Bool) (fun k=>[k.1,.bool k.2.2]) (fun k=>[.ow [k.1] k.2.1]) (fun k=>k.2.1.length=gW x.1 x.1.length/\uM k.2.1) (fun k=>if k.2.2=true then 16 ^ gW x.1 x.1.length-lJ k.2.1+1 else 0) (r,rc.2.1,true) [.ow [r] rc.2.1] ⟨hrl,hrd⟩ ?_
  intro ⟨sq,xs,mo⟩ u l' hl' ⟨hxl,hxd⟩
  simp only[bM,List.map,List.set] at hl'
  subst hl'
  simp only[aA,aB] at hxl hxd ⊢
  cases mo with
  | false=>
   repeat' (first|refine aU ?_|refine bG fun sv=>?_|fail)
   exact⟨(sv,⟨([],false),fun h=>nomatch h⟩),rfl,dJ sv aH⟩
  | true=>
   have hpc:PlC x.1 xs:=⟨hsa,hxl,hxd⟩
   have hnw:NwC xs rc.2.1 m:=⟨by omega,by omega,by omega,hxd,hrd⟩
   repeat' (first|refine aU ?_|refine cV fun r hr=>?_|refine aW fun r=>?_|refine bV fun hc=>?_|refine bW fun hc=>?_|refine aS (fun hc=>?_) fun hc=>?_|fail)
   ·rename Value×PlT x.1=>q
    exact⟨(q.1,⟨(q.2.1,true),fun _=>q.2.2⟩),rfl,dJ q.1 aH⟩
   ·obtain ⟨h1,h2,h3⟩:=r.2.2
    have hv:=sD h2
    rw[h1.trans hxl] at hv
    exact eB (r.1,r.2.1.1,r.2.1.2) ⟨h1.trans hxl,h2⟩ (aPz fun h=>⟨hv,h3 h⟩)
 ·refine aK func179 ntmps179 ?_
  repeat' (first|refine aU ?_|refine cV fun r hr=>?_|refine aW fun r=>?_|refine bG fun sv=>?_|refine bT fun b=>?_|refine bV fun hc=>?_|refine bW fun hc=>?_|refine aS (fun hc=>?_) fun hc=>?_|fail)
  ·exact⟨(sv,⟨([],false),fun h=>nomatch h⟩),rfl,dJ sv aH⟩
  ·exact absurd (by assumption) hok
  ·exact absurd (by assumption) hok⟩
abbrev bBs(a:List Int):Type:={ q:(Int×List Int×List Int)×Bool // q.2=true->WtP a q.1.1 q.1.2.1 q.1.2.2 }
instance bAp{I:List Atom}{v0 v1 vs:Value}{x:aQ}{sy:List Int}[h0:eK Int I v0 x.1][h1:eK cM I v1 x.2][h2:eK Int I vs sy] :
  bQ prog 236 [.agg #[v0,v1],vs] I (sy.length<=8) ((Value×Value)×bBs x.1) (fun q:(Value×Value)×bBs x.1=>.tuple #[.agg #[.int .i64 q.2.1.1.1,q.1.1,q.1.2],.bool q.2.1.2]) (fun q=>.rd [q.1.1] q.2.1.1.2.1::.rd [q.1.2] q.2.1.1.2.2::I):=⟨fun hs w0=>by
 refine aK func236 ntmps236 ?_
 repeat' (first|refine aU ?_|refine cV fun r hr=>?_|refine aW fun r=>?_|refine bT fun b=>?_|fail)
 have hd0:uM ((List.range sy.length).map Int.ofNat):=fun q hq=>by
  obtain ⟨y,hy,rfl⟩:=dT.1 hq
  have:=List.mem_range.1 hy
  simp only[Int.ofNat_eq_natCast];omega
 refine lp_ [7] [15,16,17,18,19,5,21,22,23,20,24,25,8,9,26,27,28] (Z:=Value×List Int×Bool) (fun k=>[.bool k.2.2]) (fun k=>[.bk b [.int .i64 1,vs,k.1],.ow [k.1] k.2.1]) (fun k=>k.2.2=true->k.2.1.length=sy.length/\uM k.2.1) (fun k=>if k.2.2=true then 16 ^ sy.length-lJ k.2.1+1 else 0) (r,(List.range sy.length).map Int.ofNat,true) [.bk b [.int .i64 1,vs,r],.ow [r] ((List.range sy.length).map Int.ofNat)] (fun _=>⟨by simp,hd0⟩) ?_
 intro ⟨sq,xs,mo⟩ u l' hl' hI
 simp only[bM,List.map,List.set] at hl'
 subst hl'
 simp only[aA,aB] at hI ⊢
 cases mo with
 | false=>
  repeat' (first|refine aU ?_|fail)
  exact⟨((.slice none 0 0,.slice none 0 0),⟨((0,[],[]),false),fun h=>nomatch h⟩),rfl,aH⟩
 | true=>
  obtain ⟨hxl,hxd⟩:=hI rfl
  repeat' (first|refine aU ?_|refine cV fun r hr=>?_|refine aW fun r=>?_|refine bV fun hc=>?_|refine bW fun hc=>?_|refine aS (fun hc=>?_) fun hc=>?_|fail)
  ·exact⟨((vs,sq),⟨((1,sy,xs),true),fun _=>(hr hc).1⟩),rfl,aHw vs (dJ sq aH)⟩
  ·have hv:r.2.1.2=true->lJ r.2.1.1<16 ^ sy.length/\r.2.1.1.length=sy.length/\uM r.2.1.1/\lJ xs<lJ r.2.1.1:=fun h=>by
    obtain ⟨h1,h2,h3,h4⟩:=r.2.2 h
    have hd:uM r.2.1.1:=fun q hq=>by have:=h2 q hq;omega
    have:=sD hd
    rw[h1.trans hxl] at this
    exact⟨this,h1.trans hxl,hd,h4⟩
   exact eB (r.1,r.2.1.1,r.2.1.2) (fun h=>⟨(hv h).2.1,(hv h).2.2.1⟩) (aPz fun h=>⟨(hv h).1,(hv h).2.2.2⟩)⟩
instance aQ6{I:List Atom}{v0 v1:Value}{x:aQ}{m:Int}[h0:eK Int I v0 x.1][h1:eK cM I v1 x.2] :
  bQ prog 178 [.agg #[v0,v1],.int .i64 m] I (True) ((Value×Value)×bBs x.1) (fun q:(Value×Value)×bBs x.1=>.tuple #[.agg #[.int .i64 q.2.1.1.1,q.1.1,q.1.2],.bool q.2.1.2]) (fun q=>.rd [q.1.1] q.2.1.1.2.1::.rd [q.1.2] q.2.1.1.2.2::I):=⟨fun _ w0=>by
 by_cases hok:eE x=true
 ·have hsa:=(eM.1 hok).1.1
  have hsg:=eC hsa
  refine aK func178 ntmps178 ?_
  repeat' (first|refine aU ?_|refine cV fun r hr=>?_|refine aW fun r=>?_|refine bG fun sv=>?_|refine bT fun b=>?_|refine bV fun hc=>?_|refine bW fun hc=>?_|refine aS (fun hc=>?_) fun hc=>?_|fail)
  ·exact⟨((.slice none 0 0,.slice none 0 0),⟨((0,[],[]),false),fun h=>nomatch h⟩),rfl,aH⟩
  ·exact⟨((.slice none 0 0,.slice none 0 0),⟨((0,[],[]),false),fun h=>nomatch h⟩),rfl,aH⟩
  have hmm:=hr.2.2 (.inl (by assumption))
  have hd0:uM (List.replicate x.1.length (0:Int)):=fun q hq=>by have:=(List.mem_replicate.1 hq).2;omega
  refine fC r ?_
  refine fC sv ?_
  refine lp_ [9,10] [37,39,40,41,38,42,43,11,12,44,45,5,47,48,49,50,46,51,52,13,14,53,54] (Z:=Value×List Int×Bool) (fun k=>[k.1,.bool k.2.2]) (fun k=>[.rd [k.1] k.2.1]) (fun k=>k.2.1.length=x.1.length/\uM k.2.1) (fun k=>if k.2.2=true then 16 ^ x.1.length-lJ k.2.1+1 else 0) (r,List.replicate x.1.length 0,true) [.rd [r] (List.replicate x.1.length (0:Int))] ⟨by simp,hd0⟩ ?_
  intro ⟨sq,xs,mo⟩ u l' hl' ⟨hxl,hxd⟩
  simp only[bM,List.map,List.set] at hl'
  subst hl'
  simp only[aA,aB] at hxl hxd ⊢
  cases mo with
  | false=>
   repeat' (first|refine aU ?_|fail)
   exact⟨((.slice none 0 0,.slice none 0 0),⟨((0,[],[]),false),fun h=>nomatch h⟩),rfl,aH⟩
  | true=>
   have hnw:NwC xs (List.replicate x.1.length 0) m:=⟨by rw[hxl];simp,by simp;omega,by omega,hxd,hd0⟩
   have hx8:xs.length<=8:=by omega
   repeat' (first|refine aU ?_|refine cV fun r hr=>?_|refine aW fun r=>?_|refine bT fun b=>?_|refine bV fun hc=>?_|refine bW fun hc=>?_|refine aS (fun hc=>?_) fun hc=>?_|fail)
   ·exact⟨(r.1,⟨(r.2.1.1,true),fun _=>r.2.2 hc⟩),rfl,aH⟩
   ·obtain ⟨h1,h2,h3⟩:=r.2.2
    have hv:=sD h2
    rw[h1.trans hxl] at hv
    exact dH (r.1,r.2.1.1,r.2.1.2) ⟨h1.trans hxl,h2⟩ (aPz fun h=>⟨hv,h3 h⟩) (by kernel_rfl) (dJ r.1 aH)
 ·refine aK func178 ntmps178 ?_
  repeat' (first|refine aU ?_|refine cV fun r hr=>?_|refine aW fun r=>?_|refine bT fun b=>?_|refine bV fun hc=>?_|refine bW fun hc=>?_|refine aS (fun hc=>?_) fun hc=>?_|fail)
  ·exact⟨((.slice none 0 0,.slice none 0 0),⟨((0,[],[]),false),fun h=>nomatch h⟩),rfl,aH⟩
  ·exact absurd (by assumption) hok
  ·exact absurd (by assumption) hok⟩
end Go.Proofs.YtajdgkpjbpindaaGreatDoor
