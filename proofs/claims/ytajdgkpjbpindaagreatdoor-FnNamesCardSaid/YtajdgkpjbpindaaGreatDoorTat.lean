/- Texts of the proof of FnNames. -/
import Derived.Test.YtajdgkpjbpindaaGreatDoorTan
import Derived.Test.YtajdgkpjbpindaaGreatDoorTas
set_option linter.unusedVariables false
set_option linter.unusedSimpArgs false
set_option linter.unusedSectionVars false
namespace Go.Proofs.YtajdgkpjbpindaaGreatDoor
open Go Go.Eng Tryz
set_option synthInstance.maxHeartbeats 400000
set_option synthInstance.maxSize 1000
set_option maxHeartbeats 4000000
set_option maxRecDepth 20000
instance bHk{I:List Atom}{v0 v1 p0 p1 p2 p3:Value}{x:aQ}{s pr gn:List Int}{ps:List cJ}[h0:bK Int I v0 x.1][h1:bK cM I v1 x.2][h2:bK Int I p0 s][h3:bK Int I p1 pr][h4:bK cJ I p2 ps][h5:bK Int I p3 gn] :
  bQ prog 284 [.agg #[v0,v1],.agg #[p0,p1,p2,p3]] I (True) (Value×List Int×Bool) (fun q:Value×List Int×Bool=>.tuple #[q.1,.bool q.2.2]) (fun q=>.ow [q.1] q.2.1::I):=⟨fun _ w0=>by
 refine cL (A:=fun q:Value×List Int×Bool=>[.ow [q.1] q.2.1]) (fun w1=>?_) (aE h0 (aE h1 (aE h2 (aE h3 (aE h4 (aE h5 fI)))))) fun _=>inferInstance
 simp only[aA,aB]
 refine dQ p1 fun hl1=>?_
 refine dQ p2 fun hl2=>?_
 refine aK func284 ntmps284 ?_
 repeat' (first|refine aU ?_|refine cV fun r hr=>?_|refine aW fun r=>?_|refine bG fun sv=>?_|refine bT fun b=>?_|refine bV fun hc=>?_|refine bW fun hc=>?_|refine aS (fun hc=>?_) fun hc=>?_|fail)
 ·exact⟨(sv,[],false),rfl,aH⟩
 ·exact⟨(r,aGc x s pr,kZ (aC9 x s pr)),rfl,aH⟩
 ·exact⟨(r,aGj x s ps,kZ (xA x s ps)),rfl,aH⟩⟩
structure TkP(n:Nat)(td:List (List Int)):Prop where
 pt:∀ q∈td,xZ n q/\0<q.length
 le:td.flatten.length<=64
theorem bCv{n:Nat}{td:List (List Int)}{less:List Int}{ps:List (List Int)}(h:TkP n td)(htd:0<td.length)(hl:less.length<=(td.getD 0 default).length)(hp:aSc n less ps):TkP n (ps++td.drop 1):=by
 cases td with
 | nil=>simp at htd
 | cons q td=>
  have h1:=hp.sum
  have h2:=h.le
  have h4:less.length<=q.length:=hl
  have e1:(ps++(q::td).drop 1).flatten.length=ps.flatten.length+td.flatten.length:=by
   rw[List.flatten_append,aD];rfl
  have e2:(q::td).flatten.length=q.length+td.flatten.length:=by rw[List.flatten_cons,aD]
  refine⟨fun z hz=>?_,by omega⟩
  rcases aP.1 hz with hz|hz
  ·exact hp.pt z hz
  ·exact h.pt z (List.mem_cons_of_mem _ hz)
instance bG2{I:List Atom}{v0 v1 v:Value}{x:aQ}{ls:List eG}[h0:bK Int I v0 x.1][h1:bK cM I v1 x.2][h2:bK eG I v ls] :
  bQ prog 225 [.agg #[v0,v1],v] I (True) ({ t:Bool // t=true->ls.length<=64 }) (fun q:{ t:Bool // t=true->ls.length<=64 }=>.bool q.1) (fun _=>I):=⟨fun _ w0=>by
 refine jV (fun w1=>?_) (aE h0 (aE h1 (aE h2 fI)))
 refine dQ v fun hlv=>?_
 have hpl:=kR x
 by_cases hok:iY x
 ·have hph:=nU hok
  have hpc:=hph.c
  have hst:=aO6 (eP x).length
  refine aK func225 ntmps225 ?_
  repeat' (first|refine aU ?_|refine cV fun r hr=>?_|refine aW fun r=>?_|refine bT fun b=>?_|refine bV fun hc=>?_|refine bW fun hc=>?_|refine aS (fun hc=>?_) fun hc=>?_|fail)
  ·exact⟨⟨false,fun h=>nomatch h⟩,rfl,aH⟩
  ·exact⟨⟨false,fun h=>nomatch h⟩,rfl,aH⟩
  have hln:ls.length<=64:=by omega
  rename Value×aXt (eP x).length=>gr
  have hgr:=gr.2.2
  have hgl:=hgr.len
  have hfa:aTf gr.2.1 (List.map Int.ofNat (List.range (eP x).length)):=⟨by omega,by rw[hgl];exact hgr,by rw[hgl];exact hst⟩
  repeat' (first|refine aU ?_|refine cV fun r hr=>?_|refine aW fun r=>?_|fail)
  rename Value×aFg gr.2.1.length (List.map Int.ofNat (List.range (eP x).length))=>pr
  have hpr:=pr.2.2
  have hal:(List.map Int.ofNat (List.range (eP x).length)).length=(eP x).length:=by simp
  have hps:=hpr.sum
  refine fC gr.1 ?_
  refine sH pr.1 ?_
  simp only[uD]
  refine lp_ [8,9] [31,32,33,34,37,38,39,40,41,42,43,44,45,46,47,48,49,50,51,4,53,54,55,56,57,58,52,59,60,10,11,61,62,63,64,65,66,67,68,69,70,71,72,73,74,75,76,77,78,79,80,81,82,83,84,85,86,87,88,89,35,36] (Z:=(Value×List (List Int))×Nat) (fun k=>[k.1.1,.int .i64 k.2]) (fun k=>[.rd [k.1.1] k.1.2]) (fun k=>k.2<=ls.length/\TkP (eP x).length k.1.2) (fun k=>ls.length-k.2) ((pr.1,pr.2.1),0) [.rd [pr.1] pr.2.1] ⟨aI _,fun q hq=>by have h:=hpr.pt q hq;rw[hgl] at h;exact h,by simp only;omega⟩ ?_
  intro ⟨⟨vt,td⟩,i⟩ u l' hl' ⟨hi,hT⟩
  simp only[bM,List.map,List.set] at hl'
  subst hl'
  simp only[aA,aB] at hi hT ⊢
  have hfl:=rQ td fun q hq=>(hT.pt q hq).2
  have hle:=hT.le
  by_cases hil:i<ls.length
  ·refine kD v i (by omega) fun p2 hf2=>?_
   simp only[Un.atoms,Un.cells,aA,aB]
   by_cases htd:0<td.length
   ·have hq0:=hT.pt _ (dX htd)
    have hql:=hq0.1.len
    refine kD vt 0 (by omega) fun p3 hf3=>?_
    simp only[Un.atoms,Un.cells,aA,aB]
    repeat' (first|refine aU ?_|refine bP ?_|refine cV fun r hr=>?_|refine aW fun r=>?_|refine bV fun hc=>?_|refine bW fun hc=>?_|refine aS (fun hc=>?_) fun hc=>?_|refine wb 9 [] ?_|refine wb 11 [] ?_|refine xp ?_|refine xg ?_|refine xn ?_|refine pM fun hc=>?_|refine pN fun hc=>?_|refine xi (fun hc=>?_) fun hc=>?_|refine xy ?_|refine bI ?_|fail)
    all_goals try exact⟨⟨false,fun h=>nomatch h⟩,rfl,aH⟩
    have he:td.getD 0 default=(ls.getD i default).1:=by assumption
    rename Value×List Int×Bool=>gn
    rw[he] at hq0 hql
    have hfa2:aTf gr.2.1 ((ls.getD i default).1.filter fun v=>kZ (v∉gn.2.1)):=⟨by omega,by rw[hgl];exact hgr,by rw[hgl];exact hq0.1.sub List.filter_sublist⟩
    have hfl2:((ls.getD i default).1.filter fun v=>kZ (v∉gn.2.1)).length<=(td.getD 0 default).length:=by rw[he];exact List.length_filter_le _ _
    have hfl3:((ls.getD i default).1.filter fun v=>kZ (v∉gn.2.1)).length<=64:=by rw[he] at hfl2;omega
    ((refine wbi 14 [] ?_<;>repeat' (first|refine aU ?_|refine bG fun sv=>?_|(refine aW fun r=>?_;(try have hr:=Subtype.property r);try (have hrr:=aOm r.2.2))|refine xp ?_|refine xy ?_|refine x2 ?_ ?_|fail))<;>refine bI ?_)
    repeat' (first|refine aU ?_|refine bP ?_|fail)
    all_goals
     rename Value×aFg gr.2.1.length ((ls.getD i default).1.filter fun v=>kZ (v∉gn.2.1))=>ps
     exact dH ((sv,ps.2.1++td.drop 1),i+1) ⟨by simp only;omega,bCv hT htd hfl2 (aLl hgl ps.2.2)⟩ (by simp only;omega) (by kernel_rfl) (by simp only[← cG];exact iN (ys:=ps.2.1++td.drop 1) sv aH)
   ·repeat' (first|refine aU ?_|refine bV fun hc=>?_|refine bW fun hc=>?_|refine aS (fun hc=>?_) fun hc=>?_|refine wb 9 [] ?_|refine xp ?_|refine xg ?_|refine xn ?_|refine pM fun hc=>?_|refine pN fun hc=>?_|refine xi (fun hc=>?_) fun hc=>?_|refine xy ?_|refine bI ?_|fail)
    all_goals exact⟨⟨false,fun h=>nomatch h⟩,rfl,aH⟩
  ·repeat' (first|refine aU ?_|refine bV fun hc=>?_|refine bW fun hc=>?_|refine aS (fun hc=>?_) fun hc=>?_|fail)
   exact⟨⟨_,fun _=>hln⟩,rfl,aH⟩
 ·refine aK func225 ntmps225 ?_
  repeat' (first|refine aU ?_|refine cV fun r hr=>?_|refine aW fun r=>?_|refine bT fun b=>?_|refine bV fun hc=>?_|refine bW fun hc=>?_|refine aS (fun hc=>?_) fun hc=>?_|fail)
  ·exact⟨⟨false,fun h=>nomatch h⟩,rfl,aH⟩
  all_goals exact absurd (by assumption) hok⟩
end Go.Proofs.YtajdgkpjbpindaaGreatDoor
