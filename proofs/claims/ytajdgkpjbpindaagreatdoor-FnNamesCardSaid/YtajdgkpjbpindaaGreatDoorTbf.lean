/- Texts of the proof of FnNames. -/
import Derived.Test.YtajdgkpjbpindaaGreatDoorTba
import Derived.Test.YtajdgkpjbpindaaGreatDoorTbb
set_option linter.unusedVariables false
set_option linter.unusedSimpArgs false
set_option linter.unusedSectionVars false
namespace Go.Proofs.YtajdgkpjbpindaaGreatDoor
open Go Go.Eng Tryz
set_option synthInstance.maxHeartbeats 400000
set_option synthInstance.maxSize 1000
set_option maxHeartbeats 4000000
set_option maxRecDepth 20000
theorem aBz{w0:World}{I:List Atom}{a0 a1 b0 b1:Value}{x y:jH}[h0:bK Int I a0 x.2.1][h1:bK Int I a1 x.2.2][h2:bK Int I b0 y.2.1][h3:bK Int I b1 y.2.2] :
  CJ prog 292 [.agg #[.int .i64 x.1,a0,a1],.agg #[.int .i64 y.1,b0,b1]] w0 I (fun q:Bool=>.bool q) (fun _=>I):=by
 refine jV (fun w1=>?_) (aE h0 (aE h1 (aE h2 (aE h3 fI))))
 refine aK func292 ntmps292 ?_
 repeat' (first|refine aU ?_|refine cV fun r hr=>?_|refine aW fun r=>?_|refine bT fun b=>?_|refine bV fun hc=>?_|refine bW fun hc=>?_|refine aS (fun hc=>?_) fun hc=>?_|fail)
 all_goals exact⟨_,rfl,aH⟩
instance bHn{I:List Atom}{va vb vc:Value}{n:dK}{t k:Int}[ha:bK Int I va n.2.1][hb:bK (List Int) I vb n.2.2.1][hc':bK Int I vc n.2.2.2] :
  bQ prog 217 [.agg #[.int .i64 n.1,va,vb,vc],.int .i64 t,.int .i64 k] I True Unit (fun _:Unit=>.bool (decide ((n.2.2.1.length:Int)=t/\(n.2.2.2.length:Int)=k))) (fun _=>I):=⟨fun _ w0=>by
 refine jV (fun w1=>?_) (aE ha (aE hb (aE hc' fI)))
 refine aK func217 ntmps217 ?_
 repeat' (first|refine aU ?_|refine bT fun b=>?_|refine bV fun hc=>?_|refine bW fun hc=>?_|refine aS (fun hc=>?_) fun hc=>?_|fail)
 all_goals first
  | exact⟨(),bO (decide_eq_decide.2 (by omega)),aH⟩
  | exact⟨(),bO (decide_eq_false (by omega)),aH⟩
  | fail⟩
structure ClB(c:jH):Prop where
 k:0<=c.1/\c.1<=9
 a:c.2.1.length<=60
 b:c.2.2.length<=60
theorem iS:ClB (0,[],[]):=⟨by decide,aI _,aI _⟩
abbrev ClT:Type:={ c:jH×Bool // ClB c.1 }
instance aKn{I:List Atom}{v0 v1 v:Value}{x:aQ}{t:List Int}{at_ rule:Int}[h0:bK Int I v0 x.1][h1:bK cM I v1 x.2][h2:bK Int I v t] :
  bQ prog 191 [.agg #[v0,v1],v,.int .i64 at_,.int .i64 rule] I True Value (fun q:Value=>.tuple #[q,.bool (iT x t at_ rule).isSome]) (fun q=>.rd [q] ((iT x t at_ rule).getD [])::I):=⟨fun _ w0=>by
 exact jS pF (fun q=>⟨q,rfl,dJ q aH⟩)⟩
section
attribute [local instance 2000] aKn
instance bCt{I:List Atom}{v0 v1 v v':Value}{x:aQ}{t xs:List Int}[h0:eK Int I v0 x.1][h1:eK cM I v1 x.2][h2:eK Int I v t][h3:eK Int I v' xs] :
  bQ prog 218 [.agg #[v0,v1],v,v'] I (True) ((Value×Value)×WbT) (fun q:(Value×Value)×WbT=>.tuple #[.agg #[q.1.1,q.1.2],.bool q.2.1.2]) (fun q=>.ow [q.1.1] q.2.1.1.1::.rd [q.1.2] q.2.1.1.2::I):=⟨fun _ w0=>by
 refine aK func218 ntmps218 ?_
 repeat' (first|refine aU ?_|refine bP ?_|refine cV fun r hr=>?_|refine aW fun r=>?_|refine bT fun b=>?_|refine bV fun hc=>?_|refine bW fun hc=>?_|refine aS (fun hc=>?_) fun hc=>?_|fail)
 all_goals try exact⟨((.slice none 0 0,.slice none 0 0),⟨(([],[]),false),lH⟩),rfl,aH⟩
 have htt:eE x=true/\bB x.1 t=true:=by assumption
 have htl:=aX htt.2
 have hev:(xs.length:Int) % 2=0:=by
  have h:(xs.length:Int).tmod 2=0:=by assumption
  rwa [Int.tmod_eq_emod_of_nonneg (by omega)] at h
 repeat' (first|refine aU ?_|refine cV fun r hr=>?_|refine aW fun r=>?_|refine bT fun b=>?_|fail)
 rename_i vf
 refine lp_ [9,10] [34,35,36,37,41,42,43,44,45,46,47,48,49,50,51,52,40,53,54,11,12,55,56,57,7,58,59,60,61,62,63,64,65,66,67,68,69,70,71,72,73,74,75,38,39] (Z:=(Value×List eW)×(Value×List Int)×Nat) (fun k=>[k.2.1.1,.int .i64 ((2*k.2.2:Nat):Int)]) (fun k=>[.bk b [vf,k.1.1],.ow [k.1.1] (k.1.2.map Sh.mk),.ow [k.2.1.1] k.2.1.2]) (fun k=>2*k.2.2<=xs.length/\k.1.2.length=k.2.2/\k.2.1.2.length<=60/\∀ u∈k.1.2,u.2.2.length<=60) (fun k=>xs.length-2*k.2.2) ((.slice none 0 0,[]),(r,t),0) [.bk b [vf,.slice none 0 0],.ow [.slice none 0 0] ([]:List (Sh eW)),.ow [r] t] ⟨aI _,rfl,htl.2,fun u hu=>absurd hu (by simp)⟩ ?_
 intro ⟨⟨so,ss⟩,⟨vn,now⟩,j⟩ u l' hl' ⟨hj,hsl,hnl,hsb⟩
 simp only[bM,List.map,List.set] at hl'
 subst hl'
 simp only[aA,aB] at hj hsl hnl hsb ⊢
 have hom:(List.map Sh.mk ss).length=ss.length:=aY ..
 by_cases hjl:2*j<xs.length
 ·repeat' (first|refine aU ?_|refine bV fun hc=>?_|refine bW fun hc=>?_|refine aS (fun hc=>?_) fun hc=>?_|refine cV fun r hr=>?_|refine aW fun r=>?_|refine wb 8 [] ?_|refine xf fun hbi=>?_|refine xp ?_|refine xy ?_|refine bI ?_|fail)
  ·exact⟨((.slice none 0 0,.slice none 0 0),⟨(([],[]),false),lH⟩),rfl,aH⟩
  have hst:=aD6 x now (xs.getD (2*j) 0) (xs.getD (2*j+1) 0)
  haveI hi1:I6 (xs.getD (2*j) 0):=⟨by assumption⟩
  haveI hi2:I6 (xs.getD (2*j+1) 0):=⟨by assumption⟩
  generalize (iT x now (xs.getD (2*j) 0) (xs.getD (2*j+1) 0)).getD []=to at hst ⊢
  repeat' (first|refine aU ?_|refine bP ?_|refine cV fun r hr=>?_|refine aW fun r=>?_|refine bG fun sv=>?_|refine wb 11 [14,16] ?_|refine xf fun hbi=>?_|refine xp ?_|refine x0 ?_|refine xy ?_|refine bI ?_|fail)
  exact dH ((sv,ss++[(xs.getD (2*j) 0,xs.getD (2*j+1) 0,to)]),(r,to),j+1) ⟨by simp only;omega,by simp only[aD,aJ];omega,hst,fun u hu=>(aP.1 hu).elim (hsb u) fun h=>by rw[aO] at h;rw[h];exact hst⟩ (by simp only;omega) (by kernel_rfl) (by simp only[← cG];exact aH)
 ·repeat' (first|refine aU ?_|refine bV fun hc=>?_|refine bW fun hc=>?_|refine aS (fun hc=>?_) fun hc=>?_|fail)
  exact⟨((vf,so),⟨((t,ss),true),htl.2,hsb,by simp only;omega⟩),rfl,iN (ys:=ss) so aH⟩⟩
end
theorem nC{xs:List (List Int)}(h:∀ t∈xs,t.length<=60)(i:Nat):(xs.getD i default).length<=60:=by
 by_cases hi:i<xs.length
 ·exact h _ (dX hi)
 ·rw[aC,dA (by omega)];exact aI _
instance bAd{I:List Atom}{v0 v1 va vb vc:Value}{x:aQ}{n:dK}[h0:eK Int I v0 x.1][h1:eK cM I v1 x.2][ha:eK Int I va n.2.1][hb:eK (List Int) I vb n.2.2.1][hc':eK Int I vc n.2.2.2] :
  bQ prog 170 [.agg #[v0,v1],.agg #[.int .i64 n.1,va,vb,vc]] I (∀ t∈n.2.2.1,t.length<=60) ((Value×Value)×ClT) (fun q:(Value×Value)×ClT=>.tuple #[.agg #[.int .i64 q.2.1.1.1,q.1.1,q.1.2],.bool q.2.1.2]) (fun q=>.ow [q.1.1] q.2.1.1.2.1::.ow [q.1.2] q.2.1.1.2.2::I):=⟨fun hs w0=>by
 refine aK func170 ntmps170 ?_
 repeat' (first|refine aU ?_|refine cV fun r hr=>?_|refine aW fun r=>?_|refine bT fun b=>?_|refine bV fun hc=>?_|refine bW fun hc=>?_|refine aS (fun hc=>?_) fun hc=>?_|refine wb 3 [] ?_|refine xp ?_|(refine xd fun p c d e f g h hf=>?_;simp only[Un.cells,Un.atoms,Un.fact,aA,aB] at f g h hf;subst f g h)|refine xy ?_|refine x2 ?_ ?_|refine bI ?_|fail)
 all_goals try exact⟨((.slice none 0 0,.slice none 0 0),⟨((0,[],[]),false),iS⟩),rfl,aH⟩
 all_goals
  have ht0:=nC hs 0
  have he:=r.2.2.end
  have he2:(pI r.2.1.1).length<=1000:=by omega
  rename (Value×Value)×WbT=>wk
  repeat' (first|refine aU ?_|refine bV fun hc=>?_|refine bW fun hc=>?_|refine aS (fun hc=>?_) fun hc=>?_|refine cV fun r hr=>?_|refine aW fun r=>?_|refine wb 4 [] ?_|refine wb 6 [8] ?_|refine xp ?_|refine x0 ?_|refine xg ?_|refine xn ?_|refine pM fun hc=>?_|refine pN fun hc=>?_|refine xi (fun hc=>?_) fun hc=>?_|refine xy ?_|refine bI ?_|fail)
 all_goals try exact⟨((.slice none 0 0,.slice none 0 0),⟨((0,[],[]),false),iS⟩),rfl,aH⟩
 all_goals
  rename_i r1
  exact⟨((r1,r),⟨((1,n.2.2.1.getD 0 default,pI wk.2.1.1),true),(by decide:(0:Int)<=1/\(1:Int)<=9),ht0,he⟩),rfl,aH⟩⟩
instance bIf{I:List Atom}{v0 v1 va vb vc:Value}{x:aQ}{n:dK}[h0:eK Int I v0 x.1][h1:eK cM I v1 x.2][ha:eK Int I va n.2.1][hb:eK (List Int) I vb n.2.2.1][hc':eK Int I vc n.2.2.2] :
  bQ prog 171 [.agg #[v0,v1],.agg #[.int .i64 n.1,va,vb,vc]] I (∀ t∈n.2.2.1,t.length<=60) ((Value×Value)×ClT) (fun q:(Value×Value)×ClT=>.tuple #[.agg #[.int .i64 q.2.1.1.1,q.1.1,q.1.2],.bool q.2.1.2]) (fun q=>.ow [q.1.1] q.2.1.1.2.1::.ow [q.1.2] q.2.1.1.2.2::I):=⟨fun hs w0=>by
 refine aK func171 ntmps171 ?_
 have hx1:=nC hs 0
 have hx2:=nC hs 1
 repeat' (first|refine aU ?_|refine bT fun b=>?_|fail)
 ((refine wb 1 [] ?_<;>repeat' (first|refine aU ?_|refine cV fun r hr=>?_|refine aW fun r=>?_|refine xp ?_|refine xg ?_|refine xn ?_|refine pM fun hc=>?_|refine pN fun hc=>?_|refine xi (fun hc=>?_) fun hc=>?_|refine xy ?_|fail))<;>refine bI ?_)
 all_goals repeat' (first|refine aU ?_|refine eF fun hbi=>?_|refine bP ?_|refine bV fun hc=>?_|refine bW fun hc=>?_|refine aS (fun hc=>?_) fun hc=>?_|fail)
 all_goals try exact⟨((.slice none 0 0,.slice none 0 0),⟨((0,[],[]),false),iS⟩),rfl,aH⟩
 ((refine wb 4 [] ?_<;>repeat' (first|refine aU ?_|refine bT fun b=>?_|refine bG fun sv=>?_|refine cV fun r hr=>?_|refine aW fun r=>?_|refine xp ?_|(refine xd fun p c d e f g h hf=>?_;simp only[Un.cells,Un.atoms,Un.fact,aA,aB] at f g h hf;subst f g h)|refine xy ?_|refine x2 ?_ ?_|fail))<;>refine bI ?_)
 all_goals
  have he1:(pI r.2.1.1).length<=1000:=by have:=r.2.2.end;omega
  rename (Value×Value)×WbT=>wk
  repeat' (first|refine aU ?_|fail)
  ((refine wb 5 [] ?_<;>repeat' (first|refine aU ?_|refine bT fun b=>?_|refine bG fun sv=>?_|refine cV fun r hr=>?_|refine aW fun r=>?_|refine xp ?_|(refine xd fun p c d e f g h hf=>?_;simp only[Un.cells,Un.atoms,Un.fact,aA,aB] at f g h hf;subst f g h)|refine xy ?_|refine x2 ?_ ?_|fail))<;>refine bI ?_)
 all_goals
  have he2:(pI r.2.1.1).length<=1000:=by have:=r.2.2.end;omega
  repeat' (first|refine aU ?_|refine bV fun hc=>?_|refine bW fun hc=>?_|refine aS (fun hc=>?_) fun hc=>?_|refine cV fun r hr=>?_|refine aW fun r=>?_|refine wb 6 [] ?_|refine wb 8 [11] ?_|refine xp ?_|refine x0 ?_|refine xg ?_|refine xn ?_|refine pM fun hc=>?_|refine pN fun hc=>?_|refine xi (fun hc=>?_) fun hc=>?_|refine xy ?_|refine bI ?_|fail)
 all_goals try exact⟨((.slice none 0 0,.slice none 0 0),⟨((0,[],[]),false),iS⟩),rfl,aH⟩
 all_goals
  rename_i r1
  exact⟨((r1,r),⟨((2,n.2.2.1.getD 0 default,n.2.2.1.getD 1 default),true),(by decide:(0:Int)<=2/\(2:Int)<=9),hx1,hx2⟩),rfl,aH⟩⟩
instance aZw{I:List Atom}{v0 v1 v:Value}{x:aQ}{xs:List Int}[h0:bK Int I v0 x.1][h1:bK cM I v1 x.2][h2:bK Int I v xs] :
  bQ prog 222 [.agg #[v0,v1],v] I (xs.length<=1000/\x.1.length<=1000) ((Value×Value)×aA9×Bool) (fun q:(Value×Value)×aA9×Bool=>.tuple #[.agg #[.int .i64 q.2.1.1,q.1.1,q.1.2],.bool q.2.2]) (fun q=>.ow [q.1.1] q.2.1.2.1::.ow [q.1.2] q.2.1.2.2::I):=⟨fun hs w0=>by
 refine cL (A:=fun q:(Value×Value)×aA9×Bool=>[.ow [q.1.1] q.2.1.2.1,.ow [q.1.2] q.2.1.2.2]) (fun w1=>?_) (aE h0 (aE h1 (aE h2 fI))) fun _=>inferInstance
 simp only[aA,aB]
 obtain ⟨hxl,hal⟩:=hs
 refine aK func222 ntmps222 ?_
 repeat' (first|refine aU ?_|refine bP ?_|refine bT fun b=>?_|refine bV fun hc=>?_|refine bW fun hc=>?_|refine aS (fun hc=>?_) fun hc=>?_|refine bG fun sv=>?_|refine cV fun r hr=>?_|refine aW fun r=>?_|refine wb 4 [14] ?_|refine xf fun hbi=>?_|refine xp ?_|refine x0 ?_|refine xy ?_|refine x2 ?_ ?_|refine bI ?_|fail)
 ·exact⟨((.slice none 0 0,.slice none 0 0),((0,[],[]),false)),rfl,aH⟩
 all_goals
  rename_i r1 s2
  first
   | exact⟨((r1,r),((xs.getD 0 0,List.drop 1 (List.take (1+(x.1.length:Int)).toNat xs),List.drop (1+(x.1.length:Int)).toNat xs),true)),rfl,aH⟩
   | exact⟨((s2,r),((xs.getD 0 0,List.drop 1 (List.take (1+(x.1.length:Int)).toNat xs),List.drop (1+(x.1.length:Int)).toNat xs),true)),rfl,aH⟩⟩
instance bC1{I:List Atom}{v0 v1 v:Value}{x:aQ}{xs:List Int}[h0:bK Int I v0 x.1][h1:bK cM I v1 x.2][h2:bK Int I v xs] :
  bQ prog 226 [.agg #[v0,v1],v] I (eE x=true/\xs.length<=1000) (Value×List cJ×Bool) (fun q:Value×List cJ×Bool=>.tuple #[q.1,.bool q.2.2]) (fun q=>.ow [q.1] q.2.1::I):=⟨fun hs w0=>by
 refine cL (A:=fun q:Value×List cJ×Bool=>[.ow [q.1] q.2.1]) (fun w1=>?_) (aE h0 (aE h1 (aE h2 fI))) fun _=>inferInstance
 simp only[aA,aB]
 obtain ⟨hok,hxl⟩:=hs
 have hsg:=(eM.1 hok).1.1
 have hsl:=eC hsg
 refine aK func226 ntmps226 ?_
 repeat' (first|refine aU ?_|refine bG fun sv=>?_|refine bT fun b=>?_|fail)
 refine lp_ [6,7,8] [11,12,13,14,15,16,19,20,21,22,23,24,25,26,27,9,28,29,30,31,32,4,5,33,34,35,36,37,38,39,40,41,42,43,44,45,46,47,17,18] (Z:=(Value×List cJ)×Int×Nat) (fun k=>[k.1.1,.int .i64 k.2.1,.int .i64 k.2.2]) (fun k=>[.ow [k.1.1] k.1.2]) (fun k=>k.2.2<=x.1.length/\0<=k.2.1/\k.2.1<=xs.length/\k.1.2.length=k.2.2) (fun k=>x.1.length-k.2.2) ((sv,[]),0,0) [.ow [sv] ([]:List cJ)] ⟨aI _,Int.le_refl _,by simp,rfl⟩ ?_
 intro ⟨⟨so,ps⟩,a,f⟩ u l' hl' ⟨hf,ha,hal,hpl⟩
 simp only[bM,List.map,List.set] at hl'
 subst hl'
 simp only[aA,aB] at hf ha hal hpl ⊢
 by_cases hfl:f<x.1.length
 ·have har:=fM hsg (k:=f) hfl
  repeat' (first|refine aU ?_|refine eF fun hbi=>?_|refine bP ?_|refine bG fun sv=>?_|refine bV fun hc=>?_|refine bW fun hc=>?_|refine aS (fun hc=>?_) fun hc=>?_|refine cV fun r hr=>?_|refine aW fun r=>?_|refine wb 9 [13] ?_|refine xf fun hbi=>?_|refine xp ?_|refine x0 ?_|refine xy ?_|refine bI ?_|fail)
  all_goals first
   | exact⟨(sv,([],false)),rfl,aH⟩
   | exact eB ((sv,ps++[(xs.getD a.toNat 0,List.drop (a+1).toNat (List.take (a+1+x.1.getD f 0).toNat xs))]),a+1+x.1.getD f 0,f+1) ⟨by simp only;omega,by simp only;omega,by simp only;omega,by simp only[aD,aJ];omega⟩
 ·repeat' (first|refine aU ?_|refine bV fun hc=>?_|refine bW fun hc=>?_|refine aS (fun hc=>?_) fun hc=>?_|fail)
  exact⟨(so,(ps,_)),rfl,aH⟩⟩
end Go.Proofs.YtajdgkpjbpindaaGreatDoor
namespace Go.Proofs.YtajdgkpjbpindaaGreatDoor
open Go Go.Eng Tryz
set_option synthInstance.maxHeartbeats 400000
set_option synthInstance.maxSize 1000
set_option maxHeartbeats 4000000
set_option maxRecDepth 20000
instance aFl{I:List Atom}{va ve vf vm:Value}{a f:List Int}{es:List SEq}{ms:List iJ}[h0:bK Int I va a][h1:bK SEq I ve es][h2:bK Int I vf f][h3:bK iJ I vm ms] :
  bQ prog 229 [.agg #[va],ve,.agg #[vf,vm]] I True Bool (fun q:Bool=>.bool q) (fun _=>I):=⟨fun _ w0=>by
 exact aH4 (c:=(f,ms)) (h2:=h2) (h3:=h3)⟩
instance zZ{I:List Atom}{a0 a1 b0 b1:Value}{k k':Int}{s t s' t':List Int}[h0:bK Int I a0 s][h1:bK Int I a1 t][h2:bK Int I b0 s'][h3:bK Int I b1 t'] :
  bQ prog 292 [.agg #[.int .i64 k,a0,a1],.agg #[.int .i64 k',b0,b1]] I True Bool (fun q:Bool=>.bool q) (fun _=>I):=⟨fun _ w0=>by
 exact aBz (x:=(k,s,t)) (y:=(k',s',t')) (h0:=h0) (h1:=h1) (h2:=h2) (h3:=h3)⟩
instance aJh{I:List Atom}{v0 v1 a0 a1 a2:Value}{x:aQ}{f:List Int}{ss:List eW}{k:Int}{ts:List (List Int)}[h0:eK Int I v0 x.1][h1:eK cM I v1 x.2][h2:eK Int I a0 f][h3:eK eW I a1 ss][h4:eK (List Int) I a2 ts] :
  bQ prog 228 [.agg #[v0,v1],.agg #[a0,a1,.int .i64 k,a2]] I True Bool (fun q:Bool=>.bool q) (fun _=>I):=⟨fun _ w0=>by
 exact jS (aKe (y:=((f,ss),k,ts)) (h2:=h2) (h3:=h3) (h4:=h4)) (fun q=>⟨q.1,rfl,fun w hs=>hs⟩)⟩
attribute [local instance 2000] aFl aJh zZ
instance bHy{I:List Atom}{v0 v1 va vb vc:Value}{x:aQ}{n:dK}[h0:eK Int I v0 x.1][h1:eK cM I v1 x.2][ha:eK Int I va n.2.1][hb:eK (List Int) I vb n.2.2.1][hc':eK Int I vc n.2.2.2] :
  bQ prog 172 [.agg #[v0,v1],.agg #[.int .i64 n.1,va,vb,vc]] I (eE x=true/\n.2.1.length<=1000) ((Value×Value)×ClT) (fun q:(Value×Value)×ClT=>.tuple #[.agg #[.int .i64 q.2.1.1.1,q.1.1,q.1.2],.bool q.2.1.2]) (fun q=>.ow [q.1.1] q.2.1.1.2.1::.ow [q.1.2] q.2.1.1.2.2::I):=⟨fun hs w0=>by
 obtain ⟨hok,hnl⟩:=hs
 have hal:x.1.length<=1000:=by have:=eC (eM.1 hok).1.1;omega
 refine aK func172 ntmps172 ?_
 repeat' (first|refine aU ?_|refine cV fun r hr=>?_|refine aW fun r=>?_|refine bT fun b=>?_|refine bV fun hc=>?_|refine bW fun hc=>?_|refine aS (fun hc=>?_) fun hc=>?_|fail)
 all_goals try exact⟨((.slice none 0 0,.slice none 0 0),⟨((0,[],[]),false),iS⟩),rfl,aH⟩
 all_goals exact⟨((.slice none 0 0,.slice none 0 0),⟨((3,[],[]),true),by decide,aI _,aI _⟩),rfl,aH⟩⟩
instance bHt{I:List Atom}{v0 v1 va vb vc:Value}{x:aQ}{n:dK}[h0:eK Int I v0 x.1][h1:eK cM I v1 x.2][ha:eK Int I va n.2.1][hb:eK (List Int) I vb n.2.2.1][hc':eK Int I vc n.2.2.2] :
  bQ prog 173 [.agg #[v0,v1],.agg #[.int .i64 n.1,va,vb,vc]] I ((∀ t∈n.2.2.1,t.length<=60)/\n.2.2.1.length<=1000) ((Value×Value)×ClT) (fun q:(Value×Value)×ClT=>.tuple #[.agg #[.int .i64 q.2.1.1.1,q.1.1,q.1.2],.bool q.2.1.2]) (fun q=>.ow [q.1.1] q.2.1.1.2.1::.ow [q.1.2] q.2.1.1.2.2::I):=⟨fun hs w0=>by
 obtain ⟨hs,hnl⟩:=hs
 have hx1:=nC hs 0
 have hd1:(List.drop (Int.toNat 1) n.2.2.1).length<=1048576:=by rw[aR];omega
 have hd2:∀ t∈List.drop (Int.toNat 1) n.2.2.1,t.length<=1048576:=fun t ht=>by have:=hs t (List.mem_of_mem_drop ht);omega
 refine aK func173 ntmps173 ?_
 repeat' (first|refine aU ?_|refine bP ?_|refine bT fun b=>?_|refine bV fun hc=>?_|refine bW fun hc=>?_|refine aS (fun hc=>?_) fun hc=>?_|refine bG fun sv=>?_|refine cV fun r hr=>?_|refine aW fun r=>?_|refine wb 3 [] ?_|refine wb 4 [] ?_|refine xf fun hbi=>?_|refine xp ?_|(refine xd fun p c d e f g h hf=>?_;simp only[Un.cells,Un.atoms,Un.fact,aA,aB] at f g h hf;subst f g h)|refine xy ?_|refine x2 ?_ ?_|refine bI ?_|fail)
 all_goals try exact⟨((.slice none 0 0,.slice none 0 0),⟨((0,[],[]),false),iS⟩),rfl,aH⟩
 all_goals
  rename (Value×Value)×WbT=>wk
  refine fU wk.1.1 ?_
  refine fU r ?_
  repeat' (first|refine aU ?_|refine bP ?_|refine cV fun r hr=>?_|refine aW fun r=>?_|refine bV fun hc=>?_|refine bW fun hc=>?_|refine aS (fun hc=>?_) fun hc=>?_|fail)
 all_goals try exact⟨((.slice none 0 0,.slice none 0 0),⟨((0,[],[]),false),iS⟩),rfl,aH⟩
 all_goals
  exact⟨((r,.slice none 0 0),⟨((4,n.2.2.1.getD 0 default,[]),true),(by decide:(0:Int)<=4/\(4:Int)<=9),hx1,aI _⟩),rfl,aH⟩⟩
instance bE7{I:List Atom}{v0 v1 va vb vc:Value}{x:aQ}{n:dK}[h0:eK Int I v0 x.1][h1:eK cM I v1 x.2][ha:eK Int I va n.2.1][hb:eK (List Int) I vb n.2.2.1][hc':eK Int I vc n.2.2.2] :
  bQ prog 174 [.agg #[v0,v1],.agg #[.int .i64 n.1,va,vb,vc]] I ((∀ t∈n.2.2.1,t.length<=60)/\n.2.2.1.length<=1000) ((Value×Value)×ClT) (fun q:(Value×Value)×ClT=>.tuple #[.agg #[.int .i64 q.2.1.1.1,q.1.1,q.1.2],.bool q.2.1.2]) (fun q=>.ow [q.1.1] q.2.1.1.2.1::.ow [q.1.2] q.2.1.1.2.2::I):=⟨fun hs w0=>by
 obtain ⟨hs,hnl⟩:=hs
 have hx1:=nC hs 0
 refine aK func174 ntmps174 ?_
 repeat' (first|refine aU ?_|refine bP ?_|refine bT fun b=>?_|(refine iH fun p c d f g hf=>?_;simp only[Un.cells,Un.atoms,Un.fact,aA,aB] at f g hf;subst f g)|refine bV fun hc=>?_|refine bW fun hc=>?_|refine aS (fun hc=>?_) fun hc=>?_|fail)
 all_goals try exact⟨((.slice none 0 0,.slice none 0 0),⟨((0,[],[]),false),iS⟩),rfl,aH⟩
 have hnn:(n.2.1.length:Int)=3*((n.2.2.1.length:Int)-1):=by assumption
 refine lp_ [7] [36,37,38,39,40,43,44,45,46,47,48,49,8,50,51,52,53,5,54,55,56,57,58,59,60,61,62,63,64,65,66,67,68,69,70,71,72,73,74,75,76,77,78,79,80,41,42] (Z:=(Value×List iJ)×Nat) (fun k=>[.int .i64 k.2]) (fun k=>[.bk b [p,k.1.1],.ow [k.1.1] (k.1.2.map Sh.mk)]) (fun k=>1<=k.2/\k.2<=n.2.2.1.length/\k.1.2.length<=k.2) (fun k=>n.2.2.1.length-k.2) ((.slice none 0 0,[]),1) [.bk b [p,.slice none 0 0],.ow [.slice none 0 0] ([]:List (Sh iJ))] ⟨aM _,by simp only;omega,by simp⟩ ?_
 intro ⟨⟨so,ms⟩,i⟩ u l' hl' ⟨hi1,hi2,hml⟩
 simp only[bM,List.map,List.set] at hl'
 subst hl'
 simp only[aA,aB] at hi1 hi2 hml ⊢
 have hom:(List.map Sh.mk ms).length=ms.length:=aY ..
 by_cases hil:i<n.2.2.1.length
 ·repeat' (first|refine aU ?_|refine eF fun hbi=>?_|refine bP ?_|refine cV fun r hr=>?_|refine aW fun r=>?_|refine bV fun hc=>?_|refine bW fun hc=>?_|refine aS (fun hc=>?_) fun hc=>?_|fail)
  all_goals try exact⟨((.slice none 0 0,.slice none 0 0),⟨((0,[],[]),false),iS⟩),rfl,aH⟩
  refine kD va (3*(i:Int)-3).toNat (xs:=n.2.1) (by omega) fun _ hb1=>?_
  refine kD va (3*(i:Int)-2).toNat (xs:=n.2.1) (by omega) fun _ hb2=>?_
  simp only[Un.cells,Un.atoms,Un.fact,aA,aB] at hb1 hb2 ⊢
  haveI hi6:I6 (n.2.1.getD (3*(i:Int)-3).toNat 0):=⟨hb1⟩
  haveI hi7:I6 (n.2.1.getD (3*(i:Int)-2).toNat 0):=⟨hb2⟩
  repeat' (first|refine aU ?_|refine bP ?_|refine bG fun sv=>?_|refine wb 10 [25,27] ?_|refine xf fun hbi=>?_|refine xp ?_|refine x0 ?_|(refine xd fun p c d e f g h hf=>?_;simp only[Un.cells,Un.atoms,Un.fact,aA,aB] at f g h hf;subst f g h)|refine xy ?_|refine bI ?_|fail)
  exact dH ((sv,ms++[(n.2.1.getD (3*(i:Int)-3).toNat 0,n.2.1.getD (3*(i:Int)-2).toNat 0,decide (n.2.1.getD (3*(i:Int)-1).toNat 0=1),n.2.2.1.getD i default)]),i+1) ⟨by simp only;omega,by simp only;omega,by simp only[aD,aJ];omega⟩ (by simp only;omega) (by kernel_rfl) (by simp only[← cG];exact aH)
 ·have hx2:=nC hs (n.2.2.1.length-1)
  haveI:fJ ((n.2.2.1.length:Int)-1) (n.2.2.1.length-1):=⟨by omega⟩
  repeat' (first|refine aU ?_|refine bV fun hc=>?_|refine bW fun hc=>?_|refine aS (fun hc=>?_) fun hc=>?_|fail)
  refine sH so ?_
  simp only[uD]
  repeat' (first|refine aU ?_|refine bV fun hc=>?_|refine bW fun hc=>?_|refine aS (fun hc=>?_) fun hc=>?_|refine cV fun r hr=>?_|refine aW fun r=>?_|refine wb 11 [] ?_|refine wb 13 [15] ?_|refine xp ?_|refine x0 ?_|(refine xd fun p c d e f g h hf=>?_;simp only[Un.cells,Un.atoms,Un.fact,aA,aB] at f g h hf;subst f g h)|refine xy ?_|refine bI ?_|fail)
  all_goals try exact⟨((.slice none 0 0,.slice none 0 0),⟨((0,[],[]),false),iS⟩),rfl,aH⟩
  rename_i r1
  exact⟨((r1,r),⟨((8,n.2.2.1.getD 0 default,n.2.2.1.getD (n.2.2.1.length-1) default),true),(by decide:(0:Int)<=8/\(8:Int)<=9),hx1,hx2⟩),rfl,aH⟩⟩
instance bDn{I:List Atom}{v0 v1 vk:Value}{x:aQ}{ks:List jH}[h0:eK Int I v0 x.1][h1:eK cM I v1 x.2][ha:eK jH I vk ks] :
  bQ prog 231 [.agg #[v0,v1],vk] I (True) ((Value×Value)×ClT) (fun q:(Value×Value)×ClT=>.tuple #[.agg #[.int .i64 q.2.1.1.1,q.1.1,q.1.2],.bool q.2.1.2]) (fun q=>.ow [q.1.1] q.2.1.1.2.1::.ow [q.1.2] q.2.1.1.2.2::I):=⟨fun _ w0=>by
 refine aK func231 ntmps231 ?_
 repeat' (first|refine aU ?_|refine cV fun r hr=>?_|refine aW fun r=>?_|refine bT fun b=>?_|refine bV fun hc=>?_|refine bW fun hc=>?_|refine aS (fun hc=>?_) fun hc=>?_|fail)
 all_goals try exact⟨((.slice none 0 0,.slice none 0 0),⟨((0,[],[]),false),iS⟩),rfl,aH⟩
 have hpl:=r.2.2.1
 rename Value×PkT x=>pk
 refine fU pk.1 ?_
 repeat' (first|refine aU ?_|refine bP ?_|(refine iH fun p c d f g hf=>?_;simp only[Un.cells,Un.atoms,Un.fact,aA,aB] at f g hf;subst f g)|refine bV fun hc=>?_|refine bW fun hc=>?_|refine aS (fun hc=>?_) fun hc=>?_|fail)
 all_goals try exact⟨((.slice none 0 0,.slice none 0 0),⟨((0,[],[]),false),iS⟩),rfl,aH⟩
 refine lc_ [8] [32,33,34,35,38,39,40,41,42,43,44,45,46,47,48,49,50,51,52,53,54,55,56,5,36,37] (Z:=Nat) (fun k=>[.int .i64 k]) (fun k=>k<=pk.2.1.1.length) (fun k=>pk.2.1.1.length-k) 0 (aI _) ?_
 intro i u l' hl' hi
 simp only[bM,List.map,List.set] at hl'
 subst hl'
 by_cases hil:i<pk.2.1.1.length
 ·repeat' (first|refine aU ?_|refine bP ?_|refine bV fun hc=>?_|refine bW fun hc=>?_|refine aS (fun hc=>?_) fun hc=>?_|refine cV fun r hr=>?_|refine aW fun r=>?_|refine wb 7 [] ?_|refine xp ?_|(refine xd fun p c d e f g h hf=>?_;simp only[Un.cells,Un.atoms,Un.fact,aA,aB] at f g h hf;subst f g h)|refine xy ?_|refine bI ?_|fail)
  all_goals try exact⟨((.slice none 0 0,.slice none 0 0),⟨((0,[],[]),false),iS⟩),rfl,aH⟩
  exact eB (i+1) (by omega)
 ·repeat' (first|refine aU ?_|refine bV fun hc=>?_|refine bW fun hc=>?_|refine aS (fun hc=>?_) fun hc=>?_|fail)
  exact⟨((.slice none 0 0,.slice none 0 0),⟨((5,[],[]),true),by decide,aI _,aI _⟩),rfl,aH⟩⟩
instance bBi{I:List Atom}{v0 v1 va vb vc vk:Value}{x:aQ}{n:dK}{ks:List jH}[h0:eK Int I v0 x.1][h1:eK cM I v1 x.2][ha:eK Int I va n.2.1][hb:eK (List Int) I vb n.2.2.1][hc':eK Int I vc n.2.2.2][hk:eK jH I vk ks] :
  bQ prog 175 [.agg #[v0,v1],.agg #[.int .i64 n.1,va,vb,vc],vk] I (∀ c∈ks,ClB c) ((Value×Value)×ClT) (fun q:(Value×Value)×ClT=>.tuple #[.agg #[.int .i64 q.2.1.1.1,q.1.1,q.1.2],.bool q.2.1.2]) (fun q=>.ow [q.1.1] q.2.1.1.2.1::.ow [q.1.2] q.2.1.1.2.2::I):=⟨fun hs w0=>by
 refine aK func175 ntmps175 ?_
 repeat' (first|refine aU ?_|refine cV fun r hr=>?_|refine aW fun r=>?_|refine bT fun b=>?_|refine bV fun hc=>?_|refine bW fun hc=>?_|refine aS (fun hc=>?_) fun hc=>?_|fail)
 all_goals try exact⟨((.slice none 0 0,.slice none 0 0),⟨((0,[],[]),false),iS⟩),rfl,aH⟩
 all_goals try exact⟨((.slice none 0 0,.slice none 0 0),⟨((5,[],[]),true),by decide,aI _,aI _⟩),rfl,aH⟩
 all_goals try exact⟨r,rfl,aH⟩
 ·by_cases hk2:ks.length=2
  ·refine kD vk 0 (xs:=ks) (by omega) fun q0 hf0=>?_
   refine kD vk 1 (xs:=ks) (by omega) fun q1 hf1=>?_
   simp only[Un.cells,Un.atoms,Un.fact,aA,aB] at hf0 hf1 ⊢
   have hb0:=hs _ (dX (xs:=ks) (k:=0) (by omega))
   have hb0a:=hb0.a
   repeat' (first|refine aU ?_|refine bP ?_|refine cV fun r hr=>?_|refine aW fun r=>?_|refine bV fun hc=>?_|refine bW fun hc=>?_|refine aS (fun hc=>?_) fun hc=>?_|refine wb 10 [] ?_|refine xp ?_|refine xg ?_|refine xn ?_|refine pM fun hc=>?_|refine pN fun hc=>?_|refine xi (fun hc=>?_) fun hc=>?_|refine xy ?_|refine bI ?_|fail)
   all_goals try exact⟨((.slice none 0 0,.slice none 0 0),⟨((0,[],[]),false),iS⟩),rfl,aH⟩
   exact⟨((r,.slice none 0 0),⟨((6,(ks.getD 0 default).2.1,[]),true),(by decide:(0:Int)<=6/\(6:Int)<=9),hb0a,aI _⟩),rfl,aH⟩
  ·repeat' (first|refine aU ?_|refine wb 10 [] ?_|refine xp ?_|refine xg ?_|refine xn ?_|refine pM fun hc=>?_|refine pN fun hc=>?_|refine xi (fun hc=>?_) fun hc=>?_|refine xy ?_|refine bI ?_|fail)
   all_goals exact⟨((.slice none 0 0,.slice none 0 0),⟨((0,[],[]),false),iS⟩),rfl,aH⟩
 ·by_cases hk3:ks.length=3
  ·refine kD vk 0 (xs:=ks) (by omega) fun q0 hf0=>?_
   refine kD vk 1 (xs:=ks) (by omega) fun q1 hf1=>?_
   refine kD vk 2 (xs:=ks) (by omega) fun q2 hf2=>?_
   simp only[Un.cells,Un.atoms,Un.fact,aA,aB] at hf0 hf1 hf2 ⊢
   have hb1:=hs _ (dX (xs:=ks) (k:=1) (by omega))
   have hb1a:=hb1.a
   have hb2:=hs _ (dX (xs:=ks) (k:=2) (by omega))
   have hb2a:=hb2.a
   repeat' (first|refine aU ?_|refine bV fun hc=>?_|refine bW fun hc=>?_|refine aS (fun hc=>?_) fun hc=>?_|refine cV fun r hr=>?_|refine aW fun r=>?_|refine wb 13 [] ?_|refine wb 14 [11] ?_|refine xp ?_|refine x0 ?_|refine xg ?_|refine xn ?_|refine pM fun hc=>?_|refine pN fun hc=>?_|refine xi (fun hc=>?_) fun hc=>?_|refine xy ?_|refine bI ?_|fail)
   all_goals try exact⟨((.slice none 0 0,.slice none 0 0),⟨((0,[],[]),false),iS⟩),rfl,aH⟩
   all_goals
    rename_i r1
    exact⟨((r1,r),⟨((7,(ks.getD 1 default).2.1,(ks.getD 2 default).2.1),true),(by decide:(0:Int)<=7/\(7:Int)<=9),hb1a,hb2a⟩),rfl,aH⟩
  ·repeat' (first|refine aU ?_|refine wb 13 [] ?_|refine xp ?_|refine xg ?_|refine xn ?_|refine pM fun hc=>?_|refine pN fun hc=>?_|refine xi (fun hc=>?_) fun hc=>?_|refine xy ?_|refine bI ?_|fail)
   all_goals exact⟨((.slice none 0 0,.slice none 0 0),⟨((0,[],[]),false),iS⟩),rfl,aH⟩⟩
end Go.Proofs.YtajdgkpjbpindaaGreatDoor
