/- Texts of the proof of FnNames. -/
import Derived.Test.YtajdgkpjbpindaaGreatDoorTae
import Derived.Test.YtajdgkpjbpindaaGreatDoorTaf
set_option linter.unusedVariables false
set_option linter.unusedSimpArgs false
set_option linter.unusedSectionVars false
namespace Go.Proofs.YtajdgkpjbpindaaGreatDoor
open Go Go.Eng Tryz
set_option synthInstance.maxHeartbeats 400000
set_option synthInstance.maxSize 1000
set_option maxHeartbeats 4000000
set_option maxRecDepth 20000
abbrev iR:Type:=List Int×List Int×Int×Int
theorem aD3{a t:List Int}(h:jO a t)(k:Nat):(t.take (k+szW a t k)).drop k=mK a t k:=by
 unfold mK;rw[List.drop_take];congr 1;omega
theorem vV{x:aQ}(h:eE x=true){k:Nat}(hk:k<x.2.length):aCl x.1 (x.2.getD k default):=of_decide_eq_true ((eM.1 h).2 _ (dX hk))
def aS6(x:aQ)(k:Nat)(q:Int):Prop:=∃ i,i<k/\(x.2.getD i default).1.getD 0 0=q
theorem aQ9{x:aQ}(q:Int):q∈([]:List Int)↔aS6 x 0 q:=⟨fun h=>absurd h (by simp),fun ⟨i,hi,_⟩=>absurd hi (cX i)⟩
theorem aRa{x:aQ}{k:Nat}{q:Int}:aS6 x (k+1) q↔q=(x.2.getD k default).1.getD 0 0∨aS6 x k q:=by
 constructor
 ·rintro ⟨i,hi,e⟩
  by_cases h:i=k
  ·subst h;exact .inl e.symm
  ·exact .inr ⟨i,by omega,e⟩
 ·rintro (e|⟨i,hi,e⟩)
  ·exact⟨k,by omega,e.symm⟩
  ·exact⟨i,by omega,e⟩
instance {p:Prop}:jB (kZ p) p:=⟨oG⟩
theorem eV{p:Prop}(h:¬ p):kZ p=false:=by
 cases e:kZ p with
 | false=>rfl
 | true=>exact absurd (oG.1 e) h
instance {p:Prop}:jQ (kZ p) (¬ p):=⟨⟨fun h hp=>Bool.noConfusion ((hZ hp).symm.trans h),eV⟩⟩
abbrev aSb(x:aQ):Type:={ ys:List Int // ys.length<=12/\∀ q,q∈ys↔aS6 x x.2.length q }
instance bAe{I:List Atom}{v0 v1:Value}{x:aQ}[h0:bK Int I v0 x.1][h1:bK cM I v1 x.2] :
  bQ prog 324 [.agg #[v0,v1]] I (eE x=true) (Value×aSb x) (fun q:Value×aSb x=>q.1) (fun q=>.ow [q.1] q.2.1::I):=⟨fun hs w0=>by
 refine cL (A:=fun q:Value×aSb x=>[.ow [q.1] q.2.1]) (fun w1=>?_) (aE h0 (aE h1 fI)) fun _=>inferInstance
 simp only[aA,aB]
 have hl:=(eM.1 hs).1.2
 have hsg:=eC (eM.1 hs).1.1
 refine aK func324 ntmps324 ?_
 repeat' (first|refine aU ?_|refine bG fun sv=>?_|refine bT fun b=>?_|fail)
 refine lp_ [3,4] [6,7,8,9,10,13,14,15,16,17,18,19,20,21,22,11,12] (Z:=(Value×List Int)×Nat) (fun k=>[k.1.1,.int .i64 k.2]) (fun k=>[.ow [k.1.1] k.1.2]) (fun k=>k.2<=x.2.length/\k.1.2.Pairwise (· < ·)/\k.1.2.length<=k.2/\∀ q,q∈k.1.2↔aS6 x k.2 q) (fun k=>x.2.length-k.2) ((sv,[]),0) [.ow [sv] ([]:List Int)] ⟨aI _,List.Pairwise.nil,aM _,aQ9⟩ ?_
 intro ⟨⟨sw,ys⟩,k⟩ u l' hl' ⟨hk,hp,hyl,hm⟩
 simp only[bM,List.map,List.set] at hl'
 subst hl'
 simp only[aA,aB] at hk hp hyl hm ⊢
 by_cases hkl:k<x.2.length
 ·have hr:=(vV hs hkl).1
  have hrl:=aX hr.1
  have hrg:=dY hr.1 (k:=0) (by omega)
  repeat' (first|refine aU ?_|refine eF fun hbi=>?_|refine bP ?_|refine cV fun r hr=>?_|refine aW fun r=>?_|(refine iH fun p c d f g hf=>?_;simp only[Un.cells,Un.atoms,Un.fact,aA,aB] at f g hf;subst f g)|refine bV fun hc=>?_|refine bW fun hc=>?_|refine aS (fun hc=>?_) fun hc=>?_|fail)
  exact eB ((r.1,r.2.1),k+1) ⟨by simp only;omega,r.2.2.1,by have:=r.2.2.2.2;simp only;omega,fun q=>by simp only;rw[r.2.2.2.1 q,hm q,aRa]⟩
 ·repeat' (first|refine aU ?_|refine bV fun hc=>?_|refine bW fun hc=>?_|refine aS (fun hc=>?_) fun hc=>?_|fail)
  obtain rfl:k=x.2.length:=by omega
  exact⟨(sw,⟨ys,by omega,hm⟩),rfl,aH⟩⟩
def aEj(a t u:List Int)(m:Nat):Prop:=∃ k,1<=k/\k<m/\eX a t k=u
theorem aMd{a t u:List Int}{m:Nat}(h:¬ aEj a t u m)(h':¬ eX a t m=u):¬ aEj a t u (m+1):=fun ⟨k,h1,h2,h3⟩=>by
 by_cases e:k=m
 ·subst e;exact h' h3
 ·exact h ⟨k,h1,by omega,h3⟩
instance bIk{I:List Atom}{va vt vu:Value}{a t u:List Int}[h0:bK Int I va a][h1:bK Int I vt t][h2:bK Int I vu u] :
  bQ prog 325 [.agg #[va],vt,vu] I (bB a t=true) (Unit) (fun _:Unit=>.bool (kZ (aEj a t u t.length))) (fun _=>I):=⟨fun hs w0=>by
 refine jV (fun w1=>?_) (aE h0 (aE h1 (aE h2 fI)))
 have hl:=aX hs
 have hw:=lB hs
 refine aK func325 ntmps325 ?_
 repeat' (first|refine aU ?_|refine bT fun b=>?_|fail)
 refine lc_ [7] [8,9,10,11,14,15,16,17,18,19,20,21,22,6,12,13] (Z:=Nat) (fun k=>[.int .i64 k]) (fun k=>1<=k/\k<=t.length/\¬ aEj a t u k) (fun k=>t.length-k) 1 ⟨aM _,hl.1,fun ⟨k,h1,h2,_⟩=>by omega⟩ ?_
 intro k u1 l' hl' ⟨hk1,hk,hn⟩
 simp only[bM,List.map,List.set] at hl'
 subst hl'
 by_cases hkl:k<t.length
 ·have hat:=hw.at hkl
  have hsl:=aD3 hw k
  have hsp:=nG hs k
  repeat' (first|refine aU ?_|refine bP ?_|refine cV fun r hr=>?_|refine aW fun r=>?_|refine bG fun sv=>?_|refine bV fun hc=>?_|refine bW fun hc=>?_|refine aS (fun hc=>?_) fun hc=>?_|fail)
  ·exact⟨(),bO (hZ ⟨k,hk1,hkl,by rw[← hsp,← hsl];exact hc⟩),aH⟩
  ·exact eB (k+1) ⟨by omega,by omega,aMd hn fun e=>hc (by rw[hsl,hsp];exact e)⟩
 ·repeat' (first|refine aU ?_|refine bV fun hc=>?_|refine bW fun hc=>?_|refine aS (fun hc=>?_) fun hc=>?_|fail)
  obtain rfl:k=t.length:=by omega
  exact⟨(),bO (eV hn),aH⟩⟩
def aM1(x:aQ)(r k:Nat):Prop:=0<=(x.2.getD r default).2.getD k 0/\aS6 x x.2.length ((x.2.getD r default).2.getD k 0)/\¬ aEj x.1 (x.2.getD r default).1 (eX x.1 (x.2.getD r default).2 k) (x.2.getD r default).1.length
noncomputable def lM(x:aQ)(r k:Nat):Option iR:=if kZ (aM1 x r k)=true then some ((x.2.getD r default).1,eX x.1 (x.2.getD r default).2 k,(r:Int),(k:Int)) else none
noncomputable def sO(x:aQ)(r k:Nat):iR:=(lM x r k).getD ([],[],0,0)
theorem xF{x:aQ}{r k:Nat}(h:aM1 x r k):lM x r k=some ((x.2.getD r default).1,eX x.1 (x.2.getD r default).2 k,(r:Int),(k:Int)):=if_pos (hZ h)
theorem aAy{x:aQ}{r k:Nat}(h:¬ aM1 x r k):lM x r k=none:=if_neg (by rw[eV h];decide)
structure DpC(x:aQ)(r k:Nat):Prop where
 ok:eE x=true
 hr:r<x.2.length
 hk:k<(x.2.getD r default).2.length
theorem uU{x:aQ}{r k:Nat}(h:¬ aM1 x r k):lM x r k=none/\sO x r k=([],[],0,0):=⟨aAy h,by unfold sO;rw[aAy h];rfl⟩
theorem aJv{x:aQ}{r k:Nat}(h:aM1 x r k):(lM x r k).isSome=true/\sO x r k=((x.2.getD r default).1,eX x.1 (x.2.getD r default).2 k,(r:Int),(k:Int)):=⟨by rw[xF h];rfl,by unfold sO;rw[xF h];rfl⟩
instance bMz{I:List Atom}{v0 v1:Value}{x:aQ}{ri k:Nat}[h0:bK Int I v0 x.1][h1:bK cM I v1 x.2] :
  bQ prog 296 [.agg #[v0,v1],.int .i64 (ri:Int),.int .i64 (k:Int)] I (DpC x ri k) (Value×Value) (fun q:Value×Value=>.tuple #[.agg #[q.1,q.2,.int .i64 (sO x ri k).2.2.1,.int .i64 (sO x ri k).2.2.2],.bool (lM x ri k).isSome]) (fun q=>.ow [q.1] (sO x ri k).1::.ow [q.2] (sO x ri k).2.1::I):=⟨fun hs w0=>by
 refine cL (A:=fun q:Value×Value=>[.ow [q.1] (sO x ri k).1,.ow [q.2] (sO x ri k).2.1]) (fun w1=>?_) (aE h0 (aE h1 fI)) fun _=>inferInstance
 simp only[aA,aB]
 obtain ⟨hok,hri,hk⟩:=hs
 have hR:=(vV hok hri).1
 have hw:=lB hR.2.1
 have hat:=hw.at hk
 have hsl:=aD3 hw k
 have hsp:=nG hR.2.1 k
 have hlL:=aX hR.1
 have hlR:=aX hR.2.1
 have hsbl:=mD hR.2.1 hk
 have htm:=hR.1
 have hrl:=(eM.1 hok).1.2
 refine aK func296 ntmps296 ?_
 repeat' (first|refine aU ?_|refine cV fun r hr=>?_|refine aW fun r=>?_|refine bT fun b=>?_|(refine iH fun p c d f g hf=>?_;simp only[Un.cells,Un.atoms,Un.fact,aA,aB] at f g hf;subst f g)|refine bV fun hc=>?_|refine bW fun hc=>?_|refine aS (fun hc=>?_) fun hc=>?_|refine bG fun sv=>?_|refine wb 2 [] ?_|refine wb 4 [] ?_|refine xf fun hbi=>?_|refine xp ?_|refine xg ?_|refine xn ?_|refine pM fun hc=>?_|refine pN fun hc=>?_|refine xi (fun hc=>?_) fun hc=>?_|refine xy ?_|refine bI ?_|fail)
 ·have hno:=uU (x:=x) (r:=ri) (k:=k) fun h=>by have:=h.1;omega
  rw[hno.2,hno.1]
  exact⟨(.slice none 0 0,.slice none 0 0),rfl,aH⟩
 ·rename Value×aSb x=>df
  have hno:=uU (x:=x) (r:=ri) (k:=k) fun h=>hc ((df.2.2.2 _).2 h.2.1)
  rw[hno.2,hno.1]
  exact⟨(.slice none 0 0,.slice none 0 0),rfl,aH⟩
 all_goals
  rename Value×aSb x=>df
  rw[hsl,hsp] at hc
 ·have hno:=uU (x:=x) (r:=ri) (k:=k) fun h=>h.2.2 hc
  rw[hno.2,hno.1]
  exact⟨(.slice none 0 0,.slice none 0 0),rfl,aH⟩
 ·have hyes:=aJv (x:=x) (r:=ri) (k:=k) ⟨by omega,(df.2.2.2 _).1 (by assumption),hc⟩
  rw[hyes.2,hyes.1]
  simp only[hsl,hsp]
  rename_i vR _
  exact⟨(r,vR),rfl,aH⟩⟩
noncomputable def kP(x:aQ)(r:Nat)(out:List iR):Nat->List iR
 | 0=>out
 | k+1=>kP x r out k++(lM x r k).toList
noncomputable def lD(x:aQ):Nat->List iR
 | 0=>[]
 | r+1=>kP x r (lD x r) (x.2.getD r default).2.length
noncomputable def aM5(x:aQ):List iR:=lD x x.2.length
theorem tX(x:aQ)(r:Nat)(out:List iR):∀ k,(kP x r out k).length<=out.length+k
 | 0=>aM _
 | k+1=>by
  have:=tX x r out k
  have h:(lM x r k).toList.length<=1:=by cases lM x r k<;>simp
  show(kP x r out k++(lM x r k).toList).length<=_
  rw[aD];omega
theorem aBw{x:aQ}(hs:eE x=true):∀ r,r<=x.2.length->(lD x r).length<=60*r
 | 0,_=>aI _
 | r+1,hr=>by
  have h1:=aBw hs r (by omega)
  have h2:=aX (vV hs (k:=r) (by omega)).1.2.1
  have h3:=tX x r (lD x r) (x.2.getD r default).2.length
  show(kP x r (lD x r) (x.2.getD r default).2.length).length<=_
  omega
theorem aNk{x:aQ}{r k:Nat}{out:List iR}(h:(lM x r k).isSome=true):kP x r out (k+1)=kP x r out k++[sO x r k]:=by
 show kP x r out k++(lM x r k).toList=_
 unfold sO
 cases e:lM x r k with
 | none=>rw[e] at h;cases h
 | some d=>rfl
theorem aT2{x:aQ}{r k:Nat}{out:List iR}(h:(lM x r k).isSome=false):kP x r out (k+1)=kP x r out k:=by
 show kP x r out k++(lM x r k).toList=_
 cases e:lM x r k with
 | none=>simp
 | some d=>rw[e] at h;cases h
def iY(x:aQ):Prop:=eE x=true/\(aM5 x).length<=64
noncomputable def eP(x:aQ):List iR:=if kZ (iY x)=true then aM5 x else []
theorem uI{x:aQ}(h:iY x):eP x=aM5 x:=if_pos (hZ h)
theorem xB{x:aQ}(h:¬ iY x):eP x=[]:=if_neg (by rw[eV h];decide)
theorem kR(x:aQ):(eP x).length<=64:=by
 by_cases h:iY x
 ·rw[uI h];exact h.2
 ·rw[xB h];exact aI _
theorem bDe{x:aQ}{r k:Nat}(hr:r<=1000)(hk:k<=1000):(0<=(sO x r k).2.2.1/\(sO x r k).2.2.1<=1000)/\0<=(sO x r k).2.2.2/\(sO x r k).2.2.2<=1000:=by
 by_cases h:aM1 x r k
 ·rw[(aJv h).2];simp only;omega
 ·rw[(uU h).2];simp only;omega
theorem vG{w0:World}{I:List Atom}{v0 v1:Value}{x:aQ}[h0:bK Int I v0 x.1][h1:bK cM I v1 x.2] :
  CJ prog 240 [.agg #[v0,v1]] w0 I (fun q:Value=>.tuple #[q,.bool (kZ (iY x))]) (fun q=>.ow [q] (eP x)::I):=by
 refine cL (A:=fun q:Value=>[.ow [q] (eP x)]) (fun w1=>?_) (aE h0 (aE h1 fI)) fun _=>inferInstance
 simp only[aA,aB]
 refine dQ v1 fun hl1=>?_
 by_cases hs:eE x=true
 ·have hrl:=(eM.1 hs).1.2
  refine aK func240 ntmps240 ?_
  repeat' (first|refine aU ?_|refine cV fun r hr=>?_|refine aW fun r=>?_|refine bG fun sv=>?_|refine bT fun b=>?_|refine bV fun hc=>?_|refine bW fun hc=>?_|refine aS (fun hc=>?_) fun hc=>?_|fail)
  ·rw[hs] at hc;cases hc
  refine lp_ [4,5] [14,15,16,17,18,6,21,22,23,24,25,26,27,28,29,33,34,35,36,32,37,38,7,8,39,40,41,42,43,30,31,19,20] (Z:=Value×Nat) (fun k=>[k.1,.int .i64 k.2]) (fun k=>[.ow [k.1] (lD x k.2)]) (fun k=>k.2<=x.2.length) (fun k=>x.2.length-k.2) (sv,0) [.ow [sv] ([]:List iR)] (aI _) ?_
  intro ⟨so,ri⟩ u l' hl' hri
  simp only[bM,List.map,List.set] at hl'
  subst hl'
  simp only[aA,aB] at hri ⊢
  have hal:=aBw hs ri hri
  by_cases hrl2:ri<x.2.length
  ·have hR:=(vV hs hrl2).1
   have hlR:=aX hR.2.1
   repeat' (first|refine aU ?_|refine bV fun hc=>?_|refine bW fun hc=>?_|refine aS (fun hc=>?_) fun hc=>?_|fail)
   refine lp_ [4,6] [21,22,23,24,25,26,27,28,29,33,34,35,36,32,37,38,7,8,39,40,41,42,43,30,31] (Z:=Value×Nat) (fun k=>[k.1,.int .i64 k.2]) (fun k=>[.ow [k.1] (kP x ri (lD x ri) k.2)]) (fun k=>k.2<=(x.2.getD ri default).2.length) (fun k=>(x.2.getD ri default).2.length-k.2) (so,0) [.ow [so] (lD x ri)] (aI _) ?_
   intro ⟨sp,k⟩ u2 l2 hl2 hk
   simp only[bM,List.map,List.set] at hl2
   subst hl2
   simp only[aA,aB] at hk ⊢
   have hdl:=tX x ri (lD x ri) k
   by_cases hkl:k<(x.2.getD ri default).2.length
   ·have hdp:DpC x ri k:=⟨hs,hrl2,hkl⟩
    obtain ⟨hd1,hd2⟩:=bDe (x:=x) (r:=ri) (k:=k) (by omega) (by omega)
    repeat' (first|refine aU ?_|refine bP ?_|refine cV fun r hr=>?_|refine aW fun r=>?_|refine bG fun sv=>?_|refine bT fun b=>?_|(refine iH fun p c d f g hf=>?_;simp only[Un.cells,Un.atoms,Un.fact,aA,aB] at f g hf;subst f g)|refine bV fun hc=>?_|refine bW fun hc=>?_|refine aS (fun hc=>?_) fun hc=>?_|fail)
    ·exact dH (sv,k+1) (by simp only;omega) (by simp only;omega) (by kernel_rfl) (by simp only[aNk hc];exact aH)
    ·exact dH (sp,k+1) (by simp only;omega) (by simp only;omega) (by kernel_rfl) (by simp only[aT2 hc];exact aH)
   ·obtain rfl:k=(x.2.getD ri default).2.length:=by omega
    repeat' (first|refine aU ?_|refine bP ?_|(refine iH fun p c d f g hf=>?_;simp only[Un.cells,Un.atoms,Un.fact,aA,aB] at f g hf;subst f g)|refine bV fun hc=>?_|refine bW fun hc=>?_|refine aS (fun hc=>?_) fun hc=>?_|fail)
    exact dH (sp,ri+1) (by simp only;omega) (by simp only;omega) (by kernel_rfl) (by show Ent _ _ (.ow [sp] (kP x ri (lD x ri) (x.2.getD ri default).2.length)::_);exact aH)
  ·obtain rfl:ri=x.2.length:=by omega
   have hp64:iY x↔(lD x x.2.length).length<=64:=⟨fun h=>h.2,fun h=>⟨hs,h⟩⟩
   repeat' (first|refine aU ?_|refine bG fun sv=>?_|refine bV fun hc=>?_|refine bW fun hc=>?_|refine aS (fun hc=>?_) fun hc=>?_|fail)
   ·have hno:¬ iY x:=fun h=>by have:=hp64.1 h;omega
    rw[xB hno,eV hno]
    exact⟨sv,rfl,aH⟩
   ·have hyes:iY x:=hp64.2 (by omega)
    rw[uI hyes,hZ hyes]
    exact⟨so,rfl,by show Ent _ _ (.ow [so] (lD x x.2.length)::_);exact aH⟩
 ·have hno:¬ iY x:=fun h=>hs h.1
  rw[xB hno,eV hno]
  refine aK func240 ntmps240 ?_
  repeat' (first|refine aU ?_|refine cV fun r hr=>?_|refine aW fun r=>?_|refine bG fun sv=>?_|refine bT fun b=>?_|refine bV fun hc=>?_|refine bW fun hc=>?_|refine aS (fun hc=>?_) fun hc=>?_|fail)
  ·exact⟨sv,rfl,aH⟩
  ·exact absurd hc hs
instance bGt{I:List Atom}{v0 v1:Value}{x:aQ}[h0:bK Int I v0 x.1][h1:bK cM I v1 x.2] :
  bQ prog 240 [.agg #[v0,v1]] I True Value (fun q:Value=>.tuple #[q,.bool (kZ (iY x))]) (fun q=>.ow [q] (eP x)::I):=⟨fun s w0=>vG⟩
structure aKk(a t:List Int)(at_:Nat)(out:List Int)(m n:Nat):Prop where
 le:at_<=t.length
 ol:out.length<=at_/\1<=out.length
 rest:eQ a (dS a) (t.drop at_) m=(true,t.length-at_)
 sq:∀ r:List Int,eQ a (dS a) (iZ out++r) 1=((eQ a (dS a) r m).1,out.length+(eQ a (dS a) r m).2)
 vars:∀ x∈out,x<0->-(n:Int)<=x
 cov:∀ i:Nat,1<=i->i<=n->-(i:Int)∈out
 cnt:n<=out.length
theorem aXj{a:List Int}(h:eA a=true):dS a (-1)=false:=by
 have:=eC h
 unfold dS;exact decide_eq_false (by omega)
theorem sJ(s t:List Int):iZ (s++t)=iZ s++iZ t:=by unfold iZ;rw[cG]
theorem aSm{a t:List Int}(h:bB a t=true)(h0:0<=t.getD 0 0):aKk a t 1 [t.getD 0 0] (iA a t) 0:=by
 have hl:=aX h
 have hg:=dY h (k:=0) (by omega)
 refine⟨hl.1,⟨aM _,aM _⟩,?_,fun r=>?_,fun x hx h1=>?_,fun i h1 h2=>by omega,aI _⟩
 ·have:=(wK h 0 (aI _)).2
  rw[Nat.sub_zero] at this
  exact this
 ·have e:iZ [t.getD 0 0]++r=t.getD 0 0::r:=by
   show xW (t.getD 0 0)::([]++r)=_
   rw[lA h0];rfl
  have hb:dS a (t.getD 0 0)=false:=by unfold dS;exact decide_eq_false (by omega)
  rw[e]
  simp only[eQ,hb,dB,if_false,cR,aJ]
  exact Prod.ext rfl (Nat.add_comm _ _)
 ·rw[aO] at hx;omega
theorem aZ7{a t:List Int}{at_ m n:Nat}{out:List Int}(h:aKk a t at_ out m n)(hl:at_<t.length):∃ m',m=m'+1:=by
 cases m with
 | zero=>
  have:=congrArg Prod.snd h.rest
  simp only[eQ] at this
  omega
 | succ m=>exact⟨m,rfl⟩
theorem aP2{a t:List Int}{at_ m n:Nat}{out:List Int}(ht:bB a t=true)(h:aKk a t at_ out (m+1) n)(hl:at_<t.length):aKk a t (at_+szW a t at_) (out++[-(n:Int)-1]) m (n+1):=by
 have hs:=fN ht hl
 have e:szW a t at_=sz a t at_:=aU5 ht at_
 have hsp:=iL a (dS a) (t.drop at_) 1 m
 rw[if_pos hs.1,Nat.add_comm 1 m,h.rest,List.drop_drop] at hsp
 rw[e]
 refine⟨hs.2.2,⟨by simp only[aD,aJ];have:=h.ol;omega,by simp⟩,?_,fun r=>?_,fun x hx h1=>?_,fun i h1 h2=>?_,by simp only[aD,aJ];have:=h.cnt;omega⟩
 ·have h1:=congrArg Prod.fst hsp
  have h2:=congrArg Prod.snd hsp
  refine Prod.ext h1.symm ?_
  simp only at h2 ⊢
  have:sz a t at_=(eQ a (dS a) (t.drop at_) 1).2:=rfl
  rw[this]
  omega
 ·have e2:iZ (out++[-(n:Int)-1])++r=iZ out++(-1::r):=by
   rw[sJ,aT]
   congr 1
   show xW (-(n:Int)-1)::([]++r)=_
   unfold xW;rw[if_pos (by omega)];rfl
  rw[e2,h.sq]
  have ha:ar a (-1)=0:=if_pos (by decide)
  simp only[eQ,aXj (eI ht),dB,if_false,ha,Int.toNat_zero,Nat.add_zero,aD,aJ]
  exact Prod.ext rfl (by simp only;omega)
 ·rcases aP.1 hx with hx|hx
  ·have:=h.vars x hx h1;omega
  ·rw[aO] at hx;omega
 ·by_cases e3:i<=n
  ·exact List.mem_append_left _ (h.cov i h1 e3)
  ·exact List.mem_append_right _ (by rw[aO];omega)
theorem aY0{a t:List Int}{at_ m n:Nat}{out:List Int}(ht:bB a t=true)(h:aKk a t at_ out (m+1) n)(hl:at_<t.length)(h0:0<=t.getD at_ 0):aKk a t (at_+1) (out++[t.getD at_ 0]) (m+(ar a (t.getD at_ 0)).toNat) n:=by
 have hg:=dY ht hl
 have hb:dS a (t.getD at_ 0)=false:=by unfold dS;exact decide_eq_false (by omega)
 have hr:=h.rest
 rw[fA hl] at hr
 simp only[eQ,hb,dB,if_false] at hr
 refine⟨hl,⟨by simp only[aD,aJ];have:=h.ol;omega,by simp⟩,?_,fun r=>?_,fun x hx h1=>?_,fun i h1 h2=>List.mem_append_left _ (h.cov i h1 h2),by simp only[aD,aJ];have:=h.cnt;omega⟩
 ·have h1:=congrArg Prod.fst hr
  have h2:=congrArg Prod.snd hr
  refine Prod.ext h1 ?_
  simp only at h2 ⊢
  omega
 ·have e2:iZ (out++[t.getD at_ 0])++r=iZ out++(t.getD at_ 0::r):=by
   rw[sJ,aT]
   congr 1
   show xW (t.getD at_ 0)::([]++r)=_
   rw[lA h0];rfl
  rw[e2,h.sq]
  simp only[eQ,hb,dB,if_false,aD,aJ]
  exact Prod.ext rfl (by simp only;omega)
 ·rcases aP.1 hx with hx|hx
  ·exact h.vars x hx h1
  ·rw[aO] at hx;omega
structure aSe(a out:List Int)(n:Nat):Prop where
 ok:bB a (iZ out)=true
 vars:∀ x∈out,x<0->-(n:Int)<=x
 cov:∀ i:Nat,1<=i->i<=n->-(i:Int)∈out
 le:n<=60
theorem bEt{a t:List Int}{m n:Nat}{out:List Int}(ht:bB a t=true)(h:aKk a t t.length out m n):aSe a out n:=by
 have hl:=aX ht
 have h1:=h.rest
 rw[List.drop_length] at h1
 have hm:m=0:=by
  cases m with
  | zero=>rfl
  | succ m=>simp [eQ] at h1
 subst hm
 have h2:=h.sq []
 rw[cF] at h2
 have ho:=h.ol
 refine⟨fE.2 ⟨eI ht,by rw[gA];exact ho.2,by rw[gA];omega,?_⟩,h.vars,h.cov,by have:=h.cnt;omega⟩
 rw[h2,gA]
 simp [eQ]
theorem aSe.wtm{a out:List Int}{n:Nat}(h:aSe a out n)(hn:n<=24):jO a out:=⟨h.ok,fun x hx=>by
 by_cases h0:x<0
 ·have:=h.vars x hx h0;omega
 ·omega⟩
theorem bBl{a t:List Int}(h:bB a t=true):aSe a [-1] 1:=by
 have hs:=eI h
 refine⟨fE.2 ⟨hs,by decide,by decide,?_⟩,fun x hx _=>by rw[aO] at hx;rw[hx];decide,fun i h1 h2=>by rw[aO];omega,by decide⟩
 have ha:ar a (-1)=0:=if_pos (by decide)
 show eQ a (dS a) [-1] 1=_
 simp only[eQ,aXj hs,dB,if_false,ha,Int.toNat_zero]
 rfl
abbrev bJ7(a:List Int):Type:={ q:List Int // ∃ n,aSe a q n }
instance bA0{I:List Atom}{v0 v1 vt:Value}{x:aQ}{t:List Int}[h0:bK Int I v0 x.1][h1:bK cM I v1 x.2][h2:bK Int I vt t] :
  bQ prog 349 [.agg #[v0,v1],vt] I (eE x=true/\bB x.1 t=true) (Value×bJ7 x.1) (fun q:Value×bJ7 x.1=>q.1) (fun q=>.ow [q.1] q.2.1::I):=⟨fun hs w0=>by
 refine cL (A:=fun q:Value×bJ7 x.1=>[.ow [q.1] q.2.1]) (fun w1=>?_) (aE h0 (aE h1 (aE h2 fI))) fun _=>inferInstance
 simp only[aA,aB]
 obtain ⟨hok,ht⟩:=hs
 have hl:=aX ht
 have hw:=lB ht
 have hg0:=dY ht (k:=0) (by omega)
 have hsg:=eC (eI ht)
 by_cases hv:t.getD 0 0<0
 ·refine aK func349 ntmps349 ?_
  repeat' (first|refine aU ?_|refine eF fun hbi=>?_|refine bP ?_|refine bG fun sv=>?_|refine bT fun b=>?_|refine bV fun hc=>?_|refine bW fun hc=>?_|refine aS (fun hc=>?_) fun hc=>?_|fail)
  exact⟨(sv,⟨[-1],1,bBl ht⟩),rfl,aH⟩
 ·refine aK func349 ntmps349 ?_
  repeat' (first|refine aU ?_|refine eF fun hbi=>?_|refine bP ?_|refine cV fun r hr=>?_|refine aW fun r=>?_|refine bG fun sv=>?_|refine bT fun b=>?_|refine bV fun hc=>?_|refine bW fun hc=>?_|refine aS (fun hc=>?_) fun hc=>?_|fail)
  rename Value×aSb x=>df
  refine lp_ [6,7,8] [20,21,22,23,24,25,26,27,28,29,30,31,32,33,34,35,36,37,38,39,40,41,42,43,44,45,46,47,48,49,50,51,52,53,54,55,56] (Z:=Value×List Int×Nat×Nat×Nat) (fun k=>[k.1,.int .i64 (-(k.2.2.1:Int)-1),.int .i64 k.2.2.2.1]) (fun k=>[.ow [k.1] k.2.1]) (fun k=>aKk x.1 t k.2.2.2.1 k.2.1 k.2.2.2.2 k.2.2.1) (fun k=>t.length-k.2.2.2.1) (sv,[t.getD 0 0],0,1,iA x.1 t) [.ow [sv] [t.getD 0 0]] (aSm ht (by omega)) ?_
  intro ⟨sw,out,n,k,m⟩ u l' hl' hI
  simp only[bM,List.map,List.set] at hl'
  subst hl'
  simp only[aA,aB] at hI ⊢
  have hle:=hI.le
  have hol:=hI.ol
  have hcn:=hI.cnt
  by_cases hkl:k<t.length
  ·obtain ⟨m',rfl⟩:=aZ7 hI hkl
   have hat:=hw.at hkl
   have hgk:=dY ht hkl
   repeat' (first|refine aU ?_|refine eF fun hbi=>?_|refine bP ?_|refine cV fun r hr=>?_|refine aW fun r=>?_|refine bG fun sv=>?_|refine bV fun hc=>?_|refine bW fun hc=>?_|refine aS (fun hc=>?_) fun hc=>?_|fail)
   ·rw[show -(n:Int)-1-1=-((n+1:Nat):Int)-1 by omega]
    exact eB (sv,out++[-(n:Int)-1],n+1,k+szW x.1 t k,m') (aP2 ht hI hkl)
   ·rw[show -(n:Int)-1-1=-((n+1:Nat):Int)-1 by omega]
    exact eB (sv,out++[-(n:Int)-1],n+1,k+szW x.1 t k,m') (aP2 ht hI hkl)
   ·exact eB (sv,out++[t.getD k 0],n,k+1,m'+(ar x.1 (t.getD k 0)).toNat) (aY0 ht hI hkl (by omega))
  ·obtain rfl:k=t.length:=by omega
   repeat' (first|refine aU ?_|refine bV fun hc=>?_|refine bW fun hc=>?_|refine aS (fun hc=>?_) fun hc=>?_|fail)
   exact⟨(sw,⟨out,n,bEt ht hI⟩),rfl,aH⟩⟩
theorem aXm{ys:List Int}{n:Nat}(hp:ys.Pairwise (· < ·))(hm:∀ q,q∈ys↔0<=q/\q<(n:Int)):ys.length=n:=by
 have hn:ys.Nodup:=hp.imp fun h e=>by rw[e] at h;omega
 have h2:((List.range n).map Int.ofNat).Nodup:=by
  rw[List.nodup_iff_pairwise_ne]
  refine List.Pairwise.map _ (fun a b h e=>h (Int.ofNat.inj e)) (List.nodup_iff_pairwise_ne.1 List.nodup_range)
 have h3:=(List.perm_ext_iff_of_nodup hn h2).2 fun q=>by
  rw[hm,dT]
  constructor
  ·intro h
   exact⟨q.toNat,List.mem_range.2 (by omega),by show((q.toNat:Nat):Int)=q;omega⟩
  ·rintro ⟨i,hi,rfl⟩
   have:=List.mem_range.1 hi
   show 0<=(i:Int)/\(i:Int)<n
   omega
 rw[h3.length_eq];simp
abbrev aZz(t:List Int):Type:={ ys:List Int // ys.Pairwise (· < ·)/\∀ q,q∈ys↔∃ i,i<t.length/\t.getD i 0<0/\q=-1-t.getD i 0 }
instance bGv{I:List Atom}{v:Value}{t:List Int}[h:bK Int I v t] :
  bQ prog 350 [v] I (t.length<=60/\∀ x∈t,-60<=x) (Value×aZz t) (fun p:Value×aZz t=>p.1) (fun p=>.ow [p.1] p.2.1::I):=⟨fun hl w0=>by
 refine cL (A:=fun p:Value×aZz t=>[.ow [p.1] p.2.1]) (fun w1=>?_) (aE h fI) fun _=>inferInstance
 simp only[aA,aB]
 obtain ⟨hl,ht⟩:=hl
 refine aK func350 ntmps350 ?_
 repeat' (first|refine aU ?_|refine bG fun sv=>?_|fail)
 refine lp_ [3,4] [6,7,8,9,12,13,14,15,16,17,18,19,20,21,22,23,10,11] (Z:=List Int×Value×Nat) (fun k=>[k.2.1,.int .i64 k.2.2]) (fun k=>[.ow [k.2.1] k.1]) (fun k=>k.2.2<=t.length/\k.1.Pairwise (· < ·)/\k.1.length<=k.2.2/\∀ q,q∈k.1↔∃ i,i<k.2.2/\t.getD i 0<0/\q=-1-t.getD i 0) (fun k=>t.length-k.2.2) ([],sv,0) [.ow [sv] ([]:List Int)] ⟨aI _,List.Pairwise.nil,by simp,fun q=>⟨fun h=>absurd h (by simp),fun ⟨i,hi,_⟩=>absurd hi (cX i)⟩⟩ ?_
 intro ⟨ys,sy,k⟩ u l' hl' ⟨hk,hp,hyl,hm⟩
 simp only[bM,List.map,List.set] at hl'
 subst hl'
 simp only[aA,aB] at hk hp hyl hm ⊢
 by_cases hkl:k<t.length
 ·have htk:=ht _ (eD hkl)
  have hstep:∀ q,(∃ i,i<k+1/\t.getD i 0<0/\q=-1-t.getD i 0)↔(t.getD k 0<0/\q=-1-t.getD k 0)∨∃ i,i<k/\t.getD i 0<0/\q=-1-t.getD i 0:=fun q=>by
   constructor
   ·rintro ⟨i,hi,h1,h2⟩
    by_cases e:i=k
    ·subst e;exact .inl ⟨h1,h2⟩
    ·exact .inr ⟨i,by omega,h1,h2⟩
   ·rintro (⟨h1,h2⟩|⟨i,hi,h1,h2⟩)
    ·exact⟨k,by omega,h1,h2⟩
    ·exact⟨i,by omega,h1,h2⟩
  repeat' (first|refine aU ?_|refine eF fun hbi=>?_|refine bP ?_|refine cV fun r hr=>?_|refine aW fun r=>?_|refine bV fun hc=>?_|refine bW fun hc=>?_|refine aS (fun hc=>?_) fun hc=>?_|fail)
  ·exact dH (r.2.1,r.1,k+1) ⟨by simp only;omega,r.2.2.1,by have:=r.2.2.2.2;simp only;omega,fun q=>by
    simp only
    rw[r.2.2.2.1 q,hstep,hm]
    exact or_congr ⟨fun h=>⟨hc,h⟩,fun h=>h.2⟩ Iff.rfl⟩ (by simp only;omega) (by kernel_rfl) aH
  ·exact dH (ys,sy,k+1) ⟨by simp only;omega,hp,by simp only;omega,fun q=>by
    simp only
    rw[hstep,hm]
    exact⟨fun h=>.inr h,fun h=>h.resolve_left fun h=>by omega⟩⟩ (by simp only;omega) (by kernel_rfl) aH
 ·obtain rfl:k=t.length:=by omega
  repeat' (first|refine aU ?_|refine bV fun hc=>?_|refine bW fun hc=>?_|refine aS (fun hc=>?_) fun hc=>?_|fail)
  exact⟨(sy,⟨ys,hp,hm⟩),rfl,aH⟩⟩
theorem aU3{a t:List Int}{n:Nat}(h:aSe a t n)(ys:aZz t):ys.1.length=n:=by
 refine aXm ys.2.1 fun q=>(ys.2.2 q).trans ?_
 constructor
 ·rintro ⟨i,hi,h1,rfl⟩
  have:=h.vars _ (eD hi) h1
  omega
 ·rintro ⟨h1,h2⟩
  have hm:=h.cov (q+1).toNat (by omega) (by omega)
  rw[show -(((q+1).toNat:Nat):Int)=-1-q by omega] at hm
  obtain ⟨i,hi,e⟩:=cO hm
  have e2:t.getD i 0=-1-q:=by rw[aC,aG hi];exact e
  exact⟨i,hi,by omega,by omega⟩
abbrev bD6(a:List Int):Type:={ q:List Int×Bool // q.2=true->jO a q.1 }
instance bBt{I:List Atom}{v0 v1 vt:Value}{x:aQ}{t:List Int}[h0:bK Int I v0 x.1][h1:bK cM I v1 x.2][h2:bK Int I vt t] :
  bQ prog 326 [.agg #[v0,v1],vt] I (True) (Value×bD6 x.1) (fun q:Value×bD6 x.1=>.tuple #[q.1,.bool q.2.1.2]) (fun q=>.ow [q.1] q.2.1.1::I):=⟨fun _ w0=>by
 refine cL (A:=fun q:Value×bD6 x.1=>[.ow [q.1] q.2.1.1]) (fun w1=>?_) (aE h0 (aE h1 (aE h2 fI))) fun _=>inferInstance
 simp only[aA,aB]
 refine aK func326 ntmps326 ?_
 repeat' (first|refine aU ?_|refine cV fun r hr=>?_|refine aW fun r=>?_|refine bG fun sv=>?_|refine bT fun b=>?_|refine bV fun hc=>?_|refine bW fun hc=>?_|refine aS (fun hc=>?_) fun hc=>?_|fail)
 ·exact⟨(sv,⟨([],false),fun h=>by cases h⟩),rfl,aH⟩
 ·exact⟨(sv,⟨([],false),fun h=>by cases h⟩),rfl,aH⟩
 ·obtain ⟨vc,out,n,hcap⟩:=r
  have hlo:∀ y∈out,-60<=y:=fun y hy=>by
   by_cases h0:y<0
   ·have:=hcap.vars y hy h0
    have:=hcap.le
    omega
   ·omega
  have hol:out.length<=60:=by
   have:=aX hcap.ok
   rw[gA] at this;omega
  simp only
  repeat' (first|refine aU ?_|refine cV fun r hr=>?_|refine aW fun r=>?_|refine bG fun sv=>?_|refine bV fun hc=>?_|refine bW fun hc=>?_|refine aS (fun hc=>?_) fun hc=>?_|fail)
  ·exact⟨(sv,⟨([],false),fun h=>by cases h⟩),rfl,aH⟩
  ·have hn:=aU3 hcap r.2
   exact⟨(vc,⟨(out,true),fun _=>hcap.wtm (by omega)⟩),rfl,aH⟩⟩
theorem aH6{P:Program}{Q:Exit->Act->World->Prop}{w0:World}{l:List Value}{I Y:List Atom}{c:Code}(he:Go.Eng.Ent w0 I Y)(h:WC P Q w0 c l Y):WC P Q w0 c l I:=fun w hs=>h w (he w hs)
theorem aKd(a:List Int):BsW a (List.replicate 48 (⟨[]⟩:Sh (List Int))) (fun c=>[c]) (fun _=>0):=by
 have e:iD (List.replicate 48 (⟨[]⟩:Sh (List Int)))=List.replicate 48 []:=by unfold iD;rw[List.map_replicate]
 refine⟨by rw[e];exact bCz,fun t ht=>?_⟩
 rw[e] at ht
 exact .inl (List.eq_of_mem_replicate ht)
instance l11AwayR_ctr{I:List Atom}{v:Value}{t:List Int}[h:eK Int I v t] :
  bQ prog 306 [v,.int .i64 24] I (t.length<=60/\∀ x∈t,-48<=x) (Value) (fun q:Value=>q) (fun q=>.rd [q] (lO t 24)::I):=⟨fun hs w0=>by
 exact jS (aG4 hs) (fun q=>⟨q,rfl,dJ q aH⟩)⟩
attribute [local instance 2000] l11AwayR_ctr
instance aSk{I:List Atom}{v0 v1 a1 a2 b1 b2:Value}{x:aQ}{pl pr ql qr:List Int}{i1 i2 j1 j2:Int}[h0:bK Int I v0 x.1][h1:bK cM I v1 x.2][h4:bK Int I a1 pl][h2:bK Int I a2 pr][h3:bK Int I b1 ql][h5:bK Int I b2 qr] :
  bQ prog 297 [.agg #[v0,v1],.agg #[a1,a2,.int .i64 i1,.int .i64 i2],.agg #[b1,b2,.int .i64 j1,.int .i64 j2]] I (eE x=true/\bB x.1 pr=true/\bB x.1 ql=true) (Bool) (fun q:Bool=>.bool q) (fun _=>I):=⟨fun hs w0=>by
 refine jV (fun w1=>?_) (aE h0 (aE h1 (aE h4 (aE h2 (aE h3 (aE h5 fI))))))
 obtain ⟨hok,hp,hq⟩:=hs
 have hpl:=aX hp
 have hql:=aX hq
 have hq48:ql.length<=60/\∀ y∈ql,-48<=y:=⟨hql.2,fun y hy=>by have:=jG hq hy;omega⟩
 refine aK func297 ntmps297 ?_
 repeat' (first|refine aU ?_|refine cV fun r hr=>?_|refine aW fun r=>?_|refine bG fun sv=>?_|refine bT fun b=>?_|refine bV fun hc=>?_|refine bW fun hc=>?_|refine aS (fun hc=>?_) fun hc=>?_|refine wb 2 [] ?_|refine xf fun hbi=>?_|refine xp ?_|refine bI ?_|fail)
 ·exact⟨false,rfl,aH⟩
 ·exact⟨true,rfl,aH⟩
 ·obtain ⟨vr,⟨cp,ok⟩,hcp⟩:=r
  simp only at hc hcp ⊢
  refine fC vr ?_
  refine aH6 (nP sv) ?_
  simp only[List.map_replicate]
  have hMt:MtC x.1 (List.replicate 48 (Sh.mk [])) cp (lO ql 24):=⟨⟨_,_,aKd x.1⟩,hcp hc,aA1 hq⟩
  haveI hkp:∀ (Γ1 Δ1:List Atom) [oE Γ1 Δ1],oE (.ow [sv] (List.replicate 48 (Sh.mk ([]:List Int)))::Γ1) Δ1:=fun _ _ h=>⟨iW h.sub⟩
  ((refine wbi 7 [] ?_<;>repeat' (first|refine aU ?_|refine cV fun r hr=>?_|refine aW fun r=>?_|refine xp ?_|refine xy ?_|fail))<;>refine bI ?_)
  repeat' (first|refine aU ?_|fail)
  exact⟨r.1.1,rfl,aH⟩⟩
structure PsC(x:aQ)(ps:List iR):Prop where
 ok:eE x=true
 len:ps.length<=64
 tm:∀ k,k<ps.length->bB x.1 (ps.getD k default).1=true/\bB x.1 (ps.getD k default).2.1=true
structure aL6(g:List (List Int))(n:Nat):Prop where
 len:g.length=n
 row:∀ r∈g,r.length<=n/\∀ q∈r,0<=q/\q<n
abbrev aXt(n:Nat):Type:={ g:List (List Int) // aL6 g n }
instance bFv{I:List Atom}{v0 v1 vp:Value}{x:aQ}{ps:List iR}[h0:bK Int I v0 x.1][h1:bK cM I v1 x.2][h2:bK iR I vp ps] :
  bQ prog 241 [.agg #[v0,v1],vp] I (PsC x ps) (Value×aXt ps.length) (fun q:Value×aXt ps.length=>q.1) (fun q=>.ow [q.1] q.2.1::I):=⟨fun hs w0=>by
 refine cL (A:=fun q:Value×aXt ps.length=>[.ow [q.1] q.2.1]) (fun w1=>?_) (aE h0 (aE h1 (aE h2 fI))) fun _=>inferInstance
 simp only[aA,aB]
 obtain ⟨hok,hl,htm⟩:=hs
 refine aK func241 ntmps241 ?_
 repeat' (first|refine aU ?_|refine bG fun sv=>?_|refine bT fun b=>?_|fail)
 refine lp_ [5,6] [10,11,12,13,16,7,8,17,18,19,20,23,24,25,26,27,28,29,30,31,32,33,34,35,36,21,22,37,38,39,40,14,15] (Z:=Value×List (List Int)×Nat) (fun k=>[k.1,.int .i64 k.2.2]) (fun k=>[.ow [k.1] k.2.1]) (fun k=>k.2.2<=ps.length/\k.2.1.length=k.2.2/\∀ r∈k.2.1,r.length<=ps.length/\∀ q∈r,0<=q/\q<ps.length) (fun k=>ps.length-k.2.2) (sv,[],0) [.ow [sv] ([]:List (List Int))] ⟨aI _,rfl,fun r hr=>absurd hr (by simp)⟩ ?_
 intro ⟨so,g,i⟩ u l' hl' ⟨hi,hgl,hg⟩
 simp only[bM,List.map,List.set] at hl'
 subst hl'
 simp only[aA,aB] at hi hgl hg ⊢
 by_cases hil:i<ps.length
 ·repeat' (first|refine aU ?_|refine bG fun sv=>?_|refine bV fun hc=>?_|refine bW fun hc=>?_|refine aS (fun hc=>?_) fun hc=>?_|fail)
  refine lp_ [7,8] [17,18,19,20,23,24,25,26,27,28,29,30,31,32,33,34,35,36,21,22] (Z:=Value×List Int×Nat) (fun k=>[k.1,.int .i64 k.2.2]) (fun k=>[.ow [k.1] k.2.1]) (fun k=>k.2.2<=ps.length/\k.2.1.length<=k.2.2/\∀ q∈k.2.1,0<=q/\q<ps.length) (fun k=>ps.length-k.2.2) (sv,[],0) [.ow [sv] ([]:List Int)] ⟨aI _,aM _,fun r hr=>absurd hr (by simp)⟩ ?_
  intro ⟨sn,nx,j⟩ u2 l2 hl2 ⟨hj,hnl,hn⟩
  simp only[bM,List.map,List.set] at hl2
  subst hl2
  simp only[aA,aB] at hj hnl hn ⊢
  by_cases hjl:j<ps.length
  ·have hcn:eE x=true/\bB x.1 (ps.getD i default).2.1=true/\bB x.1 (ps.getD j default).1=true:=⟨hok,(htm i hil).2,(htm j hjl).1⟩
   repeat' (first|refine aU ?_|refine bP ?_|refine bG fun sv=>?_|refine bV fun hc=>?_|refine bW fun hc=>?_|refine aS (fun hc=>?_) fun hc=>?_|refine cV fun r hr=>?_|refine aW fun r=>?_|refine wb 9 [] ?_|refine xp ?_|(refine xd fun p c d e f g h hf=>?_;simp only[Un.cells,Un.atoms,Un.fact,aA,aB] at f g h hf;subst f g h)|refine xy ?_|refine bI ?_|fail)
   ·exact dH (sv,nx++[(j:Int)],j+1) ⟨by simp only;omega,by simp only[aD,aF,aL];omega,fun q hq=>by
     rcases aP.1 hq with h|h
     ·exact hn q h
     ·rw[aO] at h;omega⟩ (by simp only;omega) (by kernel_rfl) aH
   ·exact eB (sn,nx,j+1) ⟨by simp only;omega,by simp only;omega,hn⟩
  ·repeat' (first|refine aU ?_|refine bP ?_|refine bG fun sv=>?_|refine bV fun hc=>?_|refine bW fun hc=>?_|refine aS (fun hc=>?_) fun hc=>?_|fail)
   exact dH (sv,g++[nx],i+1) ⟨by simp only;omega,by simp only[aD,aF,aL];omega,fun r hr=>by
    rcases aP.1 hr with h|h
    ·exact hg r h
    ·rw[aO] at h;rw[h];exact⟨by omega,hn⟩⟩ (by simp only;omega) (by kernel_rfl) aH
 ·repeat' (first|refine aU ?_|refine bV fun hc=>?_|refine bW fun hc=>?_|refine aS (fun hc=>?_) fun hc=>?_|fail)
  obtain rfl:i=ps.length:=by omega
  exact⟨(so,⟨g,hgl,hg⟩),rfl,aH⟩⟩
end Go.Proofs.YtajdgkpjbpindaaGreatDoor
