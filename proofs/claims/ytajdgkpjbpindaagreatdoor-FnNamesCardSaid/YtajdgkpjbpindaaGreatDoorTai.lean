/- Texts of the proof of FnNames. -/
import Derived.Test.YtajdgkpjbpindaaGreatDoorTag
import Derived.Test.YtajdgkpjbpindaaGreatDoorTah
set_option linter.unusedVariables false
set_option linter.unusedSimpArgs false
set_option linter.unusedSectionVars false
namespace Go.Proofs.YtajdgkpjbpindaaGreatDoor
open Go Go.Eng Tryz
set_option synthInstance.maxHeartbeats 400000
set_option synthInstance.maxSize 1000
set_option maxHeartbeats 4000000
set_option maxRecDepth 20000
def aSj(g:List (List Int))(s:List Int)(u v:Int):Prop:=v∈g.getD u.toNat []/\v∈s
inductive Way (g:List (List Int)) (s:List Int):Int->Int->Prop
 | one {u v:Int}:aSj g s u v->Way g s u v
 | more {u v z:Int}:Way g s u v->aSj g s v z->Way g s u z
theorem Way.trans{g:List (List Int)}{s:List Int}{u v z:Int}(h:Way g s u v)(h':Way g s v z):Way g s u z:=by
 induction h' with
 | one e=>exact .more h e
 | more _ e ih=>exact .more ih e
theorem aWd{g:List (List Int)}{s:List Int}{n:Nat}{u v:Int}(hg:aL6 g n)(h:aSj g s u v):0<=v/\v<n:=by
 obtain ⟨h1,_⟩:=h
 by_cases hu:u.toNat<g.length
 ·rw[aC,aG hu] at h1
  exact(hg.row _ (cS hu)).2 v h1
 ·rw[aC,dA (by omega)] at h1
  exact absurd h1 (by simp)
theorem Way.inn{g:List (List Int)}{s:List Int}{n:Nat}{u v:Int}(hg:aL6 g n)(h:Way g s u v):0<=v/\v<n:=by
 cases h with
 | one e=>exact aWd hg e
 | more _ e=>exact aWd hg e
theorem Way.mem{g:List (List Int)}{s:List Int}{u v:Int}(h:Way g s u v):v∈s:=by
 cases h with
 | one e=>exact e.2
 | more _ e=>exact e.2
theorem aFm{n:Int}:∀ (ys:List Int) (lo:Int),ys.Pairwise (· < ·)->(∀ q∈ys,lo<=q/\q<n)->lo<=n->(ys.length:Int)<=n-lo
 | [],lo,_,_,h=>by simp only[aL];omega
 | y::ys,lo,hp,hq,h=>by
  have hy:=hq y (by simp)
  rw[List.pairwise_cons] at hp
  have:=aFm (n:=n) ys (y+1) hp.2 (fun q hm=>by have:=hp.1 q hm;have:=hq q (by simp [hm]);omega) (by omega)
  simp only[aF]
  omega
structure AfI(g:List (List Int))(s:List Int)(f:Int)(out todo:List Int):Prop where
 so:out.Pairwise (· < ·)
 way:∀ q∈out,Way g s f q
 td:∀ q∈todo,q=f∨q∈out
 cl:∀ u,(u=f∨u∈out)->u∉todo->∀ q,aSj g s u q->q∈out
structure AfJ(g:List (List Int))(s:List Int)(f:Int)(out todo:List Int)(u:Int)(k:Nat):Prop where
 so:out.Pairwise (· < ·)
 way:∀ q∈out,Way g s f q
 td:∀ q∈todo,q=f∨q∈out
 cl:∀ v,(v=f∨v∈out)->v∉todo->v≠u->∀ q,aSj g s v q->q∈out
 here:u=f∨u∈out
 row:∀ i,i<k->(g.getD u.toNat []).getD i 0∈s->(g.getD u.toNat []).getD i 0∈out
theorem AfI.len{g:List (List Int)}{s:List Int}{f:Int}{out todo:List Int}{n:Nat}(hg:aL6 g n)(h:AfI g s f out todo):out.length<=n:=by
 have:=aFm (n:=n) out 0 h.so (fun q hq=>(h.way q hq).inn hg) (by omega)
 omega
theorem AfJ.len{g:List (List Int)}{s:List Int}{f:Int}{out todo:List Int}{u:Int}{k:Nat}{n:Nat}(hg:aL6 g n)(h:AfJ g s f out todo u k):out.length<=n:=by
 have:=aFm (n:=n) out 0 h.so (fun q hq=>(h.way q hq).inn hg) (by omega)
 omega
theorem aVz(g:List (List Int))(s:List Int)(f:Int):AfI g s f [] [f]:=⟨.nil,fun q hq=>absurd hq (by simp),fun q hq=>.inl (aO.1 hq),fun u hu hn=>by
 rcases hu with rfl|hu
 ·exact absurd (aO.2 rfl) hn
 ·exact absurd hu (by simp)⟩
theorem bKl{g:List (List Int)}{s:List Int}{f u:Int}{out todo:List Int}(h:AfI g s f out (u::todo)):AfJ g s f out todo u 0:=⟨h.so,h.way,fun q hq=>h.td q (by simp [hq]),fun v hv hn hne q hq=>h.cl v hv (by simp [hn,hne]) q hq,h.td u (by simp),fun i hi=>absurd hi (cX i)⟩
theorem bEa{g:List (List Int)}{s:List Int}{f u q:Int}{k:Nat}{out out' todo:List Int}(h:AfJ g s f out todo u k)(hk:k<(g.getD u.toNat []).length)(e:(g.getD u.toNat []).getD k 0=q)(hs:q∈s)(hs':out'.Pairwise (· < ·))(hm:∀ z,z∈out'↔z=q∨z∈out):AfJ g s f out' (todo++[q]) u (k+1):=by
 have he:aSj g s u q:=⟨by rw[← e];exact eD hk,hs⟩
 have hw:Way g s f q:=by
  rcases h.here with rfl|hu
  ·exact .one he
  ·exact .more (h.way u hu) he
 refine⟨hs',fun z hz=>?_,fun z hz=>?_,fun v hv hn hne z hz=>?_,?_,fun i hi hi2=>?_⟩
 ·rcases (hm z).1 hz with rfl|hz
  ·exact hw
  ·exact h.way z hz
 ·rcases aP.1 hz with hz|hz
  ·exact(h.td z hz).imp id fun h=>(hm z).2 (.inr h)
  ·exact .inr ((hm z).2 (.inl (aO.1 hz)))
 ·have hn1:v∉todo:=fun h=>hn (by simp [h])
  have hn2:v≠q:=fun h=>hn (by simp [h])
  refine(hm z).2 (.inr (h.cl v (hv.imp id fun h=>((hm v).1 h).resolve_left hn2) hn1 hne z hz))
 ·exact h.here.imp id fun h=>(hm u).2 (.inr h)
 ·by_cases e2:i=k
  ·subst e2;rw[e];exact(hm q).2 (.inl rfl)
  ·exact(hm _).2 (.inr (h.row i (by omega) hi2))
theorem aOp{g:List (List Int)}{s:List Int}{f u:Int}{k:Nat}{out todo:List Int}(h:AfJ g s f out todo u k)(hq:(g.getD u.toNat []).getD k 0∈s->(g.getD u.toNat []).getD k 0∈out):AfJ g s f out todo u (k+1):=⟨h.so,h.way,h.td,h.cl,h.here,fun i hi hi2=>by
 by_cases e2:i=k
 ·subst e2;exact hq hi2
 ·exact h.row i (by omega) hi2⟩
theorem bEo{g:List (List Int)}{s:List Int}{f u:Int}{out todo:List Int}(h:AfJ g s f out todo u (g.getD u.toNat []).length):AfI g s f out todo:=⟨h.so,h.way,h.td,fun v hv hn q hq=>by
 by_cases e:v=u
 ·subst e
  obtain ⟨i,hi,e2⟩:=cO hq.1
  have e3:(g.getD v.toNat []).getD i 0=q:=by rw[aC,aG hi];exact e2
  rw[← e3]
  exact h.row i hi (by rw[e3];exact hq.2)
 ·exact h.cl v hv hn e q hq⟩
theorem bJe{g:List (List Int)}{s:List Int}{f:Int}{out:List Int}(h:AfI g s f out []):out.Pairwise (· < ·)/\∀ q,q∈out↔Way g s f q:=by
 refine⟨h.so,fun q=>⟨h.way q,fun hw=>?_⟩⟩
 induction hw with
 | one e=>exact h.cl _ (.inl rfl) (by simp) _ e
 | more _ e ih=>exact h.cl _ (.inr ih) (by simp) _ e
theorem aZl{out out':List Int}{q:Int}(hs:out.Pairwise (· < ·))(hs':out'.Pairwise (· < ·))(hm:∀ z,z∈out'↔z=q∨z∈out)(hq:q∉out):out'.length=out.length+1:=by
 have n1:out'.Nodup:=hs'.imp fun h e=>by rw[e] at h;omega
 have n2:(q::out).Nodup:=List.nodup_cons.2 ⟨hq,hs.imp fun h e=>by rw[e] at h;omega⟩
 exact((List.perm_ext_iff_of_nodup n1 n2).2 fun z=>by rw[hm,cH]).length_eq
abbrev bLx(g:List (List Int))(s:List Int)(f:Int):Type:={ ys:List Int // ys.Pairwise (· < ·)/\∀ q,q∈ys↔Way g s f q }
structure AfC(g:List (List Int))(s:List Int)(f:Int):Prop where
 hg:∃ n,n<=64/\aL6 g n/\0<=f/\f<n
 sl:s.length<=64
instance bBe{I:List Atom}{vg vs:Value}{g:List (List Int)}{s:List Int}{f:Int}[h0:bK (List Int) I vg g][h1:bK Int I vs s] :
  bQ prog 298 [vg,vs,.int .i64 f] I (AfC g s f) (Value×bLx g s f) (fun q:Value×bLx g s f=>q.1) (fun q=>.ow [q.1] q.2.1::I):=⟨fun hs w0=>by
 refine cL (A:=fun q:Value×bLx g s f=>[.ow [q.1] q.2.1]) (fun w1=>?_) (aE h0 (aE h1 fI)) fun _=>inferInstance
 simp only[aA,aB]
 obtain ⟨⟨n,hn,hg,hf0,hf1⟩,hsl⟩:=hs
 have hgl:=hg.len
 refine aK func298 ntmps298 ?_
 repeat' (first|refine aU ?_|refine bG fun sv=>?_|fail)
 rename_i sv0
 refine aH6 (bIw sv fun w h=>h) ?_
 refine lp_ [7,8] [15,16,17,18,19,20,9,21,22,10,23,24,25,26,27,28,29,32,33,34,35,36,37,38,11,39,40,41,42,43,44,45,46,47,48,49,50,51,52,53,54,30,31] (Z:=Value×List Int×Value×List Int) (fun k=>[k.1,k.2.2.1]) (fun k=>[.ow [k.1] k.2.1,.ow [k.2.2.1] (Tl.mk k.2.2.2)]) (fun k=>AfI g s f k.2.1 k.2.2.2/\k.2.2.2.length<=1+k.2.1.length) (fun k=>2*(n-k.2.1.length)+k.2.2.2.length) (sv0,[],sv,[f]) [.ow [sv0] ([]:List Int),.ow [sv] (Tl.mk [f])] ⟨aVz g s f,by simp⟩ ?_
 intro ⟨so,out,st,todo⟩ u l' hl' ⟨hI,htl⟩
 simp only[bM,List.map,List.set] at hl'
 subst hl'
 simp only[aA,aB] at hI htl ⊢
 have hol:=hI.len hg
 match todo,hI,htl with
 | [],hI,htl=>
  have hcl:([]:List Int).length=0:=rfl
  repeat' (first|refine aU ?_|refine bV fun hc=>?_|refine bW fun hc=>?_|refine aS (fun hc=>?_) fun hc=>?_|fail)
  exact⟨(so,⟨out,bJe hI⟩),rfl,aH⟩
 | u0::todo,hI,htl=>
  have hu:0<=u0/\u0<n:=by
   rcases hI.td u0 (by simp) with rfl|h
   ·exact⟨hf0,hf1⟩
   ·exact(hI.way u0 h).inn hg
  have hcl:(u0::todo).length=todo.length+1:=rfl
  simp only[aF] at htl
  repeat' (first|refine aU ?_|refine eF fun hbi=>?_|refine bP ?_|refine bG fun sv=>?_|refine bV fun hc=>?_|refine bW fun hc=>?_|refine aS (fun hc=>?_) fun hc=>?_|fail)
  simp only[List.getD_cons_zero] at hbi ⊢
  refine lp_ [7,8,10] [23,24,25,26,27,28,29,32,33,34,35,36,37,38,11,39,40,41,42,43,44,45,46,47,48,49,50,51,52,53,54,30,31] (Z:=Value×List Int×Value×List Int×Nat) (fun k=>[k.1,k.2.2.1,.int .i64 k.2.2.2.2]) (fun k=>[.ow [k.1] k.2.1,.ow [k.2.2.1] (Tl.mk k.2.2.2.1)]) (fun k=>k.2.2.2.2<=(g.getD u0.toNat []).length/\AfJ g s f k.2.1 k.2.2.2.1 u0 k.2.2.2.2/\k.2.2.2.1.length<=k.2.1.length/\2*(n-k.2.1.length)+k.2.2.2.1.length<=2*(n-out.length)+todo.length) (fun k=>(g.getD u0.toNat []).length-k.2.2.2.2) (so,out,sv,todo,0) [.ow [so] out,.ow [sv] (Tl.mk ((u0::todo).drop 1))] ⟨aI _,bKl hI,by simp only;omega,aM _⟩ ?_
  intro ⟨so2,out2,st2,todo2,k⟩ u l' hl' ⟨hk,hJ,htl2,hM⟩
  simp only[bM,List.map,List.set] at hl'
  subst hl'
  simp only[aA,aB] at hk hJ htl2 hM ⊢
  have hol2:=hJ.len hg
  have hso:=hJ.so
  have hgd:(g.getD u0.toNat default).length=(g.getD u0.toNat []).length:=rfl
  by_cases hkl:k<(g.getD u0.toNat []).length
  ·repeat' (first|refine aU ?_|refine eF fun hbi=>?_|refine bP ?_|refine cV fun r hr=>?_|refine aW fun r=>?_|refine bG fun sv=>?_|(refine iH fun p c d f g hf=>?_;simp only[Un.cells,Un.atoms,Un.fact,aA,aB] at f g hf;subst f g)|refine bV fun hc=>?_|refine bW fun hc=>?_|refine aS (fun hc=>?_) fun hc=>?_|fail)
   ·have hil:=aZl hso r.2.2.1 r.2.2.2.1 (by assumption)
    have hJ2:=bEa hJ hkl rfl (by assumption) r.2.2.1 r.2.2.2.1
    have hr2:=hJ2.len hg
    exact eB (r.1,r.2.1,sv,todo2++[(g.getD u0.toNat []).getD k 0],k+1) ⟨by simp only;omega,hJ2,by simp only[aD,aF,aL];omega,by simp only[aD,aF,aL];omega⟩
   ·exact eB (so2,out2,st2,todo2,k+1) ⟨by simp only;omega,aOp hJ fun _=>hc,htl2,hM⟩
   ·exact eB (so2,out2,st2,todo2,k+1) ⟨by simp only;omega,aOp hJ fun h=>absurd h hc,htl2,hM⟩
  ·obtain rfl:k=(g.getD u0.toNat []).length:=by omega
   repeat' (first|refine aU ?_|(refine iH fun p c d f g hf=>?_;simp only[Un.cells,Un.atoms,Un.fact,aA,aB] at f g hf;subst f g)|refine bV fun hc=>?_|refine bW fun hc=>?_|refine aS (fun hc=>?_) fun hc=>?_|fail)
   exact eB (so2,out2,st2,todo2) ⟨bEo hJ,by simp only;omega⟩ (by simp only[aF];omega)⟩
def aKx(g:List (List Int))(s:List Int)(u v:Int):Prop:=Way g s u v/\Way g s v u
noncomputable def mH(g:List (List Int))(s:List Int)(u:Int)(k:Nat):List Int:=(s.take k).filter fun v=>kZ (aKx g s u v)
theorem aLr(g:List (List Int))(s:List Int)(u:Int):mH g s u 0=[]:=by unfold mH;rw[List.take_zero,List.filter_nil]
theorem iM{s:List Int}{k:Nat}(hk:k<s.length):s.take (k+1)=s.take k++[s.getD k 0]:=by
 rw[bC hk,aC,aG hk];rfl
theorem aTn{g:List (List Int)}{s:List Int}{u:Int}{k:Nat}(hk:k<s.length)(h:aKx g s u (s.getD k 0)):mH g s u (k+1)=mH g s u k++[s.getD k 0]:=by
 unfold mH
 rw[iM hk,List.filter_append,cT (by exact hZ h),List.filter_nil]
theorem aJa{g:List (List Int)}{s:List Int}{u:Int}{k:Nat}(hk:k<s.length)(h:¬ aKx g s u (s.getD k 0)):mH g s u (k+1)=mH g s u k:=by
 unfold mH
 rw[iM hk,List.filter_append,cY (by rw[eV h];decide),List.filter_nil,cF]
theorem wX(g:List (List Int))(s:List Int)(u:Int)(k:Nat):(mH g s u k).Sublist s:=List.filter_sublist.trans (List.take_sublist k s)
theorem pL{g:List (List Int)}{s:List Int}{u v:Int}:v∈mH g s u s.length↔v∈s/\aKx g s u v:=by
 unfold mH;rw[cZ,List.mem_filter,oG]
structure PtI(g:List (List Int))(s:List Int)(out:List (List Int))(dn:List Int):Prop where
 fl:dn=out.flatten
 sub:∀ q∈out,q.Sublist s/\0<q.length
 nd:dn.Nodup
 mem:∀ u∈dn,u∈s
 cl:∀ u∈dn,∀ v∈s,aKx g s u v->v∈dn
theorem aW2(g:List (List Int))(s:List Int):PtI g s [] []:=⟨rfl,fun q hq=>absurd hq (by simp),List.nodup_nil,fun u hu=>absurd hu (by simp),fun u hu=>absurd hu (by simp)⟩
theorem bLc{g:List (List Int)}{s:List Int}{out:List (List Int)}{dn:List Int}(h:PtI g s out dn):dn.length<=s.length:=h.nd.length_le_of_subset h.mem
theorem rQ:∀ (out:List (List Int)),(∀ q∈out,0<q.length)->out.length<=out.flatten.length
 | [],_=>aM _
 | q::out,h=>by
  have h1:=rQ out fun z hz=>h z (by simp [hz])
  have h2:=h q (by simp)
  rw[List.flatten_cons,aD,aF];omega
theorem bFj{g:List (List Int)}{s:List Int}{out:List (List Int)}{dn:List Int}{u:Int}(h:PtI g s out dn)(hs:s.Pairwise (· < ·))(hu:u∈s)(hw:Way g s u u)(hn:u∉dn):PtI g s (out++[mH g s u s.length]) (dn++mH g s u s.length):=by
 have hnd:s.Nodup:=hs.imp fun h e=>by rw[e] at h;omega
 refine⟨by rw[h.fl,List.flatten_append];simp,fun q hq=>?_,?_,fun z hz=>?_,fun z hz v hv hb=>?_⟩
 ·rcases aP.1 hq with hq|hq
  ·exact h.sub q hq
  ·rw[aO] at hq
   rw[hq]
   exact⟨wX g s u _,List.length_pos_of_mem (pL.2 ⟨hu,hw,hw⟩)⟩
 ·rw[bJ]
  refine⟨h.nd,(wX g s u _).nodup hnd,fun z hz v hv e=>?_⟩
  subst e
  have hp:=pL.1 hv
  exact hn (h.cl z hz u hu ⟨hp.2.2,hp.2.1⟩)
 ·rcases aP.1 hz with hz|hz
  ·exact h.mem z hz
  ·exact(pL.1 hz).1
 ·rcases aP.1 hz with hz|hz
  ·exact List.mem_append_left _ (h.cl z hz v hv hb)
  ·have hp:=pL.1 hz
   exact List.mem_append_right _ (pL.2 ⟨hv,hp.2.1.trans hb.1,hb.2.trans hp.2.2⟩)
structure xZ(n:Nat)(s:List Int):Prop where
 so:s.Pairwise (· < ·)
 mem:∀ q∈s,0<=q/\q<n
theorem xZ.len{n:Nat}{s:List Int}(h:xZ n s):s.length<=n:=by
 have:=aFm (n:=n) s 0 h.so h.mem (by omega)
 omega
theorem xZ.sub{n:Nat}{s z:List Int}(h:xZ n s)(hz:z.Sublist s):xZ n z:=⟨h.so.sublist hz,fun q hq=>h.mem q (hz.subset hq)⟩
structure aSc(n:Nat)(s:List Int)(ps:List (List Int)):Prop where
 pt:∀ q∈ps,xZ n q/\0<q.length
 sum:ps.flatten.length<=s.length
abbrev aFg(n:Nat)(s:List Int):Type:={ ps:List (List Int) // aSc n s ps }
structure aTf(g:List (List Int))(s:List Int):Prop where
 hn:g.length<=64
 hg:aL6 g g.length
 st:xZ g.length s
theorem aDx{w0:World}{I:List Atom}{vg vs:Value}{g:List (List Int)}{s:List Int}[h0:bK (List Int) I vg g][h1:bK Int I vs s](hs:aTf g s) :
  CJ prog 242 [vg,vs] w0 I (fun q:Value×aFg g.length s=>q.1) (fun q=>.ow [q.1] q.2.1::I):=by
 refine cL (A:=fun q:Value×aFg g.length s=>[.ow [q.1] q.2.1]) (fun w1=>?_) (aE h0 (aE h1 fI)) fun _=>inferInstance
 simp only[aA,aB]
 obtain ⟨hn,hg,hst⟩:=hs
 have hsl:=hst.len
 refine aK func242 ntmps242 ?_
 repeat' (first|refine aU ?_|refine bG fun sv=>?_|fail)
 refine lp_ [5,6] [13,14,15,16,19,20,21,22,23,24,25,26,27,28,17,18] (Z:=Value×List (List Int)×Nat) (fun k=>[k.1,.int .i64 k.2.2]) (fun k=>[.ow [k.1] k.2.1]) (fun k=>k.2.2<=s.length/\k.2.1.length=k.2.2/\∀ i,i<k.2.2->∀ q,q∈k.2.1.getD i []↔Way g s (s.getD i 0) q) (fun k=>s.length-k.2.2) (sv,[],0) [.ow [sv] ([]:List (List Int))] ⟨aI _,rfl,fun i hi=>absurd hi (cX i)⟩ ?_
 intro ⟨sa,af,i⟩ u l' hl' ⟨hi,hal,haf⟩
 simp only[bM,List.map,List.set] at hl'
 subst hl'
 simp only[aA,aB] at hi hal haf ⊢
 by_cases hil:i<s.length
 ·have hm:=hst.mem _ (eD hil)
  have hac:AfC g s (s.getD i 0):=⟨⟨g.length,hn,hg,hm.1,hm.2⟩,by omega⟩
  repeat' (first|refine aU ?_|refine eF fun hbi=>?_|refine bP ?_|refine cV fun r hr=>?_|refine aW fun r=>?_|refine bG fun sv=>?_|refine bV fun hc=>?_|refine bW fun hc=>?_|refine aS (fun hc=>?_) fun hc=>?_|fail)
  exact dH (sv,af++[r.2.1],i+1) ⟨by simp only;omega,by simp only[aD,aF,aL];omega,fun j hj q=>by
   have h9:j<i+1:=hj
   by_cases e:j=i
   ·subst e
    rw[aC,cP (by omega),hal,Nat.sub_self]
    exact r.2.2.2 q
   ·rw[aC,dD (by omega),← aC]
    exact haf j (by omega) q⟩ (by simp only;omega) (by kernel_rfl) aH
 ·obtain rfl:i=s.length:=by omega
  refine fC sa ?_
  repeat' (first|refine aU ?_|refine bG fun sv=>?_|refine bV fun hc=>?_|refine bW fun hc=>?_|refine aS (fun hc=>?_) fun hc=>?_|fail)
  rename_i sv1
  refine lp_ [7,8,9] [31,32,33,34,37,38,39,40,41,42,43,44,45,46,47,48,49,50,51,52,53,54,55,10,11,56,57,58,59,62,63,64,65,66,67,68,69,70,71,72,73,74,75,76,77,78,79,80,81,82,83,84,85,86,87,88,89,90,91,92,93,94,95,60,61,96,97,98,99,35,36] (Z:=Value×List (List Int)×Value×List Int×Nat) (fun k=>[k.1,k.2.2.1,.int .i64 k.2.2.2.2]) (fun k=>[.ow [k.1] k.2.1,.ow [k.2.2.1] k.2.2.2.1]) (fun k=>k.2.2.2.2<=s.length/\PtI g s k.2.1 k.2.2.2.1) (fun k=>s.length-k.2.2.2.2) (sv1,[],sv,[],0) [.ow [sv1] ([]:List (List Int)),.ow [sv] ([]:List Int)] ⟨aI _,aW2 g s⟩ ?_
  intro ⟨so,out,sd,dn,i⟩ u l' hl' ⟨hi,hP⟩
  simp only[bM,List.map,List.set] at hl'
  subst hl'
  simp only[aA,aB] at hi hP ⊢
  have hdl:=bLc hP
  have hol:=rQ out fun q hq=>(hP.sub q hq).2
  rw[← hP.fl] at hol
  by_cases hil:i<s.length
  ·have hm:=hst.mem _ (eD hil)
   have hgi:∀ q,q∈af.getD i default↔Way g s (s.getD i 0) q:=haf i hil
   repeat' (first|refine aU ?_|refine bP ?_|refine bG fun sv=>?_|refine bV fun hc=>?_|refine bW fun hc=>?_|refine aS (fun hc=>?_) fun hc=>?_|refine cV fun r hr=>?_|refine aW fun r=>?_|refine wb 11 [] ?_|refine xf fun hbi=>?_|refine xp ?_|(refine xd fun p c d e f g h hf=>?_;simp only[Un.cells,Un.atoms,Un.fact,aA,aB] at f g h hf;subst f g h)|refine xg ?_|refine xn ?_|refine pM fun hc=>?_|refine pN fun hc=>?_|refine xi (fun hc=>?_) fun hc=>?_|refine xy ?_|refine bI ?_|fail)
   ·exact eB (so,out,sd,dn,i+1) ⟨by simp only;omega,hP⟩
   ·exact eB (so,out,sd,dn,i+1) ⟨by simp only;omega,hP⟩
   ·have hmi:=eD hil
    have hwi:=(hgi (s.getD i 0)).1 (by assumption)
    have hst2:=bFj hP hst.so hmi hwi hc
    refine bD [8,10,11] [56,57,58,59,62,63,64,65,66,67,68,69,70,71,72,73,74,75,76,77,78,79,80,81,82,83,84,85,86,87,88,89,90,91,92,93,94,95,60,61] (Z:=Value×Value×Nat) (fun k=>[k.1,k.2.1,.int .i64 k.2.2]) (fun k=>[.ow [k.1] (dn++mH g s (s.getD i 0) k.2.2),.ow [k.2.1] (mH g s (s.getD i 0) k.2.2)]) (fun k=>k.2.2<=s.length) (fun k=>s.length-k.2.2) (sd,sv,0) [.ow [sd] dn,.ow [sv] ([]:List Int)] (by kernel_rfl) (aI _) (by simp only[aLr,cF]) ?_
    intro ⟨sd2,sp,k⟩ u l' hl' hk
    simp only[bM,List.map,List.set] at hl'
    subst hl'
    simp only[aA,aB] at hk ⊢
    have hpl:=(wX g s (s.getD i 0) k).length_le
    by_cases hkl:k<s.length
    ·have hgk:∀ q,q∈af.getD k default↔Way g s (s.getD k 0) q:=haf k hkl
     repeat' (first|refine aU ?_|refine bV fun hc=>?_|refine bW fun hc=>?_|refine aS (fun hc=>?_) fun hc=>?_|fail)
     refine kD sa k (by omega) fun p2 hf2=>?_
     simp only[Un.atoms,Un.cells,aA,aB]
     ((refine wbi 16 [] ?_<;>repeat' (first|refine aU ?_|refine cV fun r hr=>?_|refine aW fun r=>?_|refine xf fun hbi=>?_|refine xp ?_|refine xg ?_|refine xn ?_|refine pM fun hc=>?_|refine pN fun hc=>?_|refine xi (fun hc=>?_) fun hc=>?_|refine xy ?_|fail))<;>refine bI ?_)
     ·repeat' (first|refine aU ?_|refine eF fun hbi=>?_|refine bP ?_|refine bG fun sv=>?_|refine bV fun hc=>?_|refine bW fun hc=>?_|refine aS (fun hc=>?_) fun hc=>?_|fail)
      ·rename_i sw _
       have hb:aKx g s (s.getD i 0) (s.getD k 0):=⟨(hgi _).1 (by assumption),(hgk _).1 (by assumption)⟩
       exact dH (sv,sw,k+1) (by simp only;omega) (by simp only;omega) (by kernel_rfl) (by simp only[aTn hkl hb,← aT];exact aH)
      ·have hb:¬ aKx g s (s.getD i 0) (s.getD k 0):=fun h=>hc ((hgk _).2 h.2)
       exact dH (sd2,sp,k+1) (by simp only;omega) (by simp only;omega) (by kernel_rfl) (by simp only[aJa hkl hb];exact aH)
     ·repeat' (first|refine aU ?_|refine bP ?_|fail)
      have hb:¬ aKx g s (s.getD i 0) (s.getD k 0):=fun h=>hc ((hgi _).2 h.1)
      exact dH (sd2,sp,k+1) (by simp only;omega) (by simp only;omega) (by kernel_rfl) (by simp only[aJa hkl hb];exact aH)
    ·obtain rfl:k=s.length:=by omega
     repeat' (first|refine aU ?_|refine bP ?_|refine bG fun sv=>?_|refine bV fun hc=>?_|refine bW fun hc=>?_|refine aS (fun hc=>?_) fun hc=>?_|fail)
     exact eB (sv,out++[mH g s (s.getD i 0) s.length],sd2,dn++mH g s (s.getD i 0) s.length,i+1) ⟨by simp only;omega,hst2⟩
  ·repeat' (first|refine aU ?_|refine bV fun hc=>?_|refine bW fun hc=>?_|refine aS (fun hc=>?_) fun hc=>?_|fail)
   obtain rfl:i=s.length:=by omega
   exact⟨(so,⟨out,fun q hq=>⟨hst.sub (hP.sub q hq).1,(hP.sub q hq).2⟩,by rw[← hP.fl];exact hdl⟩),rfl,aH⟩
instance bGh{I:List Atom}{vs vg:Value}{s z:List Int}[h0:bK Int I vs s][h1:bK Int I vg z] :
  bQ prog 245 [vs,vg] I (s.length<=64) (Value) (fun q:Value=>q) (fun q=>.ow [q] (s.filter fun v=>kZ (v∉z))::I):=⟨fun hs w0=>by
 refine cL (A:=fun q:Value=>[.ow [q] (s.filter fun v=>kZ (v∉z))]) (fun w1=>?_) (aE h0 (aE h1 fI)) fun _=>inferInstance
 simp only[aA,aB]
 refine aK func245 ntmps245 ?_
 repeat' (first|refine aU ?_|refine bG fun sv=>?_|fail)
 refine lp_ [5,6] [8,9,10,11,14,15,16,17,18,19,20,21,22,23,24,25,26,27,12,13] (Z:=Value×Nat) (fun k=>[k.1,.int .i64 k.2]) (fun k=>[.ow [k.1] ((s.take k.2).filter fun v=>kZ (v∉z))]) (fun k=>k.2<=s.length) (fun k=>s.length-k.2) (sv,0) [.ow [sv] ([]:List Int)] (aI _) ?_
 intro ⟨so,i⟩ u l' hl' hi
 simp only[bM,List.map,List.set] at hl'
 subst hl'
 simp only[aA,aB] at hi ⊢
 have hfl:=(List.filter_sublist (l:=s.take i) (p:=fun v=>kZ (v∉z))).length_le
 rw[aN] at hfl
 by_cases hil:i<s.length
 ·have hst:(s.take (i+1)).filter (fun v=>kZ (v∉z))=(s.take i).filter (fun v=>kZ (v∉z))++(if s.getD i 0∈z then [] else [s.getD i 0]):=by
   rw[iM hil,List.filter_append]
   congr 1
   by_cases h:s.getD i 0∈z
   ·rw[if_pos h,cY (by rw[eV (fun hn=>hn h)];decide),List.filter_nil]
   ·rw[if_neg h,cT (by exact hZ h),List.filter_nil]
  repeat' (first|refine aU ?_|refine eF fun hbi=>?_|refine bP ?_|refine cV fun r hr=>?_|refine aW fun r=>?_|refine bG fun sv=>?_|refine bV fun hc=>?_|refine bW fun hc=>?_|refine aS (fun hc=>?_) fun hc=>?_|fail)
  ·exact dH (sv,i+1) (by simp only;omega) (by simp only;omega) (by kernel_rfl) (by simp only[hst,if_neg hc];exact aH)
  ·exact dH (so,i+1) (by simp only;omega) (by simp only;omega) (by kernel_rfl) (by simp only[hst,if_pos hc,cF];exact aH)
 ·obtain rfl:i=s.length:=by omega
  repeat' (first|refine aU ?_|refine bV fun hc=>?_|refine bW fun hc=>?_|refine aS (fun hc=>?_) fun hc=>?_|fail)
  exact⟨so,rfl,by rw[cZ];exact aH⟩⟩
instance bC3{I:List Atom}{n:Nat} :
  bQ prog 232 [.int .i64 (n:Int)] I (n<=64) (Value) (fun q:Value=>q) (fun q=>.ow [q] ((List.range n).map Int.ofNat)::I):=⟨fun hs w0=>by
 refine cL (R:=[]) (A:=fun q:Value=>[.ow [q] ((List.range n).map Int.ofNat)]) (fun w1=>?_) (inferInstance) (fun _=>inferInstance)
 simp only[aA,aB]
 refine aK func232 ntmps232 ?_
 repeat' (first|refine aU ?_|refine bG fun sv=>?_|fail)
 refine lp_ [3,4] [6,7,8,11,12,13,14,9,10] (Z:=Value×Nat) (fun k=>[k.1,.int .i64 k.2]) (fun k=>[.ow [k.1] ((List.range k.2).map Int.ofNat)]) (fun k=>k.2<=n) (fun k=>n-k.2) (sv,0) [.ow [sv] ([]:List Int)] (aI _) ?_
 intro ⟨so,i⟩ u l' hl' hi
 simp only[bM,List.map,List.set] at hl'
 subst hl'
 simp only[aA,aB] at hi ⊢
 have hll:((List.range i).map Int.ofNat).length=i:=by simp
 by_cases hil:i<n
 ·repeat' (first|refine aU ?_|refine bP ?_|refine bG fun sv=>?_|refine bV fun hc=>?_|refine bW fun hc=>?_|refine aS (fun hc=>?_) fun hc=>?_|fail)
  exact dH (sv,i+1) (by simp only;omega) (by simp only;omega) (by kernel_rfl) (by simp only[List.range_succ,cG,List.map_cons,List.map_nil];exact aH)
 ·obtain rfl:i=n:=by omega
  repeat' (first|refine aU ?_|refine bV fun hc=>?_|refine bW fun hc=>?_|refine aS (fun hc=>?_) fun hc=>?_|fail)
  exact⟨so,rfl,aH⟩⟩
instance bJ0{I:List Atom}{vp:Value}{ps:List iR}[h0:bK iR I vp ps] :
  bQ prog 243 [vp] I (ps.length<=64) (Value) (fun q:Value=>q) (fun q=>.ow [q] ((List.range ps.length).map Int.ofNat)::I):=⟨fun hs w0=>by
 refine cL (A:=fun q:Value=>[.ow [q] ((List.range ps.length).map Int.ofNat)]) (fun w1=>?_) (aE h0 fI) fun _=>inferInstance
 simp only[aA,aB]
 refine aK func243 ntmps243 ?_
 repeat' (first|refine aU ?_|refine cV fun r hr=>?_|refine aW fun r=>?_|fail)
 exact⟨r,rfl,aH⟩⟩
theorem aO6(n:Nat):xZ n ((List.range n).map Int.ofNat):=by
 refine⟨List.Pairwise.map _ (fun i j h=>?_) List.pairwise_lt_range,fun q hq=>?_⟩
 ·show(i:Int)<(j:Int)
  omega
 ·obtain ⟨i,hi,rfl⟩:=dT.1 hq
  have:=List.mem_range.1 hi
  show 0<=(i:Int)/\(i:Int)<n
  omega
theorem bE6(n:Nat):xZ n []:=⟨.nil,fun q hq=>absurd hq (by simp)⟩
theorem aXf{n:Nat}{s:List Int}{i:Nat}{b:Int}(hi:i<s.length)(h:xZ n (s.take i))(hb:(i=0/\b=-1)∨∃ j,i=j+1/\b=s.getD j 0)(hg:b+1<=s.getD i 0/\s.getD i 0<=(n:Int)-1):xZ n (s.take (i+1)):=by
 have hlast:∀ q∈s.take i,q<=b:=by
  intro q hq
  rcases hb with⟨rfl,_⟩|⟨j,rfl,rfl⟩
  ·rw[List.take_zero] at hq;exact absurd hq (by simp)
  ·have hso:=h.so
   rw[iM (by omega)] at hq hso
   rcases aP.1 hq with hq|hq
   ·exact Int.le_of_lt ((List.pairwise_append.1 hso).2.2 q hq _ (by simp))
   ·rw[aO] at hq;omega
 have hbn:-1<=b:=by
  rcases hb with⟨_,rfl⟩|⟨j,rfl,rfl⟩
  ·omega
  ·have:=h.mem (s.getD j 0) (by rw[iM (by omega)];simp)
   omega
 rw[iM hi]
 refine⟨List.pairwise_append.2 ⟨h.so,by simp,fun q hq v hv=>?_⟩,fun q hq=>?_⟩
 ·rw[aO] at hv
  have:=hlast q hq
  omega
 ·rcases aP.1 hq with hq|hq
  ·exact h.mem q hq
  ·rw[aO] at hq;omega
theorem bEw{n:Nat}{s:List Int}{i:Nat}{b:Int}(hi:i<s.length)(hb:(i=0/\b=-1)∨∃ j,i=j+1/\b=s.getD j 0)(hg:¬ (b+1<=s.getD i 0/\s.getD i 0<=(n:Int)-1)):¬ xZ n s:=fun h=>by
 have hm:=h.mem _ (eD hi)
 rcases hb with⟨rfl,rfl⟩|⟨j,rfl,rfl⟩
 ·omega
 ·have h1:=List.pairwise_iff_getElem.1 h.so j (j+1) (by omega) hi (by omega)
  have e1:s.getD j 0=s[j]:=by rw[aC,aG (by omega)];rfl
  have e2:s.getD (j+1) 0=s[j+1]:=by rw[aC,aG hi];rfl
  omega
theorem yG{w0:World}{I:List Atom}{vs:Value}{s:List Int}{n:Nat}[h0:bK Int I vs s](hs:n<=64) :
  CJ prog 329 [vs,.int .i64 (n:Int)] w0 I (fun _:Unit=>.bool (kZ (xZ n s))) (fun _=>I):=by
 refine jV (fun w1=>?_) (aE h0 fI)
 refine dQ vs fun hsl=>?_
 refine aK func329 ntmps329 ?_
 repeat' (first|refine aU ?_|fail)
 refine lc_ [5,6] [7,8,9,10,13,14,15,16,17,18,19,20,21,22,4,23,24,25,26,11,12] (Z:=Int×Nat) (fun k=>[.int .i64 k.1,.int .i64 k.2]) (fun k=>k.2<=s.length/\xZ n (s.take k.2)/\((k.2=0/\k.1=-1)∨∃ j,k.2=j+1/\k.1=s.getD j 0)/\-1<=k.1/\k.1<n) (fun k=>s.length-k.2) (-1,0) ⟨aI _,by rw[List.take_zero];exact bE6 n,.inl ⟨rfl,rfl⟩,by decide,by simp only;omega⟩ ?_
 intro ⟨b,i⟩ u l' hl' ⟨hi,hst,hb,hb0,hb1⟩
 simp only[bM,List.map,List.set] at hl'
 subst hl'
 simp only at hi hst hb hb0 hb1 ⊢
 by_cases hil:i<s.length
 ·repeat' (first|refine aU ?_|refine eF fun hbi=>?_|refine bP ?_|refine cV fun r hr=>?_|refine aW fun r=>?_|refine bV fun hc=>?_|refine bW fun hc=>?_|refine aS (fun hc=>?_) fun hc=>?_|fail)
  ·exact⟨(),bO (eV (bEw hil hb hc)),aH⟩
  ·exact eB (s.getD i 0,i+1) ⟨by simp only;omega,aXf hil hst hb hc,.inr ⟨i,rfl,rfl⟩,by simp only;omega,by simp only;omega⟩
 ·obtain rfl:i=s.length:=by omega
  rw[cZ] at hst
  repeat' (first|refine aU ?_|refine bV fun hc=>?_|refine bW fun hc=>?_|refine aS (fun hc=>?_) fun hc=>?_|fail)
  exact⟨(),bO (hZ hst),aH⟩
instance bI5{I:List Atom}{vs:Value}{s:List Int}{n:Nat}[h0:bK Int I vs s] :
  bQ prog 329 [vs,.int .i64 (n:Int)] I (n<=64) (Unit) (fun _:Unit=>.bool (kZ (xZ n s))) (fun _=>I):=⟨fun s w0=>yG s⟩
def aP9(a proj:List Int):Prop:=eA a=true/\proj.length=a.length/\∀ f,f<proj.length->-1<=proj.getD f 0/\proj.getD f 0<=a.getD f 0-1
instance bL5{I:List Atom}{va vp:Value}{a proj:List Int}[h0:bK Int I va a][h1:bK Int I vp proj] :
  bQ prog 331 [.agg #[va],vp] I True Unit (fun _:Unit=>.bool (kZ (aP9 a proj))) (fun _=>I):=⟨fun _ w0=>by
 refine jV (fun w1=>?_) (aE h0 (aE h1 fI))
 by_cases hs:eA a=true/\proj.length=a.length
 ·have hsg:=eC hs.1
  obtain ⟨hsa,hpl⟩:=hs
  refine aK func331 ntmps331 ?_
  repeat' (first|refine aU ?_|refine cV fun r hr=>?_|refine aW fun r=>?_|refine bT fun b=>?_|refine bV fun hc=>?_|refine bW fun hc=>?_|refine aS (fun hc=>?_) fun hc=>?_|fail)
  ·rw[hsa] at hc;cases hc
  refine lc_ [5] [17,18,19,20,23,24,25,26,27,28,29,30,31,32,33,34,4,21,22] (Z:=Nat) (fun k=>[.int .i64 k]) (fun k=>k<=proj.length/\∀ f,f<k->-1<=proj.getD f 0/\proj.getD f 0<=a.getD f 0-1) (fun k=>proj.length-k) 0 ⟨aI _,fun f hf=>absurd hf (cX f)⟩ ?_
  intro k u l' hl' ⟨hk,hI⟩
  simp only[bM,List.map,List.set] at hl'
  subst hl'
  by_cases hkl:k<proj.length
  ·have hak:=fM hsa (k:=k) (by omega)
   repeat' (first|refine aU ?_|refine bP ?_|refine bV fun hc=>?_|refine bW fun hc=>?_|refine aS (fun hc=>?_) fun hc=>?_|refine cV fun r hr=>?_|refine aW fun r=>?_|refine wb 6 [] ?_|refine xf fun hbi=>?_|refine xp ?_|refine xy ?_|refine bI ?_|fail)
   ·exact⟨(),bO (eV fun h=>hc (h.2.2 k hkl)),aH⟩
   ·exact dH (k+1) ⟨by omega,fun f hf=>by
     by_cases e:f=k
     ·subst e;exact hc
     ·exact hI f (by omega)⟩ (by omega) (by kernel_rfl) aH
  ·obtain rfl:k=proj.length:=by omega
   repeat' (first|refine aU ?_|refine bV fun hc=>?_|refine bW fun hc=>?_|refine aS (fun hc=>?_) fun hc=>?_|fail)
   exact⟨(),bO (hZ ⟨hsa,hpl,hI⟩),aH⟩
 ·refine aK func331 ntmps331 ?_
  repeat' (first|refine aU ?_|refine cV fun r hr=>?_|refine aW fun r=>?_|refine bT fun b=>?_|refine bV fun hc=>?_|refine bW fun hc=>?_|refine aS (fun hc=>?_) fun hc=>?_|fail)
  ·exact⟨(),bO (eV fun h=>hs ⟨h.1,h.2.1⟩),aH⟩
  ·exact⟨(),bO (eV fun h=>hs ⟨h.1,h.2.1⟩),aH⟩
  ·exact absurd ⟨by assumption,by omega⟩ hs⟩
def qM(a proj t:List Int):List Int:=if proj.getD (t.getD 0 0).toNat 0<0 then [] else ((fF a t (iA a t)).getD (proj.getD (t.getD 0 0).toNat 0).toNat default).v
structure ArC(a proj t:List Int):Prop where
 pj:aP9 a proj
 tm:bB a t=true
 hd:0<=t.getD 0 0
instance bK1{I:List Atom}{va vp vt:Value}{a proj t:List Int}[h0:bK Int I va a][h1:bK Int I vp proj][h2:eK Int I vt t] :
  bQ prog 332 [.agg #[va],vp,vt] I (ArC a proj t) (Value) (fun q:Value=>q) (fun q=>.rd [q] (qM a proj t)::I):=⟨fun hs w0=>by
 obtain ⟨⟨hsa,hpl,hpj⟩,ht,hd⟩:=hs
 have hl:=aX ht
 have hw:=lB ht
 have hg:=dY ht (k:=0) (by omega)
 have hsg:=eC hsa
 have hp:=hpj (t.getD 0 0).toNat (by omega)
 have hag:=uH ht
 have hak:ar a (t.getD 0 0)=a.getD (t.getD 0 0).toNat 0:=by unfold ar;rw[if_neg (by omega)]
 have hpn:=fS a t (iA a t)
 have hwt:jO a t/\0<=t.getD 0 0:=⟨hw,hd⟩
 refine aK func332 ntmps332 ?_
 repeat' (first|refine aU ?_|refine eF fun hbi=>?_|refine bP ?_|refine bG fun sv=>?_|refine bT fun b=>?_|refine bV fun hc=>?_|refine bW fun hc=>?_|refine aS (fun hc=>?_) fun hc=>?_|fail)
 ·refine⟨sv,rfl,?_⟩
  have e:qM a proj t=[]:=if_pos hc
  rw[e]
  exact dJ sv aH
 ·((refine wbi 3 [] ?_<;>refine bY 0 ?_<;>refine bY 1 ?_<;>refine bY 3 ?_<;>refine bY 4 ?_<;>refine bY 5 ?_<;>(first|refine aMq 6 fun hbi=>?_|fail)<;>refine bY 7 ?_<;>(first|refine aMq 8 fun hbi=>?_|fail)<;>(refine bX 2 ?_<;>(repeat' (first|refine aU ?_|refine cV fun r hr=>?_|refine aW fun r=>?_|fail)))<;>(first|(refine bX 9 ?_<;>(repeat' (first|refine aU ?_|refine bP ?_|fail)))|fail)<;>(first|(refine bX 10 ?_<;>(repeat' (first|refine aU ?_|refine bG fun sv=>?_|fail)))|fail)<;>refine bY 11 ?_)<;>refine bI ?_)
  repeat' (first|refine aU ?_|fail)
  refine⟨sv,rfl,?_⟩
  have e:qM a proj t=((fF a t (iA a t)).getD (proj.getD (t.getD 0 0).toNat 0).toNat default).v:=if_neg (by omega)
  rw[e]
  exact aH⟩
structure PsH(x:aQ)(ps:List iR):Prop where
 c:PsC x ps
 hd:∀ k,k<ps.length->0<=(ps.getD k default).1.getD 0 0/\0<=(ps.getD k default).2.1.getD 0 0
structure HdC(ps:List iR)(s:List Int):Prop where
 hl:ps.length<=64
 st:xZ ps.length s
 tl:∀ k,k<ps.length->0<(ps.getD k default).1.length/\0<(ps.getD k default).2.1.length
instance bFk{I:List Atom}{vp vs:Value}{ps:List iR}{s:List Int}[h0:bK iR I vp ps][h1:bK Int I vs s] :
  bQ prog 330 [vp,vs] I (HdC ps s) (Value×{ ys:List Int // ys.length<=128 }) (fun q:Value×{ ys:List Int // ys.length<=128 }=>q.1) (fun q=>.ow [q.1] q.2.1::I):=⟨fun hs w0=>by
 refine cL (A:=fun q:Value×{ ys:List Int // ys.length<=128 }=>[.ow [q.1] q.2.1]) (fun w1=>?_) (aE h0 (aE h1 fI)) fun _=>inferInstance
 simp only[aA,aB]
 obtain ⟨hpl,hst,htl⟩:=hs
 have hsl:=hst.len
 refine aK func330 ntmps330 ?_
 repeat' (first|refine aU ?_|refine bG fun sv=>?_|fail)
 refine lp_ [5,6] [8,9,10,11,14,15,16,17,18,19,20,21,22,23,24,25,26,27,28,29,30,31,32,33,34,35,36,12,13] (Z:=Value×List Int×Nat) (fun k=>[k.1,.int .i64 k.2.2]) (fun k=>[.ow [k.1] k.2.1]) (fun k=>k.2.2<=s.length/\k.2.1.Pairwise (· < ·)/\k.2.1.length<=2*k.2.2) (fun k=>s.length-k.2.2) (sv,[],0) [.ow [sv] ([]:List Int)] ⟨aI _,.nil,by simp⟩ ?_
 intro ⟨so,ys,i⟩ u l' hl' ⟨hi,hp,hyl⟩
 simp only[bM,List.map,List.set] at hl'
 subst hl'
 simp only[aA,aB] at hi hp hyl ⊢
 by_cases hil:i<s.length
 ·have hm:=hst.mem _ (eD hil)
  have htk:=htl (s.getD i 0).toNat (by omega)
  repeat' (first|refine aU ?_|refine bV fun hc=>?_|refine bW fun hc=>?_|refine aS (fun hc=>?_) fun hc=>?_|fail)
  ((refine wbi 5 [] ?_<;>repeat' (first|refine aU ?_|(refine aW fun r=>?_;(try have hr:=Subtype.property r);try (obtain ⟨hr1,hr2,hr3⟩:=r.2.2))|refine xf fun hbi=>?_|refine xp ?_|(refine xd fun p c d e f g h hf=>?_;simp only[Un.cells,Un.atoms,Un.fact,aA,aB] at f g h hf;subst f g h)|refine xy ?_|fail))<;>refine bI ?_)
  repeat' (first|refine aU ?_|refine bP ?_|fail)
  exact eB (r.1,r.2.1,i+1) ⟨by simp only;omega,hr1,by simp only;omega⟩
 ·obtain rfl:i=s.length:=by omega
  repeat' (first|refine aU ?_|refine bV fun hc=>?_|refine bW fun hc=>?_|refine aS (fun hc=>?_) fun hc=>?_|fail)
  exact⟨(so,⟨ys,by omega⟩),rfl,aH⟩⟩
theorem aPn{a proj t:List Int}(h:ArC a proj t)(hl:0<(qM a proj t).length):bB a (qM a proj t)=true:=by
 obtain ⟨⟨hsa,hpl,hpj⟩,ht,hd⟩:=h
 have hlt:=aX ht
 have hw:=lB ht
 have hg:=dY ht (k:=0) (by omega)
 have hp:=hpj (t.getD 0 0).toNat (by omega)
 have hag:=uH ht
 have hak:ar a (t.getD 0 0)=a.getD (t.getD 0 0).toNat 0:=by unfold ar;rw[if_neg (by omega)]
 have hpn:=fS a t (iA a t)
 by_cases hn:proj.getD (t.getD 0 0).toNat 0<0
 ·have e:qM a proj t=[]:=if_pos hn
  rw[e] at hl;simp at hl
 ·have e:qM a proj t=((fF a t (iA a t)).getD (proj.getD (t.getD 0 0).toNat 0).toNat default).v:=if_neg hn
  rw[e]
  have hm:=dX (xs:=fF a t (iA a t)) (k:=(proj.getD (t.getD 0 0).toNat 0).toNat) (by omega)
  obtain ⟨i,hi,e2⟩:=nH hm
  rw[e2]
  have hN:iA a (iZ t)=iA a t:=by unfold iA;rw[mS (by omega),lA hd]
  have hlt2:=aHo hw.ok (i:=i) (by rw[hN];exact hi)
  rw[gA] at hlt2
  show bB a (mK a t (pC a (iZ t) i))=true
  rw[nG ht]
  exact gL ht hlt2.1
theorem aK6{a proj t:List Int}(h:ArC a proj t):(qM a proj t).length<=60:=by
 by_cases h0:0<(qM a proj t).length
 ·exact(aX (aPn h h0)).2
 ·omega
def aP6(x:aQ)(d:iR):Prop:=bB x.1 d.1=true/\bB x.1 d.2.1=true/\0<=d.1.getD 0 0/\0<=d.2.1.getD 0 0
theorem aMf{x:aQ}(hs:eE x=true){r k:Nat}{d:iR}(hr:r<x.2.length)(hk:k<(x.2.getD r default).2.length)(h:lM x r k=some d):aP6 x d:=by
 by_cases hp:aM1 x r k
 ·rw[xF hp] at h
  obtain rfl:=Option.some.inj h
  have hR:=(vV hs hr).1
  refine⟨hR.1,gL hR.2.1 hk,hR.2.2,?_⟩
  show 0<=(eX x.1 (x.2.getD r default).2 k).getD 0 0
  rw[← nG hR.2.1,bCm (lB hR.2.1) hk]
  exact hp.1
 ·rw[aAy hp] at h;cases h
theorem yS{x:aQ}(hs:eE x=true){r:Nat}(hr:r<x.2.length){out:List iR}(ho:∀ d∈out,aP6 x d):∀ k,k<=(x.2.getD r default).2.length->∀ d∈kP x r out k,aP6 x d
 | 0,_=>ho
 | k+1,hk=>fun d hd=>by
  rcases aP.1 (show d∈kP x r out k++(lM x r k).toList from hd) with h|h
  ·exact yS hs hr ho k (by omega) d h
  ·exact aMf hs hr (by omega) (Option.mem_toList.1 h)
theorem yP{x:aQ}(hs:eE x=true):∀ r,r<=x.2.length->∀ d∈lD x r,aP6 x d
 | 0,_=>fun d hd=>absurd hd (by simp [lD])
 | r+1,hr=>yS hs (by omega) (yP hs r (by omega)) _ (aM _)
theorem nU{x:aQ}(h:iY x):PsH x (eP x):=by
 have hg:=yP h.1 x.2.length (aM _)
 rw[uI h]
 exact⟨⟨h.1,h.2,fun k hk=>⟨(hg _ (dX hk)).1,(hg _ (dX hk)).2.1⟩⟩,fun k hk=>(hg _ (dX hk)).2.2⟩
def aEa(x:aQ)(proj:List Int)(d:iR):Prop:=0<(qM x.1 proj d.1).length/\0<(qM x.1 proj d.2.1).length/\aEj x.1 (qM x.1 proj d.1) (qM x.1 proj d.2.1) (qM x.1 proj d.1).length
def aOd(x:aQ)(proj:List Int)(d:iR):Prop:=aEa x proj d∨(0<(qM x.1 proj d.1).length/\qM x.1 proj d.1=qM x.1 proj d.2.1)
structure aC9(x:aQ)(s proj:List Int):Prop where
 ok:iY x
 st:xZ (eP x).length s
 pj:aP9 x.1 proj
 fine:∀ i,i<s.length->aOd x proj ((eP x).getD (s.getD i 0).toNat default)
noncomputable def tI(x:aQ)(s proj:List Int)(k:Nat):List Int:=(s.take k).filter fun v=>kZ (aEa x proj ((eP x).getD v.toNat default))
noncomputable def aGc(x:aQ)(s proj:List Int):List Int:=if kZ (aC9 x s proj)=true then tI x s proj s.length else []
theorem aZ5{x:aQ}{s proj:List Int}(h:aC9 x s proj):aGc x s proj=tI x s proj s.length:=if_pos (hZ h)
theorem aGh{x:aQ}{s proj:List Int}(h:¬ aC9 x s proj):aGc x s proj=[]:=if_neg (by rw[eV h];decide)
theorem aQt{x:aQ}{s proj:List Int}{k:Nat}(hk:k<s.length)(h:aEa x proj ((eP x).getD (s.getD k 0).toNat default)):tI x s proj (k+1)=tI x s proj k++[s.getD k 0]:=by
 unfold tI
 rw[iM hk,List.filter_append,cT (by exact hZ h),List.filter_nil]
theorem aYw{x:aQ}{s proj:List Int}{k:Nat}(hk:k<s.length)(h:¬ aEa x proj ((eP x).getD (s.getD k 0).toNat default)):tI x s proj (k+1)=tI x s proj k:=by
 unfold tI
 rw[iM hk,List.filter_append,cY (by rw[eV h];decide),List.filter_nil,cF]
theorem aRe(x:aQ)(s proj:List Int)(k:Nat):(tI x s proj k).length<=s.length:=(List.filter_sublist.trans (List.take_sublist k s)).length_le
theorem aLa(x:aQ)(s proj:List Int):(aGc x s proj).Sublist s:=by
 unfold aGc
 split
 ·exact List.filter_sublist.trans (List.take_sublist _ s)
 ·exact List.nil_sublist s
instance aT6{I:List Atom}{v0 v1 vs vp:Value}{x:aQ}{s proj:List Int}[h0:bK Int I v0 x.1][h1:bK cM I v1 x.2][h2:bK Int I vs s][h3:bK Int I vp proj] :
  bQ prog 300 [.agg #[v0,v1],vs,vp] I True Value (fun q:Value=>.tuple #[q,.bool (kZ (aC9 x s proj))]) (fun q=>.ow [q] (aGc x s proj)::I):=⟨fun _ w0=>by
 refine cL (A:=fun q:Value=>[.ow [q] (aGc x s proj)]) (fun w1=>?_) (aE h0 (aE h1 (aE h2 (aE h3 fI)))) fun _=>inferInstance
 simp only[aA,aB]
 by_cases hP:iY x/\xZ (eP x).length s/\aP9 x.1 proj
 ·obtain ⟨hok,hst,hpj⟩:=hP
  have hph:=nU hok
  have hpl:=hph.c.len
  have hsl:=hst.len
  refine aK func300 ntmps300 ?_
  repeat' (first|refine aU ?_|refine cV fun r hr=>?_|refine aW fun r=>?_|refine bG fun sv=>?_|refine bT fun b=>?_|refine bV fun hc=>?_|refine bW fun hc=>?_|refine aS (fun hc=>?_) fun hc=>?_|fail)
  ·exact absurd hok hc
  ·exact absurd hst hc
  ·exact absurd hpj hc
  ·rename_i pv _ _ _
   refine fC pv ?_
   refine lp_ [10,11] [38,39,40,41,44,45,46,47,48,49,50,51,52,53,54,55,12,56,57,58,59,60,61,62,63,64,65,66,67,13,68,69,70,71,72,73,74,75,76,77,78,79,80,81,82,14,83,84,85,86,87,88,89,90,91,92,93,94,95,96,6,7,97,98,99,100,101,102,103,104,42,43] (Z:=Value×Nat) (fun k=>[k.1,.int .i64 k.2]) (fun k=>[.ow [k.1] (tI x s proj k.2)]) (fun k=>k.2<=s.length/\∀ i,i<k.2->aOd x proj ((eP x).getD (s.getD i 0).toNat default)) (fun k=>s.length-k.2) (sv,0) [.ow [sv] ([]:List Int)] ⟨aI _,fun i hi=>absurd hi (cX i)⟩ ?_
   intro ⟨so,i⟩ u l' hl' ⟨hi,hF⟩
   simp only[bM,List.map,List.set] at hl'
   subst hl'
   simp only[aA,aB] at hi hF ⊢
   have hfl:=aRe x s proj i
   by_cases hil:i<s.length
   ·have hm:=hst.mem _ (eD hil)
    have hk:(s.getD i 0).toNat<(eP x).length:=by omega
    have hd:=hph.hd _ hk
    have ht:=hph.c.tm _ hk
    have haL:ArC x.1 proj ((eP x).getD (s.getD i 0).toNat default).1:=⟨hpj,ht.1,hd.1⟩
    have haR:ArC x.1 proj ((eP x).getD (s.getD i 0).toNat default).2.1:=⟨hpj,ht.2,hd.2⟩
    have hlL:=aK6 haL
    have hlR:=aK6 haR
    have hnx:aOd x proj ((eP x).getD (s.getD i 0).toNat default)->∀ j,j<i+1->aOd x proj ((eP x).getD (s.getD j 0).toNat default):=fun h j hj=>by
     by_cases e:j=i
     ·subst e;exact h
     ·exact hF j (by omega)
    by_cases hz:0<(qM x.1 proj ((eP x).getD (s.getD i 0).toNat default).1).length
    ·have htL:=aPn haL hz
     repeat' (first|refine aU ?_|refine eF fun hbi=>?_|refine bP ?_|refine cV fun r hr=>?_|refine aW fun r=>?_|refine bG fun sv=>?_|refine bV fun hc=>?_|refine bW fun hc=>?_|refine aS (fun hc=>?_) fun hc=>?_|refine wb 8 [] ?_|refine wb 9 [] ?_|refine xf fun hbi=>?_|refine xp ?_|(refine xd fun p c d e f g h hf=>?_;simp only[Un.cells,Un.atoms,Un.fact,aA,aB] at f g h hf;subst f g h)|refine xy ?_|refine bI ?_|fail)
     all_goals first
      | (exfalso;first|omega|contradiction)
      | (
        have hno:¬ aC9 x s proj:=fun h=>by
         rcases h.fine i hil with⟨h1,h2,h3⟩|⟨h1,h2⟩
         ·first|contradiction|omega
         ·first|contradiction|omega
        rw[aGh hno,eV hno]
        exact⟨sv,rfl,aH⟩)
      | (
        have hq:aEa x proj ((eP x).getD (s.getD i 0).toNat default):=⟨hz,by omega,by assumption⟩
        exact dH (sv,i+1) ⟨by simp only;omega,hnx (.inl hq)⟩ (by simp only;omega) (by kernel_rfl) (by simp only[aQt hil hq];exact aH))
      | (
        have hq:¬ aEa x proj ((eP x).getD (s.getD i 0).toNat default):=fun h=>by
         obtain ⟨h1,h2,h3⟩:=h
         first|contradiction|omega
        exact dH (so,i+1) ⟨by simp only;omega,hnx (.inr ⟨hz,by assumption⟩)⟩ (by simp only;omega) (by kernel_rfl) (by simp only[aYw hil hq];exact aH))
    ·have hno:¬ aC9 x s proj:=fun h=>by
      rcases h.fine i hil with h|h
      ·exact hz h.1
      ·exact hz h.1
     repeat' (first|refine aU ?_|refine bG fun sv=>?_|refine bV fun hc=>?_|refine bW fun hc=>?_|refine aS (fun hc=>?_) fun hc=>?_|refine cV fun r hr=>?_|refine aW fun r=>?_|refine wb 8 [] ?_|refine wb 9 [] ?_|refine xf fun hbi=>?_|refine xp ?_|(refine xd fun p c d e f g h hf=>?_;simp only[Un.cells,Un.atoms,Un.fact,aA,aB] at f g h hf;subst f g h)|refine xy ?_|refine bI ?_|fail)
     all_goals
      rw[aGh hno,eV hno]
      exact⟨sv,rfl,aH⟩
   ·obtain rfl:i=s.length:=by omega
    have hyes:aC9 x s proj:=⟨hok,hst,hpj,hF⟩
    repeat' (first|refine aU ?_|refine bV fun hc=>?_|refine bW fun hc=>?_|refine aS (fun hc=>?_) fun hc=>?_|fail)
    rw[aZ5 hyes,hZ hyes]
    exact⟨so,rfl,aH⟩
 ·have hno:¬ aC9 x s proj:=fun h=>hP ⟨h.ok,h.st,h.pj⟩
  have hpl:=kR x
  rw[aGh hno,eV hno]
  refine aK func300 ntmps300 ?_
  repeat' (first|refine aU ?_|refine cV fun r hr=>?_|refine aW fun r=>?_|refine bG fun sv=>?_|refine bT fun b=>?_|refine bV fun hc=>?_|refine bW fun hc=>?_|refine aS (fun hc=>?_) fun hc=>?_|fail)
  ·exact⟨sv,rfl,aH⟩
  ·exact⟨sv,rfl,aH⟩
  ·exact⟨sv,rfl,aH⟩
  ·exact absurd ⟨by assumption,by assumption,by assumption⟩ hP⟩
def nY:List Int->Nat
 | []=>0
 | q::s=>(q+1).toNat*4 ^ s.length+nY s
def Dig(s:List Int):Prop:=∀ q∈s,-1<=q/\q<=2
theorem oC:∀ {s:List Int},Dig s->nY s<4 ^ s.length
 | [],_=>by simp [nY]
 | q::s,h=>by
  have h1:=oC (s:=s) fun z hz=>h z (by simp [hz])
  have h2:=h q (by simp)
  have h3:(q+1).toNat*4 ^ s.length<=3*4 ^ s.length:=Nat.mul_le_mul_right _ (by omega)
  simp only[nY,aF,Nat.pow_succ]
  omega
theorem aCk:∀ (s t:List Int),nY (s++t)=nY s*4 ^ t.length+nY t
 | [],t=>by simp [nY]
 | q::s,t=>by
  show(q+1).toNat*4 ^ (s++t).length+nY (s++t)=((q+1).toNat*4 ^ s.length+nY s)*4 ^ t.length+nY t
  rw[aCk s t,aD,Nat.pow_add,dE,Nat.mul_assoc,Nat.add_assoc]
theorem wG{s:List Int}{k:Nat}(hk:k<s.length):s=s.take k++(s.getD k 0::s.drop (k+1)):=by
 rw[← fA hk,dF]
theorem bBf{s t:List Int}{k:Nat}(hk:k<s.length)(hl:t.length=s.length)(hp:t.take k=s.take k)(hd:Dig s)(hu:t.getD k 0=s.getD k 0+1):nY s<nY t:=by
 have e1:=wG hk
 have e2:=wG (s:=t) (k:=k) (by omega)
 have hds:Dig (s.drop (k+1)):=fun q hq=>hd q (List.mem_of_mem_drop hq)
 have h1:=oC hds
 have h2:=hd _ (eD hk)
 rw[e1,e2,aCk,aCk,hp,hu]
 have hdl:(t.drop (k+1)).length=(s.drop (k+1)).length:=by rw[aR,aR,hl]
 have e4:(s.getD k 0+1+1).toNat=(s.getD k 0+1).toNat+1:=by omega
 simp only[nY,aF,hdl,e4,dE,Nat.one_mul]
 omega
structure UpI(o t:List Int)(k:Nat)(mo:Bool):Prop where
 len:t.length=o.length
 dig:Dig t
 le:k<=o.length
 same:mo=false->t.take k=o.take k
 up:mo=true->nY o<nY t
theorem aIf{o:List Int}(h:Dig o):UpI o o o.length false:=⟨rfl,h,aM _,fun _=>rfl,fun h=>nomatch h⟩
theorem oN{t:List Int}{k:Nat}{q:Int}:(t.set k q).take k=t.take k:=by
 rw[List.take_set_of_le (aM _)]
theorem aOc{t:List Int}{k:Nat}{q:Int}(h:Dig t)(hq:-1<=q/\q<=2):Dig (t.set k q):=fun z hz=>by
 rcases List.mem_or_eq_of_mem_set hz with h1|h1
 ·exact h z h1
 ·rw[h1];exact hq
theorem uN{o t:List Int}{k:Nat}(h:t.take (k+1)=o.take (k+1)):t.take k=o.take k:=by
 have:=congrArg (List.take k) h
 rw[List.take_take,List.take_take,Nat.min_eq_left (by omega)] at this
 exact this
theorem aWh{o t:List Int}{k:Nat}(h:UpI o t (k+1) false)(ho:Dig o)(hq:t.getD k 0<=1):UpI o (t.set k (t.getD k 0+1)) k true:=by
 have hk:=h.le
 have hs:=h.same rfl
 have hl:=h.len
 have hdk:=h.dig _ (eD (t:=t) (k:=k) (by omega))
 have e:t.getD k 0=o.getD k 0:=by
  have:=congrArg (fun z=>z[k]?) hs
  simp only[cU,if_pos (Nat.lt_succ_self k)] at this
  rw[aC,aC,this]
 refine⟨by rw[aV];exact hl,aOc h.dig (by omega),by omega,fun h=>(nomatch h),fun _=>?_⟩
 refine bBf (k:=k) (by omega) (by rw[aV];exact hl) ?_ ho ?_
 ·rw[oN];exact uN hs
 ·rw[aC,List.getElem?_set_self (by omega),← e];rfl
theorem aQm{o t:List Int}{k:Nat}(h:UpI o t (k+1) false):UpI o (t.set k 0) k false:=by
 have hk:=h.le
 refine⟨by rw[aV];exact h.len,aOc h.dig (by omega),by omega,fun _=>?_,fun h=>(nomatch h)⟩
 rw[oN];exact uN (h.same rfl)
theorem bEz{o t:List Int}{k:Nat}(h:UpI o t (k+1) false):UpI o t k false:=by
 have hk:=h.le
 exact⟨h.len,h.dig,by omega,fun _=>uN (h.same rfl),fun h=>(nomatch h)⟩
abbrev FpT(x:aQ)(s:List Int):Type:={ q:List Int×Bool // q.1.length<=8/\(q.2=true->aC9 x s q.1/\0<(aGc x s q.1).length) }
instance bAk{I:List Atom}{v0 v1 vs:Value}{x:aQ}{s:List Int}[h0:bK Int I v0 x.1][h1:bK cM I v1 x.2][h2:bK Int I vs s] :
  bQ prog 299 [.agg #[v0,v1],vs] I (True) (Value×FpT x s) (fun q:Value×FpT x s=>.tuple #[q.1,.bool q.2.1.2]) (fun q=>.ow [q.1] q.2.1.1::I):=⟨fun _ w0=>by
 refine cL (A:=fun q:Value×FpT x s=>[.ow [q.1] q.2.1.1]) (fun w1=>?_) (aE h0 (aE h1 (aE h2 fI))) fun _=>inferInstance
 simp only[aA,aB]
 have hpl:=kR x
 by_cases hP:iY x/\xZ (eP x).length s
 ·obtain ⟨hok,hst⟩:=hP
  have hph:=nU hok
  have hsl:=hst.len
  have hsa:=(eM.1 hok.1).1.1
  have hsg:=eC hsa
  have hhd:HdC (eP x) s:=⟨hpl,hst,fun k hk=>by
   have h:=hph.c.tm k hk
   have h1:=aX h.1
   have h2:=aX h.2
   omega⟩
  refine aK func299 ntmps299 ?_
  repeat' (first|refine aU ?_|refine cV fun r hr=>?_|refine aW fun r=>?_|refine bG fun sv=>?_|refine bT fun b=>?_|refine bV fun hc=>?_|refine bW fun hc=>?_|refine aS (fun hc=>?_) fun hc=>?_|fail)
  ·exact absurd hok hc
  ·exact absurd hst hc
  ·rename Value×{ ys:List Int // ys.length<=128 }=>hds
   obtain ⟨vh,hd,hdl⟩:=hds
   simp only
   refine lp_ [9,10] [34,35,36,37,38,39,42,43,44,45,46,47,48,49,50,51,52,4,5,53,54,55,56,57,58,40,41] (Z:=Value×List Int×Nat) (fun k=>[k.1,.int .i64 k.2.2]) (fun k=>[.ow [k.1] k.2.1]) (fun k=>k.2.2<=x.1.length/\k.2.1.length=k.2.2/\Dig k.2.1) (fun k=>x.1.length-k.2.2) (sv,[],0) [.ow [sv] ([]:List Int)] ⟨aI _,rfl,fun q hq=>absurd hq (by simp)⟩ ?_
   intro ⟨sp,proj,f⟩ u l' hl' ⟨hf,hpl2,hdg⟩
   simp only[bM,List.map,List.set] at hl'
   subst hl'
   simp only[aA,aB] at hf hpl2 hdg ⊢
   have hcl:∀ q:Int,(proj++[q]).length=f+1:=fun q=>by rw[aD,hpl2];rfl
   have hcd:∀ q:Int,-1<=q/\q<=2->Dig (proj++[q]):=fun q hq z hz=>by
    rcases aP.1 hz with h|h
    ·exact hdg z h
    ·rw[aO] at h;rw[h];exact hq
   by_cases hfl:f<x.1.length
   ·have hzf:=hcd 0 (by omega)
    have hnf:=hcd (-1) (by omega)
    repeat' (first|refine aU ?_|refine eF fun hbi=>?_|refine bP ?_|refine cV fun r hr=>?_|refine aW fun r=>?_|refine bG fun sv=>?_|refine bV fun hc=>?_|refine bW fun hc=>?_|refine aS (fun hc=>?_) fun hc=>?_|fail)
    ·exact⟨(sv,⟨([],false),by simp,fun h=>nomatch h⟩),rfl,aH⟩
    ·exact eB (sv,proj++[0],f+1) ⟨by simp only;omega,hcl 0,hzf⟩
    ·exact eB (sv,proj++[-1],f+1) ⟨by simp only;omega,hcl (-1),hnf⟩
   ·obtain rfl:f=x.1.length:=by omega
    repeat' (first|refine aU ?_|refine bV fun hc=>?_|refine bW fun hc=>?_|refine aS (fun hc=>?_) fun hc=>?_|fail)
    refine lp_ [9,11] [59,61,62,63,64,60,65,66,12,13,67,68,69,70,71,72,73,4,5,74,75,76,14,77,78,79,80,81,82,85,86,87,88,89,90,91,92,93,94,95,96,97,98,99,100,101,102,103,104,105,106,107,108,109,110,111,112,113,114,115,116,117,83,84] (Z:=Value×List Int×Bool) (fun k=>[k.1,.bool k.2.2]) (fun k=>[.ow [k.1] k.2.1]) (fun k=>k.2.1.length=x.1.length/\Dig k.2.1) (fun k=>if k.2.2=true then 4 ^ x.1.length-nY k.2.1+1 else 0) (sp,proj,true) [.ow [sp] proj] ⟨hpl2,hdg⟩ ?_
    intro ⟨sq,pj,mo⟩ u l' hl' ⟨hpl3,hdg3⟩
    simp only[bM,List.map,List.set] at hl'
    subst hl'
    simp only[aA,aB] at hpl3 hdg3 ⊢
    have hv3:=oC hdg3
    rw[hpl3] at hv3
    cases mo with
    | false=>
     repeat' (first|refine aU ?_|refine bG fun sv=>?_|fail)
     exact⟨(sv,⟨([],false),by simp,fun h=>nomatch h⟩),rfl,aH⟩
    | true=>
     repeat' (first|refine aU ?_|refine bP ?_|refine cV fun r hr=>?_|refine aW fun r=>?_|refine bV fun hc=>?_|refine bW fun hc=>?_|refine aS (fun hc=>?_) fun hc=>?_|fail)
     ·exact⟨(sq,⟨(pj,true),by simp only;omega,fun _=>⟨by assumption,by simp only;omega⟩⟩),rfl,aH⟩
     all_goals
      refine lp_ [9,11,14] [77,78,79,80,81,82,85,86,87,88,89,90,91,92,93,94,95,96,97,98,99,100,101,102,103,104,105,106,107,108,109,110,111,112,113,114,115,116,117,83,84] (Z:=Value×List Int×Bool×Nat) (fun k=>[k.1,.bool k.2.2.1,.int .i64 ((k.2.2.2:Int)-1)]) (fun k=>[.ow [k.1] k.2.1]) (fun k=>UpI pj k.2.1 k.2.2.2 k.2.2.1) (fun k=>k.2.2.2) (sq,pj,false,pj.length) [.ow [sq] pj] (aIf hdg3) ?_
      intro ⟨sr,t,mo,k⟩ u l' hl' hU
      simp only[bM,List.map,List.set] at hl'
      subst hl'
      simp only[aA,aB] at hU ⊢
      have hul:=hU.len
      have huk:=hU.le
      cases mo with
      | true=>
       have hup:=hU.up rfl
       have hvt:=oC hU.dig
       rw[hul,hpl3] at hvt
       repeat' (first|refine aU ?_|refine bV fun hc=>?_|refine bW fun hc=>?_|refine aS (fun hc=>?_) fun hc=>?_|fail)
       all_goals exact eB (sr,t,true) ⟨by simp only;omega,hU.dig⟩ (by simp only[if_true];omega)
      | false=>
       cases k with
       | zero=>
        repeat' (first|refine aU ?_|refine bV fun hc=>?_|refine bW fun hc=>?_|refine aS (fun hc=>?_) fun hc=>?_|fail)
        exact eB (sr,t,false) ⟨by simp only;omega,hU.dig⟩ (by simp only[if_true,dB,if_false];omega)
       | succ j=>
        rw[show((j+1:Nat):Int)-1=(j:Int) by omega]
        have haj:=fM hsa (k:=j) (by omega)
        have hdj:=hU.dig _ (eD (t:=t) (k:=j) (by omega))
        repeat' (first|refine aU ?_|refine eF fun hbi=>?_|refine bP ?_|refine bV fun hc=>?_|refine bW fun hc=>?_|refine aS (fun hc=>?_) fun hc=>?_|refine wb 23 [] ?_|refine xf fun hbi=>?_|refine xp ?_|refine xg ?_|refine xn ?_|refine pM fun hc=>?_|refine pN fun hc=>?_|refine xi (fun hc=>?_) fun hc=>?_|refine bI ?_|fail)
        all_goals first
         | exact eB (sr,t.set j (t.getD j 0+1),true,j) (aWh hU hdg3 (by omega))
         | exact eB (sr,t.set j 0,false,j) (aQm hU)
         | exact eB (sr,t,false,j) (bEz hU)
 ·refine aK func299 ntmps299 ?_
  repeat' (first|refine aU ?_|refine cV fun r hr=>?_|refine aW fun r=>?_|refine bG fun sv=>?_|refine bT fun b=>?_|refine bV fun hc=>?_|refine bW fun hc=>?_|refine aS (fun hc=>?_) fun hc=>?_|fail)
  ·exact⟨(sv,⟨([],false),by simp,fun h=>nomatch h⟩),rfl,aH⟩
  ·exact⟨(sv,⟨([],false),by simp,fun h=>nomatch h⟩),rfl,aH⟩
  ·exact absurd ⟨by assumption,by assumption⟩ hP⟩
def aAv(q:cJ)(n:Int):Prop:=(0<=q.1/\q.1<=9)/\(q.2.length:Int)=n/\∀ i,i<q.2.length->0<=q.2.getD i 0/\q.2.getD i 0<=9
instance bIa{I:List Atom}{v:Value}{q:cJ}{n:Int}[h:bK Int I v q.2] :
  bQ prog 342 [.agg #[.int .i64 q.1,v],.int .i64 n] I (n<=64) (Unit) (fun _:Unit=>.bool (kZ (aAv q n))) (fun _=>I):=⟨fun hn w0=>by
 refine jV (fun w1=>?_) (aE h fI)
 refine dQ v fun hln=>?_
 refine aK func342 ntmps342 ?_
 repeat' (first|refine aU ?_|refine cV fun r hr=>?_|refine aW fun r=>?_|refine bT fun b=>?_|refine bV fun hc=>?_|refine bW fun hc=>?_|refine aS (fun hc=>?_) fun hc=>?_|fail)
 ·exact⟨(),bO (eV fun h=>hc h.1),aH⟩
 ·exact⟨(),bO (eV fun h=>hc h.2.1),aH⟩
 have h1:0<=q.1/\q.1<=9:=by assumption
 have h2:(q.2.length:Int)=n:=by assumption
 refine lc_ [5] [17,18,19,20,21,24,25,26,27,28,29,30,4,22,23] (Z:=Nat) (fun k=>[.int .i64 k]) (fun k=>k<=q.2.length/\∀ i,i<k->0<=q.2.getD i 0/\q.2.getD i 0<=9) (fun k=>q.2.length-k) 0 ⟨aI _,fun f hf=>absurd hf (cX f)⟩ ?_
 intro k u l' hl' ⟨hk,hI⟩
 simp only[bM,List.map,List.set] at hl'
 subst hl'
 by_cases hkl:k<q.2.length
 ·repeat' (first|refine aU ?_|refine eF fun hbi=>?_|refine bP ?_|refine cV fun r hr=>?_|refine aW fun r=>?_|refine bV fun hc=>?_|refine bW fun hc=>?_|refine aS (fun hc=>?_) fun hc=>?_|fail)
  ·exact⟨(),bO (eV fun h=>hc (h.2.2 k hkl)),aH⟩
  ·exact dH (k+1) ⟨by omega,fun f hf=>by
    by_cases e:f=k
    ·subst e;exact hc
    ·exact hI f (by omega)⟩ (by omega) (by kernel_rfl) aH
 ·obtain rfl:k=q.2.length:=by omega
  repeat' (first|refine aU ?_|refine bV fun hc=>?_|refine bW fun hc=>?_|refine aS (fun hc=>?_) fun hc=>?_|fail)
  exact⟨(),bO (hZ ⟨h1,h2,hI⟩),aH⟩⟩
def gU(a:List Int)(ps:List cJ):Prop:=eA a=true/\ps.length=a.length/\∀ f,f<ps.length->aAv (ps.getD f default) (a.getD f 0)
instance bH4{I:List Atom}{va v:Value}{a:List Int}{ps:List cJ}[h0:bK Int I va a][h:bK cJ I v ps] :
  bQ prog 316 [.agg #[va],v] I True Unit (fun _:Unit=>.bool (kZ (gU a ps))) (fun _=>I):=⟨fun _ w0=>by
 refine jV (fun w1=>?_) (aE h0 (aE h fI))
 by_cases hs:eA a=true/\ps.length=a.length
 ·have hsg:=eC hs.1
  obtain ⟨hsa,hpl⟩:=hs
  refine aK func316 ntmps316 ?_
  repeat' (first|refine aU ?_|refine cV fun r hr=>?_|refine aW fun r=>?_|refine bT fun b=>?_|refine bV fun hc=>?_|refine bW fun hc=>?_|refine aS (fun hc=>?_) fun hc=>?_|fail)
  ·rw[hsa] at hc;cases hc
  refine lc_ [5] [17,18,19,20,23,24,25,26,27,28,29,30,31,32,33,4,21,22] (Z:=Nat) (fun k=>[.int .i64 k]) (fun k=>k<=ps.length/\∀ f,f<k->aAv (ps.getD f default) (a.getD f 0)) (fun k=>ps.length-k) 0 ⟨aI _,fun f hf=>absurd hf (cX f)⟩ ?_
  intro k u l' hl' ⟨hk,hI⟩
  simp only[bM,List.map,List.set] at hl'
  subst hl'
  by_cases hkl:k<ps.length
  ·have hak:=fM hsa (k:=k) (by omega)
   repeat' (first|refine aU ?_|refine bP ?_|refine bV fun hc=>?_|refine bW fun hc=>?_|refine aS (fun hc=>?_) fun hc=>?_|refine cV fun r hr=>?_|refine aW fun r=>?_|refine wb 6 [] ?_|refine xf fun hbi=>?_|refine xp ?_|(refine xd fun p c d e f g h hf=>?_;simp only[Un.cells,Un.atoms,Un.fact,aA,aB] at f g h hf;subst f g h)|refine xy ?_|refine bI ?_|fail)
   ·exact⟨(),bO (eV fun h=>hc (h.2.2 k hkl)),aH⟩
   ·exact dH (k+1) ⟨by omega,fun f hf=>by
     by_cases e:f=k
     ·subst e;exact hc
     ·exact hI f (by omega)⟩ (by omega) (by kernel_rfl) aH
  ·obtain rfl:k=ps.length:=by omega
   repeat' (first|refine aU ?_|refine bV fun hc=>?_|refine bW fun hc=>?_|refine aS (fun hc=>?_) fun hc=>?_|fail)
   exact⟨(),bO (hZ ⟨hsa,hpl,hI⟩),aH⟩
 ·refine aK func316 ntmps316 ?_
  repeat' (first|refine aU ?_|refine cV fun r hr=>?_|refine aW fun r=>?_|refine bT fun b=>?_|refine bV fun hc=>?_|refine bW fun hc=>?_|refine aS (fun hc=>?_) fun hc=>?_|fail)
  ·exact⟨(),bO (eV fun h=>hs ⟨h.1,h.2.1⟩),aH⟩
  ·exact⟨(),bO (eV fun h=>hs ⟨h.1,h.2.1⟩),aH⟩
  ·exact absurd ⟨by assumption,by omega⟩ hs⟩
def aKt(z y:List Int):Prop:=∀ i,i<z.length->0<z.getD i 0->i<y.length/\z.getD i 0<=y.getD i 0
instance bIp{I:List Atom}{v1 v2:Value}{n1 n2:Int}{z y:List Int}[h:bK Int I v1 z][h':bK Int I v2 y] :
  bQ prog 318 [.agg #[.int .i64 n1,v1],.agg #[.int .i64 n2,v2]] I True Unit (fun _:Unit=>.bool (kZ (aKt z y))) (fun _=>I):=⟨fun _ w0=>by
 refine jV (fun w1=>?_) (aE h (aE h' fI))
 refine dQ v1 fun hlz=>?_
 refine dQ v2 fun hly=>?_
 refine aK func318 ntmps318 ?_
 repeat' (first|refine aU ?_|refine bT fun b=>?_|fail)
 refine lc_ [5] [6,7,8,9,10,13,14,15,16,17,18,19,20,21,22,23,24,25,26,27,28,29,30,31,32,33,34,35,36,37,38,4,11,12] (Z:=Nat) (fun k=>[.int .i64 k]) (fun k=>k<=z.length/\∀ i,i<k->0<z.getD i 0->i<y.length/\z.getD i 0<=y.getD i 0) (fun k=>z.length-k) 0 ⟨aI _,fun f hf=>absurd hf (cX f)⟩ ?_
 intro k u l' hl' ⟨hk,hI⟩
 simp only[bM,List.map,List.set] at hl'
 subst hl'
 have hnx:(0<z.getD k 0->k<y.length/\z.getD k 0<=y.getD k 0)->∀ i,i<k+1->0<z.getD i 0->i<y.length/\z.getD i 0<=y.getD i 0:=fun h i hi=>by
  by_cases e:i=k
  ·subst e;exact h
  ·exact hI i (by omega)
 by_cases hkl:k<z.length
 ·repeat' (first|refine aU ?_|refine bP ?_|refine bV fun hc=>?_|refine bW fun hc=>?_|refine aS (fun hc=>?_) fun hc=>?_|refine wb 4 [] ?_|refine xf fun hbi=>?_|refine xp ?_|refine xg ?_|refine xn ?_|refine pM fun hc=>?_|refine pN fun hc=>?_|refine xi (fun hc=>?_) fun hc=>?_|refine bI ?_|fail)
  all_goals first
   | exact⟨(),bO (eV fun h=>by have:=h k hkl (by omega);omega),aH⟩
   | exact eB (k+1) ⟨by omega,hnx fun _=>by omega⟩
   | exact eB (k+1) ⟨by omega,hnx fun _=>by constructor<;>omega⟩
 ·obtain rfl:k=z.length:=by omega
  repeat' (first|refine aU ?_|refine bV fun hc=>?_|refine bW fun hc=>?_|refine aS (fun hc=>?_) fun hc=>?_|fail)
  exact⟨(),bO (hZ hI),aH⟩⟩
def kN(z y:List Int)(m:Int)(n:Nat):List Int:=(List.range (max z.length n)).map fun i=>z.getD i 0+if i<n then m*y.getD i 0 else 0
theorem gY(z y:List Int)(m:Int)(n:Nat):(kN z y m n).length=max z.length n:=by unfold kN;rw[aY,List.length_range]
theorem lG{z y:List Int}{m:Int}{n i:Nat}(hi:i<max z.length n):(kN z y m n).getD i 0=z.getD i 0+if i<n then m*y.getD i 0 else 0:=by
 unfold kN
 rw[aC,List.getElem?_map,List.getElem?_range hi]
 rfl
theorem aGt{s t:List Int}(hl:s.length=t.length)(h:∀ i,i<s.length->s.getD i 0=t.getD i 0):s=t:=by
 refine List.ext_getElem hl fun i h1 h2=>?_
 have:=h i h1
 rw[aC,aC,aG h1,aG h2] at this
 exact this
theorem aBp{z:List Int}{i:Nat}(h:z.length<=i):z.getD i 0=0:=by rw[aC,dA h];rfl
theorem aRs(z y:List Int)(m:Int):kN z y m 0=z:=by
 refine aGt (by rw[gY];omega) fun i hi=>?_
 rw[gY] at hi
 rw[lG hi,if_neg (by omega)];omega
theorem bCx{z y:List Int}{m:Int}{n:Nat}(hn:n<z.length):(kN z y m n).set n ((kN z y m n).getD n 0+m*y.getD n 0)=kN z y m (n+1):=by
 refine aGt (by rw[aV,gY,gY];omega) fun i hi=>?_
 rw[aV,gY] at hi
 rw[lG (n:=n+1) (by omega),aC,List.getElem?_set,gY]
 by_cases e:n=i
 ·subst e
  rw[if_pos rfl,if_pos (by omega),lG (by omega),if_neg (Nat.lt_irrefl _),if_pos (Nat.lt_succ_self _)]
  show z.getD n 0+0+m*y.getD n 0=_
  omega
 ·rw[if_neg e,← aC,lG (by omega)]
  by_cases h:i<n
  ·rw[if_pos h,if_pos (by omega)]
  ·rw[if_neg h,if_neg (by omega)]
theorem bAa{z y:List Int}{m:Int}{n:Nat}(hn:z.length<=n):(kN z y m n++[0]).set n ((kN z y m n++[0]).getD n 0+m*y.getD n 0)=kN z y m (n+1):=by
 have hal:=gY z y m n
 have h0:(kN z y m n++[0]).getD n 0=0:=by
  rw[aC,cP (by omega),show n-(kN z y m n).length=0 by omega];rfl
 refine aGt (by rw[aV,aD,gY,gY,aJ];omega) fun i hi=>?_
 rw[aV,aD,gY,aJ] at hi
 rw[lG (n:=n+1) (by omega),aC,List.getElem?_set,aD,gY,aJ]
 by_cases e:n=i
 ·subst e
  rw[if_pos rfl,if_pos (by omega),if_pos (Nat.lt_succ_self _),h0,aBp hn]
  rfl
 ·rw[if_neg e,dD (by omega),← aC,lG (by omega)]
  rw[if_pos (by omega),if_pos (by omega)]
theorem aX2(z y:List Int)(m:Int)(n:Nat):(kN z y m n++[0]).getD n 0=z.getD n 0:=by
 have hal:=gY z y m n
 by_cases h:n<z.length
 ·rw[aC,dD (by omega),← aC,lG (by omega),if_neg (Nat.lt_irrefl _)];omega
 ·rw[show z.getD n 0=0 from aBp (by omega),aC,cP (by omega),show n-(kN z y m n).length=0 by omega];rfl
structure rC(q:cJ):Prop where
 c:0<=q.1/\q.1<=1000000000000
 l:q.2.length<=24
 g:∀ i,0<=q.2.getD i 0/\q.2.getD i 0<=1000000000000
def yC(z y:cJ)(m:Int):Prop:=(∀ i,i<(kN z.2 y.2 m y.2.length).length->(kN z.2 y.2 m y.2.length).getD i 0<=1000000000000)/\z.1+m*y.1<=1000000000000
abbrev bLf(z y:cJ)(m:Int):Type:={ t:cJ×Bool // t.2=kZ (yC z y m)/\(t.2=true->t.1=(z.1+m*y.1,kN z.2 y.2 m y.2.length)) }
theorem aGo{m c:Int}(hm:0<=m/\m<=9)(hc:0<=c/\c<=1000000000000):0<=m*c/\m*c<=9000000000000:=
 ⟨Int.mul_nonneg hm.1 hc.1,Int.le_trans (Int.mul_le_mul hm.2 hc.2 hc.1 (by decide)) (by decide)⟩
instance (priority:=2000) bMh{I Y:List Atom}{b:Nat}[h:kV I Y]:kV (.bk b [.int .i64 0,.slice none 0 0]::I) Y:=⟨iW h.sub⟩
instance bJn{I:List Atom}{v1 v2:Value}{z y:cJ}{m:Int}[h:bK Int I v1 z.2][h':bK Int I v2 y.2] :
  bQ prog 360 [.agg #[.int .i64 z.1,v1],.agg #[.int .i64 y.1,v2],.int .i64 m] I (rC z/\rC y/\0<=m/\m<=9) (Value×bLf z y m) (fun q:Value×bLf z y m=>.tuple #[.agg #[.int .i64 q.2.1.1.1,q.1],.bool q.2.1.2]) (fun q=>.ow [q.1] q.2.1.1.2::I):=⟨fun hs w0=>by
 refine cL (A:=fun q:Value×bLf z y m=>[.ow [q.1] q.2.1.1.2]) (fun w1=>?_) (aE h (aE h' fI)) fun _=>inferInstance
 simp only[aA,aB]
 obtain ⟨hz,hy,hm⟩:=hs
 have hzl:=hz.l
 have hyl:=hy.l
 have hz1:=hz.c
 have hy1:=hy.c
 have hmy:=aGo hm hy1
 refine aK func360 ntmps360 ?_
 repeat' (first|refine aU ?_|refine bT fun b=>?_|refine bG fun sv=>?_|refine wb1 1 [] ?_|refine xp ?_|refine xy ?_|refine x2 ?_ ?_|refine bI ?_|fail)
 all_goals
  refine bD [9] [23,24,25,26,27,30,31,32,33,34,35,36,37,38,39,40,41,42,43,44,45,46,47,48,49,50,51,52,53,54,55,56,28,29] (Z:=Value×Nat) (fun k=>[.int .i64 k.2]) (fun k=>[.bk b [.int .i64 (z.1+m*y.1),k.1],.ow [k.1] (kN z.2 y.2 m k.2)]) (fun k=>k.2<=y.2.length) (fun k=>y.2.length-k.2) (sv,0) [.bk b [.int .i64 (z.1+m*y.1),sv],.ow [sv] z.2] (by kernel_rfl) (aI _) (by simp only[aRs]) ?_
  intro ⟨so,i⟩ u l' hl' hi
  simp only[bM,List.map,List.set] at hl'
  subst hl'
  simp only[aA,aB] at hi ⊢
  have hal:=gY z.2 y.2 m i
  by_cases hil:i<y.2.length
  ·have hmi:=aGo hm (hy.g i)
   have hzi:=hz.g i
   have hai:(kN z.2 y.2 m i++[0]).getD i 0=z.2.getD i 0:=aX2 z.2 y.2 m i
   have hai2:i<z.2.length->(kN z.2 y.2 m i).getD i 0=z.2.getD i 0:=fun h=>by rw[lG (by omega),if_neg (Nat.lt_irrefl _)];omega
   repeat' (first|refine aU ?_|refine bP ?_|refine bG fun sv=>?_|refine bV fun hc=>?_|refine bW fun hc=>?_|refine aS (fun hc=>?_) fun hc=>?_|refine wb 7 [17] ?_|refine xf fun hbi=>?_|refine xp ?_|refine xy ?_|refine bI ?_|fail)
   ·exact dH (sv,i+1) (by simp only;omega) (by simp only;omega) (by kernel_rfl) (by simp only[← bAa (y:=y.2) (m:=m) (show z.2.length<=i by omega)];exact aH)
   ·exact dH (so,i+1) (by simp only;omega) (by simp only;omega) (by kernel_rfl) (by simp only[← bCx (y:=y.2) (m:=m) (show i<z.2.length by omega)];exact aH)
  ·obtain rfl:i=y.2.length:=by omega
   repeat' (first|refine aU ?_|refine bV fun hc=>?_|refine bW fun hc=>?_|refine aS (fun hc=>?_) fun hc=>?_|fail)
   refine lc_ [10] [57,58,59,60,61,64,65,66,67,68,69,70,7,62,63] (Z:=Nat) (fun k=>[.int .i64 k]) (fun k=>k<=(kN z.2 y.2 m y.2.length).length/\∀ j,j<k->(kN z.2 y.2 m y.2.length).getD j 0<=1000000000000) (fun k=>(kN z.2 y.2 m y.2.length).length-k) 0 ⟨aI _,fun f hf=>absurd hf (cX f)⟩ ?_
   intro k u l' hl' ⟨hk,hI⟩
   simp only[bM,List.map,List.set] at hl'
   subst hl'
   by_cases hkl:k<(kN z.2 y.2 m y.2.length).length
   ·repeat' (first|refine aU ?_|refine eF fun hbi=>?_|refine bP ?_|refine bV fun hc=>?_|refine bW fun hc=>?_|refine aS (fun hc=>?_) fun hc=>?_|fail)
    ·have hno:¬ yC z y m:=fun h=>by have:=h.1 k hkl;omega
     exact⟨(.slice none 0 0,⟨((0,[]),false),(eV hno).symm,fun h=>nomatch h⟩),rfl,aH⟩
    ·exact dH (k+1) ⟨by omega,fun j hj=>by
      by_cases e:j=k
      ·subst e;omega
      ·exact hI j (by omega)⟩ (by omega) (by kernel_rfl) aH
   ·obtain rfl:k=(kN z.2 y.2 m y.2.length).length:=by omega
    have e:decide (z.1+m*y.1<=1000000000000)=kZ (yC z y m):=by
     by_cases hh:z.1+m*y.1<=1000000000000
     ·rw[decide_eq_true hh,hZ ⟨hI,hh⟩]
     ·rw[decide_eq_false hh,eV fun h=>hh h.2]
    repeat' (first|refine aU ?_|refine bV fun hc=>?_|refine bW fun hc=>?_|refine aS (fun hc=>?_) fun hc=>?_|fail)
    ((refine wbd 13 [] ?_<;>repeat' (first|refine aU ?_|refine xp ?_|refine xy ?_|fail))<;>refine bI ?_)
    repeat' (first|refine aU ?_|fail)
    exact⟨(so,⟨((z.1+m*y.1,kN z.2 y.2 m y.2.length),decide (z.1+m*y.1<=1000000000000)),e,fun _=>rfl⟩),rfl,aH⟩⟩
end Go.Proofs.YtajdgkpjbpindaaGreatDoor
namespace Go.Proofs.YtajdgkpjbpindaaGreatDoor
open Go Go.Eng
set_option synthInstance.maxHeartbeats 400000
set_option synthInstance.maxSize 1000
set_option maxHeartbeats 4000000
set_option maxRecDepth 20000
noncomputable def aNd(z y:cJ)(m:Int):Option cJ:=if kZ (yC z y m)=true then some (z.1+m*y.1,kN z.2 y.2 m y.2.length) else none
theorem aXb{z y:cJ}{m:Int}(h:yC z y m):aNd z y m=some (z.1+m*y.1,kN z.2 y.2 m y.2.length):=if_pos (hZ h)
theorem aXh{z y:cJ}{m:Int}(h:¬ yC z y m):aNd z y m=none:=if_neg (by rw[eV h];decide)
theorem bJ9{z y o:cJ}{m:Int}(hz:rC z)(hy:rC y)(hm:0<=m/\m<=9)(h:aNd z y m=some o):rC o:=by
 by_cases hp:yC z y m
 ·rw[aXb hp] at h
  obtain rfl:=Option.some.inj h
  have hmy:=aGo hm hy.c
  have hzc:=hz.c
  have hp2:=hp.2
  refine⟨by simp only;omega,by simp only[gY];have:=hz.l;have:=hy.l;omega,fun i=>?_⟩
  by_cases hi:i<max z.2.length y.2.length
  ·have h1:=hp.1 i (by rw[gY];exact hi)
   refine⟨?_,h1⟩
   show 0<=(kN z.2 y.2 m y.2.length).getD i 0
   rw[lG hi]
   have h2:=(hz.g i).1
   have h3:=(aGo hm (hy.g i)).1
   split<;>omega
  ·show 0<=(kN z.2 y.2 m y.2.length).getD i 0/\_
   rw[aBp (by rw[gY];omega)]
   omega
 ·rw[aXh hp] at h;cases h
noncomputable def pS(F:List Int->Option cJ)(q:cJ)(us:List (Sh (List Int))):Nat->Option cJ
 | 0=>some (q.1,[])
 | k+1=>(pS F q us k).bind fun o=>(F (us.getD k default).v).bind fun f=>aNd o f (q.2.getD k 0)
def rN(n:Nat):List Int:=(List.replicate n (0:Int)).set (n-1) 1
noncomputable def jC(a:List Int)(ps:List cJ):Nat->List Int->Option cJ
 | 0,_=>none
 | n+1,t=>if t.getD 0 0<0 then some (0,rN (-t.getD 0 0).toNat) else pS (jC a ps n) (ps.getD (t.getD 0 0).toNat default) (fF a t (iA a t)) (iA a t)
theorem bL8{n:Nat}(hn:n<=24):rC (0,rN n):=by
 refine⟨by simp only;omega,by unfold rN;simpa using hn,fun i=>?_⟩
 show 0<=(rN n).getD i 0/\(rN n).getD i 0<=1000000000000
 unfold rN
 rw[aC,List.getElem?_set,cA]
 split
 ·split
  ·decide
  ·decide
 ·rw[List.getElem?_replicate]
  split
  ·decide
  ·decide
theorem aNo{F:List Int->Option cJ}{q:cJ}{n:Int}{us:List (Sh (List Int))}(hq:aAv q n)(hF:∀ k o,k<us.length->F (us.getD k default).v=some o->rC o):∀ k,k<=us.length->(us.length<=q.2.length)->∀ o,pS F q us k=some o->rC o
 | 0,_,_,o,h=>by
  obtain rfl:=Option.some.inj (show some (q.1,[])=some o from h)
  have:=hq.1
  exact⟨by simp only;omega,by simp,fun i=>by simp⟩
 | k+1,hk,hl,o,h=>by
  obtain ⟨o1,h1,h2⟩:=Option.bind_eq_some_iff.1 (show(pS F q us k).bind _=some o from h)
  obtain ⟨f,h3,h4⟩:=Option.bind_eq_some_iff.1 h2
  exact bJ9 (aNo hq hF k (by omega) hl o1 h1) (hF k f (by omega) h3) (hq.2.2 k (by omega)) h4
theorem aGk{a t:List Int}(ht:bB a t=true)(hd:0<=t.getD 0 0){k:Nat}(hk:k<iA a t):bB a ((fF a t (iA a t)).getD k default).v=true/\((fF a t (iA a t)).getD k default).v.length<t.length:=by
 have hlt:=aX ht
 have hw:=lB ht
 have hpn:=fS a t (iA a t)
 have hm:=dX (xs:=fF a t (iA a t)) (k:=k) (by omega)
 obtain ⟨i,hi,e2⟩:=nH hm
 rw[e2]
 have hN:iA a (iZ t)=iA a t:=by unfold iA;rw[mS (by omega),lA hd]
 have hlt2:=aHo hw.ok (i:=i) (by rw[hN];exact hi)
 rw[gA] at hlt2
 show bB a (mK a t (pC a (iZ t) i))=true/\(mK a t (pC a (iZ t) i)).length<t.length
 rw[nG ht]
 refine⟨gL ht hlt2.1,?_⟩
 unfold eX
 rw[aN,aR]
 omega
theorem aFn{a:List Int}{ps:List cJ}(hp:gU a ps):∀ n t o,bB a t=true->jC a ps n t=some o->rC o
 | 0,t,o,_,h=>by cases(show none=some o from h)
 | n+1,t,o,ht,h=>by
  have hg:=dY ht (k:=0) (by have:=aX ht;omega)
  by_cases h0:t.getD 0 0<0
  ·have e:jC a ps (n+1) t=some (0,rN (-t.getD 0 0).toNat):=if_pos h0
   rw[e] at h
   obtain rfl:=Option.some.inj h
   exact bL8 (by omega)
  ·have e:jC a ps (n+1) t=pS (jC a ps n) (ps.getD (t.getD 0 0).toNat default) (fF a t (iA a t)) (iA a t):=if_neg h0
   rw[e] at h
   have hag:=uH ht
   have hak:ar a (t.getD 0 0)=a.getD (t.getD 0 0).toNat 0:=by unfold ar;rw[if_neg (by omega)]
   have hq:=hp.2.2 (t.getD 0 0).toNat (by have:=hp.2.1;omega)
   have hpn:=fS a t (iA a t)
   have hql:=hq.2.1
   exact aNo hq (fun k o hk h2=>aFn hp n _ o (aGk ht (by omega) (by omega)).1 h2) (iA a t) (by omega) (by omega) o h
abbrev jL(r:Option cJ):Type:={ t:cJ×Bool // t.2=r.isSome/\(t.2=true->r=some t.1) }
structure FrC(a:List Int)(ps:List cJ)(n:Nat)(t:List Int):Prop where
 pp:gU a ps
 tm:bB a t=true
 len:t.length<=n
end Go.Proofs.YtajdgkpjbpindaaGreatDoor
namespace Go.Proofs.YtajdgkpjbpindaaGreatDoor
open Go Go.Eng Tryz
set_option synthInstance.maxHeartbeats 400000
set_option synthInstance.maxSize 1000
set_option maxHeartbeats 4000000
set_option maxRecDepth 20000
structure SmC(a:List Int)(ps:List cJ)(n:Nat)(q:cJ)(us:List (Sh (List Int))):Prop where
 pp:gU a ps
 qp:aAv q us.length
 ul:us.length<=3
 tm:∀ k,k<us.length->bB a (us.getD k default).v=true/\(us.getD k default).v.length<=n
theorem aEf{F:List Int->Option cJ}{q:cJ}{us:List (Sh (List Int))}{k:Nat}(h:pS F q us k=none):∀ j,pS F q us (k+j)=none
 | 0=>h
 | j+1=>by
  show(pS F q us (k+j)).bind _=none
  rw[aEf h j];rfl
theorem yR{n:Nat}(ih:∀ {w0:World} {I:List Atom} {v0 v1 vt:Value} {a t:List Int} {ps:List cJ} [h0:bK Int I v0 a] [h1:eK cJ I v1 ps] [h2:eK Int I vt t] (hs:FrC a ps n t),CJ prog 343 [.agg #[v0],v1,vt] w0 I (fun q:Value×jL (jC a ps n t)=>.tuple #[.agg #[.int .i64 q.2.1.1.1,q.1],.bool q.2.1.2]) (fun q=>.ow [q.1] q.2.1.1.2::I)){w0:World}{I:List Atom}{v0 v1 vq vu:Value}{a:List Int}{ps:List cJ}{q:cJ}{us:List (Sh (List Int))}[h0:bK Int I v0 a][h1:bK cJ I v1 ps][h2:bK Int I vq q.2][h3:bK (Sh (List Int)) I vu us](hs:SmC a ps n q us) :
  CJ prog 357 [.agg #[v0],v1,.agg #[.int .i64 q.1,vq],vu] w0 I (fun p:Value×jL (pS (jC a ps n) q us us.length)=>.tuple #[.agg #[.int .i64 p.2.1.1.1,p.1],.bool p.2.1.2]) (fun p=>.ow [p.1] p.2.1.1.2::I):=by
 haveI hI:∀ (Y:List Atom) (v0 v1 vt:Value) (a t:List Int) (ps:List cJ) [bK Int Y v0 a] [eK cJ Y v1 ps] [eK Int Y vt t],bQ prog 343 [.agg #[v0],v1,vt] Y (FrC a ps n t) (Value×jL (jC a ps n t)) (fun q=>.tuple #[.agg #[.int .i64 q.2.1.1.1,q.1],.bool q.2.1.2]) (fun q=>.ow [q.1] q.2.1.1.2::Y):=fun Y v0 v1 vt a t ps _ _ _=>⟨fun hs _=>ih hs⟩
 refine cL (A:=fun p:Value×jL (pS (jC a ps n) q us us.length)=>[.ow [p.1] p.2.1.1.2]) (fun w1=>?_) (aE h0 (aE h1 (aE h2 (aE h3 fI)))) fun _=>inferInstance
 simp only[aA,aB]
 obtain ⟨hpp,hqp,hul,htm⟩:=hs
 have hql:=hqp.2.1
 have hrl:us.length<=us.length:=aM _
 refine aK func357 ntmps357 ?_
 repeat' (first|refine aU ?_|refine bT fun b=>?_|fail)
 refine lp_ [11] [19,20,21,22,26,27,28,29,30,31,32,25,33,34,12,13,35,36,37,9,39,40,41,42,43,44,45,46,38,47,48,14,15,49,50,51,52,23,24] (Z:=Value×cJ×Nat) (fun k=>[.int .i64 k.2.2]) (fun k=>[.bk b [.int .i64 k.2.1.1,k.1],.ow [k.1] k.2.1.2]) (fun k=>k.2.2<=us.length/\pS (jC a ps n) q us k.2.2=some k.2.1) (fun k=>us.length-k.2.2) (.slice none 0 0,(q.1,[]),0) [.bk b [.int .i64 q.1,.slice none 0 0],.ow [.slice none 0 0] ([]:List Int)] ⟨aI _,rfl⟩ ?_
 intro ⟨so,o,k⟩ u l' hl' ⟨hk,hS⟩
 simp only[bM,List.map,List.set] at hl'
 subst hl'
 simp only[aA,aB] at hk hS ⊢
 have hob:=aNo hqp (fun j z hj h2=>aFn hpp n _ z (htm j hj).1 h2) k hk (by omega) o hS
 by_cases hkl:k<us.length
 ·have hfc:FrC a ps n (us.getD k default).v:=⟨hpp,(htm k hkl).1,(htm k hkl).2⟩
  have hsk:pS (jC a ps n) q us (k+1)=(jC a ps n (us.getD k default).v).bind fun f=>aNd o f (q.2.getD k 0):=by
   show(pS (jC a ps n) q us k).bind _=_
   rw[hS];rfl
  have hall:pS (jC a ps n) q us (k+1)=none->pS (jC a ps n) q us us.length=none:=fun h=>by
   have:=aEf h (us.length-(k+1))
   rw[show k+1+(us.length-(k+1))=us.length by omega] at this
   exact this
  repeat' (first|refine aU ?_|refine bV fun hc=>?_|refine bW fun hc=>?_|refine aS (fun hc=>?_) fun hc=>?_|refine bT fun b=>?_|refine cV fun r hr=>?_|refine aW fun r=>?_|refine wb 5 [] ?_|refine xp ?_|(refine xd fun p c d e f g h hf=>?_;simp only[Un.cells,Un.atoms,Un.fact,aA,aB] at f g h hf;subst f g h)|refine xy ?_|refine x2 ?_ ?_|refine bI ?_|fail)
  all_goals first
   | (
     have hno:jC a ps n (us.getD k default).v=none:=by
      have h1:=r.2.2.1
      rw[hc] at h1
      exact Option.isNone_iff_eq_none.1 (by rw[← Option.not_isSome,← h1];rfl)
     have hz:=hall (by rw[hsk,hno];rfl)
     exact⟨(.slice none 0 0,⟨((0,[]),false),by rw[hz];rfl,fun h=>nomatch h⟩),rfl,aH⟩)
   | skip
  all_goals
   have hrs:=r.2.2.2 hc
   have hrb:=aFn hpp n _ _ (htm k hkl).1 hrs
   have hqk:=hqp.2.2 k (by omega)
   have hadd:rC o/\rC r.2.1.1/\0<=q.2.getD k 0/\q.2.getD k 0<=9:=⟨hob,hrb,hqk⟩
   have hsk2:pS (jC a ps n) q us (k+1)=aNd o r.2.1.1 (q.2.getD k 0):=hsk.trans (congrArg (fun z=>z.bind fun f=>aNd o f (q.2.getD k 0)) hrs)
   repeat' (first|refine aU ?_|refine bP ?_|refine bV fun hc=>?_|refine bW fun hc=>?_|refine aS (fun hc=>?_) fun hc=>?_|refine bT fun b=>?_|refine cV fun r hr=>?_|refine aW fun r=>?_|refine wb 8 [] ?_|refine xf fun hbi=>?_|refine xp ?_|refine xy ?_|refine x2 ?_ ?_|refine bI ?_|fail)
   all_goals first
    | (
      have hnp:¬ yC _ _ _:=fun h=>by
       have h1:=r.2.2.1
       rw[hc,hZ h] at h1
       cases h1
      have hz:=hall (hsk2.trans (aXh hnp))
      exact⟨(.slice none 0 0,⟨((0,[]),false),by rw[hz];rfl,fun h=>nomatch h⟩),rfl,aH⟩)
    | (
      have hyp:=oG.1 (r.2.2.1.symm.trans hc)
      have he:=r.2.2.2 hc
      exact eB (r.1,r.2.1.1,k+1) ⟨by simp only;omega,by rw[hsk2,aXb hyp,he]⟩)
 ·obtain rfl:k=us.length:=by omega
  repeat' (first|refine aU ?_|refine bV fun hc=>?_|refine bW fun hc=>?_|refine aS (fun hc=>?_) fun hc=>?_|fail)
  exact⟨(so,⟨(o,true),by rw[hS];rfl,fun _=>hS⟩),rfl,aH⟩
theorem aGl{n:Nat}(ih:∀ {w0:World} {I:List Atom} {v0 v1 vt:Value} {a t:List Int} {ps:List cJ} [h0:bK Int I v0 a] [h1:eK cJ I v1 ps] [h2:eK Int I vt t] (hs:FrC a ps n t),CJ prog 343 [.agg #[v0],v1,vt] w0 I (fun q:Value×jL (jC a ps n t)=>.tuple #[.agg #[.int .i64 q.2.1.1.1,q.1],.bool q.2.1.2]) (fun q=>.ow [q.1] q.2.1.1.2::I)){w0:World}{I:List Atom}{v0 v1 vt:Value}{a t:List Int}{ps:List cJ}[h0:bK Int I v0 a][h1:eK cJ I v1 ps][h2:eK Int I vt t](hs:FrC a ps (n+1) t) :
  CJ prog 343 [.agg #[v0],v1,vt] w0 I (fun q:Value×jL (jC a ps (n+1) t)=>.tuple #[.agg #[.int .i64 q.2.1.1.1,q.1],.bool q.2.1.2]) (fun q=>.ow [q.1] q.2.1.1.2::I):=by
 haveI hI:∀ (Y:List Atom) (v0 v1 vq vu:Value) (a:List Int) (ps:List cJ) (q:cJ) (us:List (Sh (List Int))) [bK Int Y v0 a] [bK cJ Y v1 ps] [bK Int Y vq q.2] [bK (Sh (List Int)) Y vu us],bQ prog 357 [.agg #[v0],v1,.agg #[.int .i64 q.1,vq],vu] Y (SmC a ps n q us) (Value×jL (pS (jC a ps n) q us us.length)) (fun p=>.tuple #[.agg #[.int .i64 p.2.1.1.1,p.1],.bool p.2.1.2]) (fun p=>.ow [p.1] p.2.1.1.2::Y):=fun Y v0 v1 vq vu a ps q us _ _ _ _=>⟨fun hs _=>yR ih hs⟩
 obtain ⟨hpp,htm,hln⟩:=hs
 have hl:=aX htm
 have hg:=dY htm (k:=0) (by omega)
 have hw:=lB htm
 have hpl:=hpp.2.1
 by_cases hneg:t.getD 0 0<0
 ·refine aK func343 ntmps343 ?_
  repeat' (first|refine aU ?_|refine eF fun hbi=>?_|refine bP ?_|refine bG fun sv=>?_|refine bT fun b=>?_|refine bV fun hc=>?_|refine bW fun hc=>?_|refine aS (fun hc=>?_) fun hc=>?_|refine wb 3 [7] ?_|refine xf fun hbi=>?_|refine xp ?_|refine xy ?_|refine bI ?_|fail)
  have e:jC a ps (n+1) t=some (0,rN (-t.getD 0 0).toNat):=if_pos hneg
  have e2:(List.replicate (-t.getD 0 0).toNat (0:Int)).set (-1-t.getD 0 0).toNat 1=rN (-t.getD 0 0).toNat:=by
   unfold rN
   congr 1
   omega
  rw[e2,e]
  exact⟨(sv,⟨((0,rN (-t.getD 0 0).toNat),true),rfl,fun _=>rfl⟩),rfl,aH⟩
 ·have hwt:jO a t/\0<=t.getD 0 0:=⟨hw,by omega⟩
  have hag:=uH htm
  have hak:ar a (t.getD 0 0)=a.getD (t.getD 0 0).toNat 0:=by unfold ar;rw[if_neg (by omega)]
  have hq:=hpp.2.2 (t.getD 0 0).toNat (by omega)
  have hpn:=fS a t (iA a t)
  have hsm:SmC a ps n (ps.getD (t.getD 0 0).toNat default) (fF a t (iA a t)):=⟨hpp,by rw[hpn,← hag.1,hak];exact hq,by omega,fun k hk=>by
   have h:=aGk htm (by omega) (k:=k) (by omega)
   exact⟨h.1,by omega⟩⟩
  have e:jC a ps (n+1) t=pS (jC a ps n) (ps.getD (t.getD 0 0).toNat default) (fF a t (iA a t)) (fF a t (iA a t)).length:=by
   rw[hpn];exact if_neg hneg
  refine aK func343 ntmps343 ?_
  repeat' (first|refine aU ?_|refine eF fun hbi=>?_|refine bP ?_|refine bT fun b=>?_|refine bV fun hc=>?_|refine bW fun hc=>?_|refine aS (fun hc=>?_) fun hc=>?_|refine cV fun r hr=>?_|refine aW fun r=>?_|refine wb 5 [14] ?_|refine xf fun hbi=>?_|refine xp ?_|refine x0 ?_|(refine xd fun p c d e f g h hf=>?_;simp only[Un.cells,Un.atoms,Un.fact,aA,aB] at f g h hf;subst f g h)|refine xy ?_|refine bI ?_|fail)
  rw[e]
  exact⟨r,rfl,aH⟩
theorem qN:∀ (n:Nat) {w0:World} {I:List Atom} {v0 v1 vt:Value} {a t:List Int} {ps:List cJ} [h0:bK Int I v0 a] [h1:eK cJ I v1 ps] [h2:eK Int I vt t] (hs:FrC a ps n t),CJ prog 343 [.agg #[v0],v1,vt] w0 I (fun q:Value×jL (jC a ps n t)=>.tuple #[.agg #[.int .i64 q.2.1.1.1,q.1],.bool q.2.1.2]) (fun q=>.ow [q.1] q.2.1.1.2::I)
 | 0,_,_,_,_,_,_,_,_,_,_,_,hs=>by
  have h1:=aX hs.tm
  have h2:=hs.len
  omega
 | n+1,_,_,_,_,_,_,_,_,_,_,_,hs=>aGl (qN n) hs
noncomputable def aTg(a:List Int)(ps:List cJ)(t:List Int):Option cJ:=jC a ps 60 t
noncomputable def bC4(a:List Int)(ps:List cJ)(q:cJ)(us:List (Sh (List Int))):Option cJ:=pS (jC a ps 60) q us us.length
instance bF7{I:List Atom}{v0 v1 vt:Value}{a t:List Int}{ps:List cJ}[h0:bK Int I v0 a][h1:eK cJ I v1 ps][h2:eK Int I vt t] :
  bQ prog 343 [.agg #[v0],v1,vt] I (FrC a ps 60 t) (Value×jL (aTg a ps t)) (fun q:Value×jL (aTg a ps t)=>.tuple #[.agg #[.int .i64 q.2.1.1.1,q.1],.bool q.2.1.2]) (fun q=>.ow [q.1] q.2.1.1.2::I):=⟨fun hs w0=>by
 exact qN 60 hs⟩
instance bI8{I:List Atom}{v0 v1 vq vu:Value}{a:List Int}{ps:List cJ}{q:cJ}{us:List (Sh (List Int))}[h0:bK Int I v0 a][h1:bK cJ I v1 ps][h2:bK Int I vq q.2][h3:bK (Sh (List Int)) I vu us] :
  bQ prog 357 [.agg #[v0],v1,.agg #[.int .i64 q.1,vq],vu] I (SmC a ps 60 q us) (Value×jL (bC4 a ps q us)) (fun p:Value×jL (bC4 a ps q us)=>.tuple #[.agg #[.int .i64 p.2.1.1.1,p.1],.bool p.2.1.2]) (fun p=>.ow [p.1] p.2.1.1.2::I):=⟨fun hs w0=>by
 exact yR (qN 60) hs⟩
noncomputable def aC4(a:List Int)(ps:List cJ)(t:List Int):Option cJ:=if kZ (gU a ps/\bB a t=true)=true then aTg a ps t else none
theorem bJx{a t:List Int}{ps:List cJ}(h:gU a ps/\bB a t=true):aC4 a ps t=aTg a ps t:=if_pos (hZ h)
theorem bJb{a t:List Int}{ps:List cJ}(h:¬ (gU a ps/\bB a t=true)):aC4 a ps t=none:=if_neg (by rw[eV h];decide)
instance bLy{I:List Atom}{v0 v1 vt:Value}{a t:List Int}{ps:List cJ}[h0:bK Int I v0 a][h1:bK cJ I v1 ps][h2:bK Int I vt t] :
  bQ prog 317 [.agg #[v0],v1,vt] I (True) (Value×jL (aC4 a ps t)) (fun q:Value×jL (aC4 a ps t)=>.tuple #[.agg #[.int .i64 q.2.1.1.1,q.1],.bool q.2.1.2]) (fun q=>.ow [q.1] q.2.1.1.2::I):=⟨fun _ w0=>by
 refine cL (A:=fun q:Value×jL (aC4 a ps t)=>[.ow [q.1] q.2.1.1.2]) (fun w1=>?_) (aE h0 (aE h1 (aE h2 fI))) fun _=>inferInstance
 simp only[aA,aB]
 by_cases hP:gU a ps/\bB a t=true
 ·have hl:=aX hP.2
  have hfr:FrC a ps 60 t:=⟨hP.1,hP.2,hl.2⟩
  rw[bJx hP]
  refine aK func317 ntmps317 ?_
  repeat' (first|refine aU ?_|refine cV fun r hr=>?_|refine aW fun r=>?_|refine bT fun b=>?_|refine bV fun hc=>?_|refine bW fun hc=>?_|refine aS (fun hc=>?_) fun hc=>?_|fail)
  ·exact absurd hP.1 hc
  ·rw[hP.2] at hc;cases hc
  ·exact⟨r,rfl,aH⟩
 ·rw[bJb hP]
  refine aK func317 ntmps317 ?_
  repeat' (first|refine aU ?_|refine cV fun r hr=>?_|refine aW fun r=>?_|refine bT fun b=>?_|refine bV fun hc=>?_|refine bW fun hc=>?_|refine aS (fun hc=>?_) fun hc=>?_|fail)
  ·exact⟨(.slice none 0 0,⟨((0,[]),false),rfl,fun h=>nomatch h⟩),rfl,aH⟩
  ·exact⟨(.slice none 0 0,⟨((0,[]),false),rfl,fun h=>nomatch h⟩),rfl,aH⟩
  ·exact absurd ⟨by assumption,by assumption⟩ hP⟩
def aNs(F:List Int->Option cJ)(s t:List Int):Prop:=∃ z y,F s=some z/\F t=some y/\z.1<=y.1/\aKt z.2 y.2
def bCp(F:List Int->Option cJ)(s t:List Int):Prop:=∃ z y,F s=some z/\F t=some y/\z.1<y.1/\aKt z.2 y.2
theorem sG{F:List Int->Option cJ}{s t:List Int}(h:F s=none∨F t=none):¬ aNs F s t:=fun ⟨z,y,h1,h2,_⟩=>by
 rcases h with h|h
 ·rw[h] at h1;cases h1
 ·rw[h] at h2;cases h2
theorem aEe{F:List Int->Option cJ}{s t:List Int}(h:F s=none∨F t=none):¬ bCp F s t:=fun ⟨z,y,h1,h2,_⟩=>by
 rcases h with h|h
 ·rw[h] at h1;cases h1
 ·rw[h] at h2;cases h2
theorem rY{F:List Int->Option cJ}{s t:List Int}{z y:cJ}(h1:F s=some z)(h2:F t=some y):aNs F s t↔z.1<=y.1/\aKt z.2 y.2:=
 ⟨fun ⟨z',y',e1,e2,h⟩=>by rw[h1] at e1;rw[h2] at e2;cases e1;cases e2;exact h,fun h=>⟨z,y,h1,h2,h⟩⟩
theorem aEd{F:List Int->Option cJ}{s t:List Int}{z y:cJ}(h1:F s=some z)(h2:F t=some y):bCp F s t↔z.1<y.1/\aKt z.2 y.2:=
 ⟨fun ⟨z',y',e1,e2,h⟩=>by rw[h1] at e1;rw[h2] at e2;cases e1;cases e2;exact h,fun h=>⟨z,y,h1,h2,h⟩⟩
theorem aH9{p q:Prop}(h:p↔q):kZ p=kZ q:=by rw[propext h]
theorem lS{o:Option cJ}(q:jL o)(h:q.1.2=false):o=none:=Option.isNone_iff_eq_none.1 (by rw[← Option.not_isSome,← q.2.1,h];rfl)
instance aWu{I:List Atom}{v0 v1 vs vt:Value}{a s t:List Int}{ps:List cJ}[h0:bK Int I v0 a][h1:bK cJ I v1 ps][h2:bK Int I vs s][h3:bK Int I vt t] :
  bQ prog 353 [.agg #[v0],v1,vs,vt] I True Unit (fun _:Unit=>.bool (kZ (aNs (aC4 a ps) s t))) (fun _=>I):=⟨fun _ w0=>by
 refine jV (fun w1=>?_) (aE h0 (aE h1 (aE h2 (aE h3 fI))))
 refine aK func353 ntmps353 ?_
 repeat' (first|refine aU ?_|refine cV fun r hr=>?_|refine aW fun r=>?_|refine bT fun b=>?_|refine bV fun hc=>?_|refine bW fun hc=>?_|refine aS (fun hc=>?_) fun hc=>?_|fail)
 all_goals
  rename Value×jL (aC4 a ps s)=>r1
  rename Value×jL (aC4 a ps t)=>r2
  first
   | exact⟨(),bO (eV (sG (.inl (lS r1.2 (by assumption))))),aH⟩
   | exact⟨(),bO (eV (sG (.inr (lS r2.2 (by assumption))))),aH⟩
   | (
     have g1:=r1.2.2.2 (by assumption)
     have g2:=r2.2.2.2 (by assumption)
     first
      | exact⟨(),bO (eV fun h=>by have:=((rY g1 g2).1 h).1;omega),aH⟩
      | exact⟨(),bO (aH9 ((rY g1 g2).trans ⟨fun h=>h.2,fun h=>⟨by assumption,h⟩⟩)),aH⟩)⟩
structure bOn(x:aQ)(ps:List cJ):Prop where
 ok:eE x=true
 pp:gU x.1 ps
 le:∀ i,i<x.2.length->aNs (aC4 x.1 ps) (x.2.getD i default).2 (x.2.getD i default).1
instance aZd{I:List Atom}{v0 v1 vp:Value}{x:aQ}{ps:List cJ}[h0:bK Int I v0 x.1][h1:bK cM I v1 x.2][h2:bK cJ I vp ps] :
  bQ prog 334 [.agg #[v0,v1],vp] I True Unit (fun _:Unit=>.bool (kZ (bOn x ps))) (fun _=>I):=⟨fun _ w0=>by
 refine jV (fun w1=>?_) (aE h0 (aE h1 (aE h2 fI)))
 refine dQ v1 fun hlr=>?_
 refine aK func334 ntmps334 ?_
 repeat' (first|refine aU ?_|refine cV fun r hr=>?_|refine aW fun r=>?_|refine bT fun b=>?_|refine bV fun hc=>?_|refine bW fun hc=>?_|refine aS (fun hc=>?_) fun hc=>?_|fail)
 ·exact⟨(),bO (eV fun h=>by have:=h.ok;rw[hc] at this;cases this),aH⟩
 ·exact⟨(),bO (eV fun h=>hc h.pp),aH⟩
 rename gU x.1 ps=>hpp
 rename eE x=true=>hok
 refine lc_ [5] [16,17,18,19,20,23,24,25,26,27,28,29,30,31,32,33,34,35,36,37,38,39,4,21,22] (Z:=Nat) (fun k=>[.int .i64 k]) (fun k=>k<=x.2.length/\∀ i,i<k->aNs (aC4 x.1 ps) (x.2.getD i default).2 (x.2.getD i default).1) (fun k=>x.2.length-k) 0 ⟨aI _,fun f hf=>absurd hf (cX f)⟩ ?_
 intro k u l' hl' ⟨hk,hI⟩
 simp only[bM,List.map,List.set] at hl'
 subst hl'
 by_cases hkl:k<x.2.length
 ·repeat' (first|refine aU ?_|refine bP ?_|refine bV fun hc=>?_|refine bW fun hc=>?_|refine aS (fun hc=>?_) fun hc=>?_|refine cV fun r hr=>?_|refine aW fun r=>?_|refine wb 6 [] ?_|refine xp ?_|(refine xd fun p c d e f g h hf=>?_;simp only[Un.cells,Un.atoms,Un.fact,aA,aB] at f g h hf;subst f g h)|refine xy ?_|refine bI ?_|fail)
  ·exact⟨(),bO (eV fun h=>hc (h.le k hkl)),aH⟩
  ·exact dH (k+1) ⟨by omega,fun f hf=>by
    by_cases e:f=k
    ·subst e;exact hc
    ·exact hI f (by omega)⟩ (by omega) (by kernel_rfl) aH
 ·obtain rfl:k=x.2.length:=by omega
  repeat' (first|refine aU ?_|refine bV fun hc=>?_|refine bW fun hc=>?_|refine aS (fun hc=>?_) fun hc=>?_|fail)
  exact⟨(),bO (hZ ⟨hok,hpp,hI⟩),aH⟩⟩
structure oM(a:List Int)(ps:List cJ):Prop where
 l:ps.length=2*a.length
 p:gU a (ps.take a.length)
 q:gU a (ps.drop a.length)
theorem tF{w0:World}{I:List Atom}{va vp:Value}{a:List Int}{ps:List cJ}[h0:bK Int I va a][h1:bK cJ I vp ps](hs:eA a=true) :
  CJ prog 337 [.agg #[va],vp] w0 I (fun _:Unit=>.bool (kZ (oM a ps))) (fun _=>I):=by
 refine jV (fun w1=>?_) (aE h0 (aE h1 fI))
 have hsg:=eC hs
 refine dQ vp fun hlp=>?_
 refine aK func337 ntmps337 ?_
 repeat' (first|refine aU ?_|refine bT fun b=>?_|refine bG fun sv=>?_|refine cV fun r hr=>?_|refine aW fun r=>?_|refine wb 2 [] ?_|refine xp ?_|refine xg ?_|refine xn ?_|refine pM fun hc=>?_|refine pN fun hc=>?_|refine xi (fun hc=>?_) fun hc=>?_|refine xy ?_|refine bI ?_|fail)
 all_goals first
  | exact⟨(),bO (eV fun h=>by have:=h.l;omega),aH⟩
  | exact⟨(),bO (eV fun h=>by have:=h.p;contradiction),aH⟩
  | exact⟨(),bO (aH9 ⟨fun h=>h.q,fun h=>⟨by omega,by assumption,h⟩⟩),aH⟩
instance bCd{I:List Atom}{va vp:Value}{a:List Int}{ps:List cJ}[h0:bK Int I va a][h1:bK cJ I vp ps] :
  bQ prog 337 [.agg #[va],vp] I (eA a=true) (Unit) (fun _:Unit=>.bool (kZ (oM a ps))) (fun _=>I):=⟨fun s w0=>tF s⟩
noncomputable def mP(a:List Int)(ps:List cJ)(t:List Int):Option cJ:=
 if kZ (oM a ps/\bB a t=true)=true then (if t.getD 0 0<0 then aTg a (ps.take a.length) t else bC4 a (ps.take a.length) (ps.getD ((a.length:Int)+t.getD 0 0).toNat default) (fF a t (iA a t))) else none
theorem bDs{a t:List Int}{ps:List cJ}(h:¬ (oM a ps/\bB a t=true)):mP a ps t=none:=if_neg (by rw[eV h];decide)
theorem bBv{a t:List Int}{ps:List cJ}(h:oM a ps/\bB a t=true)(h0:t.getD 0 0<0):mP a ps t=aTg a (ps.take a.length) t:=by
 unfold mP;rw[if_pos (hZ h),if_pos h0]
theorem bDq{a t:List Int}{ps:List cJ}(h:oM a ps/\bB a t=true)(h0:¬ t.getD 0 0<0):mP a ps t=bC4 a (ps.take a.length) (ps.getD ((a.length:Int)+t.getD 0 0).toNat default) (fF a t (iA a t)):=by
 unfold mP;rw[if_pos (hZ h),if_neg h0]
theorem bC5{a t:List Int}{ps:List cJ}(h:oM a ps/\bB a t=true)(h0:¬ t.getD 0 0<0):SmC a (ps.take a.length) 60 (ps.getD ((a.length:Int)+t.getD 0 0).toNat default) (fF a t (iA a t)):=by
 obtain ⟨hm,htm⟩:=h
 have hl:=aX htm
 have hg:=dY htm (k:=0) (by omega)
 have hag:=uH htm
 have hak:ar a (t.getD 0 0)=a.getD (t.getD 0 0).toNat 0:=by unfold ar;rw[if_neg (by omega)]
 have hml:=hm.l
 have hq:=hm.q.2.2 (t.getD 0 0).toNat (by rw[aR];omega)
 have hpn:=fS a t (iA a t)
 have e:∀ z:Int,0<=z->(ps.drop a.length).getD z.toNat default=ps.getD ((a.length:Int)+z).toNat default:=fun z hz=>by
  rw[aC,List.getElem?_drop,aC,show a.length+z.toNat=((a.length:Int)+z).toNat by omega]
 rw[e _ (by omega)] at hq
 exact⟨hm.p,by rw[hpn,← hag.1,hak];exact hq,by omega,fun k hk=>by
  have h:=aGk htm (by omega) (k:=k) (by omega)
  exact⟨h.1,by omega⟩⟩
instance bFf{I:List Atom}{v0 v1 vt:Value}{a t:List Int}{ps:List cJ}[h0:bK Int I v0 a][h1:bK cJ I v1 ps][h2:bK Int I vt t] :
  bQ prog 359 [.agg #[v0],v1,vt] I (eA a=true) (Value×jL (mP a ps t)) (fun q:Value×jL (mP a ps t)=>.tuple #[.agg #[.int .i64 q.2.1.1.1,q.1],.bool q.2.1.2]) (fun q=>.ow [q.1] q.2.1.1.2::I):=⟨fun hs w0=>by
 refine cL (A:=fun q:Value×jL (mP a ps t)=>[.ow [q.1] q.2.1.1.2]) (fun w1=>?_) (aE h0 (aE h1 (aE h2 fI))) fun _=>inferInstance
 simp only[aA,aB]
 have hsg:=eC hs
 by_cases hP:oM a ps/\bB a t=true
 ·have hl:=aX hP.2
  have hg:=dY hP.2 (k:=0) (by omega)
  have hml:=hP.1.l
  have hfr:FrC a (ps.take a.length) 60 t:=⟨hP.1.p,hP.2,hl.2⟩
  by_cases hneg:t.getD 0 0<0
  ·rw[bBv hP hneg]
   refine aK func359 ntmps359 ?_
   repeat' (first|refine aU ?_|refine eF fun hbi=>?_|refine bP ?_|refine cV fun r hr=>?_|refine aW fun r=>?_|refine bT fun b=>?_|refine bV fun hc=>?_|refine bW fun hc=>?_|refine aS (fun hc=>?_) fun hc=>?_|refine bG fun sv=>?_|refine wb 5 [8] ?_|refine xp ?_|refine x0 ?_|refine xy ?_|refine bI ?_|fail)
   ·exact absurd hP.1 hc
   ·rw[hP.2] at hc;cases hc
   ·exact⟨r,rfl,aH⟩
  ·have hsm:=bC5 hP hneg
   have hwt:jO a t/\0<=t.getD 0 0:=⟨lB hP.2,by omega⟩
   rw[bDq hP hneg]
   refine aK func359 ntmps359 ?_
   repeat' (first|refine aU ?_|refine eF fun hbi=>?_|refine bP ?_|refine cV fun r hr=>?_|refine aW fun r=>?_|refine bT fun b=>?_|refine bV fun hc=>?_|refine bW fun hc=>?_|refine aS (fun hc=>?_) fun hc=>?_|refine bG fun sv=>?_|refine wb 6 [18] ?_|refine xf fun hbi=>?_|refine xp ?_|refine x0 ?_|(refine xd fun p c d e f g h hf=>?_;simp only[Un.cells,Un.atoms,Un.fact,aA,aB] at f g h hf;subst f g h)|refine xy ?_|refine x2 ?_ ?_|refine bI ?_|fail)
   ·exact absurd hP.1 hc
   ·rw[hP.2] at hc;cases hc
   all_goals exact⟨r,rfl,aH⟩
 ·rw[bDs hP]
  refine aK func359 ntmps359 ?_
  repeat' (first|refine aU ?_|refine cV fun r hr=>?_|refine aW fun r=>?_|refine bT fun b=>?_|refine bV fun hc=>?_|refine bW fun hc=>?_|refine aS (fun hc=>?_) fun hc=>?_|fail)
  ·exact⟨(.slice none 0 0,⟨((0,[]),false),rfl,fun h=>nomatch h⟩),rfl,aH⟩
  ·exact⟨(.slice none 0 0,⟨((0,[]),false),rfl,fun h=>nomatch h⟩),rfl,aH⟩
  ·exact absurd ⟨by assumption,by assumption⟩ hP⟩
instance aXi{I:List Atom}{v0 v1 vs vt:Value}{a s t:List Int}{i j:Int}{ps:List cJ}[h0:bK Int I v0 a][h1:bK cJ I v1 ps][h2:bK Int I vs s][h3:bK Int I vt t] :
  bQ prog 354 [.agg #[v0],v1,.agg #[vs,vt,.int .i64 i,.int .i64 j]] I (eA a=true) (Unit) (fun _:Unit=>.bool (kZ (aNs (mP a ps) t s))) (fun _=>I):=⟨fun hs w0=>by
 refine jV (fun w1=>?_) (aE h0 (aE h1 (aE h2 (aE h3 fI))))
 refine aK func354 ntmps354 ?_
 repeat' (first|refine aU ?_|refine cV fun r hr=>?_|refine aW fun r=>?_|refine bT fun b=>?_|refine bV fun hc=>?_|refine bW fun hc=>?_|refine aS (fun hc=>?_) fun hc=>?_|fail)
 all_goals
  rename Value×jL (mP a ps t)=>r1
  rename Value×jL (mP a ps s)=>r2
  first
   | exact⟨(),bO (eV (sG (.inl (lS r1.2 (by assumption))))),aH⟩
   | exact⟨(),bO (eV (sG (.inr (lS r2.2 (by assumption))))),aH⟩
   | (
     have g1:=r1.2.2.2 (by assumption)
     have g2:=r2.2.2.2 (by assumption)
     first
      | exact⟨(),bO (eV fun h=>by have:=((rY g1 g2).1 h).1;omega),aH⟩
      | exact⟨(),bO (aH9 ((rY g1 g2).trans ⟨fun h=>h.2,fun h=>⟨by assumption,h⟩⟩)),aH⟩)⟩
instance bDi{I:List Atom}{v0 v1 vs vt:Value}{a s t:List Int}{i j:Int}{ps:List cJ}[h0:bK Int I v0 a][h1:bK cJ I v1 ps][h2:bK Int I vs s][h3:bK Int I vt t] :
  bQ prog 355 [.agg #[v0],v1,.agg #[vs,vt,.int .i64 i,.int .i64 j]] I (eA a=true) (Unit) (fun _:Unit=>.bool (kZ (bCp (mP a ps) t s))) (fun _=>I):=⟨fun hs w0=>by
 refine jV (fun w1=>?_) (aE h0 (aE h1 (aE h2 (aE h3 fI))))
 refine aK func355 ntmps355 ?_
 repeat' (first|refine aU ?_|refine cV fun r hr=>?_|refine aW fun r=>?_|refine bT fun b=>?_|refine bV fun hc=>?_|refine bW fun hc=>?_|refine aS (fun hc=>?_) fun hc=>?_|fail)
 all_goals
  rename Value×jL (mP a ps t)=>r1
  rename Value×jL (mP a ps s)=>r2
  first
   | exact⟨(),bO (eV (aEe (.inl (lS r1.2 (by assumption))))),aH⟩
   | exact⟨(),bO (eV (aEe (.inr (lS r2.2 (by assumption))))),aH⟩
   | (
     have g1:=r1.2.2.2 (by assumption)
     have g2:=r2.2.2.2 (by assumption)
     first
      | exact⟨(),bO (eV fun h=>by have:=((aEd g1 g2).1 h).1;omega),aH⟩
      | exact⟨(),bO (aH9 ((aEd g1 g2).trans ⟨fun h=>h.2,fun h=>⟨by assumption,h⟩⟩)),aH⟩)⟩
def LsW(x:aQ)(ps:List cJ)(d:iR):Prop:=bCp (mP x.1 ps) d.2.1 d.1
def AmW(x:aQ)(ps:List cJ)(d:iR):Prop:=aNs (mP x.1 ps) d.2.1 d.1
def aHx(x:aQ)(ds:List iR)(s:List Int)(ps:List cJ):Prop:=∀ i,i<s.length->AmW x ps (ds.getD (s.getD i 0).toNat default)
noncomputable def aCs(x:aQ)(ds:List iR)(s:List Int)(ps:List cJ)(k:Nat):List Int:=(s.take k).filter fun v=>kZ (LsW x ps (ds.getD v.toNat default))
noncomputable def aHp(x:aQ)(ds:List iR)(s:List Int)(ps:List cJ):List Int:=if kZ (aHx x ds s ps)=true then aCs x ds s ps s.length else []
theorem aWa{x:aQ}{ds:List iR}{s:List Int}{ps:List cJ}(h:aHx x ds s ps):aHp x ds s ps=aCs x ds s ps s.length:=if_pos (hZ h)
theorem aQg{x:aQ}{ds:List iR}{s:List Int}{ps:List cJ}(h:¬ aHx x ds s ps):aHp x ds s ps=[]:=if_neg (by rw[eV h];decide)
theorem aWj{x:aQ}{ds:List iR}{s:List Int}{ps:List cJ}{k:Nat}(hk:k<s.length)(h:LsW x ps (ds.getD (s.getD k 0).toNat default)):aCs x ds s ps (k+1)=aCs x ds s ps k++[s.getD k 0]:=by
 unfold aCs
 rw[iM hk,List.filter_append,cT (by exact hZ h),List.filter_nil]
theorem bDf{x:aQ}{ds:List iR}{s:List Int}{ps:List cJ}{k:Nat}(hk:k<s.length)(h:¬ LsW x ps (ds.getD (s.getD k 0).toNat default)):aCs x ds s ps (k+1)=aCs x ds s ps k:=by
 unfold aCs
 rw[iM hk,List.filter_append,cY (by rw[eV h];decide),List.filter_nil,cF]
theorem aX3(x:aQ)(ds:List iR)(s:List Int)(ps:List cJ)(k:Nat):(aCs x ds s ps k).length<=s.length:=(List.filter_sublist.trans (List.take_sublist k s)).length_le
theorem aWs(x:aQ)(ds:List iR)(s:List Int)(ps:List cJ):(aHp x ds s ps).Sublist s:=by
 unfold aHp
 split
 ·exact List.filter_sublist.trans (List.take_sublist _ s)
 ·exact List.nil_sublist s
structure WgC(x:aQ)(ds:List iR)(s:List Int):Prop where
 ok:eE x=true
 dl:ds.length<=64
 st:xZ ds.length s
instance aX6{I:List Atom}{v0 v1 vd vs vp:Value}{x:aQ}{ds:List iR}{s:List Int}{ps:List cJ}[h0:bK Int I v0 x.1][h1:bK cM I v1 x.2][h4:bK iR I vd ds][h2:bK Int I vs s][h3:bK cJ I vp ps] :
  bQ prog 338 [.agg #[v0,v1],vd,vs,vp] I (WgC x ds s) (Value) (fun q:Value=>.tuple #[q,.bool (kZ (aHx x ds s ps))]) (fun q=>.ow [q] (aHp x ds s ps)::I):=⟨fun hs w0=>by
 refine cL (A:=fun q:Value=>[.ow [q] (aHp x ds s ps)]) (fun w1=>?_) (aE h0 (aE h1 (aE h4 (aE h2 (aE h3 fI))))) fun _=>inferInstance
 simp only[aA,aB]
 obtain ⟨hok,hdl,hst⟩:=hs
 have hsl:=hst.len
 have hsa:=(eM.1 hok).1.1
 refine aK func338 ntmps338 ?_
 repeat' (first|refine aU ?_|refine bG fun sv=>?_|refine bT fun b=>?_|fail)
 refine lp_ [10,11] [13,14,15,16,19,20,21,22,23,24,25,26,27,28,29,30,31,8,9,32,33,34,35,36,37,38,39,40,41,42,43,44,45,46,47,48,49,17,18] (Z:=Value×Nat) (fun k=>[k.1,.int .i64 k.2]) (fun k=>[.ow [k.1] (aCs x ds s ps k.2)]) (fun k=>k.2<=s.length/\∀ i,i<k.2->AmW x ps (ds.getD (s.getD i 0).toNat default)) (fun k=>s.length-k.2) (sv,0) [.ow [sv] ([]:List Int)] ⟨aI _,fun i hi=>absurd hi (cX i)⟩ ?_
 intro ⟨so,i⟩ u l' hl' ⟨hi,hF⟩
 simp only[bM,List.map,List.set] at hl'
 subst hl'
 simp only[aA,aB] at hi hF ⊢
 have hfl:=aX3 x ds s ps i
 by_cases hil:i<s.length
 ·have hm:=hst.mem _ (eD hil)
  have hk:(s.getD i 0).toNat<ds.length:=by omega
  repeat' (first|refine aU ?_|refine eF fun hbi=>?_|refine bP ?_|refine bG fun sv=>?_|refine bV fun hc=>?_|refine bW fun hc=>?_|refine aS (fun hc=>?_) fun hc=>?_|refine cV fun r hr=>?_|refine aW fun r=>?_|refine wb 5 [] ?_|refine wb 7 [] ?_|refine xf fun hbi=>?_|refine xp ?_|(refine xd fun p c d e f g h hf=>?_;simp only[Un.cells,Un.atoms,Un.fact,aA,aB] at f g h hf;subst f g h)|refine xy ?_|refine bI ?_|fail)
  ·have hno:¬ aHx x ds s ps:=fun h=>hc (h i hil)
   rw[aQg hno,eV hno]
   exact⟨sv,rfl,aH⟩
  all_goals
   have hnx:∀ j,j<i+1->AmW x ps (ds.getD (s.getD j 0).toNat default):=fun j hj=>by
    by_cases e:j=i
    ·subst e;assumption
    ·exact hF j (by omega)
  ·exact dH (sv,i+1) ⟨by simp only;omega,hnx⟩ (by simp only;omega) (by kernel_rfl) (by simp only[aWj (ps:=ps) (ds:=ds) hil hc];exact aH)
  ·exact dH (so,i+1) ⟨by simp only;omega,hnx⟩ (by simp only;omega) (by kernel_rfl) (by simp only[bDf (ps:=ps) (ds:=ds) hil hc];exact aH)
 ·obtain rfl:i=s.length:=by omega
  repeat' (first|refine aU ?_|refine bV fun hc=>?_|refine bW fun hc=>?_|refine aS (fun hc=>?_) fun hc=>?_|fail)
  have hW:aHx x ds s ps:=hF
  rw[aWa hW,hZ hW]
  exact⟨so,rfl,aH⟩⟩
structure xA(x:aQ)(s:List Int)(ps:List cJ):Prop where
 ok:iY x
 st:xZ (eP x).length s
 mm:oM x.1 ps
 al:bOn x (ps.take x.1.length)
 wg:aHx x (eP x) s ps
noncomputable def aGj(x:aQ)(s:List Int)(ps:List cJ):List Int:=if kZ (xA x s ps)=true then aHp x (eP x) s ps else []
theorem aJp{x:aQ}{s:List Int}{ps:List cJ}(h:xA x s ps):aGj x s ps=aHp x (eP x) s ps:=if_pos (hZ h)
theorem vL{x:aQ}{s:List Int}{ps:List cJ}(h:¬ xA x s ps):aGj x s ps=[]:=if_neg (by rw[eV h];decide)
theorem aKg(x:aQ)(s:List Int)(ps:List cJ):(aGj x s ps).Sublist s:=by
 unfold aGj
 split
 ·exact aWs x _ s ps
 ·exact List.nil_sublist s
instance bA4{I:List Atom}{v0 v1 vs vp:Value}{x:aQ}{s:List Int}{ps:List cJ}[h0:bK Int I v0 x.1][h1:bK cM I v1 x.2][h2:bK Int I vs s][h3:bK cJ I vp ps] :
  bQ prog 302 [.agg #[v0,v1],vs,vp] I True Value (fun q:Value=>.tuple #[q,.bool (kZ (xA x s ps))]) (fun q=>.ow [q] (aGj x s ps)::I):=⟨fun _ w0=>by
 refine cL (A:=fun q:Value=>[.ow [q] (aGj x s ps)]) (fun w1=>?_) (aE h0 (aE h1 (aE h2 (aE h3 fI)))) fun _=>inferInstance
 simp only[aA,aB]
 have hpl:=kR x
 by_cases hok:iY x
 ·have hsa:=(eM.1 hok.1).1.1
  by_cases hst:xZ (eP x).length s
  ·have hwc:WgC x (eP x) s:=⟨hok.1,hpl,hst⟩
   by_cases hmk:oM x.1 ps
   ·have hml:=hmk.l
    refine aK func302 ntmps302 ?_
    repeat' (first|refine aU ?_|refine cV fun r hr=>?_|refine aW fun r=>?_|refine bG fun sv=>?_|refine bT fun b=>?_|refine bV fun hc=>?_|refine bW fun hc=>?_|refine aS (fun hc=>?_) fun hc=>?_|refine wb 2 [] ?_|refine xp ?_|refine xg ?_|refine xn ?_|refine pM fun hc=>?_|refine pN fun hc=>?_|refine xi (fun hc=>?_) fun hc=>?_|refine xy ?_|refine bI ?_|fail)
    ·exact absurd hok hc
    ·exact absurd hst hc
    ·exact absurd hmk hc
    ·have hno:¬ xA x s ps:=fun h=>hc h.al
     rw[vL hno,eV hno]
     exact⟨sv,rfl,aH⟩
    ·by_cases hw:aHx x (eP x) s ps
     ·have hyes:xA x s ps:=⟨hok,hst,hmk,hc,hw⟩
      rw[aJp hyes,hZ hyes,hZ hw]
      exact⟨r,rfl,aH⟩
     ·have hno:¬ xA x s ps:=fun h=>hw h.wg
      rw[vL hno,eV hno,eV hw,aQg hw]
      exact⟨r,rfl,aH⟩
   ·have hno:¬ xA x s ps:=fun h=>hmk h.mm
    rw[vL hno,eV hno]
    haveI hI:∀ (Y:List Atom) (va vp:Value) (a:List Int) (ps:List cJ) [bK Int Y va a] [bK cJ Y vp ps],bQ prog 337 [.agg #[va],vp] Y (eA a=true/\¬ oM a ps) Unit (fun _=>.bool false) (fun _=>Y):=fun Y va vp a ps _ _=>⟨fun h w0=>by rw[← eV h.2];exact tF h.1⟩
    refine aK func302 ntmps302 ?_
    repeat' (first|refine aU ?_|refine cV fun r hr=>?_|refine aW fun r=>?_|refine bG fun sv=>?_|refine bT fun b=>?_|refine wb 2 [] ?_|refine xp ?_|refine xg ?_|refine xn ?_|refine pM fun hc=>?_|refine pN fun hc=>?_|refine xi (fun hc=>?_) fun hc=>?_|refine xy ?_|refine bI ?_|fail)
    all_goals first
     | exact⟨sv,rfl,aH⟩
     | exact absurd hok (by assumption)
     | exact absurd hst (by assumption)
  ·have hno:¬ xA x s ps:=fun h=>hst h.st
   rw[vL hno,eV hno]
   haveI hI:∀ (Y:List Atom) (v:Value) (s:List Int) (n:Nat) [bK Int Y v s],bQ prog 329 [v,.int .i64 (n:Int)] Y (n<=64/\¬ xZ n s) Unit (fun _=>.bool false) (fun _=>Y):=fun Y v s n _=>⟨fun h w0=>by rw[← eV h.2];exact yG h.1⟩
   refine aK func302 ntmps302 ?_
   repeat' (first|refine aU ?_|refine cV fun r hr=>?_|refine aW fun r=>?_|refine bG fun sv=>?_|refine bT fun b=>?_|refine wb 2 [] ?_|refine xp ?_|refine xg ?_|refine xn ?_|refine pM fun hc=>?_|refine pN fun hc=>?_|refine xi (fun hc=>?_) fun hc=>?_|refine xy ?_|refine bI ?_|fail)
   all_goals first
    | exact⟨sv,rfl,aH⟩
    | exact absurd hok (by assumption)
 ·have hno:¬ xA x s ps:=fun h=>hok h.ok
  rw[vL hno,eV hno]
  haveI hI:∀ (Y:List Atom) (v0 v1:Value) (x:aQ) [bK Int Y v0 x.1] [bK cM Y v1 x.2],bQ prog 240 [.agg #[v0,v1]] Y (¬ iY x) Value (fun q=>.tuple #[q,.bool false]) (fun q=>.ow [q] (eP x)::Y):=fun Y v0 v1 x _ _=>⟨fun h w0=>by rw[← eV h];exact vG⟩
  refine aK func302 ntmps302 ?_
  repeat' (first|refine aU ?_|refine cV fun r hr=>?_|refine aW fun r=>?_|refine bG fun sv=>?_|refine bT fun b=>?_|refine wb 2 [] ?_|refine xp ?_|refine xg ?_|refine xn ?_|refine pM fun hc=>?_|refine pN fun hc=>?_|refine xi (fun hc=>?_) fun hc=>?_|refine xy ?_|refine bI ?_|fail)
  all_goals first
   | exact⟨sv,rfl,aH⟩⟩
instance bDa{I:List Atom}{n m:Int} :
  bQ prog 295 [.int .i64 n,.int .i64 m] I (-1<=n/\n<=20000/\0<=m/\m<=100) ({ z:Int // -1<=z/\z<=20000 }) (fun q:{ z:Int // -1<=z/\z<=20000 }=>.int .i64 q.1) (fun _=>I):=⟨fun hs w0=>by
 have h1:n*m<=20000*100:=by
  by_cases h:0<=n
  ·exact Int.mul_le_mul hs.2.1 hs.2.2.2 hs.2.2.1 (by decide)
  ·have:n*m<=0:=Int.mul_nonpos_of_nonpos_of_nonneg (by omega) hs.2.2.1
   omega
 have h2:-100<=n*m:=by
  have:(-1)*m<=n*m:=Int.mul_le_mul_of_nonneg_right hs.1 hs.2.2.1
  omega
 have h3:0<=n->0<=n*m:=fun h=>Int.mul_nonneg h hs.2.2.1
 refine aK func295 ntmps295 ?_
 repeat' (first|refine aU ?_|refine bP ?_|refine bV fun hc=>?_|refine bW fun hc=>?_|refine aS (fun hc=>?_) fun hc=>?_|fail)
 all_goals first
  | exact⟨⟨-1,by decide⟩,rfl,aH⟩
  | exact⟨⟨n*m,by have:=h3 (by omega);omega⟩,rfl,aH⟩⟩
def Dg1(s:List Int):Prop:=∀ q∈s,0<=q/\q<=1
def uM(s:List Int):Prop:=∀ q∈s,0<=q/\q<=9
theorem Dg1.n{s:List Int}(h:Dg1 s):uM s:=fun q hq=>by have:=h q hq;omega
theorem Dg1.dig{s:List Int}(h:Dg1 s):Dig s:=fun q hq=>by have:=h q hq;omega
theorem aQa{t:List Int}{k:Nat}{q:Int}(h:Dg1 t)(hq:0<=q/\q<=1):Dg1 (t.set k q):=fun z hz=>by
 rcases List.mem_or_eq_of_mem_set hz with h1|h1
 ·exact h z h1
 ·rw[h1];exact hq
structure NxC(xs ys:List Int):Prop where
 l:xs.length=ys.length
 le:ys.length<=64
 d:Dg1 xs
 d':Dg1 ys
abbrev NxT(xs:List Int):Type:={ t:List Int×Bool // t.1.length=xs.length/\Dg1 t.1/\(t.2=true->nY xs<nY t.1) }
instance bF5{I:List Atom}{v1 v2:Value}{xs ys:List Int}[h1:bK Int I v1 xs][h2:bK Int I v2 ys] :
  bQ prog 336 [v1,v2] I (NxC xs ys) (Value×NxT xs) (fun q:Value×NxT xs=>.tuple #[q.1,.bool q.2.1.2]) (fun q=>.ow [q.1] q.2.1.1::I):=⟨fun hs w0=>by
 refine cL (A:=fun q:Value×NxT xs=>[.ow [q.1] q.2.1.1]) (fun w1=>?_) (aE h1 (aE h2 fI)) fun _=>inferInstance
 simp only[aA,aB]
 obtain ⟨hl,hle,hd,hd'⟩:=hs
 refine aK func336 ntmps336 ?_
 repeat' (first|refine aU ?_|refine bP ?_|refine cV fun r hr=>?_|refine aW fun r=>?_|fail)
 refine lp_ [7] [13,14,17,18,19,20,21,22,23,24,25,26,27,28,29,30,31,32,4,5,33,34,35,15,16] (Z:=List Int×Nat) (fun k=>[.int .i64 ((k.2:Int)-1)]) (fun k=>[.ow [r] k.1]) (fun k=>UpI xs k.1 k.2 false/\Dg1 k.1) (fun k=>k.2) (xs,xs.length) [.ow [r] xs] ⟨aIf hd.dig,hd⟩ ?_
 intro ⟨t,k⟩ u l' hl' ⟨hU,hdt⟩
 simp only[bM,List.map,List.set] at hl'
 subst hl'
 simp only[aA,aB] at hU hdt ⊢
 have hul:=hU.len
 have huk:=hU.le
 cases k with
 | zero=>
  repeat' (first|refine aU ?_|refine bV fun hc=>?_|refine bW fun hc=>?_|refine aS (fun hc=>?_) fun hc=>?_|fail)
  exact⟨(r,⟨(t,false),hul,hdt,fun h=>nomatch h⟩),rfl,aH⟩
 | succ j=>
  rw[show((j+1:Nat):Int)-1=(j:Int) by omega]
  have hdj:=hdt _ (eD (t:=t) (k:=j) (by omega))
  have hyj:=hd' _ (eD (t:=ys) (k:=j) (by omega))
  repeat' (first|refine aU ?_|refine eF fun hbi=>?_|refine bP ?_|refine bV fun hc=>?_|refine bW fun hc=>?_|refine aS (fun hc=>?_) fun hc=>?_|refine wb 5 [] ?_|refine xf fun hbi=>?_|refine xp ?_|refine bI ?_|fail)
  ·have hU2:=aWh hU hd.dig (by omega)
   exact⟨(r,⟨(t.set j (t.getD j 0+1),true),hU2.len,aQa hdt (by omega),hU2.up⟩),rfl,aH⟩
  ·exact eB (t.set j 0,j) ⟨aQm hU,aQa hdt (by omega)⟩⟩
def gW(a:List Int):Nat->Nat
 | 0=>0
 | k+1=>gW a k+1+(a.getD k 0).toNat
theorem aPq(a:List Int)(k:Nat):∀ j,gW a k<=gW a (k+j)
 | 0=>aM _
 | j+1=>Nat.le_trans (aPq a k j) (by show _<=gW a (k+j)+1+_;omega)
theorem lF{a:List Int}(h:eA a=true):∀ k,k<=a.length->gW a k<=4*k
 | 0,_=>aM _
 | k+1,hk=>by
  have h1:=lF h k (by omega)
  have h2:=fM h (k:=k) (by omega)
  show gW a k+1+_<=_
  omega
structure PlC(a xs:List Int):Prop where
 ok:eA a=true
 l:xs.length=gW a a.length
 d:uM xs
abbrev PlT(a:List Int):Type:={ ps:List cJ // gU a ps }
theorem tC{w0:World}{I:List Atom}{v1 v2:Value}{a xs:List Int}[h1:bK Int I v1 a][h2:bK Int I v2 xs](hs:PlC a xs) :
  CJ prog 239 [.agg #[v1],v2] w0 I (fun q:Value×PlT a=>q.1) (fun q=>.ow [q.1] q.2.1::I):=by
 refine cL (A:=fun q:Value×PlT a=>[.ow [q.1] q.2.1]) (fun w1=>?_) (aE h1 (aE h2 fI)) fun _=>inferInstance
 simp only[aA,aB]
 obtain ⟨hok,hl,hd⟩:=hs
 have hsg:=eC hok
 have hmx:=lF hok a.length (aM _)
 refine aK func239 ntmps239 ?_
 repeat' (first|refine aU ?_|refine bG fun sv=>?_|refine bT fun b=>?_|fail)
 refine lp_ [5,6,7] [9,10,11,12,13,16,17,18,19,20,21,22,23,24,25,26,27,28,29,30,31,32,33,34,35,36,37,38,39,40,41,42,43,44,14,15] (Z:=Value×List cJ×Nat) (fun k=>[k.1,.int .i64 (gW a k.2.2),.int .i64 k.2.2]) (fun k=>[.ow [k.1] k.2.1]) (fun k=>k.2.2<=a.length/\k.2.1.length=k.2.2/\∀ i,i<k.2.2->aAv (k.2.1.getD i default) (a.getD i 0)) (fun k=>a.length-k.2.2) (sv,[],0) [.ow [sv] ([]:List cJ)] ⟨aI _,rfl,fun i hi=>absurd hi (cX i)⟩ ?_
 intro ⟨so,ps,f⟩ u l' hl' ⟨hf,hpl,hI⟩
 simp only[bM,List.map,List.set] at hl'
 subst hl'
 simp only[aA,aB] at hf hpl hI ⊢
 by_cases hfl:f<a.length
 ·have haf:=fM hok hfl
  have hn1:=aPq a (f+1) (a.length-(f+1))
  rw[show f+1+(a.length-(f+1))=a.length by omega] at hn1
  have hn2:gW a (f+1)=gW a f+1+(a.getD f 0).toNat:=rfl
  repeat' (first|refine aU ?_|refine eF fun hbi=>?_|refine bP ?_|refine bV fun hc=>?_|refine bW fun hc=>?_|refine aS (fun hc=>?_) fun hc=>?_|refine bG fun sv=>?_|refine cV fun r hr=>?_|refine aW fun r=>?_|refine wb 6 [20] ?_|refine xf fun hbi=>?_|refine xp ?_|refine x0 ?_|refine xy ?_|refine bI ?_|fail)
  have hNe:((gW a f:Nat):Int)+1+a.getD f 0=((gW a (f+1):Nat):Int):=by omega
  simp only[hNe,bH]
  have hx0:=hd _ (eD (t:=xs) (k:=gW a f) (by omega))
  have hnew:aAv (xs.getD (gW a f) 0,(xs.take (gW a (f+1))).drop (gW a f+1)) (a.getD f 0):=by
   refine⟨by simp only;omega,by simp only[aR,aN];omega,fun i hi=>?_⟩
   have:=hd _ (List.mem_of_mem_take (List.mem_of_mem_drop (eD hi)))
   simp only at this ⊢
   omega
  exact dH (sv,ps++[(xs.getD (gW a f) 0,(xs.take (gW a (f+1))).drop (gW a f+1))],f+1) ⟨by simp only;omega,by simp only[aD,aF,aL];omega,fun i hi=>by
   have h9:i<f+1:=hi
   by_cases e:i=f
   ·subst e
    rw[aC,cP (by omega),hpl,Nat.sub_self]
    exact hnew
   ·rw[aC,dD (by omega),← aC]
    exact hI i (by omega)⟩ (by simp only;omega) (by kernel_rfl) aH
 ·obtain rfl:f=a.length:=by omega
  repeat' (first|refine aU ?_|refine bV fun hc=>?_|refine bW fun hc=>?_|refine aS (fun hc=>?_) fun hc=>?_|fail)
  exact⟨(so,⟨ps,hok,hpl,fun i hi=>hI i (by omega)⟩),rfl,aH⟩
instance bCu{I:List Atom}{v1 v2:Value}{a xs:List Int}[h1:bK Int I v1 a][h2:bK Int I v2 xs] :
  bQ prog 239 [.agg #[v1],v2] I (PlC a xs) (Value×PlT a) (fun q:Value×PlT a=>q.1) (fun q=>.ow [q.1] q.2.1::I):=⟨fun s w0=>tC s⟩
theorem aG5{t:List Int}{q:Int}(h:Dg1 t)(hq:0<=q/\q<=1):Dg1 (t++[q]):=fun z hz=>by
 rcases aP.1 hz with h1|h1
 ·exact h z h1
 ·rw[aO] at h1;rw[h1];exact hq
theorem bFm(v:Bool):0<=zG v/\zG v<=1:=by cases v<;>decide
abbrev MsT(a:List Int):Type:={ t:List Int // t.length=gW a a.length+gW a a.length/\Dg1 t }
instance bIi{I:List Atom}{v1 v2:Value}{a hd:List Int}[h1:bK Int I v1 a][h2:bK Int I v2 hd] :
  bQ prog 333 [.agg #[v1],v2] I (eA a=true) (Value×MsT a) (fun q:Value×MsT a=>q.1) (fun q=>.ow [q.1] q.2.1::I):=⟨fun hs w0=>by
 refine cL (A:=fun q:Value×MsT a=>[.ow [q.1] q.2.1]) (fun w1=>?_) (aE h1 (aE h2 fI)) fun _=>inferInstance
 simp only[aA,aB]
 have hsg:=eC hs
 have hmx:=lF hs a.length (aM _)
 refine aK func333 ntmps333 ?_
 repeat' (first|refine aU ?_|refine bG fun sv=>?_|refine bT fun b=>?_|fail)
 refine lp_ [5,6] [11,12,13,14,15,7,18,19,20,21,22,23,24,27,28,29,25,26,16,17] (Z:=Value×List Int×Nat) (fun k=>[k.1,.int .i64 k.2.2]) (fun k=>[.ow [k.1] k.2.1]) (fun k=>k.2.2<=a.length/\k.2.1.length=gW a k.2.2/\Dg1 k.2.1) (fun k=>a.length-k.2.2) (sv,[],0) [.ow [sv] ([]:List Int)] ⟨aI _,rfl,fun i hi=>absurd hi (by simp)⟩ ?_
 intro ⟨so,t,f⟩ u l' hl' ⟨hf,htl,hdt⟩
 simp only[bM,List.map,List.set] at hl'
 subst hl'
 simp only[aA,aB] at hf htl hdt ⊢
 by_cases hfl:f<a.length
 ·have haf:=fM hs hfl
  have hn2:gW a (f+1)=gW a f+1+(a.getD f 0).toNat:=rfl
  have hm1:=lF hs (f+1) (by omega)
  repeat' (first|refine aU ?_|refine bV fun hc=>?_|refine bW fun hc=>?_|refine aS (fun hc=>?_) fun hc=>?_|fail)
  refine lp_ [5,7] [18,19,20,21,22,23,24,27,28,29,25,26] (Z:=Value×List Int×Nat) (fun k=>[k.1,.int .i64 k.2.2]) (fun k=>[.ow [k.1] k.2.1]) (fun k=>(k.2.2:Int)<=a.getD f 0+1/\k.2.1.length=gW a f+k.2.2/\Dg1 k.2.1) (fun k=>(a.getD f 0+1).toNat-k.2.2) (so,t,0) [.ow [so] t] ⟨by simp only;omega,htl,hdt⟩ ?_
  intro ⟨sp,z,k⟩ u2 l2 hl2 ⟨hk,hzl,hdz⟩
  simp only[bM,List.map,List.set] at hl2
  subst hl2
  simp only[aA,aB] at hk hzl hdz ⊢
  by_cases hkl:(k:Int)<=a.getD f 0
  ·repeat' (first|refine aU ?_|refine eF fun hbi=>?_|refine bP ?_|refine bG fun sv=>?_|refine bV fun hc=>?_|refine bW fun hc=>?_|refine aS (fun hc=>?_) fun hc=>?_|fail)
   exact eB (sv,z++[1],k+1) ⟨by simp only;omega,by simp only[aD,aF,aL];omega,aG5 hdz (by omega)⟩
  ·repeat' (first|refine aU ?_|refine eF fun hbi=>?_|refine bP ?_|refine bV fun hc=>?_|refine bW fun hc=>?_|refine aS (fun hc=>?_) fun hc=>?_|fail)
   exact eB (sp,z,f+1) ⟨by simp only;omega,by simp only;omega,hdz⟩
 ·obtain rfl:f=a.length:=by omega
  repeat' (first|refine aU ?_|refine bV fun hc=>?_|refine bW fun hc=>?_|refine aS (fun hc=>?_) fun hc=>?_|fail)
  refine lp_ [5,8] [30,31,32,33,34,37,38,39,9,40,41,42,43,44,45,46,49,50,51,52,53,54,55,47,48,35,36] (Z:=Value×List Int×Nat) (fun k=>[k.1,.int .i64 k.2.2]) (fun k=>[.ow [k.1] k.2.1]) (fun k=>k.2.2<=a.length/\k.2.1.length=gW a a.length+gW a k.2.2/\Dg1 k.2.1) (fun k=>a.length-k.2.2) (so,t,0) [.ow [so] t] ⟨aI _,by rw[htl];rfl,hdt⟩ ?_
  intro ⟨sq,y,f⟩ u l' hl' ⟨hf,hyl,hdy⟩
  simp only[bM,List.map,List.set] at hl'
  subst hl'
  simp only[aA,aB] at hf hyl hdy ⊢
  by_cases hfl:f<a.length
  ·have haf:=fM hs hfl
   have hn2:gW a (f+1)=gW a f+1+(a.getD f 0).toNat:=rfl
   have hm1:=lF hs (f+1) (by omega)
   have hd0:=aG5 hdy (q:=0) (by omega)
   repeat' (first|refine aU ?_|refine bG fun sv=>?_|refine bV fun hc=>?_|refine bW fun hc=>?_|refine aS (fun hc=>?_) fun hc=>?_|fail)
   refine lp_ [5,9] [40,41,42,43,44,45,46,49,50,51,52,53,54,55,47,48] (Z:=Value×List Int×Nat) (fun k=>[k.1,.int .i64 k.2.2]) (fun k=>[.ow [k.1] k.2.1]) (fun k=>(k.2.2:Int)<=a.getD f 0/\k.2.1.length=gW a a.length+gW a f+1+k.2.2/\Dg1 k.2.1) (fun k=>(a.getD f 0).toNat-k.2.2) (sv,y++[0],0) [.ow [sv] (y++[0])] ⟨by simp only;omega,by simp only[aD,aF,aL];omega,hd0⟩ ?_
   intro ⟨sp,z,k⟩ u2 l2 hl2 ⟨hk,hzl,hdz⟩
   simp only[bM,List.map,List.set] at hl2
   subst hl2
   simp only[aA,aB] at hk hzl hdz ⊢
   by_cases hkl:(k:Int)<a.getD f 0
   ·have hfi:=bFm (decide ((f:Int)∈hd))
    repeat' (first|refine aU ?_|refine eF fun hbi=>?_|refine bP ?_|refine cV fun r hr=>?_|refine aW fun r=>?_|refine bG fun sv=>?_|refine bV fun hc=>?_|refine bW fun hc=>?_|refine aS (fun hc=>?_) fun hc=>?_|fail)
    exact eB (sv,z++[zG (decide ((f:Int)∈hd))],k+1) ⟨by simp only;omega,by simp only[aD,aF,aL];omega,aG5 hdz hfi⟩
   ·repeat' (first|refine aU ?_|refine eF fun hbi=>?_|refine bP ?_|refine bV fun hc=>?_|refine bW fun hc=>?_|refine aS (fun hc=>?_) fun hc=>?_|fail)
    exact eB (sp,z,f+1) ⟨by simp only;omega,by simp only;omega,hdz⟩
  ·obtain rfl:f=a.length:=by omega
   repeat' (first|refine aU ?_|refine bV fun hc=>?_|refine bW fun hc=>?_|refine aS (fun hc=>?_) fun hc=>?_|fail)
   exact⟨(sq,⟨y,hyl,hdy⟩),rfl,aH⟩⟩
def lJ:List Int->Nat
 | []=>0
 | q::s=>q.toNat*16 ^ s.length+lJ s
theorem sD:∀ {s:List Int},uM s->lJ s<16 ^ s.length
 | [],_=>by simp [lJ]
 | q::s,h=>by
  have h1:=sD (s:=s) fun z hz=>h z (by simp [hz])
  have h2:=h q (by simp)
  have h3:q.toNat*16 ^ s.length<=15*16 ^ s.length:=Nat.mul_le_mul_right _ (by omega)
  simp only[lJ,aF,Nat.pow_succ]
  omega
theorem aAl:∀ (s t:List Int),lJ (s++t)=lJ s*16 ^ t.length+lJ t
 | [],t=>by simp [lJ]
 | q::s,t=>by
  show q.toNat*16 ^ (s++t).length+lJ (s++t)=(q.toNat*16 ^ s.length+lJ s)*16 ^ t.length+lJ t
  rw[aAl s t,aD,Nat.pow_add,dE,Nat.mul_assoc,Nat.add_assoc]
theorem aOg{s t:List Int}{k:Nat}(hk:k<s.length)(hl:t.length=s.length)(hp:t.take k=s.take k)(hd:uM s)(hu:s.getD k 0<t.getD k 0):lJ s<lJ t:=by
 have e1:=wG hk
 have e2:=wG (s:=t) (k:=k) (by omega)
 have hds:uM (s.drop (k+1)):=fun q hq=>hd q (List.mem_of_mem_drop hq)
 have h1:=sD hds
 have h2:=hd _ (eD hk)
 rw[e1,e2,aAl,aAl,hp]
 have hdl:(t.drop (k+1)).length=(s.drop (k+1)).length:=by rw[aR,aR,hl]
 have h3:((s.getD k 0).toNat+1)*16 ^ (s.drop (k+1)).length<=(t.getD k 0).toNat*16 ^ (s.drop (k+1)).length:=Nat.mul_le_mul_right _ (by omega)
 rw[dE,Nat.one_mul] at h3
 simp only[lJ,aF,hdl]
 omega
structure bOr(r:List Int):Prop where
 n:r.length<=8
 el:∀ q∈r,0<=q/\q<r.length
 nd:r.Nodup
theorem aLw{s:List Int}{k:Nat}(hk:k<s.length)(h:(s.take k).Nodup)(hn:s.getD k 0∉s.take k):(s.take (k+1)).Nodup:=by
 rw[iM hk,bJ]
 exact⟨h,by simp,fun a ha b hb e=>by rw[aO] at hb;exact hn (by rw[← hb,← e];exact ha)⟩
instance bEd{I:List Atom}{v:Value}{rk:List Int}[h:bK Int I v rk] :
  bQ prog 294 [v] I (True) ({ t:Bool // t=true->bOr rk }) (fun q:{ t:Bool // t=true->bOr rk }=>.bool q.1) (fun _=>I):=⟨fun _ w0=>by
 refine jV (fun w1=>?_) (aE h fI)
 refine dQ v fun hlx=>?_
 refine aK func294 ntmps294 ?_
 repeat' (first|refine aU ?_|fail)
 refine lc_ [3] [4,5,6,7,10,11,12,13,14,15,16,17,18,19,20,21,22,23,24,25,26,27,28,2,8,9] (Z:=Nat) (fun k=>[.int .i64 k]) (fun k=>k<=rk.length/\(rk.take k).Nodup/\∀ q∈rk.take k,0<=q/\q<rk.length) (fun k=>rk.length-k) 0 ⟨aI _,by simp,by simp⟩ ?_
 intro k u l' hl' ⟨hk,hnd,hel⟩
 simp only[bM,List.map,List.set] at hl'
 subst hl'
 by_cases hkl:k<rk.length
 ·repeat' (first|refine aU ?_|refine bP ?_|refine bV fun hc=>?_|refine bW fun hc=>?_|refine aS (fun hc=>?_) fun hc=>?_|refine cV fun r hr=>?_|refine aW fun r=>?_|refine bG fun sv=>?_|refine wb 4 [] ?_|refine xf fun hbi=>?_|refine xp ?_|refine xg ?_|refine xn ?_|refine pM fun hc=>?_|refine pN fun hc=>?_|refine xi (fun hc=>?_) fun hc=>?_|refine xy ?_|refine bI ?_|fail)
  ·exact⟨⟨false,fun h=>nomatch h⟩,rfl,aH⟩
  ·exact⟨⟨false,fun h=>nomatch h⟩,rfl,aH⟩
  ·simp only[bH] at hc
   exact dH (k+1) ⟨by omega,aLw hkl hnd hc,fun q hq=>by
    rw[iM hkl] at hq
    rcases aP.1 hq with h|h
    ·exact hel q h
    ·rw[aO] at h;rw[h];omega⟩ (by omega) (by kernel_rfl) aH
 ·obtain rfl:k=rk.length:=by omega
  rw[cZ] at hnd hel
  repeat' (first|refine aU ?_|refine bV fun hc=>?_|refine bW fun hc=>?_|refine aS (fun hc=>?_) fun hc=>?_|fail)
  exact⟨⟨decide ((rk.length:Int)<=8),fun h=>⟨by have:=of_decide_eq_true h;omega,hel,hnd⟩⟩,rfl,aH⟩⟩
theorem aT3{s t:List Int}{k:Nat}(h:t.take (k+1)=s.take (k+1)):t.getD k 0=s.getD k 0:=by
 have:=congrArg (fun z=>z[k]?) h
 simp only[cU,if_pos (Nat.lt_succ_self k)] at this
 rw[aC,aC,this]
theorem aQd{t:List Int}{k:Nat}{q:Int}(h:uM t)(hq:0<=q/\q<=9):uM (t.set k q):=fun z hz=>by
 rcases List.mem_or_eq_of_mem_set hz with h1|h1
 ·exact h z h1
 ·rw[h1];exact hq
structure NwC(xs ys:List Int)(n:Int):Prop where
 l:xs.length=ys.length
 le:ys.length<=64
 n:0<=n/\n<=9
 d:uM xs
 d':uM ys
abbrev NwT(xs:List Int):Type:={ t:List Int×Bool // t.1.length=xs.length/\uM t.1/\(t.2=true->lJ xs<lJ t.1) }
instance bHw{I:List Atom}{v1 v2:Value}{xs ys:List Int}{n:Int}[h1:bK Int I v1 xs][h2:bK Int I v2 ys] :
  bQ prog 237 [v1,v2,.int .i64 n] I (NwC xs ys n) (Value×NwT xs) (fun q:Value×NwT xs=>.tuple #[q.1,.bool q.2.1.2]) (fun q=>.ow [q.1] q.2.1.1::I):=⟨fun hs w0=>by
 refine cL (A:=fun q:Value×NwT xs=>[.ow [q.1] q.2.1.1]) (fun w1=>?_) (aE h1 (aE h2 fI)) fun _=>inferInstance
 simp only[aA,aB]
 obtain ⟨hl,hle,hn,hd,hd'⟩:=hs
 refine aK func237 ntmps237 ?_
 repeat' (first|refine aU ?_|refine bP ?_|refine cV fun r hr=>?_|refine aW fun r=>?_|fail)
 refine lp_ [9] [15,16,19,20,21,22,23,24,25,26,27,28,29,30,31,6,7,32,33,34,35,36,37,38,17,18] (Z:=List Int×Nat) (fun k=>[.int .i64 ((k.2:Int)-1)]) (fun k=>[.ow [r] k.1]) (fun k=>k.1.length=xs.length/\uM k.1/\k.2<=xs.length/\k.1.take k.2=xs.take k.2) (fun k=>k.2) (xs,xs.length) [.ow [r] xs] ⟨rfl,hd,aM _,rfl⟩ ?_
 intro ⟨t,k⟩ u l' hl' ⟨htl,htd,hk,htk⟩
 simp only[bM,List.map,List.set] at hl'
 subst hl'
 simp only[aA,aB] at htl htd hk htk ⊢
 cases k with
 | zero=>
  repeat' (first|refine aU ?_|refine bV fun hc=>?_|refine bW fun hc=>?_|refine aS (fun hc=>?_) fun hc=>?_|fail)
  exact⟨(r,⟨(t,false),htl,htd,fun h=>nomatch h⟩),rfl,aH⟩
 | succ j=>
  rw[show((j+1:Nat):Int)-1=(j:Int) by omega]
  have hdj:=htd _ (eD (t:=t) (k:=j) (by omega))
  have hyj:=hd' _ (eD (t:=ys) (k:=j) (by omega))
  have hej:=aT3 htk
  repeat' (first|refine aU ?_|refine eF fun hbi=>?_|refine bP ?_|refine bV fun hc=>?_|refine bW fun hc=>?_|refine aS (fun hc=>?_) fun hc=>?_|fail)
  ·refine⟨(r,⟨(t.set j (t.getD j 0+1),true),by rw[aV];exact htl,aQd htd (by omega),fun _=>?_⟩),rfl,aH⟩
   refine aOg (k:=j) (by omega) (by rw[aV];exact htl) ?_ hd ?_
   ·rw[oN];exact uN htk
   ·have e:(t.set j (t.getD j 0+1)).getD j 0=t.getD j 0+1:=by
     rw[aC,List.getElem?_set_self (by omega)];rfl
    show xs.getD j 0<(t.set j (t.getD j 0+1)).getD j 0
    rw[e];omega
  ·exact eB (t.set j (ys.getD j 0),j) ⟨by rw[aV];exact htl,aQd htd hyj,by simp only;omega,by simp only;rw[oN];exact uN htk⟩⟩
theorem xC{s:List Int}{k:Nat}{h:k<s.length}{d:Int}:s.getD k d=s[k]:=by rw[aC,aG h];rfl
theorem aKy{l:List Int}{n:Nat}(h:l.Nodup)(hl:∀ q∈l,0<=q/\q<n):l.length<=n:=by
 have h1:l.length<=((List.range n).map Int.ofNat).length:=h.length_le_of_subset fun q hq=>dT.2 ⟨q.toNat,List.mem_range.2 (by have:=hl q hq;omega),by have:=hl q hq;show((q.toNat:Nat):Int)=q;omega⟩
 simpa using h1
theorem aR3{l:List Int}{n:Nat}(h:l.Nodup)(hl:∀ q∈l,0<=q/\q<n)(ha:∀ i:Nat,i<n->(i:Int)∈l):l.length=n:=by
 have h1:=aKy h hl
 have h2:((List.range n).map Int.ofNat).length<=l.length:=by
  refine List.Nodup.length_le_of_subset (List.Pairwise.map _ (fun a b hab e=>hab (Int.ofNat.inj e)) List.nodup_range) fun q hq=>?_
  obtain ⟨i,hi,rfl⟩:=dT.1 hq
  exact ha i (List.mem_range.1 hi)
 simp only[aY,List.length_range] at h2
 omega
abbrev NrT(rk:List Int):Type:={ t:List Int×Bool // t.2=true->t.1.length=rk.length/\(∀ q∈t.1,0<=q/\q<rk.length)/\rk.length<=8/\lJ rk<lJ t.1 }
instance bD8{I:List Atom}{v:Value}{rk:List Int}[h:bK Int I v rk] :
  bQ prog 234 [v] I (True) (Value×NrT rk) (fun q:Value×NrT rk=>.tuple #[q.1,.bool q.2.1.2]) (fun q=>.ow [q.1] q.2.1.1::I):=⟨fun _ w0=>by
 refine cL (A:=fun q:Value×NrT rk=>[.ow [q.1] q.2.1.1]) (fun w1=>?_) (aE h fI) fun _=>inferInstance
 simp only[aA,aB]
 refine aK func234 ntmps234 ?_
 repeat' (first|refine aU ?_|refine cV fun r hr=>?_|refine aW fun r=>?_|refine bG fun sv=>?_|refine bV fun hc=>?_|refine bW fun hc=>?_|refine aS (fun hc=>?_) fun hc=>?_|fail)
 ·exact⟨(sv,⟨([],false),fun h=>nomatch h⟩),rfl,aH⟩
 have hO:=r.2 hc
 have hn:=hO.n
 have hDg:uM rk:=fun q hq=>by have:=hO.el q hq;omega
 repeat' (first|refine aU ?_|refine bP ?_|fail)
 refine lc_ [4] [16,17,18,19,20,21,22,23,24,25,26,27,28,29,30,31] (Z:=Int) (fun k=>[.int .i64 k]) (fun k=>-2<=k/\k<=(rk.length:Int)-2) (fun k=>(k+2).toNat) ((rk.length:Int)-2) ⟨by omega,by omega⟩ ?_
 intro k u l' hl' ⟨hk1,hk2⟩
 simp only[bM,List.map,List.set] at hl'
 subst hl'
 repeat' (first|refine aU ?_|refine bP ?_|refine bG fun sv=>?_|refine bV fun hc=>?_|refine bW fun hc=>?_|refine aS (fun hc=>?_) fun hc=>?_|refine wb 4 [] ?_|refine xp ?_|refine xg ?_|refine xn ?_|refine pM fun hc=>?_|refine pN fun hc=>?_|refine xi (fun hc=>?_) fun hc=>?_|refine bI ?_|fail)
 ·exact eB (k-1) (by omega)
 ·obtain ⟨m,rfl⟩:∃ m:Nat,k=(m:Int):=⟨k.toNat,by omega⟩
  have e1:((m:Int)+1).toNat=m+1:=by omega
  have hle:rk.getD m 0<=rk.getD (m+1) 0:=by rw[← e1];assumption
  have hlt:rk.getD m 0<rk.getD (m+1) 0:=by
   have h1:=List.pairwise_iff_getElem.1 hO.nd m (m+1) (by omega) (by omega) (by omega)
   rw[← xC (d:=0),← xC (d:=0)] at h1
   omega
  simp only[bH]
  refine lc_ [6,7] [42,43,44,45,48,49,50,51,52,53,54,55,56,57,58,59,60,61,62,63,64,65,66,67,68,69,70,71,72,46,47] (Z:=Int×Nat) (fun k=>[.int .i64 k.1,.int .i64 k.2]) (fun k=>m+1<=k.2/\k.2<=rk.length/\((k.2=m+1/\k.1=-1)∨∃ j,m<j/\j<rk.length/\k.1=rk.getD j 0/\rk.getD m 0<k.1)) (fun k=>rk.length-k.2) (-1,m+1) ⟨aM _,by simp only;omega,.inl ⟨rfl,rfl⟩⟩ ?_
  intro ⟨nx,i⟩ u l' hl' ⟨hi1,hi2,hnx⟩
  simp only[bM,List.map,List.set] at hl'
  subst hl'
  simp only at hi1 hi2 hnx ⊢
  have hnb:-1<=nx/\nx<8:=by
   rcases hnx with⟨_,h⟩|⟨j,h1,h2,h3,_⟩
   ·omega
   ·have:=hO.el _ (eD h2);omega
  by_cases hil:i<rk.length
  ·repeat' (first|refine aU ?_|refine eF fun hbi=>?_|refine bP ?_|refine bV fun hc=>?_|refine bW fun hc=>?_|refine aS (fun hc=>?_) fun hc=>?_|refine wb 13 [] ?_|refine xf fun hbi=>?_|refine xp ?_|refine xg ?_|refine xn ?_|refine pM fun hc=>?_|refine pN fun hc=>?_|refine xi (fun hc=>?_) fun hc=>?_|refine bI ?_|fail)
   ·exact eB (rk.getD i 0,i+1) ⟨by simp only;omega,by simp only;omega,.inr ⟨i,by omega,hil,rfl,by assumption⟩⟩
   ·exact eB (rk.getD i 0,i+1) ⟨by simp only;omega,by simp only;omega,.inr ⟨i,by omega,hil,rfl,by assumption⟩⟩
   ·exact eB (nx,i+1) ⟨by simp only;omega,by simp only;omega,.inr (hnx.elim (fun h=>by omega) id)⟩
   ·exact eB (nx,i+1) ⟨by simp only;omega,by simp only;omega,.inr (hnx.elim (fun h=>by have h1:=h.1;subst h1;omega) id)⟩
  ·obtain ⟨j,hj1,hj2,hj3,hj4⟩:=hnx.elim (fun h=>by omega) id
   have hnx8:=hO.el _ (eD hj2)
   rw[← hj3] at hnx8
   have hnn:nx∉rk.take m:=fun hm=>by
    obtain ⟨a,ha,he⟩:=cO hm
    have hal:a<m:=by have:=ha;rw[aN] at this;omega
    have h1:=List.pairwise_iff_getElem.1 hO.nd a j (by omega) (by omega) (by omega)
    rw[List.getElem_take] at he
    rw[he,← xC (d:=0)] at h1
    exact h1 hj3
   have hnd0:(rk.take m++[nx]).Nodup:=bJ.2 ⟨hO.nd.sublist (List.take_sublist m rk),by simp,fun a ha b hb e=>by rw[aO] at hb;exact hnn (by rw[← hb,← e];exact ha)⟩
   repeat' (first|refine aU ?_|refine bG fun sv=>?_|refine bV fun hc=>?_|refine bW fun hc=>?_|refine aS (fun hc=>?_) fun hc=>?_|fail)
   refine lp_ [5,8] [77,78,79,80,83,84,85,86,87,88,89,90,81,82] (Z:=(Value×List Int)×Nat) (fun k=>[k.1.1,.int .i64 k.2]) (fun k=>[.ow [k.1.1] k.1.2]) (fun k=>k.2<=rk.length/\k.1.2.Nodup/\(∀ q∈k.1.2,0<=q/\q<rk.length)/\(∀ y:Nat,y<k.2->(y:Int)∈k.1.2)/\k.1.2.take (m+1)=rk.take m++[nx]) (fun k=>rk.length-k.2) ((sv,rk.take m++[nx]),0) [.ow [sv] (rk.take m++[nx])] ⟨aI _,hnd0,fun q hq=>?_,fun y hy=>absurd hy (cX y),?_⟩ ?_
   ·rcases aP.1 hq with h|h
    ·exact hO.el q (List.mem_of_mem_take h)
    ·rw[aO] at h;rw[h];exact hnx8
   ·exact bE (by simp only[aD,aN,aJ];omega)
   intro ⟨⟨so,ot⟩,x⟩ u l' hl' ⟨hx,hnd,hel,hall,htk⟩
   simp only[bM,List.map,List.set] at hl'
   subst hl'
   simp only[aA,aB] at hx hnd hel hall htk ⊢
   have hol:=aKy hnd hel
   by_cases hxl:x<rk.length
   ·repeat' (first|refine aU ?_|refine bP ?_|refine cV fun r hr=>?_|refine aW fun r=>?_|refine bG fun sv=>?_|refine bV fun hc=>?_|refine bW fun hc=>?_|refine aS (fun hc=>?_) fun hc=>?_|fail)
    ·exact dH ((sv,ot++[(x:Int)]),x+1) ⟨by simp only;omega,bJ.2 ⟨hnd,by simp,fun a ha b hb e=>by rw[aO] at hb;exact hc (by rw[← hb,← e];exact ha)⟩,fun q hq=>(aP.1 hq).elim (hel q) fun h=>by rw[aO] at h;rw[h];omega,fun y hy=>by
      by_cases e:y=x
      ·subst e;exact List.mem_append_right _ (by simp)
      ·exact List.mem_append_left _ (hall y (by simp only at hy;omega)),by
      have hlt2:m+1<=ot.length:=by
       have:=congrArg List.length htk
       simp only[aD,aN,aJ] at this
       omega
      rw[List.take_append_of_le_length hlt2];exact htk⟩ (by simp only;omega) (by kernel_rfl) aH
    ·exact dH ((so,ot),x+1) ⟨by simp only;omega,hnd,hel,fun y hy=>by
      by_cases e:y=x
      ·subst e;exact hc
      ·exact hall y (by simp only at hy;omega),htk⟩ (by simp only;omega) (by kernel_rfl) aH
   ·obtain rfl:x=rk.length:=by omega
    have hlen:=aR3 hnd hel hall
    have htm:ot.take m=rk.take m:=by
     have:=congrArg (List.take m) htk
     rwa [List.take_take,Nat.min_eq_left (by omega),List.take_append_of_le_length (by rw[aN];omega),List.take_take,Nat.min_self] at this
    have hgm:ot.getD m 0=nx:=by
     have h1:=congrArg (fun z=>z.getD m 0) htk
     rw[aC,List.getElem?_take_of_lt (by omega),← aC,aC (l:=_++_),cP (by rw[aN];omega),show m-(rk.take m).length=0 by rw[aN];omega] at h1
     exact h1
    repeat' (first|refine aU ?_|refine bV fun hc=>?_|refine bW fun hc=>?_|refine aS (fun hc=>?_) fun hc=>?_|fail)
    exact⟨(so,⟨(ot,true),fun _=>⟨hlen,hel,hn,aOg (k:=m) (by omega) hlen htm hDg (by show _<ot.getD m 0;rw[hgm];exact hj4)⟩⟩),rfl,aH⟩
 ·exact⟨(sv,⟨([],false),fun h=>nomatch h⟩),rfl,aH⟩⟩
instance bEh{I:List Atom}{v:Value}{a:List Int}{c:Int}[h:bK Int I v a] :
  bQ prog 238 [.agg #[v],.int .i64 c] I (eA a=true/\0<=c/\c<=9) (Value×{ t:List Int // t.length=gW a a.length/\uM t }) (fun q:Value×{ t:List Int // t.length=gW a a.length/\uM t }=>q.1) (fun q=>.ow [q.1] q.2.1::I):=⟨fun hs w0=>by
 refine cL (A:=fun q:Value×{ t:List Int // t.length=gW a a.length/\uM t }=>[.ow [q.1] q.2.1]) (fun w1=>?_) (aE h fI) fun _=>inferInstance
 simp only[aA,aB]
 obtain ⟨hok,hc0,hc1⟩:=hs
 have hsg:=eC hok
 refine aK func238 ntmps238 ?_
 repeat' (first|refine aU ?_|refine bG fun sv=>?_|refine bT fun b=>?_|fail)
 refine lp_ [5,6] [9,10,11,12,13,16,17,18,7,19,20,21,22,23,24,25,28,29,30,31,26,27,14,15] (Z:=(Value×List Int)×Nat) (fun k=>[k.1.1,.int .i64 k.2]) (fun k=>[.ow [k.1.1] k.1.2]) (fun k=>k.2<=a.length/\k.1.2.length=gW a k.2/\uM k.1.2) (fun k=>a.length-k.2) ((sv,[]),0) [.ow [sv] ([]:List Int)] ⟨aI _,rfl,fun q hq=>absurd hq (by simp)⟩ ?_
 intro ⟨⟨so,t⟩,f⟩ u l' hl' ⟨hf,htl,htd⟩
 simp only[bM,List.map,List.set] at hl'
 subst hl'
 simp only[aA,aB] at hf htl htd ⊢
 have hap:∀ (y:List Int) (q:Int),uM y->0<=q/\q<=9->uM (y++[q]):=fun y q hy hq z hz=>(aP.1 hz).elim (hy z) fun h=>by rw[aO] at h;rw[h];exact hq
 by_cases hfl:f<a.length
 ·have haf:=fM hok hfl
  have hm1:=lF hok (f+1) (by omega)
  have hn2:gW a (f+1)=gW a f+1+(a.getD f 0).toNat:=rfl
  repeat' (first|refine aU ?_|refine bG fun sv=>?_|refine bV fun hc=>?_|refine bW fun hc=>?_|refine aS (fun hc=>?_) fun hc=>?_|fail)
  refine lp_ [5,7] [19,20,21,22,23,24,25,28,29,30,31,26,27] (Z:=(Value×List Int)×Nat) (fun k=>[k.1.1,.int .i64 k.2]) (fun k=>[.ow [k.1.1] k.1.2]) (fun k=>(k.2:Int)<=a.getD f 0/\k.1.2.length=gW a f+1+k.2/\uM k.1.2) (fun k=>(a.getD f 0).toNat-k.2) ((sv,t++[0]),0) [.ow [sv] (t++[0])] ⟨by simp only;omega,by simp only[aD,aJ];omega,hap t 0 htd (by omega)⟩ ?_
  intro ⟨⟨sp,z⟩,k⟩ u2 l2 hl2 ⟨hk,hzl,hzd⟩
  simp only[bM,List.map,List.set] at hl2
  subst hl2
  simp only[aA,aB] at hk hzl hzd ⊢
  by_cases hkl:(k:Int)<a.getD f 0
  ·repeat' (first|refine aU ?_|refine eF fun hbi=>?_|refine bP ?_|refine bG fun sv=>?_|refine bV fun hc=>?_|refine bW fun hc=>?_|refine aS (fun hc=>?_) fun hc=>?_|fail)
   exact eB ((sv,z++[c]),k+1) ⟨by simp only;omega,by simp only[aD,aJ];omega,hap z c hzd ⟨hc0,hc1⟩⟩
  ·repeat' (first|refine aU ?_|refine eF fun hbi=>?_|refine bP ?_|refine bV fun hc=>?_|refine bW fun hc=>?_|refine aS (fun hc=>?_) fun hc=>?_|fail)
   exact eB ((sp,z),f+1) ⟨by simp only;omega,by simp only;omega,hzd⟩
 ·obtain rfl:f=a.length:=by omega
  repeat' (first|refine aU ?_|refine bV fun hc=>?_|refine bW fun hc=>?_|refine aS (fun hc=>?_) fun hc=>?_|fail)
  exact⟨(so,⟨t,htl,htd⟩),rfl,aH⟩⟩
instance bD1{I:List Atom}{v:Value}{a:List Int}{m:Int}[h:bK Int I v a] :
  bQ prog 235 [.agg #[v],.int .i64 m] I (True) ({ q:Int×Int // (-1<=q.1/\q.1<=20000)/\(-1<=q.2/\q.2<=20000)/\(0<=q.1∨0<=q.2->eA a=true/\1<=m/\m<=3) }) (fun q:{ q:Int×Int // (-1<=q.1/\q.1<=20000)/\(-1<=q.2/\q.2<=20000)/\(0<=q.1∨0<=q.2->eA a=true/\1<=m/\m<=3) }=>.tuple #[.int .i64 q.1.1,.int .i64 q.1.2]) (fun _=>I):=⟨fun _ w0=>by
 refine jV (fun w1=>?_) (aE h fI)
 refine aK func235 ntmps235 ?_
 repeat' (first|refine aU ?_|refine cV fun r hr=>?_|refine aW fun r=>?_|refine bT fun b=>?_|refine bV fun hc=>?_|refine bW fun hc=>?_|refine aS (fun hc=>?_) fun hc=>?_|fail)
 ·exact⟨⟨(-1,-1),by decide,by decide,fun h=>by simp only at h;omega⟩,rfl,aH⟩
 ·exact⟨⟨(-1,-1),by decide,by decide,fun h=>by simp only at h;omega⟩,rfl,aH⟩
 have hok:eA a=true:=by assumption
 have hsg:=eC hok
 have hm:1<=m/\m<=3:=by assumption
 refine lc_ [6,7,8] [18,19,20,21,22,25,26,27,28,29,30,31,32,33,34,35,9,36,37,38,39,40,41,42,45,46,47,43,44,23,24] (Z:=Int×Int×Nat) (fun k=>[.int .i64 k.1,.int .i64 k.2.1,.int .i64 k.2.2]) (fun k=>k.2.2<=a.length/\(-1<=k.1/\k.1<=20000)/\(-1<=k.2.1/\k.2.1<=20000)) (fun k=>a.length-k.2.2) (1,1,0) ⟨aI _,by decide,by decide⟩ ?_
 intro ⟨n1,n2,f⟩ u l' hl' ⟨hf,h1,h2⟩
 simp only[bM,List.map,List.set] at hl'
 subst hl'
 simp only at hf h1 h2 ⊢
 by_cases hfl:f<a.length
 ·have haf:=fM hok hfl
  repeat' (first|refine aU ?_|refine bP ?_|refine cV fun r hr=>?_|refine aW fun r=>?_|refine bV fun hc=>?_|refine bW fun hc=>?_|refine aS (fun hc=>?_) fun hc=>?_|fail)
  rename_i ra hra
  refine lc_ [7,9] [36,37,38,39,40,41,42,45,46,47,43,44] (Z:=Int×Nat) (fun k=>[.int .i64 k.1,.int .i64 k.2]) (fun k=>(k.2:Int)<=a.getD f 0/\-1<=k.1/\k.1<=20000) (fun k=>(a.getD f 0).toNat-k.2) (r.1,0) ⟨by simp only;omega,hr⟩ ?_
  intro ⟨n3,k⟩ u2 l2 hl2 ⟨hk,h3⟩
  simp only[bM,List.map,List.set] at hl2
  subst hl2
  simp only at hk h3 ⊢
  by_cases hkl:(k:Int)<a.getD f 0
  ·repeat' (first|refine aU ?_|refine eF fun hbi=>?_|refine bP ?_|refine cV fun r hr=>?_|refine aW fun r=>?_|refine bV fun hc=>?_|refine bW fun hc=>?_|refine aS (fun hc=>?_) fun hc=>?_|fail)
   exact eB (r.1,k+1) ⟨by simp only;omega,r.2⟩
  ·repeat' (first|refine aU ?_|refine eF fun hbi=>?_|refine bP ?_|refine bV fun hc=>?_|refine bW fun hc=>?_|refine aS (fun hc=>?_) fun hc=>?_|fail)
   exact eB (ra.1,n3,f+1) ⟨by simp only;omega,hra,h3⟩
 ·repeat' (first|refine aU ?_|refine bV fun hc=>?_|refine bW fun hc=>?_|refine aS (fun hc=>?_) fun hc=>?_|fail)
  exact⟨⟨(n1,n2),h1,h2,fun _=>⟨hok,hm⟩⟩,rfl,aH⟩⟩
structure RkP(a rk:List Int):Prop where
 ok:eA a=true
 n:rk.length=a.length
theorem yD{w0:World}{I:List Atom}{v v':Value}{a rk:List Int}[h:bK Int I v a][h':bK Int I v' rk] :
  CJ prog 279 [.agg #[v],v'] w0 I (fun q:{ t:Bool // t=true->RkP a rk }=>.bool q.1) (fun _=>I):=by
 refine jV (fun w1=>?_) (aE h (aE h' fI))
 refine dQ v' fun hlr=>?_
 refine aK func279 ntmps279 ?_
 repeat' (first|refine aU ?_|refine cV fun r hr=>?_|refine aW fun r=>?_|refine bT fun b=>?_|refine bV fun hc=>?_|refine bW fun hc=>?_|refine aS (fun hc=>?_) fun hc=>?_|fail)
 ·exact⟨⟨false,fun h=>nomatch h⟩,rfl,aH⟩
 ·exact⟨⟨false,fun h=>nomatch h⟩,rfl,aH⟩
 have hok:eA a=true:=by assumption
 have hrl:rk.length=a.length:=by omega
 have hsg:=eC hok
 refine lc_ [5] [18,19,20,21,24,25,26,27,28,29,30,31,32,4,6,33,34,35,38,39,40,41,42,43,44,45,46,36,37,22,23] (Z:=Nat) (fun k=>[.int .i64 k]) (fun k=>k<=rk.length) (fun k=>rk.length-k) 0 (aI _) ?_
 intro i u l' hl' hi
 simp only[bM,List.map,List.set] at hl'
 subst hl'
 by_cases hil:i<rk.length
 ·repeat' (first|refine aU ?_|refine eF fun hbi=>?_|refine bP ?_|refine cV fun r hr=>?_|refine aW fun r=>?_|refine bV fun hc=>?_|refine bW fun hc=>?_|refine aS (fun hc=>?_) fun hc=>?_|fail)
  ·exact⟨⟨false,fun h=>nomatch h⟩,rfl,aH⟩
  refine lc_ [6] [33,34,35,38,39,40,41,42,43,44,45,46,4,36,37] (Z:=Nat) (fun k=>[.int .i64 k]) (fun k=>k<=i) (fun k=>i-k) 0 (aI _) ?_
  intro k u2 l2 hl2 hk
  simp only[bM,List.map,List.set] at hl2
  subst hl2
  by_cases hkl:k<i
  ·repeat' (first|refine aU ?_|refine bP ?_|refine bV fun hc=>?_|refine bW fun hc=>?_|refine aS (fun hc=>?_) fun hc=>?_|refine wb 11 [] ?_|refine xf fun hbi=>?_|refine xp ?_|refine bI ?_|fail)
   ·exact⟨⟨false,fun h=>nomatch h⟩,rfl,aH⟩
   ·exact eB (k+1) (by omega)
  ·repeat' (first|refine aU ?_|refine bP ?_|refine bV fun hc=>?_|refine bW fun hc=>?_|refine aS (fun hc=>?_) fun hc=>?_|fail)
   exact eB (i+1) (by omega)
 ·repeat' (first|refine aU ?_|refine bV fun hc=>?_|refine bW fun hc=>?_|refine aS (fun hc=>?_) fun hc=>?_|fail)
  exact⟨⟨true,fun _=>⟨hok,hrl⟩⟩,rfl,aH⟩
instance bLn{I:List Atom}{v v':Value}{a rk:List Int}[h:bK Int I v a][h':bK Int I v' rk] :
  bQ prog 279 [.agg #[v],v'] I (True) ({ t:Bool // t=true->RkP a rk }) (fun q:{ t:Bool // t=true->RkP a rk }=>.bool q.1) (fun _=>I):=⟨fun s w0=>yD⟩
structure WtP(a:List Int)(vr:Int)(sy rk:List Int):Prop where
 ok:eA a=true
 n:rk.length=a.length
 v:1<=vr/\vr<=20
 s:sy.length=a.length
 el:∀ i,i<sy.length->0<=sy.getD i 0/\sy.getD i 0<=20
theorem qS{w0:World}{I:List Atom}{v v1 v2:Value}{a sy rk:List Int}{vr:Int}[h:bK Int I v a][h1:bK Int I v1 sy][h2:bK Int I v2 rk] :
  CJ prog 280 [.agg #[v],.agg #[.int .i64 vr,v1,v2]] w0 I (fun q:{ t:Bool // t=true->WtP a vr sy rk }=>.bool q.1) (fun _=>I):=by
 refine jV (fun w1=>?_) (aE h (aE h1 (aE h2 fI)))
 refine dQ v1 fun hls=>?_
 refine dQ v2 fun hlr=>?_
 refine aK func280 ntmps280 ?_
 repeat' (first|refine aU ?_|refine cV fun r hr=>?_|refine aW fun r=>?_|refine bT fun b=>?_|refine bV fun hc=>?_|refine bW fun hc=>?_|refine aS (fun hc=>?_) fun hc=>?_|fail)
 all_goals try exact⟨⟨false,fun h=>nomatch h⟩,rfl,aH⟩
 have hR:RkP a rk:=hr (by assumption)
 have hvr:1<=vr/\vr<=20:=by assumption
 have hsl:sy.length=a.length:=by omega
 have hsg:=eC hR.ok
 have hn:=hR.n
 refine lc_ [5] [26,27,28,29,30,33,34,35,36,37,38,39,40,41,42,43,44,45,46,47,48,49,50,51,52,53,54,55,56,57,4,58,59,60,61,62,63,64,65,66,67,68,69,70,71,72,73,74,75,76,77,78,79,80,81,82,83,31,32] (Z:=Nat) (fun k=>[.int .i64 k]) (fun k=>k<=sy.length/\∀ i,i<k->0<=sy.getD i 0/\sy.getD i 0<=20) (fun k=>sy.length-k) 0 ⟨aI _,fun i hi=>absurd hi (cX i)⟩ ?_
 intro i u l' hl' ⟨hi,hel⟩
 simp only[bM,List.map,List.set] at hl'
 subst hl'
 by_cases hil:i<sy.length
 ·repeat' (first|refine aU ?_|refine bP ?_|refine bV fun hc=>?_|refine bW fun hc=>?_|refine aS (fun hc=>?_) fun hc=>?_|refine cV fun r hr=>?_|refine aW fun r=>?_|refine wb 6 [] ?_|refine wb 8 [] ?_|refine xf fun hbi=>?_|refine xp ?_|refine xg ?_|refine xn ?_|refine pM fun hc=>?_|refine pN fun hc=>?_|refine xi (fun hc=>?_) fun hc=>?_|refine xy ?_|refine bI ?_|fail)
  all_goals try exact⟨⟨false,fun h=>nomatch h⟩,rfl,aH⟩
  all_goals exact dH (i+1) ⟨by omega,fun j hj=>by
   by_cases e:j=i
   ·subst e;assumption
   ·exact hel j (by omega)⟩ (by omega) (by kernel_rfl) aH
 ·obtain rfl:i=sy.length:=by omega
  repeat' (first|refine aU ?_|refine bV fun hc=>?_|refine bW fun hc=>?_|refine aS (fun hc=>?_) fun hc=>?_|fail)
  exact⟨⟨true,fun _=>⟨hR.ok,hR.n,hvr,hsl,hel⟩⟩,rfl,aH⟩
instance bA1{I:List Atom}{v v1 v2:Value}{a sy rk:List Int}{vr:Int}[h:bK Int I v a][h1:bK Int I v1 sy][h2:bK Int I v2 rk] :
  bQ prog 280 [.agg #[v],.agg #[.int .i64 vr,v1,v2]] I (True) ({ t:Bool // t=true->WtP a vr sy rk }) (fun q:{ t:Bool // t=true->WtP a vr sy rk }=>.bool q.1) (fun _=>I):=⟨fun s w0=>qS⟩
end Go.Proofs.YtajdgkpjbpindaaGreatDoor
