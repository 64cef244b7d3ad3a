/- Texts of the proof of FnNames. -/
import Derived.Test.YtajdgkpjbpindaaGreatDoorTap
import Derived.Test.YtajdgkpjbpindaaGreatDoorTam
set_option linter.unusedVariables false
set_option linter.unusedSimpArgs false
set_option linter.unusedSectionVars false
namespace Go.Proofs.YtajdgkpjbpindaaGreatDoor
open Go Go.Eng Tryz
set_option synthInstance.maxHeartbeats 400000
set_option synthInstance.maxSize 1000
set_option maxHeartbeats 4000000
set_option maxRecDepth 20000
theorem zU{x:aQ}{t b:List Int}{k r:Nat}(hs:eE x=true)(ht:bB x.1 t=true)(hk:k<t.length)(hr:r<x.2.length)(h:fQ x t k r=some b):bB x.1 b=true:=by
 obtain ⟨σ,_,_,e,hl,htm⟩:=aIz hs ht hk hr h
 rw[e] at hl ⊢
 exact aZn (eI ht) (aNz htm _ t k (aM _) (yT ht) hk) hl
theorem aR1{x:aQ}{t b:List Int}{i r:Int}(h:iT x t i r=some b):bB x.1 b=true:=by
 by_cases hp:vE x t i r
 ·rw[aBg hp] at h
  obtain ⟨h1,⟨h2,h3⟩,h4⟩:=hp
  exact zU h1 h2 (by omega) (by omega) h
 ·rw[sE hp] at h;cases h
def pI(w:gK):List Int:=if w.2.length=0 then w.1 else (w.2.getD (w.2.length-1) default).2.2
instance bMt{I:List Atom}{v0 v1:Value}{w:gK}[h0:bK Int I v0 w.1][h1:bK eW I v1 w.2] :
  bQ prog 219 [.agg #[v0,v1]] I ((pI w).length<=1000) (Value) (fun q:Value=>q) (fun q=>.ow [q] (pI w)::I):=⟨fun hs w0=>by
 refine cL (A:=fun q:Value=>[.ow [q] (pI w)]) (fun w1=>?_) (aE h0 (aE h1 fI)) fun _=>inferInstance
 simp only[aA,aB]
 refine dQ v1 fun hlx=>?_
 by_cases hw:w.2.length=0
 ·have e:pI w=w.1:=if_pos hw
  rw[e] at hs ⊢
  refine aK func219 ntmps219 ?_
  repeat' (first|refine aU ?_|refine cV fun r hr=>?_|refine aW fun r=>?_|refine bT fun b=>?_|refine bV fun hc=>?_|refine bW fun hc=>?_|refine aS (fun hc=>?_) fun hc=>?_|fail)
  exact⟨r,rfl,aH⟩
 ·have e:pI w=(w.2.getD (w.2.length-1) default).2.2:=if_neg hw
  rw[e] at hs ⊢
  have e2:((w.2.length:Int)-1).toNat=w.2.length-1:=by omega
  refine aK func219 ntmps219 ?_
  repeat' (first|refine aU ?_|refine bP ?_|refine cV fun r hr=>?_|refine aW fun r=>?_|refine bT fun b=>?_|(refine iH fun p c d f g hf=>?_;simp only[Un.cells,Un.atoms,Un.fact,aA,aB] at f g hf;subst f g)|refine bV fun hc=>?_|refine bW fun hc=>?_|refine aS (fun hc=>?_) fun hc=>?_|fail)
  exact⟨r,rfl,aH⟩⟩
theorem xP(f:Nat->Bool):∀ n i,i<(jK f n).length->f ((jK f n).getD i 0).toNat=true
 | 0,i,h=>by simp [jK] at h
 | n+1,i,h=>by
  cases hf:f n with
  | false=>
   rw[wA hf] at h ⊢
   exact xP f n i h
  | true=>
   rw[rW hf] at h ⊢
   rw[pE]
   split
   ·exact xP f n i (by assumption)
   ·rw[aD] at h
    simp only[aF,aL] at h
    rw[if_pos (by omega),bH]
    exact hf
theorem rA{x:aQ}{t:List Int}{i:Nat}(h:i<(cD x t).length):mN x t ((cD x t).getD i 0).toNat=true:=by
 unfold cD at h ⊢
 split at h
 ·rename_i hs
  rw[if_pos hs]
  exact xP _ _ _ h
 ·simp at h
theorem aL1{x:aQ}{t:List Int}{s:Int}(h:0<(cD x t).length):mN x t ((fP x t s).getD 0 0).toNat=true:=by
 unfold fP
 split
 ·obtain ⟨j,hj,he⟩:=qB (p:=inI x.1 t (cD x t)) (aM (cD x t).length) (tZ h)
  unfold iX
  rw[he]
  exact rA hj
 ·split
  ·exact rA h
  ·have e:((cD x t).drop ((cD x t).length-1)).getD 0 0=(cD x t).getD ((cD x t).length-1) 0:=by
    simp only[aC,List.getElem?_drop,Nat.add_zero]
   rw[e]
   exact rA (by omega)
theorem sZ(f:Nat->Nat):∀ n k r,k<=r->r<k+n->0<f r->0<=gI f k n
 | 0,k,r,h1,h2,_=>by omega
 | n+1,k,r,h1,h2,h3=>by
  unfold gI
  split
  ·omega
  ·rename_i hk
   have:r≠k:=fun e=>hk (by rw[← e];exact h3)
   exact sZ f n (k+1) r (by omega) (by omega) h3
theorem aXy{x:aQ}{t:List Int}{s:Int}(h:(gT x t s).2.2=true):vE x t (gT x t s).1 (gT x t s).2.1:=by
 by_cases hp:kG x t s/\0<(cD x t).length
 ·rw[zX hp.1 hp.2]
  have h1:=aBt (s:=s) hp.2
  obtain ⟨r,hr,hr2⟩:=tK.1 (aL1 (s:=s) hp.2)
  have h2:=sZ (aTj x t ((fP x t s).getD 0 0).toNat) x.2.length 0 r (aI _) (by omega) (aAw.2 hr2)
  have h3:=yQ (aTj x t ((fP x t s).getD 0 0).toNat) x.2.length 0
  exact⟨hp.1.1,⟨hp.1.2.1,h1⟩,h2,by have:=h3.2;show gI _ 0 _<_;omega⟩
 ·unfold gT at h
  rw[if_neg hp] at h;cases h
theorem aS2(t:List Int)(s:eW)(ss:List eW):pI (t,s::ss)=pI (s.2.2,ss):=by
 cases ss with
 | nil=>rfl
 | cons u us=>
  show((s::u::us).getD (us.length+1+1-1) default).2.2=((u::us).getD (us.length+1-1) default).2.2
  rw[Nat.add_sub_cancel,Nat.add_sub_cancel,List.getD_cons_succ]
theorem aJz{x:aQ}:∀ {ss:List eW} {t:List Int},bB x.1 t=true->rT x t ss=true->bB x.1 (pI (t,ss))=true/\∀ s∈ss,bB x.1 s.2.2=true
 | [],t,ht,_=>⟨ht,fun s hs=>absurd hs (by simp)⟩
 | s::ss,t,ht,h=>by
  unfold rT at h
  simp only[cN,decide_eq_true_eq] at h
  obtain ⟨h1,h2,h3⟩:=h
  obtain ⟨b,hb⟩:=Option.isSome_iff_exists.1 h1
  rw[hb,aZ] at h2 h3
  have hbo:=aR1 hb
  have ih:=aJz hbo h3
  rw[aS2,← h2]
  refine⟨ih.1,fun u hu=>?_⟩
  rcases cH.1 hu with e|hu
  ·rw[e,← h2];exact hbo
  ·exact ih.2 u hu
structure WkO(x:aQ)(w:gK):Prop where
 ok:eE x=true
 fr:bB x.1 w.1=true
 en:bB x.1 (pI w)=true
 ts:∀ s∈w.2,bB x.1 s.2.2=true
 le:w.2.length<=60
theorem wkO{x:aQ}{w:gK}(h:lU x w=true):WkO x w:=by
 unfold lU at h
 simp only[cN,decide_eq_true_eq] at h
 obtain ⟨h1,h2,h3,h4⟩:=h
 have h5:=aJz h2 h4
 exact⟨h1,h2,h5.1,h5.2,h3⟩
instance bGi{I:List Atom}{v0 v1 v2 v3:Value}{x:aQ}{w:gK}[h0:bK Int I v0 x.1][h1:bK cM I v1 x.2][h2:bK Int I v2 w.1][h3:bK eW I v3 w.2] :
  bQ prog 269 [.agg #[v0,v1],.agg #[v2,v3]] I True Value (fun q:Value=>q) (fun q=>.ow [q] (if lU x w=true then pI w else [])::I):=⟨fun _ w0=>by
 refine cL (A:=fun q:Value=>[.ow [q] (if lU x w=true then pI w else [])]) (fun w1=>?_) (aE h0 (aE h1 (aE h2 (aE h3 fI)))) fun _=>inferInstance
 simp only[aA,aB]
 cases hw:lU x w with
 | true=>
  have hl:=aX (wkO hw).en
  have hl2:(pI w).length<=1000:=by omega
  refine aK func269 ntmps269 ?_
  repeat' (first|refine aU ?_|refine cV fun r hr=>?_|refine aW fun r=>?_|refine bG fun sv=>?_|refine bT fun b=>?_|refine bV fun hc=>?_|refine bW fun hc=>?_|refine aS (fun hc=>?_) fun hc=>?_|fail)
  ·rw[hw] at hc;cases hc
  ·rw[if_pos rfl];exact⟨r,rfl,aH⟩
 | false=>
  rw[if_neg (by decide)]
  refine aK func269 ntmps269 ?_
  repeat' (first|refine aU ?_|refine cV fun r hr=>?_|refine aW fun r=>?_|refine bG fun sv=>?_|refine bT fun b=>?_|refine bV fun hc=>?_|refine bW fun hc=>?_|refine aS (fun hc=>?_) fun hc=>?_|fail)
  ·exact⟨sv,rfl,aH⟩
  ·rw[hw] at hc;cases hc⟩
structure WB(w:gK):Prop where
 f:w.1.length<=60
 s:∀ u∈w.2,u.2.2.length<=60
 n:w.2.length<=60
theorem WB.end{w:gK}(h:WB w):(pI w).length<=60:=by
 unfold pI
 split
 ·exact h.f
 ·exact h.s _ (dX (by omega))
theorem lH:WB ([],[]):=⟨aI _,fun u hu=>absurd hu (by simp),aI _⟩
structure CsC(ss:List eW):Prop where
 n:ss.length<=100
 s:∀ u∈ss,u.2.2.length<=60
theorem aSq{ss:List eW}{k:Nat}(h:k<ss.length):ss.take k++[((ss.getD k default).1,(ss.getD k default).2.1,(ss.getD k default).2.2)]=ss.take (k+1):=by
 rw[bC h,aC,aG h];rfl
instance aU0{I:List Atom}{v:Value}{ss:List eW}[h:bK eW I v ss] :
  bQ prog 260 [v] I (CsC ss) (Value) (fun q:Value=>q) (fun q=>.ow [q] ss::I):=⟨fun hs w0=>by
 refine cL (A:=fun q:Value=>[.ow [q] ss]) (fun w1=>?_) (aE h fI) fun _=>inferInstance
 simp only[aA,aB]
 have hn:=hs.n
 refine aK func260 ntmps260 ?_
 repeat' (first|refine aU ?_|refine bG fun sv=>?_|fail)
 refine lp_ [3,4] [6,7,8,9,12,13,14,15,16,17,18,19,20,21,22,23,24,25,26,27,28,29,30,31,10,11] (Z:=Value×Nat) (fun k=>[k.1,.int .i64 k.2]) (fun k=>[.ow [k.1] (ss.take k.2)]) (fun k=>k.2<=ss.length) (fun k=>ss.length-k.2) (sv,0) [.ow [sv] ([]:List eW)] (aI _) ?_
 intro ⟨so,k⟩ u l' hl' hk
 simp only[bM,List.map,List.set] at hl'
 subst hl'
 simp only[aA,aB] at hk ⊢
 by_cases hkl:k<ss.length
 ·have hku:=hs.s _ (dX hkl)
  repeat' (first|refine aU ?_|refine bP ?_|refine bV fun hc=>?_|refine bW fun hc=>?_|refine aS (fun hc=>?_) fun hc=>?_|refine cV fun r hr=>?_|refine aW fun r=>?_|refine bG fun sv=>?_|refine wb 5 [19] ?_|refine xp ?_|refine x0 ?_|(refine xd fun p c d e f g h hf=>?_;simp only[Un.cells,Un.atoms,Un.fact,aA,aB] at f g h hf;subst f g h)|refine xy ?_|refine bI ?_|fail)
  simp only[aSq hkl]
  exact eB (sv,k+1) (by simp only;omega)
 ·obtain rfl:k=ss.length:=by omega
  repeat' (first|refine aU ?_|refine bV fun hc=>?_|refine bW fun hc=>?_|refine aS (fun hc=>?_) fun hc=>?_|fail)
  exact⟨so,rfl,by rw[cZ];exact aH⟩⟩
abbrev WbT:Type:={ w:gK×Bool // WB w.1 }
theorem zM{w0:World}{I:List Atom}{v0 v1 v2 v3 v4 v5:Value}{x:aQ}{a y:gK}[h0:bK Int I v0 x.1][h1:bK cM I v1 x.2][h2:bK Int I v2 a.1][h3:bK eW I v3 a.2][h4:bK Int I v4 y.1][h5:bK eW I v5 y.2](hs:WB a/\WB y) :
  CJ prog 193 [.agg #[v0,v1],.agg #[v2,v3],.agg #[v4,v5]] w0 I (fun q:(Value×Value)×WbT=>.tuple #[.agg #[q.1.1,q.1.2],.bool q.2.1.2]) (fun q=>.ow [q.1.1] q.2.1.1.1::.ow [q.1.2] q.2.1.1.2::I):=by
 refine cL (A:=fun q:(Value×Value)×WbT=>[.ow [q.1.1] q.2.1.1.1,.ow [q.1.2] q.2.1.1.2]) (fun w1=>?_) (aE h0 (aE h1 (aE h2 (aE h3 (aE h4 (aE h5 fI)))))) fun _=>inferInstance
 simp only[aA,aB]
 obtain ⟨ha,hb⟩:=hs
 have hae:=ha.end
 have hbe:=hb.end
 have haf:=ha.f
 have han:=ha.n
 have hbn:=hb.n
 have hca:CsC a.2:=⟨by omega,ha.s⟩
 have hcb:CsC y.2:=⟨by omega,hb.s⟩
 refine aK func193 ntmps193 ?_
 repeat' (first|refine aU ?_|refine bT fun b=>?_|refine bV fun hc=>?_|refine bW fun hc=>?_|refine aS (fun hc=>?_) fun hc=>?_|refine cV fun r hr=>?_|refine aW fun r=>?_|refine bG fun sv=>?_|refine wb 1 [] ?_|refine wb 3 [9,11] ?_|refine xp ?_|refine x0 ?_|refine xg ?_|refine xn ?_|refine pM fun hc=>?_|refine pN fun hc=>?_|refine xi (fun hc=>?_) fun hc=>?_|refine xy ?_|refine bI ?_|fail)
 all_goals first
  | exact⟨((.slice none 0 0,.slice none 0 0),⟨(([],[]),false),lH⟩),rfl,aH⟩
  | exact⟨((_,_),⟨((a.1,a.2++y.2),true),haf,fun u hu=>(aP.1 hu).elim (ha.s u) (hb.s u),by simp only[aD];omega⟩),rfl,aH⟩
instance aId{I:List Atom}{v0 v1 v:Value}{x:aQ}{t:List Int}{at_ rule:Int}[h0:bK Int I v0 x.1][h1:bK cM I v1 x.2][h2:bK Int I v t] :
  bQ prog 149 [.agg #[v0,v1],v,.int .i64 at_,.int .i64 rule] I (vE x t at_ rule) (Value) (fun q:Value=>.tuple #[q,.bool (fQ x t at_.toNat rule.toNat).isSome]) (fun q=>.rd [q] ((fQ x t at_.toNat rule.toNat).getD [])::I):=⟨fun hs w0=>by
 exact jS (yB hs) (fun q=>⟨q,rfl,dJ q aH⟩)⟩
theorem aZo{x:aQ}{t:List Int}{i r:Int}(hr:vE x t i r)(h:(fQ x t i.toNat r.toNat).isSome=true):bB x.1 ((fQ x t i.toNat r.toNat).getD [])=true:=by
 obtain ⟨b,hb⟩:=Option.isSome_iff_exists.1 h
 obtain ⟨h1,⟨h2,h3⟩,h4⟩:=hr
 rw[hb,aZ]
 exact zU h1 h2 (by omega) (by omega) hb
section
attribute [local instance 2000] aId
instance bMf{I:List Atom}{v0 v1 v:Value}{x:aQ}{t:List Int}{s fuel:Int}[h0:eK Int I v0 x.1][h1:eK cM I v1 x.2][h2:eK Int I v t] :
  bQ prog 104 [.agg #[v0,v1],v,.int .i64 s,.int .i64 fuel] I (True) ((Value×Value)×WbT) (fun q:(Value×Value)×WbT=>.tuple #[.agg #[q.1.1,q.1.2],.bool q.2.1.2]) (fun q=>.ow [q.1.1] q.2.1.1.1::.rd [q.1.2] q.2.1.1.2::I):=⟨fun _ w0=>by
 refine aK func104 ntmps104 ?_
 repeat' (first|refine aU ?_|refine cV fun r hr=>?_|refine aW fun r=>?_|refine bT fun b=>?_|refine bV fun hc=>?_|refine bW fun hc=>?_|refine aS (fun hc=>?_) fun hc=>?_|fail)
 ·exact⟨((.slice none 0 0,.slice none 0 0),⟨(([],[]),false),lH⟩),rfl,aH⟩
 ·exact⟨((.slice none 0 0,.slice none 0 0),⟨(([],[]),false),lH⟩),rfl,aH⟩
 have hst:kG x t s:=by assumption
 have htl:=aX hst.2.1
 repeat' (first|refine aU ?_|refine cV fun r hr=>?_|refine aW fun r=>?_|refine bT fun b=>?_|fail)
 rename_i vf
 refine lp_ [11] [33,34,35,36,37,39,40,41,42,38,43,44,45,12,13,14,46,47,49,50,51,52,53,48,54,55,15,16,56,57,58,59,60,61,62,63,64,65,66,67,68] (Z:=(Value×List eW)×(Value×List Int)) (fun k=>[k.2.1]) (fun k=>[.bk b [vf,k.1.1],.ow [k.1.1] (k.1.2.map Sh.mk),.ow [k.2.1] k.2.2]) (fun k=>(k.1.2.length:Int)<=fuel/\bB x.1 k.2.2=true/\∀ u∈k.1.2,u.2.2.length<=60) (fun k=>fuel.toNat-k.1.2.length) ((.slice none 0 0,[]),(r,t)) [.bk b [vf,.slice none 0 0],.ow [.slice none 0 0] ([]:List (Sh eW)),.ow [r] t] ⟨by simp only[aL];omega,hst.2.1,fun u hu=>absurd hu (by simp)⟩ ?_
 intro ⟨⟨so,ss⟩,⟨vn,now⟩⟩ u l' hl' ⟨hk,hno,hsb⟩
 simp only[bM,List.map,List.set] at hl'
 subst hl'
 simp only[aA,aB] at hk hno hsb ⊢
 have hom:(List.map Sh.mk ss).length=ss.length:=aY ..
 have hnl:=aX hno
 repeat' (first|refine aU ?_|refine cV fun r hr=>?_|refine aW fun r=>?_|with_reducible refine qY rfl ?_|refine bV fun hc=>?_|refine bW fun hc=>?_|refine aS (fun hc=>?_) fun hc=>?_|refine wb 12 [4] ?_|refine xp ?_|refine x0 ?_|refine xy ?_|refine bI ?_|fail)
 ·exact⟨((vf,so),⟨((t,ss),nI x now),⟨by simp only;omega,hsb,by simp only;omega⟩⟩),rfl,iN (ys:=ss) so aH⟩
 ·have hrp:=aXy hc
  have hbd:∀ b:List Int,b.length<=60->(∀ u∈ss++[((gT x now s).1,(gT x now s).2.1,b)],u.2.2.length<=60):=fun b hb u hu=>by
   rcases aP.1 hu with h|h
   ·exact hsb u h
   ·rw[aO] at h;rw[h];exact hb
  have hr1:=hrp.2.1.2
  have hr2:=hrp.2.2
  have hrl:=(eM.1 hst.1).1.2
  haveI hi1:I6 (gT x now s).1:=⟨by omega⟩
  haveI hi2:I6 (gT x now s).2.1:=⟨by omega⟩
  have hsl:=aD4 x now (gT x now s).1.toNat (gT x now s).2.1.toNat
  repeat' (first|refine aU ?_|refine cV fun r hr=>?_|refine aW fun r=>?_|refine bG fun sv=>?_|with_reducible refine qY rfl ?_|refine bV fun hc=>?_|refine bW fun hc=>?_|refine aS (fun hc=>?_) fun hc=>?_|refine wb 12 [4] ?_|refine xp ?_|refine x0 ?_|refine xy ?_|refine bI ?_|fail)
  ·exact⟨((vf,so),⟨((t,ss),nI x now),⟨by simp only;omega,hsb,by simp only;omega⟩⟩),rfl,iN (ys:=ss) so aH⟩
  exact dH ((sv,ss++[((gT x now s).1,(gT x now s).2.1,(fQ x now (gT x now s).1.toNat (gT x now s).2.1.toNat).getD [])]),(r,(fQ x now (gT x now s).1.toNat (gT x now s).2.1.toNat).getD [])) ⟨by simp only[aD,aF,aL];omega,aZo hrp hc,hbd _ hsl⟩ (by simp only[aD,aF,aL];omega) (by kernel_rfl) (by simp only[← cG];exact aH)
 ·exact⟨((vf,so),⟨((t,ss),nI x now),⟨by simp only;omega,hsb,by simp only;omega⟩⟩),rfl,iN (ys:=ss) so aH⟩⟩
end
abbrev T6T:Type:={ q:List Int×Bool // q.1.length<=60 }
instance bDx{I:List Atom}{v0 v1 v:Value}{x:aQ}{t:List Int}{s fuel:Int}[h0:eK Int I v0 x.1][h1:eK cM I v1 x.2][h2:eK Int I v t] :
  bQ prog 268 [.agg #[v0,v1],v,.int .i64 s,.int .i64 fuel] I (True) (Value×T6T) (fun q:Value×T6T=>.tuple #[q.1,.bool q.2.1.2]) (fun q=>.ow [q.1] q.2.1.1::I):=⟨fun _ w0=>by
 have hbd:∀ q:WbT,(pI q.1.1).length<=1000:=fun q=>by have:=q.2.end;omega
 refine aK func268 ntmps268 ?_
 repeat' (first|refine aU ?_|refine cV fun r hr=>?_|refine aW fun r=>?_|refine bG fun sv=>?_|refine bT fun b=>?_|refine bV fun hc=>?_|refine bW fun hc=>?_|refine aS (fun hc=>?_) fun hc=>?_|fail)
 ·exact⟨(sv,⟨([],false),aI _⟩),rfl,aH⟩
 ·have h1:=hbd r.2
  have h2:=r.2.2.end
  rename (Value×Value)×WbT=>q
  repeat' (first|refine aU ?_|refine cV fun r hr=>?_|refine aW fun r=>?_|fail)
  exact⟨(r,⟨(pI q.2.1.1,true),h2⟩),rfl,aH⟩⟩
end Go.Proofs.YtajdgkpjbpindaaGreatDoor
