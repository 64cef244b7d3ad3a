/- Texts of the proof of FnNames. -/
import Derived.Test.YtajdgkpjbpindaaGreatDoorTat
import Derived.Test.YtajdgkpjbpindaaGreatDoorTau
set_option linter.unusedVariables false
set_option linter.unusedSimpArgs false
set_option linter.unusedSectionVars false
namespace Go.Proofs.YtajdgkpjbpindaaGreatDoor
open Go Go.Eng Tryz
set_option synthInstance.maxHeartbeats 400000
set_option synthInstance.maxSize 1000
set_option maxHeartbeats 4000000
set_option maxRecDepth 20000
theorem aOz{a t:List Int}{p n:Nat}(h:(eQ a (dS a) (t.drop p) n).1=true):∀ i,i<=n->(eQ a (dS a) (t.drop p) i).1=true/\fO a t p i=p+(eQ a (dS a) (t.drop p) i).2
 | 0,_=>⟨by simp [eQ],by simp [eQ,fO]⟩
 | i+1,hi=>by
  obtain ⟨h1,h2⟩:=aOz h i (by omega)
  have h3:=(aGr h i (by omega)).1
  rw[show n-i=(n-(i+1))+1 by omega] at h3
  have h4:=(vF _ _ _ _ h3).1
  have h5:=iL a (dS a) (t.drop p) i 1
  rw[if_pos h1,List.drop_drop,← h2] at h5
  rw[h5]
  refine⟨h4,?_⟩
  show fO a t p i+sz a t (fO a t p i)=_
  unfold sz
  simp only
  omega
theorem bCe{a t:List Int}(h:bB a t=true){k:Nat}(hk:k<t.length):fO a t (k+1) (hC a t k)=k+sz a t k:=by
 have h1:=(fN h hk).1
 have h2:=(aOz (aKb h hk) _ (aM _)).2
 rw[h2]
 unfold sz
 rw[fA hk] at h1 ⊢
 simp only[eQ] at h1 ⊢
 by_cases hb:dS a (t.getD k 0)=true
 ·rw[if_pos hb] at h1;cases h1
 ·rw[if_neg hb,cR];unfold hC;omega
abbrev KsT:Type:={ l:List Int // l.length<=3/\∀ q∈l,0<=q/\q<60 }
theorem bOu{a t:List Int}(h:bB a t=true){k:Nat}(hk:k<t.length):(lL a t k (hC a t k)).length<=3/\∀ q∈lL a t k (hC a t k),0<=q/\q<60:=by
 refine⟨by rw[nS];exact(pR h hk).1,fun q hq=>?_⟩
 unfold lL at hq
 obtain ⟨i,hi,rfl⟩:=dT.1 hq
 have:=(kQ h hk (List.mem_range.1 hi)).2
 have:=(aX h).2
 omega
theorem bG4{w0:World}{I:List Atom}{v v1:Value}{a t:List Int}{at_:Int}[h:bK Int I v a][h1:bK Int I v1 t] :
  CJ prog 344 [.agg #[v],v1,.int .i64 at_] w0 I (fun q:Value×KsT=>q.1) (fun q=>.ow [q.1] q.2.1::I):=by
 refine cL (A:=fun q:Value×KsT=>[.ow [q.1] q.2.1]) (fun w1=>?_) (aE h (aE h1 fI)) fun _=>inferInstance
 simp only[aA,aB]
 refine aK func344 ntmps344 ?_
 repeat' (first|refine aU ?_|refine cV fun r hr=>?_|refine aW fun r=>?_|refine bG fun sv=>?_|refine bT fun b=>?_|refine bV fun hc=>?_|refine bW fun hc=>?_|refine aS (fun hc=>?_) fun hc=>?_|fail)
 ·exact⟨(sv,⟨[],by decide,fun q hq=>absurd hq (by simp)⟩),rfl,aH⟩
 ·exact⟨(sv,⟨[],by decide,fun q hq=>absurd hq (by simp)⟩),rfl,aH⟩
 exact⟨(r,⟨lL a t at_.toNat (hC a t at_.toNat),bOu (by assumption) (by omega)⟩),rfl,aH⟩
instance bF0{I:List Atom}{v v1:Value}{a t:List Int}{at_ p:Int}{k0:Nat}[hm:fJ at_ k0][h:bK Int I v a][h1:bK Int I v1 t] :
  bQ prog 258 [.agg #[v],v1,.int .i64 at_,.int .i64 p] I (bB a t=true/\0<=at_/\at_<t.length) (Unit) (fun _:Unit=>.bool (decide (at_<=p/\p<=at_+sz a t k0-1))) (fun _=>I):=⟨fun hs w0=>by
 refine jV (fun w1=>?_) (aE h (aE h1 fI))
 obtain ⟨ht,h0,h1⟩:=hs
 obtain rfl:at_=(k0:Int):=by have:=hm.eq;omega
 have htl:=aX ht
 have hsa:=eI ht
 have he:=aKv ht (k:=k0) (by omega)
 have hz:=(fN ht (k:=k0) (by omega)).2
 refine aK func258 ntmps258 ?_
 repeat' (first|refine aU ?_|refine bP ?_|refine cV fun r hr=>?_|refine aW fun r=>?_|refine bT fun b=>?_|fail)
 rw[he]
 exact⟨(),bO (decide_eq_decide.2 (by omega)),aH⟩⟩
abbrev PhT:Type:={ l:List Int // l.length<=60/\∀ q∈l,0<=q/\q<=2 }
instance bL7{I:List Atom}{v v1:Value}{a t:List Int}{at_:Int}{k0:Nat}[hm:fJ at_ k0][h:bK Int I v a][h1:bK Int I v1 t] :
  bQ prog 190 [.agg #[v],v1,.int .i64 at_] I (bB a t=true/\0<=at_/\at_<t.length) (Value×PhT) (fun q:Value×PhT=>q.1) (fun q=>.ow [q.1] q.2.1::I):=⟨fun hs w0=>by
 refine cL (A:=fun q:Value×PhT=>[.ow [q.1] q.2.1]) (fun w1=>?_) (aE h (aE h1 fI)) fun _=>inferInstance
 simp only[aA,aB]
 obtain ⟨ht,h0,h1⟩:=hs
 obtain rfl:at_=(k0:Int):=by have:=hm.eq;omega
 have htl:=aX ht
 have h60:sz a t 0=t.length:=by
  have:=(fE.1 ht).2.2.2
  unfold sz;rw[List.drop_zero,this]
 refine aK func190 ntmps190 ?_
 repeat' (first|refine aU ?_|refine bG fun sv=>?_|refine bT fun b=>?_|fail)
 refine lp_ [7,8] [12,13,14,15,16,17,18,9,10,19,20,21,22,25,26,27,28,29,30,31,32,33,34,35,36,37,38,39,40,23,24] (Z:=(Value×List Int)×Nat) (fun k=>[k.1.1,.int .i64 k.2]) (fun k=>[.ow [k.1.1] k.1.2]) (fun k=>k.2<=k0/\k0<k.2+sz a t k.2/\k.1.2.length<=k.2/\∀ q∈k.1.2,0<=q/\q<=2) (fun k=>k0-k.2) ((sv,[]),0) [.ow [sv] ([]:List Int)] ⟨aI _,by simp only;omega,aM _,fun q hq=>absurd hq (by simp)⟩ ?_
 intro ⟨⟨so,l⟩,p⟩ u l' hl' ⟨hp,hpz,hll,hel⟩
 simp only[bM,List.map,List.set] at hl'
 subst hl'
 simp only[aA,aB] at hp hpz hll hel ⊢
 by_cases hpk:p=k0
 ·subst hpk
  repeat' (first|refine aU ?_|refine bV fun hc=>?_|refine bW fun hc=>?_|refine aS (fun hc=>?_) fun hc=>?_|fail)
  exact⟨(so,⟨l,by omega,hel⟩),rfl,aH⟩
 ·have hpt:p<t.length:=by omega
  have hke:=bCe ht hpt
  have har:=(pR ht hpt).1
  have hkl:=nS a t p (hC a t p)
  repeat' (first|refine aU ?_|refine cV fun r hr=>?_|refine aW fun r=>?_|refine bV fun hc=>?_|refine bW fun hc=>?_|refine aS (fun hc=>?_) fun hc=>?_|fail)
  refine lc_ [7,8,10] [19,20,21,22,25,26,27,28,29,30,31,32,33,34,35,36,37,38,39,40,23,24] (Z:=Nat) (fun k=>[so,.int .i64 p,.int .i64 k]) (fun k=>k<=hC a t p/\fO a t (p+1) k<=k0) (fun k=>hC a t p-k) 0 ⟨aI _,by show p+1<=k0;omega⟩ ?_
  intro k u2 l2 hl2 ⟨hk,hkk⟩
  simp only[bM,List.map,List.set] at hl2
  subst hl2
  by_cases hka:k<hC a t p
  ·have hkt:=kQ ht hpt hka
   have hg:=vN (a:=a) (t:=t) (k:=p) hka
   have hsz:=(fN ht hkt.2).2
   have hks:fO a t (p+1) (k+1)=fO a t (p+1) k+sz a t (fO a t (p+1) k):=rfl
   repeat' (first|refine aU ?_|refine eF fun hbi=>?_|refine bP ?_|refine bG fun sv=>?_|with_reducible refine qY rfl ?_|refine bV fun hc=>?_|refine bW fun hc=>?_|refine aS (fun hc=>?_) fun hc=>?_|refine cV fun r hr=>?_|refine aW fun r=>?_|refine wb 8 [] ?_|refine xf fun hbi=>?_|refine xp ?_|refine xy ?_|refine bI ?_|fail)
   all_goals rw[hg] at hc
   all_goals try rw[bH] at hc
   all_goals try rw[hg]
   ·exact eB ((sv,l++[(k:Int)]),fO a t (p+1) k) ⟨by simp only;omega,by simp only;omega,by simp only[aD,aJ];omega,fun q hq=>(aP.1 hq).elim (hel q) fun h=>by rw[aO] at h;omega⟩
   ·exact eB (k+1) ⟨by omega,by omega⟩
  ·obtain rfl:k=hC a t p:=by omega
   exfalso;omega⟩
instance bIx{I:List Atom}{v v1:Value}{a t:List Int}{at_:Int}[h:bK Int I v a][h1:bK Int I v1 t] :
  bQ prog 142 [.agg #[v],v1,.int .i64 at_] I (True) (Value×PhT) (fun q:Value×PhT=>q.1) (fun q=>.ow [q.1] q.2.1::I):=⟨fun _ w0=>by
 refine cL (A:=fun q:Value×PhT=>[.ow [q.1] q.2.1]) (fun w1=>?_) (aE h (aE h1 fI)) fun _=>inferInstance
 simp only[aA,aB]
 refine aK func142 ntmps142 ?_
 repeat' (first|refine aU ?_|refine cV fun r hr=>?_|refine aW fun r=>?_|refine bG fun sv=>?_|refine bT fun b=>?_|refine bV fun hc=>?_|refine bW fun hc=>?_|refine aS (fun hc=>?_) fun hc=>?_|fail)
 ·exact⟨(sv,⟨[],by decide,fun q hq=>absurd hq (by simp)⟩),rfl,aH⟩
 ·exact⟨r,rfl,aH⟩⟩
instance bF3{I:List Atom}{v v1 v2:Value}{a t ph:List Int}[h:bK Int I v a][h1:bK Int I v1 t][h2:bK Int I v2 ph] :
  bQ prog 141 [.agg #[v],v1,v2] I (True) ({ n:Int // -1<=n/\n<60 }) (fun q:{ n:Int // -1<=n/\n<60 }=>.int .i64 q.1) (fun _=>I):=⟨fun _ w0=>by
 refine jV (fun w1=>?_) (aE h (aE h1 (aE h2 fI)))
 refine dQ v2 fun hlp=>?_
 refine aK func141 ntmps141 ?_
 repeat' (first|refine aU ?_|refine cV fun r hr=>?_|refine aW fun r=>?_|refine bT fun b=>?_|refine bV fun hc=>?_|refine bW fun hc=>?_|refine aS (fun hc=>?_) fun hc=>?_|fail)
 ·exact⟨⟨-1,by decide⟩,rfl,aH⟩
 have ht:bB a t=true:=by assumption
 have htl:=aX ht
 refine lc_ [7,8] [14,15,16,17,20,21,22,23,9,24,25,26,27,28,29,30,31,32,6,33,34,35,36,37,38,39,18,19] (Z:=Nat×Nat) (fun k=>[.int .i64 k.1,.int .i64 k.2]) (fun k=>k.2<=ph.length/\k.1<t.length) (fun k=>ph.length-k.2) (0,0) ⟨aI _,by simp only;omega⟩ ?_
 intro ⟨p,i⟩ u l' hl' ⟨hi,hp⟩
 simp only[bM,List.map,List.set] at hl'
 subst hl'
 simp only at hi hp ⊢
 by_cases hil:i<ph.length
 ·have hkl:=nS a t p (hC a t p)
  have har:=(pR ht hp).1
  repeat' (first|refine aU ?_|refine eF fun hbi=>?_|refine bP ?_|refine cV fun r hr=>?_|refine aW fun r=>?_|refine bV fun hc=>?_|refine bW fun hc=>?_|refine aS (fun hc=>?_) fun hc=>?_|fail)
  ·exact⟨⟨-1,by decide⟩,rfl,aH⟩
  ·have hka:(ph.getD i 0).toNat<hC a t p:=by omega
   have hkt:=kQ ht hp hka
   have hg:=vN (a:=a) (t:=t) (k:=p) hka
   rw[hg]
   exact eB (fO a t (p+1) (ph.getD i 0).toNat,i+1) ⟨by simp only;omega,hkt.2⟩
 ·repeat' (first|refine aU ?_|refine bV fun hc=>?_|refine bW fun hc=>?_|refine aS (fun hc=>?_) fun hc=>?_|fail)
  exact⟨⟨p,by omega,by omega⟩,rfl,aH⟩⟩
end Go.Proofs.YtajdgkpjbpindaaGreatDoor
