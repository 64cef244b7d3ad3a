/- Texts of the proof of FnNames. -/
import Derived.Test.YtajdgkpjbpindaaGreatDoorTab
import Derived.Test.YtajdgkpjbpindaaGreatDoorTac
set_option linter.unusedVariables false
set_option linter.unusedSimpArgs false
set_option linter.unusedSectionVars false
namespace Go.Proofs.YtajdgkpjbpindaaGreatDoor
open Go Go.Eng
theorem oI{P:Program}{f:FuncId}{vs:List Value}{w0:World}{I:List Atom}{V:Type}{i:cB V}{cs:List Value}{x:V}{ρ:Type}{r:ρ->Value}{Γ':ρ->List Atom}[hr:fK V i I cs x](h:CJ P f vs w0 (@Atom.rd V i cs x::I) r Γ'):CJ P f vs w0 I r Γ':=fun w hs=>by
 obtain ⟨hbel,F,hnd,hl,hsep⟩:=hs
 exact h w ⟨hbel,F,hnd,hl,[],F,rfl,⟨rfl,hr.get hsep⟩,hsep⟩
end Go.Proofs.YtajdgkpjbpindaaGreatDoor
namespace Go.Proofs.YtajdgkpjbpindaaGreatDoor
open Go Go.Eng Tryz
set_option synthInstance.maxHeartbeats 400000
set_option synthInstance.maxSize 1000
set_option maxHeartbeats 4000000
set_option maxRecDepth 20000
instance l13EndW_ctr{I:List Atom}{v0 v:Value}{a t:List Int}{at_:Int}{k0:Nat}[hm:fJ at_ k0][h0:bK Int I v0 a][h2:bK Int I v t] :
  bQ prog 304 [.agg #[v0],v,.int .i64 at_] I (jO a t/\0<=at_/\at_<t.length) (Unit) (fun _:Unit=>.int .i64 (k0+szW a t k0:Nat)) (fun _=>I):=⟨fun hs w0=>by
 refine jV (fun w1=>?_) (aE h0 (aE h2 fI))
 obtain ⟨hs1,hs2,hs3⟩:=hs
 obtain rfl:at_=(k0:Int):=by have:=hm.eq;omega
 have hl:=hs1.len
 have hql:=gA t
 have hta:=fN hs1.ok (k:=k0) (by omega)
 have hsz:szW a t k0=sz a (iZ t) k0:=rfl
 refine aK func304 ntmps304 ?_
 repeat' (first|refine aU ?_|refine bT fun b=>?_|fail)
 refine lc_ [2,7] [8,9,10,11,12,13,14,15,16,17,18,19,20,21,22,23,24,25,26,27,28] (Z:=Nat×Nat) (fun k=>[.int .i64 k.1,.int .i64 k.2]) (fun k=>k0<=k.1/\k.1<=t.length/\k.2<=3*k.1+1/\(eQ a (dS a) ((iZ t).drop k.1) k.2).1=true/\k.1+(eQ a (dS a) ((iZ t).drop k.1) k.2).2=k0+sz a (iZ t) k0) (fun k=>t.length-k.1+(if k.2=0 then 0 else 1)) (k0,1) ⟨aM _,by omega,by omega,hta.1,rfl⟩ ?_
 intro ⟨k,m⟩ u l' hl' ⟨hk0,hk,hm3,h1,h2⟩
 simp only[bM,List.map,List.set] at hl'
 subst hl'
 simp only at hk0 hk hm3 h1 h2 ⊢
 cases m with
 | zero=>
  simp only[eQ] at h2
  repeat' (first|refine aU ?_|refine bV fun hc=>?_|refine bW fun hc=>?_|refine aS (fun hc=>?_) fun hc=>?_|fail)
  exact⟨(),iG (by omega),aH⟩
 | succ m=>
  by_cases hlt:k<t.length
  ·have hlt':k<(iZ t).length:=by omega
   have hg:=dY hs1.ok hlt'
   have hg2:=hs1.get hlt
   have hb:=iK (eI hs1.ok) hg.2
   have hgk:=mS hlt
   rw[fA hlt'] at h1 h2
   simp only[eQ] at h1 h2
   have hbad:dS a ((iZ t).getD k 0)=false:=by unfold dS;exact decide_eq_false (by omega)
   rw[if_neg (by rw[hbad];simp)] at h1 h2
   simp only at h1 h2
   rw[hgk] at h1 h2 hb
   by_cases hneg:0<=t.getD k 0
   ·rw[lA hneg] at h1 h2 hb
    have har:ar a (t.getD k 0)=a.getD (t.getD k 0).toNat 0:=by unfold ar;rw[if_neg (by omega)]
    repeat' (first|refine aU ?_|refine eF fun hbi=>?_|refine bP ?_|refine bV fun hc=>?_|refine bW fun hc=>?_|refine aS (fun hc=>?_) fun hc=>?_|refine wb 4 [] ?_|refine xf fun hbi=>?_|refine xp ?_|refine bI ?_|fail)
    rw[show((m+1:Nat):Int)+a.getD (t.getD k 0).toNat 0-1=((m+(ar a (t.getD k 0)).toNat:Nat):Int) by omega]
    exact eB (k+1,m+(ar a (t.getD k 0)).toNat) ⟨by simp only;omega,by simp only;omega,by simp only;omega,h1,by simp only;omega⟩ (by simp only[Nat.succ_ne_zero,if_false];split<;>omega)
   ·have hsn:=(aIr (t.getD k 0)).2 (by omega)
    have har:ar a (xW (t.getD k 0))=0:=by unfold ar;rw[if_pos hsn]
    rw[har] at h1 h2
    simp only[Int.toNat_zero,Nat.add_zero] at h1 h2
    repeat' (first|refine aU ?_|refine eF fun hbi=>?_|refine bP ?_|refine bV fun hc=>?_|refine bW fun hc=>?_|refine aS (fun hc=>?_) fun hc=>?_|fail)
    rw[show((m+1:Nat):Int)-1=(m:Int) by omega]
    exact eB (k+1,m) ⟨by simp only;omega,by simp only;omega,by simp only;omega,h1,by simp only;omega⟩ (by simp only[Nat.succ_ne_zero,if_false];split<;>omega)
  ·rw[cI (by omega)] at h1
   simp [eQ] at h1⟩
instance aDk{I:List Atom}{v0 v:Value}{a t:List Int}[h0:bK Int I v0 a][h2:eK Int I v t] :
  bQ prog 249 [.agg #[v0],v] I (jO a t/\0<=t.getD 0 0) (Value) (fun q:Value=>q) (fun q=>.ow [q] (fF a t (iA a t))::I):=⟨fun hs w0=>by
 obtain ⟨hs1,hs2⟩:=hs
 have hl:=hs1.len
 have hql:=gA t
 have hg:=hs1.get (k:=0) (by omega)
 have hN:iA a (iZ t)=iA a t:=by unfold iA;rw[mS (by omega),lA hs2]
 obtain ⟨hn1,hn2⟩:=uH hs1.ok
 rw[hN] at hn1 hn2
 rw[mS (by omega),lA hs2] at hn1
 have har:ar a (t.getD 0 0)=a.getD (t.getD 0 0).toNat 0:=by unfold ar;rw[if_neg (by omega)]
 refine aK func249 ntmps249 ?_
 repeat' (first|refine aU ?_|refine eF fun hbi=>?_|refine bP ?_|refine bG fun sv=>?_|refine bT fun b=>?_|refine bV fun hc=>?_|refine bW fun hc=>?_|refine aS (fun hc=>?_) fun hc=>?_|fail)
 refine aH1 (V:=List Int) (β:=Sh (List Int)) sv rfl ?_
 refine lp_ [5,6,7] [15,16,17,18,19,20,21,22,23,26,27,28,29,8,30,31,32,33,34,35,36,37,24,25] (Z:=Nat×Value) (fun k=>[k.2,.int .i64 (pC a (iZ t) k.1),.int .i64 k.1]) (fun k=>[.ow [k.2] (fF a t k.1)]) (fun k=>k.1<=iA a t) (fun k=>iA a t-k.1) (0,sv) [.ow [sv] ([]:List (Sh (List Int)))] (aI _) ?_
 intro ⟨k,sw⟩ u l' hl' hk
 simp only[bM,List.map,List.set] at hl'
 subst hl'
 simp only[aA,aB] at hk ⊢
 have hpl:=fS a t k
 have hlt:=fun h=>aHo hs1.ok (i:=k) h
 have hle:=(wK hs1.ok k (by omega)).1
 rw[hN] at hlt
 rw[hql] at hlt hle
 have hsz:=fun h=>hs1.at (hlt h).1
 have e:(t.take (pC a (iZ t) k+szW a t (pC a (iZ t) k))).drop (pC a (iZ t) k)=mK a t (pC a (iZ t) k):=by
  unfold mK;rw[List.drop_take];congr 1;omega
 by_cases hkn:k<iA a t
 ·have hsz1:=hsz hkn
  have hlt1:=hlt hkn
  repeat' (first|refine aU ?_|refine bP ?_|refine cV fun r hr=>?_|refine aW fun r=>?_|refine bG fun sv=>?_|refine bV fun hc=>?_|refine bW fun hc=>?_|refine aS (fun hc=>?_) fun hc=>?_|refine wb 6 [] ?_|refine xf fun hbi=>?_|refine xp ?_|refine bI ?_|fail)
  simp only[bH,List.map_cons,List.map_nil]
  rw[e,show fF a t k++[Sh.mk (mK a t (pC a (iZ t) k))]=fF a t (k+1) from rfl]
  exact eB (k+1,sv) (by simp only;omega)
 ·repeat' (first|refine aU ?_|refine bV fun hc=>?_|refine bW fun hc=>?_|refine aS (fun hc=>?_) fun hc=>?_|refine wb 6 [] ?_|refine xf fun hbi=>?_|refine xp ?_|refine bI ?_|fail)
  rw[show iA a t=k by omega]
  exact⟨_,rfl,aH⟩⟩
theorem aNv{t:List Int}{k:Nat}{n:Int}(h:k<t.length):lO (t.take (k+1)) n=lO (t.take k) n++[if t.getD k 0<0 then t.getD k 0-n else t.getD k 0]:=by
 rw[bC h,aC,aG h]
 unfold lO
 rw[cG]
 rfl
theorem aG4{w0:World}{I:List Atom}{v:Value}{t:List Int}[h:eK Int I v t](hs:t.length<=60/\∀ x∈t,-48<=x):CJ prog 306 [v,.int .i64 24] w0 I (fun q:Value=>q) (fun q=>.ow [q] (lO t 24)::I):=by
 obtain ⟨hl,hlo⟩:=hs
 refine aK func306 ntmps306 ?_
 repeat' (first|refine aU ?_|refine bG fun sv=>?_|fail)
 refine lp_ [5,6] [8,9,10,11,14,15,16,17,18,19,20,21,22,23,24,25,26,27,28,29,30,31,32,33,34,12,13] (Z:=Value×Nat) (fun k=>[k.1,.int .i64 k.2]) (fun k=>[.ow [k.1] (lO (t.take k.2) 24)]) (fun k=>k.2<=t.length) (fun k=>t.length-k.2) (sv,0) [.ow [sv] ([]:List Int)] (aI _) ?_
 intro ⟨sw,k⟩ u l' hl' hk
 simp only[bM,List.map,List.set] at hl'
 subst hl'
 simp only[aA,aB] at hk ⊢
 have hal:(lO (t.take k) 24).length<=60:=by rw[aEl,aN];omega
 by_cases hkl:k<t.length
 ·have hlk:=hlo _ (eD hkl)
  have hs:=aNv (n:=24) hkl
  by_cases hneg:t.getD k 0<0
  ·rw[if_pos hneg] at hs
   repeat' (first|refine aU ?_|refine eF fun hbi=>?_|refine bP ?_|refine bG fun sv=>?_|refine bV fun hc=>?_|refine bW fun hc=>?_|refine aS (fun hc=>?_) fun hc=>?_|fail)
   rw[← hs]
   exact eB (sv,k+1) (by simp only;omega)
  ·rw[if_neg hneg] at hs
   repeat' (first|refine aU ?_|refine eF fun hbi=>?_|refine bP ?_|refine bG fun sv=>?_|refine bV fun hc=>?_|refine bW fun hc=>?_|refine aS (fun hc=>?_) fun hc=>?_|fail)
   rw[← hs]
   exact eB (sv,k+1) (by simp only;omega)
 ·repeat' (first|refine aU ?_|refine bV fun hc=>?_|refine bW fun hc=>?_|refine aS (fun hc=>?_) fun hc=>?_|fail)
  rw[bE (by omega)]
  exact⟨sw,rfl,aH⟩
structure VOk(t:List Int):Prop where
 len:1<=t.length/\t.length<=60
 lo:∀ x∈t,-48<=x
 one:t.getD 0 0<0->t=[t.getD 0 0]
theorem jO.v{a t:List Int}(h:jO a t):VOk t:=⟨h.len,h.lo,h.var⟩
def iD(bs:List (Sh (List Int))):List (List Int):=bs.map Sh.v
theorem vD(bs:List (Sh (List Int))):(iD bs).length=bs.length:=aY ..
theorem aG1(bs:List (Sh (List Int)))(m:Nat):(bs.getD m default).v=(iD bs).getD m []:=by
 unfold iD
 rw[aC,aC,List.getElem?_map]
 cases bs[m]?<;>rfl
structure MeB(bs:List (Sh (List Int))):Prop where
 ex:∃ E ρ,Ex (iD bs) E ρ
 ok:∀ t∈iD bs,t=[]∨VOk t
theorem MeB.len{bs:List (Sh (List Int))}(h:MeB bs):bs.length=48:=by
 obtain ⟨E,ρ,hE⟩:=h.ex
 rw[← vD];exact hE.len
theorem MeB.at{bs:List (Sh (List Int))}(h:MeB bs){x:Int}(hx:-48<=x/\x<0)(h0:jU (iD bs) x≠[]):VOk (jU (iD bs) x)/\jU (iD bs) x∈iD bs:=by
 have hl:=h.len
 have hm:jU (iD bs) x∈iD bs:=by
  unfold jU
  rw[aC,aG (by rw[vD];omega)]
  exact cS _
 exact⟨(h.ok _ hm).resolve_left h0,hm⟩
inductive tP (bs:List (List Int)):List Int->List Int->Prop
 | rfl (t:List Int):tP bs t t
 | step (x:Int) (u:List Int):-48<=x->x<0->jU bs x≠[]->tP bs (jU bs x) u->tP bs [x] u
theorem tP.snoc{bs:List (List Int)}{t:List Int}{x:Int}(h:tP bs t [x])(h1:-48<=x)(h2:x<0)(h3:jU bs x≠[]):tP bs t (jU bs x):=by
 generalize e:[x]=u at h
 induction h with
 | rfl=>subst e;exact .step x _ h1 h2 h3 (.rfl _)
 | step y u a1 a2 a3 _ ih=>exact .step y _ a1 a2 a3 (ih e)
structure HdP(bs:List (Sh (List Int)))(t u:List Int):Prop where
 ok:VOk u
 fr:u.getD 0 0<0->jU (iD bs) (u.getD 0 0)=[]
 st:∀ E ρ,Ex (iD bs) E ρ->u.flatMap E=t.flatMap E
 mem:u=t∨u∈iD bs
 hd:tP (iD bs) t u
def hdM(ρ:Int->Nat)(t:List Int):Nat:=if t.getD 0 0<0 then ρ (t.getD 0 0)+1 else 0
theorem VOk.h0{t:List Int}(h:VOk t):-48<=t.getD 0 0:=h.lo _ (eD (by have:=h.len;omega))
theorem bFs{bs:List (Sh (List Int))}{t u:List Int}(hB:MeB bs)(ok:VOk u)(st:∀ E ρ,Ex (iD bs) E ρ->u.flatMap E=t.flatMap E)(h0:u.getD 0 0<0)(hne:jU (iD bs) (u.getD 0 0)≠[]) :
  VOk (jU (iD bs) (u.getD 0 0))/\(∀ E ρ,Ex (iD bs) E ρ->(jU (iD bs) (u.getD 0 0)).flatMap E=t.flatMap E)/\jU (iD bs) (u.getD 0 0)∈iD bs/\∀ E ρ,Ex (iD bs) E ρ->hdM ρ (jU (iD bs) (u.getD 0 0))<hdM ρ u:=by
 have hlo:=ok.h0
 obtain ⟨h1,h2⟩:=hB.at ⟨hlo,h0⟩ hne
 refine⟨h1,fun E ρ hE=>?_,h2,fun E ρ hE=>?_⟩
 ·have e1:=st E ρ hE
  rw[ok.one h0,List.flatMap_cons,List.flatMap_nil,cF,hE.bo _ hlo h0 hne] at e1
  exact e1
 ·unfold hdM
  rw[if_pos h0]
  split
  ·have:=(hE.rk _ hlo h0 hne _ (eD (t:=jU (iD bs) (u.getD 0 0)) (k:=0) (by have:=h1.len;omega))).2
   omega
  ·omega
instance bH2{I Y:List Atom}{bb:Nat}{sv vt:Value}{bs:List (Sh (List Int))}{t:List Int}[hb:gD I bb [sv]][h3:cQ (List (Sh (List Int))) bA I [sv] bs Y][hb1:gD Y bb [sv]][h2:eK Int Y vt t] :
  bQ prog 351 [.pointer (some ⟨bb,0,none⟩),vt] I (MeB bs/\VOk t) ({ q:Value×List Int // HdP bs t q.2 }) (fun q:{ q:Value×List Int // HdP bs t q.2 }=>q.1.1) (fun q=>.rd [q.1.1] q.1.2::.ow [sv] bs::Y):=⟨fun hs w0=>by
 refine eN h3.perm ?_
 refine oI (i:=bA) (cs:=[vt]) (x:=t) ?_
 obtain ⟨hB,hT⟩:=hs
 obtain ⟨EE,ρ,hE⟩:=hB.ex
 have hbl:=hB.len
 have hget:=aG1 bs
 refine aK func351 ntmps351 ?_
 repeat' (first|refine aU ?_|fail)
 refine lp_ [1] [5,6,7,8,9,10,11,12,13,14,15,16,17,18,19,20,21,22,23,24,25,26,27,28,29,30,31,32] (Z:=Value×List Int) (fun k=>[k.1]) (fun k=>[.rd [k.1] k.2]) (fun k=>VOk k.2/\(∀ E ρ,Ex (iD bs) E ρ->k.2.flatMap E=t.flatMap E)/\(k.2=t∨k.2∈iD bs)/\tP (iD bs) t k.2) (fun k=>hdM ρ k.2) (vt,t) [.rd [vt] t] ⟨hT,fun _ _ _=>rfl,.inl rfl,.rfl t⟩ ?_
 intro ⟨vu,x⟩ u l' hl' ⟨hk1,hk2,hk3,hk4⟩
 simp only[bM,List.map,List.set] at hl'
 subst hl'
 simp only[aA,aB] at hk1 hk2 hk3 hk4 ⊢
 have hx0:=hk1.h0
 have hxl:=hk1.len
 have he:(bs.getD (-1-x.getD 0 0).toNat default).v=jU (iD bs) (x.getD 0 0):=hget _
 repeat' (first|refine aU ?_|refine bV fun hc=>?_|refine bW fun hc=>?_|refine aS (fun hc=>?_) fun hc=>?_|((refine wb 1 [] ?_<;>refine bY 0 ?_<;>refine bY 1 ?_<;>(refine aMq 2 fun hbi=>?_)<;>refine bY 3 ?_<;>refine bY 4 ?_<;>(refine aD2 9 (fun hc=>?_) (fun hc=>?_)<;>(try first|(exfalso;omega)|with_reducible first|exact absurd rfl hc|exact absurd hc dU|exact absurd hc dU.symm)<;>first|refine iF 5 ?_|refine gJ 5 ?_)<;>(first|refine iF 6 ?_|refine gJ 6 ?_)<;>(first|refine iF 7 ?_|refine gJ 7 ?_)<;>(first|refine iF 8 ?_|refine gJ 8 ?_)<;>(first|refine iF 9 ?_|refine gJ 9 ?_)<;>(first|refine iF 10 ?_|refine gJ 10 ?_)<;>(first|refine iF 11 ?_|refine gJ 11 ?_)<;>(first|refine iF 12 ?_|refine gJ 12 ?_)<;>(first|refine iF 13 ?_|refine gJ 13 ?_)<;>(first|refine gJ 14 ?_|(refine bX 14 ?_<;>(repeat' (first|refine aU ?_|refine bG fun sv=>?_))))<;>(first|refine gJ 15 ?_|(refine bX 15 ?_<;>(repeat' refine aU ?_)))<;>(first|refine iF 16 ?_|refine gJ 16 ?_)<;>refine bY 17 ?_)<;>refine bI ?_)|((refine wb 2 [] ?_<;>refine bY 0 ?_<;>refine bY 1 ?_<;>refine bY 2 ?_<;>refine bY 3 ?_<;>refine bY 4 ?_<;>refine bY 5 ?_<;>(refine aMq 6 fun hbi=>?_)<;>refine bY 7 ?_<;>refine bY 8 ?_<;>(refine bX 9 ?_<;>(repeat' (first|refine aU ?_|refine bG fun sv=>?_)))<;>refine bY 10 ?_)<;>refine bI ?_)|fail)
 ·have hne:jU (iD bs) (x.getD 0 0)≠[]:=fun e=>by
   have hc2:(0:Int)<(bs.getD (-1-x.getD 0 0).toNat default).v.length:=by assumption
   rw[he,e] at hc2;simp at hc2
  obtain ⟨s1,s2,s3,s4⟩:=bFs hB hk1 hk2 (by omega) hne
  have hsn:tP (iD bs) t (bs.getD (-1-x.getD 0 0).toNat default).v:=by
   rw[he]
   rw[hk1.one (by omega)] at hk4
   exact hk4.snoc hx0 (by omega) hne
  rw[← he] at s1 s2 s3 s4
  exact eB (sv,(bs.getD (-1-x.getD 0 0).toNat default).v) ⟨s1,s2,.inr s3,hsn⟩ (s4 EE ρ hE)
 ·have hz:jU (iD bs) (x.getD 0 0)=[]:=by
   rw[← he]
   exact List.length_eq_zero_iff.1 (by omega)
  exact⟨⟨(vu,x),⟨hk1,fun _=>hz,hk2,hk3,hk4⟩⟩,rfl,aH⟩
 ·exact⟨⟨(vu,x),⟨hk1,fun h=>by simp only at h;omega,hk2,hk3,hk4⟩⟩,rfl,aH⟩⟩
end Go.Proofs.YtajdgkpjbpindaaGreatDoor
