/- Texts of the proof of FnNames. -/
import Derived.Test.YtajdgkpjbpindaaGreatDoorTaj
import Derived.Test.YtajdgkpjbpindaaGreatDoorTak
set_option linter.unusedVariables false
set_option linter.unusedSimpArgs false
set_option linter.unusedSectionVars false
namespace Go.Eng
open Go Go.RowKit
instance (priority:=400) bKh{I:List Atom}{V β:Type}{iα:cB V}{iβ:cB β}{a b:Value}{x:V}{y:β}[h:fK V iα I [a] x][h':fK β iβ I [b] y]:fK (V×β) eS I [a,b] (x,y):=⟨fun hs=>⟨[a],[b],rfl,h.get hs,h'.get hs⟩⟩
end Go.Eng
namespace Go.Proofs.YtajdgkpjbpindaaGreatDoor
open Go Go.Eng Tryz
set_option linter.unusedVariables false
set_option linter.unusedSimpArgs false
set_option synthInstance.maxHeartbeats 400000
set_option synthInstance.maxSize 1000
set_option maxHeartbeats 4000000
set_option maxRecDepth 20000
structure SgD(a:List Int):Prop where
 len:1<=a.length/\a.length<=4
 el:∀ q∈a,0<=q/\q<=2
theorem SgD.ok{a:List Int}(h:SgD a):eA a=true:=by
 unfold eA
 rw[cN,decide_eq_true_iff,List.all_eq_true]
 exact⟨by have:=h.len;omega,fun q hq=>by have:=h.el q hq;rw[decide_eq_true_iff];omega⟩
theorem SgD.snoc{a:List Int}{n:Int}(h:SgD a)(hl:a.length<=3)(hn:0<=n/\n<=2):SgD (a++[n]):=⟨by rw[aD,aJ];have:=h.len;omega,fun q hq=>by
 rcases aP.1 hq with h1|h1
 ·exact h.el q h1
 ·rw[aO] at h1;omega⟩
instance aBn{I Y:List Atom}{bc:Nat}{vb:Value}{code:List UInt8}{p:eL code}[hb:eO I bc (dV vb p) Y][hv:bK UInt8 Y vb code] :
  bQ prog 89 [.pointer (some ⟨bc,0,none⟩)] I (True) ({ q:Value×List Int×eL code // SgD q.2.1 }) (fun q:{ q:Value×List Int×eL code // SgD q.2.1 }=>.agg #[q.1.1]) (fun q=>.ow [q.1.1] q.1.2.1::.bk bc (dV vb q.1.2.2)::Y):=⟨fun _ w0=>by
 refine eN hb.perm ?_
 refine aK func89 ntmps89 ?_
 repeat' (first|refine aU ?_|refine cV fun r hr=>?_|refine aW fun r=>?_|refine bG fun sv=>?_|refine bT fun b=>?_|refine bV fun hc=>?_|refine bW fun hc=>?_|refine aS (fun hc=>?_) fun hc=>?_|fail)
 ·refine lp_ [4] [13,14,17,18,19,20,21,22,23,15,16] (Z:=Int×Value×List Int×eL code) (fun k=>[.int .i64 k.1]) (fun k=>[.bk b [k.2.1],.ow [k.2.1] k.2.2.1,.bk bc (dV vb k.2.2.2)]) (fun k=>k.1+k.2.2.1.length<=4/\SgD k.2.2.1) (fun k=>k.1.toNat) (r.1.1,sv,[0],r.1.2) [.bk b [sv],.ow [sv] ([0]:List Int),.bk bc (dV vb r.1.2)] ⟨by simp only[aF,aL];omega,⟨by simp,fun q hq=>by rw[aO] at hq;omega⟩⟩ ?_
  intro ⟨n,sw,a,p0⟩ u l' hl' ⟨hk,hk2⟩
  simp only[bM,List.map,List.set] at hl'
  subst hl'
  simp only[aA,aB] at hk hk2 ⊢
  have hk3:=hk2.len
  repeat' (first|refine aU ?_|refine bP ?_|refine bV fun hc=>?_|refine bW fun hc=>?_|refine aS (fun hc=>?_) fun hc=>?_|refine cV fun r hr=>?_|refine aW fun r=>?_|refine bG fun sv=>?_|refine wN 7 [5,7] ?_|refine xp ?_|refine x0 ?_|refine xy ?_|refine bI ?_|fail)
  ·exact eB (n-1,sv,a++[r.1.1],r.1.2) ⟨by simp only[aD,aF,aL];omega,hk2.snoc (by omega) (by omega)⟩
  ·exact⟨⟨(sw,a,p0),hk2⟩,rfl,aH⟩
 ·exact⟨⟨(sv,[2,1,0],r.2),⟨by simp,by simp⟩⟩,rfl,aH⟩⟩
attribute [local instance 2000] aBn
def jY(a t:List Int):Prop:=dS a (t.getD (t.length-1) 0)=false/\ar a (t.getD (t.length-1) 0)=0
theorem aAs{a:List Int}{n:Int}(h1:dS a n=false)(h2:ar a n=0):jY a [n]:=⟨h1,h2⟩
theorem pB{a:List Int}{x:Int}(hx:-24<=x/\x<0):jY a [x]:=aAs (by unfold dS;exact decide_eq_false (by omega)) (by unfold ar;rw[if_pos hx.2])
theorem pA{a:List Int}{k:Int}(hk:0<=k/\k<a.length)(h0:a.getD k.toNat 0=0):jY a [k]:=aAs (by unfold dS;exact decide_eq_false (by omega)) (by unfold ar;rw[if_neg (by omega)];exact h0)
theorem tD{a o t:List Int}(ht:1<=t.length)(h:jY a t):jY a (o++t):=by
 unfold jY at h ⊢
 have e:(o++t).getD ((o++t).length-1) 0=t.getD (t.length-1) 0:=by
  rw[aC,aC,aD,cP (by omega)]
  congr 2
  omega
 rw[e];exact h
theorem yX(N:Nat):∀ {w0:World} {I Y:List Atom} {bc:Nat} {vb va:Value} {code:List UInt8} {p:eL code} {a:List Int} {d v:Int} [hb:eO I bc (dV vb p) Y] [hv:bK UInt8 Y vb code] [ha:bK Int Y va a] (h:DrT N d a v),
  CJ prog 62 [.pointer (some ⟨bc,0,none⟩),.agg #[va],.int .i64 d,.int .i64 v] w0 I (fun q:{ q:Value×List Int×eL code // 1<=q.2.1.length/\2*q.2.1.length+1<=3 ^ N/\jY a q.2.1 }=>q.1.1) (fun q=>.ow [q.1.1] q.1.2.1::.bk bc (dV vb q.1.2.2)::Y):=by
 induction N with
 | zero=>
  intro w0 I Y bc vb va code p a d v hb hv ha h
  have:=h.dp
  omega
 | succ N ih=>
  intro w0 I Y bc vb va code p a d v hb hv ha h
  haveI hI:∀ (I Y:List Atom) (bc:Nat) (vb va:Value) (code:List UInt8) (p:eL code) (a:List Int) (d v:Int) [eO I bc (dV vb p) Y] [bK UInt8 Y vb code] [bK Int Y va a],bQ prog 62 [.pointer (some ⟨bc,0,none⟩),.agg #[va],.int .i64 d,.int .i64 v] I (DrT N d a v) { q:Value×List Int×eL code // 1<=q.2.1.length/\2*q.2.1.length+1<=3 ^ N/\jY a q.2.1 } (fun q=>q.1.1) (fun q=>.ow [q.1.1] q.1.2.1::.bk bc (dV vb q.1.2.2)::Y):=fun I Y bc vb va code p a d v _ _ _=>⟨fun h _=>ih h⟩
  refine eN hb.perm ?_
  have hdp:=h.dp
  have hvs:=h.vs
  have hal:=h.len
  have hM:3 ^ N<=81:=Nat.le_trans (Nat.pow_le_pow_right (by omega) (show N<=4 by omega)) (by decide)
  have hM1:1<=3 ^ N:=Nat.one_le_pow _ _ (by omega)
  rw[Nat.pow_succ]
  generalize hMe:3 ^ N=M at *
  refine aK func62 ntmps62 ?_
  repeat' (first|refine aU ?_|refine eF fun hbi=>?_|refine bP ?_|refine cV fun r hr=>?_|refine aW fun r=>?_|refine bG fun sv=>?_|refine bT fun b=>?_|refine bV fun hc=>?_|refine bW fun hc=>?_|refine aS (fun hc=>?_) fun hc=>?_|fail)
  ·exact⟨⟨(sv,[-1-r.1.1],r.1.2),⟨by simp only[aF,aL];omega,by simp only[aF,aL];omega,pB (by omega)⟩⟩,rfl,aH⟩
  ·refine lc_ [9] [34,35,38,39,40,41,42,43,44,45,8,36,37] (Z:=Int) (fun k=>[.int .i64 k]) (fun k=>-1<=k/\k<a.length) (fun k=>(k+1).toNat) ((a.length:Int)-1) (by omega) ?_
   intro k u l' hl' hk
   simp only[bM,List.map,List.set] at hl'
   subst hl'
   repeat' (first|refine aU ?_|refine eF fun hbi=>?_|refine bP ?_|refine bG fun sv=>?_|refine bV fun hc=>?_|refine bW fun hc=>?_|refine aS (fun hc=>?_) fun hc=>?_|fail)
   ·exact⟨⟨(sv,[k],r.2),⟨by simp only[aF,aL];omega,by simp only[aF,aL];omega,pA (by omega) (by assumption)⟩⟩,rfl,aH⟩
   ·exact eB (k-1) (by omega)
   ·exact⟨⟨(sv,[-1],r.2),⟨by simp only[aF,aL];omega,by simp only[aF,aL];omega,pB (by omega)⟩⟩,rfl,aH⟩
  ·refine lc_ [9] [34,35,38,39,40,41,42,43,44,45,8,36,37] (Z:=Int) (fun k=>[.int .i64 k]) (fun k=>-1<=k/\k<a.length) (fun k=>(k+1).toNat) ((a.length:Int)-1) (by omega) ?_
   intro k u l' hl' hk
   simp only[bM,List.map,List.set] at hl'
   subst hl'
   repeat' (first|refine aU ?_|refine eF fun hbi=>?_|refine bP ?_|refine bG fun sv=>?_|refine bV fun hc=>?_|refine bW fun hc=>?_|refine aS (fun hc=>?_) fun hc=>?_|fail)
   ·exact⟨⟨(sv,[k],p),⟨by simp only[aF,aL];omega,by simp only[aF,aL];omega,pA (by omega) (by assumption)⟩⟩,rfl,aH⟩
   ·exact eB (k-1) (by omega)
   ·exact⟨⟨(sv,[-1],p),⟨by simp only[aF,aL];omega,by simp only[aF,aL];omega,pB (by omega)⟩⟩,rfl,aH⟩
  ·exact⟨⟨(sv,[-1-r.1.1],r.1.2),⟨by simp only[aF,aL];omega,by simp only[aF,aL];omega,pB (by omega)⟩⟩,rfl,aH⟩
  ·refine lc_ [9] [34,35,38,39,40,41,42,43,44,45,8,36,37] (Z:=Int) (fun k=>[.int .i64 k]) (fun k=>-1<=k/\k<a.length) (fun k=>(k+1).toNat) ((a.length:Int)-1) (by omega) ?_
   intro k u l' hl' hk
   simp only[bM,List.map,List.set] at hl'
   subst hl'
   repeat' (first|refine aU ?_|refine eF fun hbi=>?_|refine bP ?_|refine bG fun sv=>?_|refine bV fun hc=>?_|refine bW fun hc=>?_|refine aS (fun hc=>?_) fun hc=>?_|fail)
   ·exact⟨⟨(sv,[k],r.2),⟨by simp only[aF,aL];omega,by simp only[aF,aL];omega,pA (by omega) (by assumption)⟩⟩,rfl,aH⟩
   ·exact eB (k-1) (by omega)
   ·exact⟨⟨(sv,[-1],r.2),⟨by simp only[aF,aL];omega,by simp only[aF,aL];omega,pB (by omega)⟩⟩,rfl,aH⟩
  ·refine lc_ [9] [34,35,38,39,40,41,42,43,44,45,8,36,37] (Z:=Int) (fun k=>[.int .i64 k]) (fun k=>-1<=k/\k<a.length) (fun k=>(k+1).toNat) ((a.length:Int)-1) (by omega) ?_
   intro k u l' hl' hk
   simp only[bM,List.map,List.set] at hl'
   subst hl'
   repeat' (first|refine aU ?_|refine eF fun hbi=>?_|refine bP ?_|refine bG fun sv=>?_|refine bV fun hc=>?_|refine bW fun hc=>?_|refine aS (fun hc=>?_) fun hc=>?_|fail)
   ·exact⟨⟨(sv,[k],r.2),⟨by simp only[aF,aL];omega,by simp only[aF,aL];omega,pA (by omega) (by assumption)⟩⟩,rfl,aH⟩
   ·exact eB (k-1) (by omega)
   ·exact⟨⟨(sv,[-1],r.2),⟨by simp only[aF,aL];omega,by simp only[aF,aL];omega,pB (by omega)⟩⟩,rfl,aH⟩
  ·have hak:=fM h.ok (k:=r.1.1.toNat) (by omega)
   have hD:DrT N (d-1) a v:=⟨h.ok,by omega,h.vs⟩
   have hm:a.getD r.1.1.toNat 0*((M:Int)-1)<=3*((M:Int)-1):=Int.mul_le_mul_of_nonneg_right hak.2 (by omega)
   refine lp_ [11,12] [59,60,63,64,65,66,67,68,69,70,61,62] (Z:=Value×List Int×Int×eL code) (fun k=>[k.1,.int .i64 k.2.2.1]) (fun k=>[.ow [k.1] k.2.1,.bk bc (dV vb k.2.2.2)]) (fun k=>0<=k.2.2.1/\k.2.2.1<=3/\1<=k.2.1.length/\2*(k.2.1.length:Int)+k.2.2.1*((M:Int)-1)<=3*M-1/\(jY a k.2.1∨k.2.1=[r.1.1]/\k.2.2.1=a.getD r.1.1.toNat 0)) (fun k=>k.2.2.1.toNat) (sv,[r.1.1],a.getD r.1.1.toNat 0,r.1.2) [.ow [sv] [r.1.1],.bk bc (dV vb r.1.2)] ⟨by simp only;omega,by simp only;omega,by simp,by simp only[aF,aL];omega,.inr ⟨rfl,rfl⟩⟩ ?_
   intro ⟨sw,o,k,p0⟩ u l' hl' ⟨hk0,hk3,hol,hk,hlo⟩
   have hf0:0<=r.1.1/\r.1.1<a.length:=by omega
   simp only[bM,List.map,List.set] at hl'
   subst hl'
   simp only[aA,aB] at hk0 hk3 hol hk hlo ⊢
   have hk1:0<=k*((M:Int)-1):=Int.mul_nonneg hk0 (by omega)
   repeat' (first|refine aU ?_|refine bP ?_|refine cV fun r hr=>?_|refine aW fun r=>?_|refine bG fun sv=>?_|refine bV fun hc=>?_|refine bW fun hc=>?_|refine aS (fun hc=>?_) fun hc=>?_|fail)
   ·have e:(k-1)*((M:Int)-1)=k*((M:Int)-1)-((M:Int)-1):=by rw[Int.sub_mul,Int.one_mul]
    exact eB (sv,o++r.1.2.1,k-1,r.1.2.2) ⟨by simp only;omega,by simp only;omega,by simp only[aD];omega,by simp only[aD];rw[e];omega,.inl (tD (by omega) r.2.2.2)⟩
   ·exact⟨⟨(sw,o,p0),⟨by simp only;omega,by simp only;omega,by
     rcases hlo with h1|⟨h1,h2⟩
     ·exact h1
     ·rw[h1];exact pA hf0 (by omega)⟩⟩,rfl,aH⟩
instance zL{I Y:List Atom}{bc:Nat}{vb va:Value}{code:List UInt8}{p:eL code}{a:List Int}{d v:Int}[hb:eO I bc (dV vb p) Y][hv:bK UInt8 Y vb code][ha:bK Int Y va a] :
  bQ prog 62 [.pointer (some ⟨bc,0,none⟩),.agg #[va],.int .i64 d,.int .i64 v] I (eA a=true/\1<=d/\d<=4/\0<=v/\v<=24) ({ q:Value×List Int×eL code // (1<=q.2.1.length/\q.2.1.length<=40)/\jY a q.2.1 }) (fun q:{ q:Value×List Int×eL code // (1<=q.2.1.length/\q.2.1.length<=40)/\jY a q.2.1 }=>q.1.1) (fun q=>.ow [q.1.1] q.1.2.1::.bk bc (dV vb q.1.2.2)::Y):=⟨fun h w0=>by
 exact jS (yX 4 (p:=p) ⟨h.1,by omega,by omega⟩) (fun q=>⟨⟨q.1,⟨q.2.1,by have:=q.2.2.1;omega⟩,q.2.2.2⟩,rfl,fun w h=>h⟩)⟩
attribute [local instance 2000] zL
theorem aWz{a t:List Int}(h1:1<=t.length)(h:jY a t):jR a (dS a) t (t.length-1)=t.length:=by
 unfold jR
 have hd:t.drop (t.length-1)=[t.getD (t.length-1) 0]:=by
  rw[fA (by omega),cI (by omega)]
 have hk:eQ a (dS a) [t.getD (t.length-1) 0] 1=(true,1):=by unfold eQ;rw[if_neg (by rw[h.1];decide),h.2];rfl
 rw[hd,hk,if_pos rfl]
 omega
instance aNu{I:List Atom}{v v':Value}{a t:List Int}{at_:Int}{k0:Nat}[hm:fJ at_ k0][h:bK Int I v a][h':eK Int I v' t] :
  bQ prog 125 [.agg #[v],v',.int .i64 at_] I (eA a=true/\jY a t/\(1<=t.length/\t.length<=200)/\at_=(t.length:Int)-1) ({ q:Value×List Int // q.2.length<=200 }) (fun p:{ q:Value×List Int // q.2.length<=200 }=>p.1.1) (fun p=>.ow [p.1.1] p.1.2::I):=⟨fun hs w0=>by
 obtain ⟨h1,h2,h3,h5⟩:=hs
 obtain rfl:k0=t.length-1:=by have:=hm.eq;omega
 have he:=aWz h3.1 h2
 refine aK func125 ntmps125 ?_
 repeat' (first|refine aU ?_|refine cV fun r hr=>?_|refine aW fun r=>?_|refine bG fun sv=>?_|refine bT fun b=>?_|fail)
 exact⟨⟨(r,(t.take (jR a (dS a) t (t.length-1)).toNat).drop (t.length-1)),by simp only[aR,aN];omega⟩,rfl,aH⟩⟩
attribute [local instance 2000] aNu
abbrev RlB(r:cM):Prop:=r.1.length<=200/\r.2.length<=200
instance aW4{I Y:List Atom}{bc:Nat}{vb va:Value}{code:List UInt8}{p:eL code}{a:List Int}[hb:eO I bc (dV vb p) Y][hv:bK UInt8 Y vb code][ha:bK Int Y va a] :
  bQ prog 90 [.pointer (some ⟨bc,0,none⟩),.agg #[va]] I (eA a=true) ({ q:Value×Value×cM×eL code // RlB q.2.2.1 }) (fun q:{ q:Value×Value×cM×eL code // RlB q.2.2.1 }=>.agg #[q.1.1,q.1.2.1]) (fun q=>.rd [q.1.1] q.1.2.2.1.1::.rd [q.1.2.1] q.1.2.2.1.2::.bk bc (dV vb q.1.2.2.2)::Y):=⟨fun h w0=>by
 refine eN hb.perm ?_
 have hal:=eC h
 refine aK func90 ntmps90 ?_
 repeat' (first|refine aU ?_|refine eF fun hbi=>?_|refine bP ?_|refine cV fun r hr=>?_|refine aW fun r=>?_|refine bG fun sv=>?_|refine bT fun b=>?_|refine bV fun hc=>?_|refine bW fun hc=>?_|refine aS (fun hc=>?_) fun hc=>?_|refine wN 1 [] ?_|refine wN 9 [] ?_|refine xp ?_|refine xy ?_|refine bI ?_|fail)
 ·have hak:=fM h (k:=r.1.1.toNat) (by omega)
  have hf0:0<=r.1.1/\r.1.1<a.length:=by omega
  refine lp_ [5,7] [33,34,37,38,39,40,41,35,36] (Z:=Value×List Int×Int×eL code) (fun k=>[k.1,.int .i64 k.2.2.1]) (fun k=>[.ow [k.1] k.2.1,.bk bc (dV vb k.2.2.2)]) (fun k=>0<=k.2.2.1/\k.2.2.1<=3/\1<=k.2.1.length/\k.2.1.length+40*k.2.2.1<=121/\(jY a k.2.1∨k.2.1=[r.1.1]/\k.2.2.1=a.getD r.1.1.toNat 0)) (fun k=>k.2.2.1.toNat) (sv,[r.1.1],a.getD r.1.1.toNat 0,r.1.2) [.ow [sv] [r.1.1],.bk bc (dV vb r.1.2)] ⟨by simp only;omega,by simp only;omega,by simp,by simp only[aF,aL];omega,.inr ⟨rfl,rfl⟩⟩ ?_
  intro ⟨lv,lt,k,p0⟩ u l' hl' ⟨hk0,hk3,hol,hk,hlo⟩
  simp only[bM,List.map,List.set] at hl'
  subst hl'
  simp only[aA,aB] at hk0 hk3 hol hk hlo ⊢
  repeat' (first|refine aU ?_|refine bP ?_|refine cV fun r hr=>?_|refine aW fun r=>?_|refine bG fun sv=>?_|refine bV fun hc=>?_|refine bW fun hc=>?_|refine aS (fun hc=>?_) fun hc=>?_|refine wN 9 [] ?_|refine xp ?_|refine xy ?_|refine bI ?_|fail)
  ·exact eB (sv,lt++r.1.2.1,k-1,r.1.2.2) ⟨by simp only;omega,by simp only;omega,by simp only[aD];omega,by simp only[aD];omega,.inl (tD (by omega) r.2.2)⟩
  have hla:jY a lt:=by
   rcases hlo with h1|⟨h1,h2⟩
   ·exact h1
   ·rw[h1];exact pA hf0 (by omega)
  obtain ⟨⟨wv,wt,wp⟩,hw1,hw2⟩:=r
  simp only at hw1 hw2 ⊢
  refine fC lv ?_
  have hll:1<=(lt).length/\(lt).length<=121:=by omega
  haveI:fJ (((lt).length:Int)-1) ((lt).length-1):=⟨by omega⟩
  have hsub:eA a=true/\jY a (lt)/\(1<=(lt).length/\(lt).length<=200)/\((lt).length:Int)-1=((lt).length:Int)-1:=⟨h,hla,by omega,rfl⟩
  refine lp_ [9] [48,49,50,51,54,55,56,57,58,59,60,61,62,63,64,65,66,67,68,69,10,70,71,72,73,74,75,76,77,78,79,80,81,82,83,84,85,86,52,53] (Z:=Nat×List Int) (fun k=>[.int .i64 k.1]) (fun k=>[.ow [wv] k.2]) (fun k=>k.1<=k.2.length/\k.2.length=wt.length) (fun k=>wt.length-k.1) (0,wt) [.ow [wv] wt] ⟨aI _,rfl⟩ ?_
  intro ⟨i,rt⟩ u l' hl' ⟨hi1,hi2⟩
  simp only[bM,List.map,List.set] at hl'
  subst hl'
  simp only[aA,aB] at hi1 hi2 ⊢
  have hol:=rV (lt) (lt).length
  repeat' (first|refine aU ?_|refine eF fun hbi=>?_|refine bP ?_|refine cV fun r hr=>?_|refine aW fun r=>?_|refine bV fun hc=>?_|refine bW fun hc=>?_|refine aS (fun hc=>?_) fun hc=>?_|fail)
  all_goals first
   | exact⟨⟨(lv,r.1.1,(lt,r.1.2),wp),⟨by simp only;omega,by simp only;omega⟩⟩,rfl,dJ r.1.1 aH⟩
   | exact eB (i+1,rt.set i ((kA (lt) (lt).length).getD 0 0)) ⟨by simp only[aV];omega,by simp only[aV];omega⟩
   | exact eB (i+1,rt) ⟨by simp only;omega,by simp only;omega⟩
   | exact⟨⟨(lv,wv,(lt,rt),wp),⟨by simp only;omega,by simp only;omega⟩⟩,rfl,dJ wv aH⟩
   | fail
 ·rename_i r1 hr1 _ _
  obtain ⟨⟨lv,lt,lp⟩,hlt,hla⟩:=r1
  simp only at hlt hla ⊢
  obtain ⟨⟨wv,wt,wp⟩,hw1,hw2⟩:=r
  simp only at hw1 hw2 ⊢
  refine fC lv ?_
  have hll:1<=(lt).length/\(lt).length<=121:=by omega
  haveI:fJ (((lt).length:Int)-1) ((lt).length-1):=⟨by omega⟩
  have hsub:eA a=true/\jY a (lt)/\(1<=(lt).length/\(lt).length<=200)/\((lt).length:Int)-1=((lt).length:Int)-1:=⟨h,hla,by omega,rfl⟩
  refine lp_ [9] [48,49,50,51,54,55,56,57,58,59,60,61,62,63,64,65,66,67,68,69,10,70,71,72,73,74,75,76,77,78,79,80,81,82,83,84,85,86,52,53] (Z:=Nat×List Int) (fun k=>[.int .i64 k.1]) (fun k=>[.ow [wv] k.2]) (fun k=>k.1<=k.2.length/\k.2.length=wt.length) (fun k=>wt.length-k.1) (0,wt) [.ow [wv] wt] ⟨aI _,rfl⟩ ?_
  intro ⟨i,rt⟩ u l' hl' ⟨hi1,hi2⟩
  simp only[bM,List.map,List.set] at hl'
  subst hl'
  simp only[aA,aB] at hi1 hi2 ⊢
  have hol:=rV (lt) (lt).length
  repeat' (first|refine aU ?_|refine eF fun hbi=>?_|refine bP ?_|refine cV fun r hr=>?_|refine aW fun r=>?_|refine bV fun hc=>?_|refine bW fun hc=>?_|refine aS (fun hc=>?_) fun hc=>?_|fail)
  all_goals first
   | exact⟨⟨(lv,r.1.1,(lt,r.1.2),wp),⟨by simp only;omega,by simp only;omega⟩⟩,rfl,dJ r.1.1 aH⟩
   | exact eB (i+1,rt.set i ((kA (lt) (lt).length).getD 0 0)) ⟨by simp only[aV];omega,by simp only[aV];omega⟩
   | exact eB (i+1,rt) ⟨by simp only;omega,by simp only;omega⟩
   | exact⟨⟨(lv,wv,(lt,rt),wp),⟨by simp only;omega,by simp only;omega⟩⟩,rfl,dJ wv aH⟩
   | fail⟩
abbrev KnF(x:aQ):Prop:=x.1.length<=4/\x.2.length<=3/\∀ r∈x.2,RlB r
abbrev KnS:Type:={ q:Value×Value×aQ // KnF q.2.2 }
instance bHi{I:List Atom}{k:Int} :
  bQ prog 88 [.int .i64 k] I True KnS (fun q:KnS=>.agg #[q.1.1,q.1.2.1]) (fun q=>.ow [q.1.1] q.1.2.2.1::.ow [q.1.2.1] q.1.2.2.2::I):=⟨fun _ w0=>by
 refine aK func88 ntmps88 ?_
 repeat' (first|refine aU ?_|refine bG fun sv=>?_|refine bT fun b=>?_|refine bV fun hc=>?_|refine bW fun hc=>?_|refine aS (fun hc=>?_) fun hc=>?_|fail)
 all_goals first
  | exact⟨⟨(_,_,([2,1,0],[([0,2,-1],[-1]),([0,1,-1,-2],[1,0,-1,-2])])),(show KnF ([2,1,0],[([0,2,-1],[-1]),([0,1,-1,-2],[1,0,-1,-2])]) by decide)⟩,rfl,aH⟩
  | exact⟨⟨(_,_,([2,1,0],[([0,0,-1,-2,-3],[0,-1,0,-2,-3])])),(show KnF ([2,1,0],[([0,0,-1,-2,-3],[0,-1,0,-2,-3])]) by decide)⟩,rfl,aH⟩
  | exact⟨⟨(_,_,([2,1,0],[([1,1,-1],[-1])])),(show KnF ([2,1,0],[([1,1,-1],[-1])]) by decide)⟩,rfl,aH⟩
  | exact⟨⟨(_,_,([2,1,0],[([1,-1],[1,1,-1])])),(show KnF ([2,1,0],[([1,-1],[1,1,-1])]) by decide)⟩,rfl,aH⟩
  | exact⟨⟨(_,_,([2,1,0],[([0,-1,-2],[-1]),([0,-1,-2],[-2])])),(show KnF ([2,1,0],[([0,-1,-2],[-1]),([0,-1,-2],[-2])]) by decide)⟩,rfl,aH⟩
  | exact⟨⟨(_,_,([2,1,0],[([0,-1,-2],[0,-2,-1])])),(show KnF ([2,1,0],[([0,-1,-2],[0,-2,-1])]) by decide)⟩,rfl,aH⟩
  | exact⟨⟨(_,_,([2,1,0],[([0,2,-1],[-1]),([0,1,-1,-1],[2]),([0,0,-1,-2,-3],[0,-1,0,-2,-3])])),(show KnF ([2,1,0],[([0,2,-1],[-1]),([0,1,-1,-1],[2]),([0,0,-1,-2,-3],[0,-1,0,-2,-3])]) by decide)⟩,rfl,aH⟩⟩
abbrev DsT(n:Nat)(code:List UInt8):Type:={ q:Value×Value×List Int×List (Sh cM)×eL code // q.2.2.1.length<=9/\q.2.2.2.1.length<=n/\∀ r∈q.2.2.2.1,RlB r.v }
theorem zT{xs:List (Sh cM)}{r:cM}(h:∀ r∈xs,RlB r.v)(hr:RlB r):∀ r'∈xs++[Sh.mk r],RlB r'.v:=fun r' hr'=>by
 rcases aP.1 hr' with h1|h1
 ·exact h r' h1
 ·rw[aO] at h1;rw[h1];exact hr
instance bLm{I Y:List Atom}{bc:Nat}{vb:Value}{code:List UInt8}{p:eL code}[hb:eO I bc (dV vb p) Y][hv:bK UInt8 Y vb code] :
  bQ prog 60 [.pointer (some ⟨bc,0,none⟩)] I (True) (DsT 3 code) (fun q:DsT 3 code=>.agg #[q.1.1,q.1.2.1]) (fun q=>.ow [q.1.1] q.1.2.2.1::.ow [q.1.2.1] q.1.2.2.2.1::.bk bc (dV vb q.1.2.2.2.2)::Y):=⟨fun _ w0=>by
 refine eN hb.perm ?_
 refine aK func60 ntmps60 ?_
 repeat' (first|refine aU ?_|refine cV fun r hr=>?_|refine aW fun r=>?_|refine bT fun b=>?_|refine bV fun hc=>?_|refine bW fun hc=>?_|refine aS (fun hc=>?_) fun hc=>?_|fail)
 ·rename_i r1 _
  exact⟨⟨(r.1.1,r.1.2.1,r.1.2.2.1,r.1.2.2.2.map Sh.mk,r1.1.2),⟨by simp only;omega,by simp only[aY];omega,fun x hx=>by
   obtain ⟨y,hy,e⟩:=dT.1 hx
   rw[← e];exact r.2.2.2 y hy⟩⟩,rfl,fun w hs=>(aH (I:=Atom.ow [r.1.2.1] (r.1.2.2.2.map Sh.mk)::_)) w (nP r.1.2.1 w hs)⟩
 ·rename_i r1 hr1
  obtain ⟨⟨va,a,pa⟩,ha⟩:=r1
  simp only at ha ⊢
  have hsg:=ha.ok
  have hal:=ha.len
  refine lp_ [4] [15,16,19,20,21,22,23,24,25,26,27,17,18] (Z:=Int×Value×List (Sh cM)×eL code) (fun k=>[.int .i64 k.1]) (fun k=>[.bk b [va,k.2.1],.ow [k.2.1] k.2.2.1,.bk bc (dV vb k.2.2.2)]) (fun k=>0<=k.1/\k.1+k.2.2.1.length<=3/\∀ r∈k.2.2.1,RlB r.v) (fun k=>k.1.toNat) (r.1.1,.slice none 0 0,[],r.1.2) [.bk b [va,.slice none 0 0],.ow [.slice none 0 0] ([]:List (Sh cM)),.bk bc (dV vb r.1.2)] ⟨by simp only;omega,by simp only[aL];omega,fun x hx=>by cases hx⟩ ?_
  intro ⟨n,rv,rs,p0⟩ u l' hl' ⟨hn,hnl,hrs⟩
  simp only[bM,List.map,List.set] at hl'
  subst hl'
  simp only[aA,aB] at hn hnl hrs ⊢
  repeat' (first|refine aU ?_|refine bP ?_|refine bV fun hc=>?_|refine bW fun hc=>?_|refine aS (fun hc=>?_) fun hc=>?_|refine cV fun r hr=>?_|refine aW fun r=>?_|refine bG fun sv=>?_|refine wN 7 [7,9] ?_|refine xp ?_|refine x0 ?_|refine xy ?_|refine bI ?_|fail)
  ·simp only[List.map_cons,List.map_nil]
   exact eB (n-1,sv,rs++[Sh.mk (r.1.2.2.1.1,r.1.2.2.1.2)],r.1.2.2.2) ⟨by simp only;omega,by simp only[aD,aF,aL];omega,zT hrs hr⟩
  ·exact⟨⟨(va,rv,a,rs,p0),⟨by simp only;omega,by simp only;omega,hrs⟩⟩,rfl,aH⟩⟩
theorem aHh{w0:World}{I Y:List Atom}{bc:Nat}{vb:Value}{code:List UInt8}{p:eL code}[hb:eO I bc (dV vb p) Y][hv:bK UInt8 Y vb code] :
  CJ prog 40 [.pointer (some ⟨bc,0,none⟩)] w0 I (fun q:DsT 13 code=>.agg #[q.1.1,q.1.2.1]) (fun q=>.ow [q.1.1] q.1.2.2.1::.ow [q.1.2.1] q.1.2.2.2.1::.bk bc (dV vb q.1.2.2.2.2)::Y):=by
 refine eN hb.perm ?_
 refine aK func40 ntmps40 ?_
 repeat' (first|refine aU ?_|refine cV fun r hr=>?_|refine aW fun r=>?_|refine bG fun sv=>?_|refine bT fun b=>?_|refine bV fun hc=>?_|refine bW fun hc=>?_|refine aS (fun hc=>?_) fun hc=>?_|refine wN 5 [12,14] ?_|refine xp ?_|refine x0 ?_|refine xy ?_|refine bI ?_|fail)
 ·rename_i bb d hd _ _ _ _ e he _
  obtain ⟨hd1,hd2,hd3⟩:=hd
  simp only[List.map_cons,List.map_nil]
  exact⟨⟨(d.1.1,sv,d.1.2.2.1,d.1.2.2.2.1++[Sh.mk (e.1.2.1,r.1.2.1)],r.1.2.2),⟨hd1,by simp only[aD,aF,aL];omega,zT hd3 ⟨by simp only;omega,by simp only;omega⟩⟩⟩,rfl,aH⟩
 ·rename_i bb d hd _ _ _ _ _
  obtain ⟨hd1,hd2,hd3⟩:=hd
  exact⟨⟨(r.1.1,d.1.2.1,r.1.2.1,d.1.2.2.2.1,r.1.2.2),⟨hr,by simp only;omega,hd3⟩⟩,rfl,aH⟩
 ·rename_i bb d hd _ _ _ _
  obtain ⟨⟨va,rv0,a,rs0,p0⟩,hd1,hd2,hd3⟩:=d
  simp only at hd1 hd2 hd3 ⊢
  refine lp_ [] [33,34,35,36,37,38,39,40,41,42,43,44] (Z:=Value×List (Sh cM)) (fun k=>[]) (fun k=>[.bk b [va,k.1],.ow [k.1] k.2]) (fun k=>k.2.length<=13/\∀ r∈k.2,RlB r.v) (fun k=>13-k.2.length) (rv0,rs0) [.bk b [va,rv0],.ow [rv0] rs0] ⟨by simp only;omega,hd3⟩ ?_
  intro ⟨rv,rs⟩ u l' hl' ⟨hk1,hk2⟩
  simp only[bM,List.map,List.set] at hl'
  subst hl'
  simp only[aA,aB] at hk1 hk2 ⊢
  repeat' (first|refine aU ?_|refine bG fun sv=>?_|refine bV fun hc=>?_|refine bW fun hc=>?_|refine aS (fun hc=>?_) fun hc=>?_|fail)
  ·refine vJ sv ?_
   simp only[List.map_cons,List.map_nil]
   repeat' (first|refine aU ?_|refine bG fun sv=>?_|fail)
   exact eB (sv,rs++[Sh.mk ([2],[2])]) ⟨by simp only[aD,aF,aL];omega,zT hk2 (by decide)⟩ (by simp only[aD,aF,aL];omega)
  ·exact⟨⟨(va,rv,a,rs,r.1.2),⟨hd1,hk1,hk2⟩⟩,rfl,aH⟩
 ·rename_i bb d hd _ _ _ _ _ _ _
  obtain ⟨hd1,hd2,hd3⟩:=hd
  refine vJ sv ?_
  simp only[List.map_cons,List.map_nil]
  repeat' (first|refine aU ?_|refine bG fun sv=>?_|fail)
  exact⟨⟨(d.1.1,sv,d.1.2.2.1,d.1.2.2.2.1++[Sh.mk ([-1],[-1])],r.1.2),⟨hd1,by simp only[aD,aF,aL];omega,zT hd3 (by decide)⟩⟩,rfl,aH⟩
 ·rename_i bb d
  obtain ⟨hd1,hd2,hd3⟩:=hr
  exact⟨⟨(d.1.1,d.1.2.1,d.1.2.2.1,d.1.2.2.2.1,r.2),⟨hd1,by simp only;omega,hd3⟩⟩,rfl,aH⟩
abbrev DaT(code:List UInt8):Type:={ q:Value×Value×aQ×eL code // q.2.2.1.1.length<=9/\q.2.2.1.2.length<=13/\∀ r∈q.2.2.1.2,RlB r }
theorem aZa(ts:List (Sh cM)):(ts.map Sh.v).map Sh.mk=ts:=by
 rw[List.map_map]
 exact(List.map_congr_left (fun _ _=>rfl)).trans (List.map_id ts)
instance bAj{I Y:List Atom}{bc:Nat}{vb:Value}{code:List UInt8}{p:eL code}[hb:eO I bc (dV vb p) Y][hv:bK UInt8 Y vb code] :
  bQ prog 40 [.pointer (some ⟨bc,0,none⟩)] I (True) (DaT code) (fun q:DaT code=>.agg #[q.1.1,q.1.2.1]) (fun q=>.rd [q.1.2.1] q.1.2.2.1.2::.rd [q.1.1] q.1.2.2.1.1::.bk bc (dV vb q.1.2.2.2)::Y):=⟨fun _ w0=>by
 refine jS (aHh (p:=p)) (fun q=>⟨⟨(q.1.1,q.1.2.1,(q.1.2.2.1,q.1.2.2.2.1.map Sh.v),q.1.2.2.2.2),⟨q.2.1,by simp only[aY];exact q.2.2.1,fun r hr=>by
  obtain ⟨y,hy,e⟩:=dT.1 hr
  rw[← e];exact q.2.2.2 y hy⟩⟩,rfl,fun w hs=>?_⟩)
 rw[← aZa q.1.2.2.2.1] at hs
 have h2:Ent w0 (.ow [q.1.1] q.1.2.2.1::.ow [q.1.2.1] ((q.1.2.2.2.1.map Sh.v).map Sh.mk)::.bk bc (dV vb q.1.2.2.2.2)::Y) (.rd [q.1.2.1] (q.1.2.2.2.1.map Sh.v)::.rd [q.1.1] q.1.2.2.1::.bk bc (dV vb q.1.2.2.2.2)::Y):=
  iN (ys:=q.1.2.2.2.1.map Sh.v) q.1.2.1 (dJ q.1.1 aH)
 exact h2 w hs⟩
end Go.Proofs.YtajdgkpjbpindaaGreatDoor

