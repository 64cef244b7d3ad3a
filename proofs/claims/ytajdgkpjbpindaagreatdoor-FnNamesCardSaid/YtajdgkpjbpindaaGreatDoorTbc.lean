/- Texts of the proof of FnNames. -/
import Derived.Test.YtajdgkpjbpindaaGreatDoorTal
import Derived.Test.YtajdgkpjbpindaaGreatDoorTap
set_option linter.unusedVariables false
set_option linter.unusedSimpArgs false
set_option linter.unusedSectionVars false
namespace Go.Proofs.YtajdgkpjbpindaaGreatDoor
open Go Go.Eng Tryz
set_option synthInstance.maxHeartbeats 400000
set_option synthInstance.maxSize 1000
set_option maxHeartbeats 4000000
set_option maxRecDepth 20000
theorem aIa{a:List Int}{k:Int}(hk:0<=k/\k<a.length)(h0:a.getD k.toNat 0=0):Tm a [k]:=tO (ks:=[]) (by unfold dS;exact decide_eq_false (by omega)) (by unfold ar;rw[if_neg (by omega),h0];rfl) (fun k hk=>absurd hk (by simp))
theorem zD(N:Nat):∀ {w0:World} {I Y:List Atom} {bc:Nat} {vb va:Value} {code:List UInt8} {p:eL code} {a:List Int} {d v:Int} [hb:eO I bc (dV vb p) Y] [hv:bK UInt8 Y vb code] [ha:bK Int Y va a] (h:DrT N d a v),
  CJ prog 62 [.pointer (some ⟨bc,0,none⟩),.agg #[va],.int .i64 d,.int .i64 v] w0 I (fun q:{ q:Value×List Int×eL code // 1<=q.2.1.length/\2*q.2.1.length+1<=3 ^ N/\Tm a q.2.1 }=>q.1.1) (fun q=>.ow [q.1.1] q.1.2.1::.bk bc (dV vb q.1.2.2)::Y):=by
 induction N with
 | zero=>
  intro w0 I Y bc vb va code p a d v hb hv ha h
  have:=h.dp
  omega
 | succ N ih=>
  intro w0 I Y bc vb va code p a d v hb hv ha h
  haveI hI:∀ (I Y:List Atom) (bc:Nat) (vb va:Value) (code:List UInt8) (p:eL code) (a:List Int) (d v:Int) [eO I bc (dV vb p) Y] [bK UInt8 Y vb code] [bK Int Y va a],bQ prog 62 [.pointer (some ⟨bc,0,none⟩),.agg #[va],.int .i64 d,.int .i64 v] I (DrT N d a v) { q:Value×List Int×eL code // 1<=q.2.1.length/\2*q.2.1.length+1<=3 ^ N/\Tm a q.2.1 } (fun q=>q.1.1) (fun q=>.ow [q.1.1] q.1.2.1::.bk bc (dV vb q.1.2.2)::Y):=fun I Y bc vb va code p a d v _ _ _=>⟨fun h _=>ih h⟩
  refine eN hb.perm ?_
  have hdp:=h.dp
  have hvs:=h.vs
  have hal:=h.len
  have hM:3 ^ N<=81:=Nat.le_trans (Nat.pow_le_pow_right (by omega) (show N<=4 by omega)) (by decide)
  have hM1:1<=3 ^ N:=Nat.one_le_pow _ _ (by omega)
  rw[Nat.pow_succ]
  generalize hMe:3 ^ N=M at *
  refine aK func62 ntmps62 ?_
  repeat' (first|refine aU ?_|refine eF fun hbi=>?_|refine bP ?_|refine cV fun r hr=>?_|refine aW fun r=>?_|refine bG fun sv=>?_|refine bT fun b=>?_|refine bV fun hc=>?_|refine bW fun hc=>?_|refine aS (fun hc=>?_) fun hc=>?_|fail)
  ·exact⟨⟨(sv,[-1-r.1.1],r.1.2),⟨by simp only[aF,aL];omega,by simp only[aF,aL];omega,tW (by omega)⟩⟩,rfl,aH⟩
  ·refine lc_ [9] [34,35,38,39,40,41,42,43,44,45,8,36,37] (Z:=Int) (fun k=>[.int .i64 k]) (fun k=>-1<=k/\k<a.length) (fun k=>(k+1).toNat) ((a.length:Int)-1) (by omega) ?_
   intro k u l' hl' hk
   simp only[bM,List.map,List.set] at hl'
   subst hl'
   repeat' (first|refine aU ?_|refine eF fun hbi=>?_|refine bP ?_|refine bG fun sv=>?_|refine bV fun hc=>?_|refine bW fun hc=>?_|refine aS (fun hc=>?_) fun hc=>?_|fail)
   ·exact⟨⟨(sv,[k],r.2),⟨by simp only[aF,aL];omega,by simp only[aF,aL];omega,aIa (by omega) (by assumption)⟩⟩,rfl,aH⟩
   ·exact eB (k-1) (by omega)
   ·exact⟨⟨(sv,[-1],r.2),⟨by simp only[aF,aL];omega,by simp only[aF,aL];omega,tW (by omega)⟩⟩,rfl,aH⟩
  ·refine lc_ [9] [34,35,38,39,40,41,42,43,44,45,8,36,37] (Z:=Int) (fun k=>[.int .i64 k]) (fun k=>-1<=k/\k<a.length) (fun k=>(k+1).toNat) ((a.length:Int)-1) (by omega) ?_
   intro k u l' hl' hk
   simp only[bM,List.map,List.set] at hl'
   subst hl'
   repeat' (first|refine aU ?_|refine eF fun hbi=>?_|refine bP ?_|refine bG fun sv=>?_|refine bV fun hc=>?_|refine bW fun hc=>?_|refine aS (fun hc=>?_) fun hc=>?_|fail)
   ·exact⟨⟨(sv,[k],p),⟨by simp only[aF,aL];omega,by simp only[aF,aL];omega,aIa (by omega) (by assumption)⟩⟩,rfl,aH⟩
   ·exact eB (k-1) (by omega)
   ·exact⟨⟨(sv,[-1],p),⟨by simp only[aF,aL];omega,by simp only[aF,aL];omega,tW (by omega)⟩⟩,rfl,aH⟩
  ·exact⟨⟨(sv,[-1-r.1.1],r.1.2),⟨by simp only[aF,aL];omega,by simp only[aF,aL];omega,tW (by omega)⟩⟩,rfl,aH⟩
  ·refine lc_ [9] [34,35,38,39,40,41,42,43,44,45,8,36,37] (Z:=Int) (fun k=>[.int .i64 k]) (fun k=>-1<=k/\k<a.length) (fun k=>(k+1).toNat) ((a.length:Int)-1) (by omega) ?_
   intro k u l' hl' hk
   simp only[bM,List.map,List.set] at hl'
   subst hl'
   repeat' (first|refine aU ?_|refine eF fun hbi=>?_|refine bP ?_|refine bG fun sv=>?_|refine bV fun hc=>?_|refine bW fun hc=>?_|refine aS (fun hc=>?_) fun hc=>?_|fail)
   ·exact⟨⟨(sv,[k],r.2),⟨by simp only[aF,aL];omega,by simp only[aF,aL];omega,aIa (by omega) (by assumption)⟩⟩,rfl,aH⟩
   ·exact eB (k-1) (by omega)
   ·exact⟨⟨(sv,[-1],r.2),⟨by simp only[aF,aL];omega,by simp only[aF,aL];omega,tW (by omega)⟩⟩,rfl,aH⟩
  ·refine lc_ [9] [34,35,38,39,40,41,42,43,44,45,8,36,37] (Z:=Int) (fun k=>[.int .i64 k]) (fun k=>-1<=k/\k<a.length) (fun k=>(k+1).toNat) ((a.length:Int)-1) (by omega) ?_
   intro k u l' hl' hk
   simp only[bM,List.map,List.set] at hl'
   subst hl'
   repeat' (first|refine aU ?_|refine eF fun hbi=>?_|refine bP ?_|refine bG fun sv=>?_|refine bV fun hc=>?_|refine bW fun hc=>?_|refine aS (fun hc=>?_) fun hc=>?_|fail)
   ·exact⟨⟨(sv,[k],r.2),⟨by simp only[aF,aL];omega,by simp only[aF,aL];omega,aIa (by omega) (by assumption)⟩⟩,rfl,aH⟩
   ·exact eB (k-1) (by omega)
   ·exact⟨⟨(sv,[-1],r.2),⟨by simp only[aF,aL];omega,by simp only[aF,aL];omega,tW (by omega)⟩⟩,rfl,aH⟩
  ·have hak:=fM h.ok (k:=r.1.1.toNat) (by omega)
   have hD:DrT N (d-1) a v:=⟨h.ok,by omega,h.vs⟩
   have hm:a.getD r.1.1.toNat 0*((M:Int)-1)<=3*((M:Int)-1):=Int.mul_le_mul_of_nonneg_right hak.2 (by omega)
   refine lp_ [11,12] [59,60,63,64,65,66,67,68,69,70,61,62] (Z:=Value×List Int×Int×eL code) (fun k=>[k.1,.int .i64 k.2.2.1]) (fun k=>[.ow [k.1] k.2.1,.bk bc (dV vb k.2.2.2)]) (fun k=>0<=k.2.2.1/\k.2.2.1<=3/\1<=k.2.1.length/\2*(k.2.1.length:Int)+k.2.2.1*((M:Int)-1)<=3*M-1/\(∃ ks,Tms a ks/\k.2.1=r.1.1::ks.flatten/\(ks.length:Int)+k.2.2.1=a.getD r.1.1.toNat 0)) (fun k=>k.2.2.1.toNat) (sv,[r.1.1],a.getD r.1.1.toNat 0,r.1.2) [.ow [sv] [r.1.1],.bk bc (dV vb r.1.2)] ⟨by simp only;omega,by simp only;omega,by simp,by simp only[aF,aL];omega,[],fun k hk=>absurd hk (by simp),rfl,by simp⟩ ?_
   intro ⟨sw,o,k,p0⟩ u l' hl' ⟨hk0,hk3,hol,hk,ks,hks,ho,hkn⟩
   have hf0:0<=r.1.1/\r.1.1<a.length:=by omega
   simp only[bM,List.map,List.set] at hl'
   subst hl'
   simp only[aA,aB] at hk0 hk3 hol hk hks ho hkn ⊢
   have hk1:0<=k*((M:Int)-1):=Int.mul_nonneg hk0 (by omega)
   repeat' (first|refine aU ?_|refine bP ?_|refine cV fun r hr=>?_|refine aW fun r=>?_|refine bG fun sv=>?_|refine bV fun hc=>?_|refine bW fun hc=>?_|refine aS (fun hc=>?_) fun hc=>?_|fail)
   ·have e:(k-1)*((M:Int)-1)=k*((M:Int)-1)-((M:Int)-1):=by rw[Int.sub_mul,Int.one_mul]
    exact eB (sv,o++r.1.2.1,k-1,r.1.2.2) ⟨by simp only;omega,by simp only;omega,by simp only[aD];omega,by simp only[aD];rw[e];omega,ks++[r.1.2.1],fun z hz=>(aP.1 hz).elim (hks z) (fun h=>by rw[aO] at h;rw[h];exact r.2.2.2),by rw[ho,List.flatten_append];simp,by simp only[aD,aJ];omega⟩
   ·exact⟨⟨(sw,o,p0),⟨by simp only;omega,by simp only;omega,by
     rw[ho]
     refine tO (by unfold dS;exact decide_eq_false (by omega)) ?_ hks
     unfold ar
     rw[if_neg (by omega)]
     omega⟩⟩,rfl,aH⟩
instance yZ{I Y:List Atom}{bc:Nat}{vb va:Value}{code:List UInt8}{p:eL code}{a:List Int}{d v:Int}[hb:eO I bc (dV vb p) Y][hv:bK UInt8 Y vb code][ha:bK Int Y va a] :
  bQ prog 62 [.pointer (some ⟨bc,0,none⟩),.agg #[va],.int .i64 d,.int .i64 v] I (eA a=true/\1<=d/\d<=4/\0<=v/\v<=24) ({ q:Value×List Int×eL code // (1<=q.2.1.length/\q.2.1.length<=40)/\Tm a q.2.1 }) (fun q:{ q:Value×List Int×eL code // (1<=q.2.1.length/\q.2.1.length<=40)/\Tm a q.2.1 }=>q.1.1) (fun q=>.ow [q.1.1] q.1.2.1::.bk bc (dV vb q.1.2.2)::Y):=⟨fun h w0=>by
 exact jS (zD 4 (p:=p) ⟨h.1,by omega,by omega⟩) (fun q=>⟨⟨q.1,⟨q.2.1,by have:=q.2.2.1;omega⟩,q.2.2.2⟩,rfl,fun w h=>h⟩)⟩
end Go.Proofs.YtajdgkpjbpindaaGreatDoor
