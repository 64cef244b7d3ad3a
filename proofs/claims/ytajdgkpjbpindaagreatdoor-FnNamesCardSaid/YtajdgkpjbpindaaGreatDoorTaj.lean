/- Texts of the proof of FnNames. -/
import Derived.Test.YtajdgkpjbpindaaGreatDoorTac
set_option linter.unusedVariables false
set_option linter.unusedSimpArgs false
set_option linter.unusedSectionVars false
namespace Go.Proofs.YtajdgkpjbpindaaGreatDoor
open Go Go.Eng Tryz
set_option synthInstance.maxHeartbeats 400000
set_option synthInstance.maxSize 1000
instance:U8T prog 5:=⟨underlying5⟩
instance:Op_ prog 5 UInt8 aPb:=aV5 underlying5 (by kernel_rfl)
instance:Op_ prog 22 (List UInt8) bA:=gC underlying22 (by kernel_rfl) inferInstance
section w
attribute [local instance 2000] Go.Eng.addW Go.Eng.mulW
instance bMu{I:List Atom}{v:Value}{code:List UInt8}[h:bK UInt8 I v code] :
  bQ prog 16 [v] I (True) (Nat×eL code) (fun p:Nat×eL code=>.pointer (some ⟨p.1,0,none⟩)) (fun p=>.bk p.1 (dV v p.2)::I):=⟨fun _ w0=>by
 refine dQ v fun hlx=>?_
 refine aK func16 ntmps16 ?_
 repeat' (first|refine aU ?_|refine bP ?_|fail)
 refine lc_ [3,4] [8,9,10,11,14,15,16,17,18,19,20,21,22,23,12,13] (Z:=Int×Nat) (fun k=>[.int .i64 k.1,.int .i64 k.2]) (fun k=>k.2<=code.length) (fun k=>code.length-k.2) (wr (570029+(code.length:Int)),0) (aI _) ?_
 intro ⟨h0,k⟩ u l' hl' hk
 simp only[bM,List.map,List.set] at hl'
 subst hl'
 simp only at hk ⊢
 repeat' (first|refine aU ?_|refine bP ?_|refine bT fun b=>?_|refine bV fun hc=>?_|refine bW fun hc=>?_|refine aS (fun hc=>?_) fun hc=>?_|fail)
 ·rw[oY (n:=(k:Int)+1) (by omega)]
  exact eB (wr (wr (wr (h0*317)+((code.getD k 0).toNat:Int))+11) % 1073741824,k+1) (by simp only;omega)
 ·exact⟨(b,⟨(0,h0),aI _⟩),rfl,by show Ent _ _ (.bk b [v,.int .i64 0,.int .i64 h0]::_);exact aH⟩⟩
instance bKf{I Y:List Atom}{bc:Nat}{vb:Value}{code:List UInt8}{p:eL code}[hb:eO I bc (dV vb p) Y][hv:bK UInt8 Y vb code] :
  bQ prog 74 [.pointer (some ⟨bc,0,none⟩)] I (True) (Int×eL code) (fun q:Int×eL code=>.int .i64 (q.1 % 256)) (fun q=>.bk bc (dV vb q.2)::Y):=⟨fun _ w0=>by
 refine eN hb.perm ?_
 obtain ⟨⟨i,h⟩,hi⟩:=p
 refine dQ vb fun hlx=>?_
 simp only at hi
 unfold dV
 simp only
 refine aK func74 ntmps74 ?_
 repeat' (first|refine aU ?_|refine bP ?_|refine bV fun hc=>?_|refine bW fun hc=>?_|refine aS (fun hc=>?_) fun hc=>?_|refine wN 2 [] ?_|refine wN 3 [] ?_|refine wN 4 [] ?_|refine xp ?_|refine bI ?_|fail)
 ·rw[oY (n:=(i:Int)+1) (by omega),show(i:Int)+1=((i+1:Nat):Int) by omega]
  exact⟨(_,⟨(i+1,wr (wr (h*6364136223846793005)+1442695040888963407)),by simp only;omega⟩),rfl,by show Ent _ _ (.bk bc [vb,.int .i64 ((i+1:Nat):Int),.int .i64 (wr (wr (h*6364136223846793005)+1442695040888963407))]::_);exact aH⟩
 ·exact⟨(_,⟨(i,wr (wr (h*6364136223846793005)+1442695040888963407)),hi⟩),rfl,by show Ent _ _ (.bk bc [vb,.int .i64 ((i:Nat):Int),.int .i64 (wr (wr (h*6364136223846793005)+1442695040888963407))]::_);exact aH⟩⟩
end w
instance bGy{I Y:List Atom}{bc:Nat}{vb:Value}{code:List UInt8}{p:eL code}{n:Int}[hb:eO I bc (dV vb p) Y][hv:bK UInt8 Y vb code] :
  bQ prog 43 [.pointer (some ⟨bc,0,none⟩),.int .i64 n] I (True) ({ q:Int×eL code // (0<n->0<=q.1/\q.1<n)/\(n<=0->q.1=0) }) (fun q:{ q:Int×eL code // (0<n->0<=q.1/\q.1<n)/\(n<=0->q.1=0) }=>.int .i64 q.1.1) (fun q=>.bk bc (dV vb q.1.2)::Y):=⟨fun _ w0=>by
 refine eN hb.perm ?_
 refine aK func43 ntmps43 ?_
 repeat' (first|refine aU ?_|refine bP ?_|refine cV fun r hr=>?_|refine aW fun r=>?_|refine bV fun hc=>?_|refine bW fun hc=>?_|refine aS (fun hc=>?_) fun hc=>?_|fail)
 ·exact⟨⟨(0,p),fun h=>by omega,fun _=>rfl⟩,rfl,aH⟩
 ·have h1:=Int.emod_nonneg (r.1 % 256) (b:=n) (by omega)
  have h2:=Int.emod_lt_of_pos (r.1 % 256) (b:=n) (by omega)
  rw[Int.tmod_eq_emod_of_nonneg (by omega)]
  exact⟨⟨(r.1 % 256 % n,r.2),fun _=>⟨h1,h2⟩,fun h=>by omega⟩,rfl,aH⟩
 ·rename_i r1 r2 r3
  have h1:=Int.emod_nonneg (r1.1 % 256*16777216+r2.1 % 256*65536+r3.1 % 256*256+r.1 % 256) (b:=n) (by omega)
  have h2:=Int.emod_lt_of_pos (r1.1 % 256*16777216+r2.1 % 256*65536+r3.1 % 256*256+r.1 % 256) (b:=n) (by omega)
  rw[Int.tmod_eq_emod_of_nonneg (by omega)]
  exact⟨⟨(_,r.2),fun _=>⟨h1,h2⟩,fun h=>by omega⟩,rfl,aH⟩⟩
instance bMe{I Y:List Atom}{bc:Nat}{vb:Value}{code:List UInt8}{p:eL code}{n:Int}[hb:eO I bc (dV vb p) Y][hv:bK UInt8 Y vb code] :
  bQ prog 19 [.pointer (some ⟨bc,0,none⟩),.int .i64 n] I (True) (Bool×eL code) (fun q:Bool×eL code=>.bool q.1) (fun q=>.bk bc (dV vb q.2)::Y):=⟨fun _ w0=>by
 refine eN hb.perm ?_
 refine aK func19 ntmps19 ?_
 repeat' (first|refine aU ?_|refine cV fun r hr=>?_|refine aW fun r=>?_|fail)
 exact⟨(_,r.1.2),rfl,aH⟩⟩
instance bKr{I Y:List Atom}{bc:Nat}{vb:Value}{code:List UInt8}{p:eL code}{lo hi:Int}[hb:eO I bc (dV vb p) Y][hv:bK UInt8 Y vb code] :
  bQ prog 32 [.pointer (some ⟨bc,0,none⟩),.int .i64 lo,.int .i64 hi] I (-1048576<=lo/\lo<=hi/\hi<=1048576) ({ q:Int×eL code // lo<=q.1/\q.1<=hi }) (fun q:{ q:Int×eL code // lo<=q.1/\q.1<=hi }=>.int .i64 q.1.1) (fun q=>.bk bc (dV vb q.1.2)::Y):=⟨fun h w0=>by
 refine eN hb.perm ?_
 refine aK func32 ntmps32 ?_
 repeat' (first|refine aU ?_|refine bP ?_|refine cV fun r hr=>?_|refine aW fun r=>?_|fail)
 exact⟨⟨(lo+r.1.1,r.1.2),by simp only;omega⟩,rfl,aH⟩⟩
instance bMj{I Y:List Atom}{bc:Nat}{vb:Value}{code:List UInt8}{p:eL code}[hb:eO I bc (dV vb p) Y][hv:bK UInt8 Y vb code] :
  bQ prog 42 [.pointer (some ⟨bc,0,none⟩)] I (True) ({ q:Int×eL code // -9223372036854775808<=q.1/\q.1<=9223372036854775807 }) (fun q:{ q:Int×eL code // -9223372036854775808<=q.1/\q.1<=9223372036854775807 }=>.int .i64 q.1.1) (fun q=>.bk bc (dV vb q.1.2)::Y):=⟨fun _ w0=>by
 refine eN hb.perm ?_
 refine aK func42 ntmps42 ?_
 repeat' (first|refine aU ?_|refine eF fun hbi=>?_|refine bP ?_|refine cV fun r hr=>?_|refine aW fun r=>?_|refine bG fun sv=>?_|fail)
 exact⟨⟨(_,r.1.2),hbi⟩,rfl,aH⟩⟩
instance bBb{I Y:List Atom}{bc:Nat}{vb:Value}{code:List UInt8}{p:eL code}[hb:eO I bc (dV vb p) Y][hv:bK UInt8 Y vb code] :
  bQ prog 89 [.pointer (some ⟨bc,0,none⟩)] I (True) ({ q:Value×List Int×eL code // q.2.1.length<=4 }) (fun q:{ q:Value×List Int×eL code // q.2.1.length<=4 }=>.agg #[q.1.1]) (fun q=>.ow [q.1.1] q.1.2.1::.bk bc (dV vb q.1.2.2)::Y):=⟨fun _ w0=>by
 refine eN hb.perm ?_
 refine aK func89 ntmps89 ?_
 repeat' (first|refine aU ?_|refine cV fun r hr=>?_|refine aW fun r=>?_|refine bG fun sv=>?_|refine bT fun b=>?_|refine bV fun hc=>?_|refine bW fun hc=>?_|refine aS (fun hc=>?_) fun hc=>?_|fail)
 ·refine lp_ [4] [13,14,17,18,19,20,21,22,23,15,16] (Z:=Int×Value×List Int×eL code) (fun k=>[.int .i64 k.1]) (fun k=>[.bk b [k.2.1],.ow [k.2.1] k.2.2.1,.bk bc (dV vb k.2.2.2)]) (fun k=>k.1+k.2.2.1.length<=4/\k.2.2.1.length<=4) (fun k=>k.1.toNat) (r.1.1,sv,[0],r.1.2) [.bk b [sv],.ow [sv] ([0]:List Int),.bk bc (dV vb r.1.2)] (by simp only[aF,aL];omega) ?_
  intro ⟨n,sw,a,p0⟩ u l' hl' ⟨hk,hk2⟩
  simp only[bM,List.map,List.set] at hl'
  subst hl'
  simp only[aA,aB] at hk hk2 ⊢
  repeat' (first|refine aU ?_|refine bP ?_|refine bV fun hc=>?_|refine bW fun hc=>?_|refine aS (fun hc=>?_) fun hc=>?_|refine cV fun r hr=>?_|refine aW fun r=>?_|refine bG fun sv=>?_|refine wN 7 [5,7] ?_|refine xp ?_|refine x0 ?_|refine xy ?_|refine bI ?_|fail)
  ·exact eB (n-1,sv,a++[r.1.1],r.1.2) (by simp only[aD,aF,aL];omega)
  ·exact⟨⟨(sw,a,p0),hk2⟩,rfl,aH⟩
 ·exact⟨⟨(sv,[2,1,0],r.2),by simp⟩,rfl,aH⟩⟩
instance aQs{I Y:List Atom}{bc:Nat}{vb:Value}{code:List UInt8}{p:eL code}[hb:eO I bc (dV vb p) Y][hv:bK UInt8 Y vb code] :
  bQ prog 71 [.pointer (some ⟨bc,0,none⟩)] I (True) ({ q:Value×List Int×eL code // q.2.1.length<=9 }) (fun q:{ q:Value×List Int×eL code // q.2.1.length<=9 }=>.agg #[q.1.1]) (fun q=>.ow [q.1.1] q.1.2.1::.bk bc (dV vb q.1.2.2)::Y):=⟨fun _ w0=>by
 refine eN hb.perm ?_
 refine aK func71 ntmps71 ?_
 repeat' (first|refine aU ?_|refine bP ?_|refine cV fun r hr=>?_|refine aW fun r=>?_|refine bG fun sv=>?_|refine bT fun b=>?_|refine bV fun hc=>?_|refine bW fun hc=>?_|refine aS (fun hc=>?_) fun hc=>?_|refine wN 5 [5,7] ?_|refine xp ?_|refine x0 ?_|refine xy ?_|refine bI ?_|fail)
 ·rename_i r1 hr1 _ _ _ _ _
  exact⟨⟨(sv,r1.1.2.1++[r.1.1],r.1.2),by simp only[aD,aF,aL];omega⟩,rfl,aH⟩
 ·exact⟨⟨(sv,[],r.1.2),by simp⟩,rfl,aH⟩
 ·exact⟨⟨(sv,List.replicate (8+r.1.1).toNat 0,r.1.2),by simp only[cA];omega⟩,rfl,aH⟩
 ·rename_i r1
  exact⟨⟨(r1.1.1,r1.1.2.1,r.2),by simp only;omega⟩,rfl,aH⟩⟩
structure DrT(N:Nat)(d:Int)(a:List Int)(v:Int):Prop where
 ok:eA a=true
 dp:1<=d/\d<=N/\N<=5
 vs:0<=v/\v<=24
theorem DrT.len{N:Nat}{d:Int}{a:List Int}{v:Int}(h:DrT N d a v):1<=a.length/\a.length<=8:=eC h.ok
theorem aAn(N:Nat):∀ {w0:World} {I Y:List Atom} {bc:Nat} {vb va:Value} {code:List UInt8} {p:eL code} {a:List Int} {d v:Int} [hb:eO I bc (dV vb p) Y] [hv:bK UInt8 Y vb code] [ha:bK Int Y va a] (h:DrT N d a v),
  CJ prog 62 [.pointer (some ⟨bc,0,none⟩),.agg #[va],.int .i64 d,.int .i64 v] w0 I (fun q:{ q:Value×List Int×eL code // 1<=q.2.1.length/\2*q.2.1.length+1<=3 ^ N }=>q.1.1) (fun q=>.ow [q.1.1] q.1.2.1::.bk bc (dV vb q.1.2.2)::Y):=by
 induction N with
 | zero=>
  intro w0 I Y bc vb va code p a d v hb hv ha h
  have:=h.dp
  omega
 | succ N ih=>
  intro w0 I Y bc vb va code p a d v hb hv ha h
  haveI hI:∀ (I Y:List Atom) (bc:Nat) (vb va:Value) (code:List UInt8) (p:eL code) (a:List Int) (d v:Int) [eO I bc (dV vb p) Y] [bK UInt8 Y vb code] [bK Int Y va a],bQ prog 62 [.pointer (some ⟨bc,0,none⟩),.agg #[va],.int .i64 d,.int .i64 v] I (DrT N d a v) { q:Value×List Int×eL code // 1<=q.2.1.length/\2*q.2.1.length+1<=3 ^ N } (fun q=>q.1.1) (fun q=>.ow [q.1.1] q.1.2.1::.bk bc (dV vb q.1.2.2)::Y):=fun I Y bc vb va code p a d v _ _ _=>⟨fun h _=>ih h⟩
  refine eN hb.perm ?_
  have hdp:=h.dp
  have hvs:=h.vs
  have hal:=h.len
  have hM:3 ^ N<=81:=Nat.le_trans (Nat.pow_le_pow_right (by omega) (show N<=4 by omega)) (by decide)
  have hM1:1<=3 ^ N:=Nat.one_le_pow _ _ (by omega)
  rw[Nat.pow_succ]
  generalize hMe:3 ^ N=M at *
  refine aK func62 ntmps62 ?_
  repeat' (first|refine aU ?_|refine eF fun hbi=>?_|refine bP ?_|refine cV fun r hr=>?_|refine aW fun r=>?_|refine bG fun sv=>?_|refine bT fun b=>?_|refine bV fun hc=>?_|refine bW fun hc=>?_|refine aS (fun hc=>?_) fun hc=>?_|fail)
  ·exact⟨⟨(sv,[-1-r.1.1],r.1.2),by simp only[aF,aL];omega⟩,rfl,aH⟩
  ·refine lc_ [9] [34,35,38,39,40,41,42,43,44,45,8,36,37] (Z:=Int) (fun k=>[.int .i64 k]) (fun k=>-1<=k/\k<a.length) (fun k=>(k+1).toNat) ((a.length:Int)-1) (by omega) ?_
   intro k u l' hl' hk
   simp only[bM,List.map,List.set] at hl'
   subst hl'
   repeat' (first|refine aU ?_|refine eF fun hbi=>?_|refine bP ?_|refine bG fun sv=>?_|refine bV fun hc=>?_|refine bW fun hc=>?_|refine aS (fun hc=>?_) fun hc=>?_|fail)
   ·exact⟨⟨(sv,[k],r.2),by simp only[aF,aL];omega⟩,rfl,aH⟩
   ·exact eB (k-1) (by omega)
   ·exact⟨⟨(sv,[-1],r.2),by simp only[aF,aL];omega⟩,rfl,aH⟩
  ·refine lc_ [9] [34,35,38,39,40,41,42,43,44,45,8,36,37] (Z:=Int) (fun k=>[.int .i64 k]) (fun k=>-1<=k/\k<a.length) (fun k=>(k+1).toNat) ((a.length:Int)-1) (by omega) ?_
   intro k u l' hl' hk
   simp only[bM,List.map,List.set] at hl'
   subst hl'
   repeat' (first|refine aU ?_|refine eF fun hbi=>?_|refine bP ?_|refine bG fun sv=>?_|refine bV fun hc=>?_|refine bW fun hc=>?_|refine aS (fun hc=>?_) fun hc=>?_|fail)
   ·exact⟨⟨(sv,[k],p),by simp only[aF,aL];omega⟩,rfl,aH⟩
   ·exact eB (k-1) (by omega)
   ·exact⟨⟨(sv,[-1],p),by simp only[aF,aL];omega⟩,rfl,aH⟩
  ·exact⟨⟨(sv,[-1-r.1.1],r.1.2),by simp only[aF,aL];omega⟩,rfl,aH⟩
  ·refine lc_ [9] [34,35,38,39,40,41,42,43,44,45,8,36,37] (Z:=Int) (fun k=>[.int .i64 k]) (fun k=>-1<=k/\k<a.length) (fun k=>(k+1).toNat) ((a.length:Int)-1) (by omega) ?_
   intro k u l' hl' hk
   simp only[bM,List.map,List.set] at hl'
   subst hl'
   repeat' (first|refine aU ?_|refine eF fun hbi=>?_|refine bP ?_|refine bG fun sv=>?_|refine bV fun hc=>?_|refine bW fun hc=>?_|refine aS (fun hc=>?_) fun hc=>?_|fail)
   ·exact⟨⟨(sv,[k],r.2),by simp only[aF,aL];omega⟩,rfl,aH⟩
   ·exact eB (k-1) (by omega)
   ·exact⟨⟨(sv,[-1],r.2),by simp only[aF,aL];omega⟩,rfl,aH⟩
  ·refine lc_ [9] [34,35,38,39,40,41,42,43,44,45,8,36,37] (Z:=Int) (fun k=>[.int .i64 k]) (fun k=>-1<=k/\k<a.length) (fun k=>(k+1).toNat) ((a.length:Int)-1) (by omega) ?_
   intro k u l' hl' hk
   simp only[bM,List.map,List.set] at hl'
   subst hl'
   repeat' (first|refine aU ?_|refine eF fun hbi=>?_|refine bP ?_|refine bG fun sv=>?_|refine bV fun hc=>?_|refine bW fun hc=>?_|refine aS (fun hc=>?_) fun hc=>?_|fail)
   ·exact⟨⟨(sv,[k],r.2),by simp only[aF,aL];omega⟩,rfl,aH⟩
   ·exact eB (k-1) (by omega)
   ·exact⟨⟨(sv,[-1],r.2),by simp only[aF,aL];omega⟩,rfl,aH⟩
  ·have hak:=fM h.ok (k:=r.1.1.toNat) (by omega)
   have hD:DrT N (d-1) a v:=⟨h.ok,by omega,h.vs⟩
   have hm:a.getD r.1.1.toNat 0*((M:Int)-1)<=3*((M:Int)-1):=Int.mul_le_mul_of_nonneg_right hak.2 (by omega)
   refine lp_ [11,12] [59,60,63,64,65,66,67,68,69,70,61,62] (Z:=Value×List Int×Int×eL code) (fun k=>[k.1,.int .i64 k.2.2.1]) (fun k=>[.ow [k.1] k.2.1,.bk bc (dV vb k.2.2.2)]) (fun k=>0<=k.2.2.1/\k.2.2.1<=3/\1<=k.2.1.length/\2*(k.2.1.length:Int)+k.2.2.1*((M:Int)-1)<=3*M-1) (fun k=>k.2.2.1.toNat) (sv,[r.1.1],a.getD r.1.1.toNat 0,r.1.2) [.ow [sv] [r.1.1],.bk bc (dV vb r.1.2)] (by simp only[aF,aL];omega) ?_
   intro ⟨sw,o,k,p0⟩ u l' hl' ⟨hk0,hk3,hol,hk⟩
   simp only[bM,List.map,List.set] at hl'
   subst hl'
   simp only[aA,aB] at hk0 hk3 hol hk ⊢
   have hk1:0<=k*((M:Int)-1):=Int.mul_nonneg hk0 (by omega)
   repeat' (first|refine aU ?_|refine bP ?_|refine cV fun r hr=>?_|refine aW fun r=>?_|refine bG fun sv=>?_|refine bV fun hc=>?_|refine bW fun hc=>?_|refine aS (fun hc=>?_) fun hc=>?_|fail)
   ·have e:(k-1)*((M:Int)-1)=k*((M:Int)-1)-((M:Int)-1):=by rw[Int.sub_mul,Int.one_mul]
    exact eB (sv,o++r.1.2.1,k-1,r.1.2.2) (by simp only[aD];rw[e];omega)
   ·exact⟨⟨(sw,o,p0),by simp only;omega⟩,rfl,aH⟩
instance aVo{I Y:List Atom}{bc:Nat}{vb va:Value}{code:List UInt8}{p:eL code}{a:List Int}{d v:Int}[hb:eO I bc (dV vb p) Y][hv:bK UInt8 Y vb code][ha:bK Int Y va a] :
  bQ prog 62 [.pointer (some ⟨bc,0,none⟩),.agg #[va],.int .i64 d,.int .i64 v] I (eA a=true/\1<=d/\d<=4/\0<=v/\v<=24) ({ q:Value×List Int×eL code // 1<=q.2.1.length/\q.2.1.length<=40 }) (fun q:{ q:Value×List Int×eL code // 1<=q.2.1.length/\q.2.1.length<=40 }=>q.1.1) (fun q=>.ow [q.1.1] q.1.2.1::.bk bc (dV vb q.1.2.2)::Y):=⟨fun h w0=>by
 exact jS (aAn 4 (p:=p) ⟨h.1,by omega,by omega⟩) (fun q=>⟨⟨q.1,q.2.1,by have:=q.2.2;omega⟩,rfl,fun w h=>h⟩)⟩
end Go.Proofs.YtajdgkpjbpindaaGreatDoor
namespace Go.Proofs.YtajdgkpjbpindaaGreatDoor
open Go Go.Eng Tryz
set_option synthInstance.maxHeartbeats 400000
set_option synthInstance.maxSize 1000
instance bAg{I Y:List Atom}{bc:Nat}{vb va:Value}{code:List UInt8}{p:eL code}{a:List Int}[hb:eO I bc (dV vb p) Y][hv:bK UInt8 Y vb code][ha:bK Int Y va a] :
  bQ prog 33 [.pointer (some ⟨bc,0,none⟩),.agg #[va]] I (True) ({ q:Value×List Int×eL code // q.2.1.length<=41 }) (fun q:{ q:Value×List Int×eL code // q.2.1.length<=41 }=>q.1.1) (fun q=>.rd [q.1.1] q.1.2.1::.bk bc (dV vb q.1.2.2)::Y):=⟨fun _ w0=>by
 refine eN hb.perm ?_
 refine dQ va fun hla=>?_
 refine aK func33 ntmps33 ?_
 repeat' (first|refine aU ?_|refine bP ?_|refine cV fun r hr=>?_|refine aW fun r=>?_|refine bG fun sv=>?_|refine bT fun b=>?_|refine bV fun hc=>?_|refine bW fun hc=>?_|refine aS (fun hc=>?_) fun hc=>?_|refine wN 3 [] ?_|refine xp ?_|refine xy ?_|refine bI ?_|fail)
 ·exact⟨⟨(sv,[r.1.1],r.1.2),by simp⟩,rfl,dJ sv aH⟩
 ·exact⟨⟨(sv,[r.1.1],r.1.2),by simp⟩,rfl,dJ sv aH⟩
 ·rename_i r1 hr1 _ _ _ _ _
  exact⟨⟨(sv,r1.1.2.1++[r.1.1],r.1.2),by simp only[aD,aF,aL];omega⟩,rfl,dJ sv aH⟩
 ·rename_i r1 hr1 _ _ _ _ _ r2 _
  exact⟨⟨(r1.1.1,r1.1.2.1.set r2.1.1.toNat r.1.1,r.1.2),by simp only[aV];omega⟩,rfl,dJ r1.1.1 aH⟩
 ·rename_i r1 hr1 _ _ _ _
  refine fU r1.1.1 ?_
  repeat' (first|refine aU ?_|refine bG fun sv=>?_|fail)
  exact⟨⟨(sv,r1.1.2.1.drop 1,r.1.2),by simp only[aR];omega⟩,rfl,aH⟩
 ·rename_i r1 hr1 _ _ _ _ _ _ _ _
  exact⟨⟨(sv,r1.1.2.1++[r.1.1],r.1.2),by simp only[aD,aF,aL];omega⟩,rfl,dJ sv aH⟩
 ·rename_i r1
  exact⟨⟨(r1.1.1,r1.1.2.1,r.2),by simp only;omega⟩,rfl,dJ r1.1.1 aH⟩⟩
structure ShB(n:Nat)(ts:List (Sh (List Int))):Prop where
 len:ts.length<=n
 el:∀ x∈ts,x.v.length<=41
theorem ShB.nil(n:Nat):ShB n []:=⟨aI _,fun x hx=>by cases hx⟩
theorem ShB.snoc{n:Nat}{ts:List (Sh (List Int))}{t:List Int}(h:ShB n ts)(ht:t.length<=41):ShB (n+1) (ts++[Sh.mk t]):=⟨by
 have:=h.len
 simp only[aD,aF,aL];omega,fun x hx=>by
 rcases aP.1 hx with h1|h1
 ·exact h.el x h1
 ·rw[aO] at h1
  rw[h1];exact ht⟩
theorem ShB.mono{n m:Nat}{ts:List (Sh (List Int))}(h:ShB n ts)(hm:n<=m):ShB m ts:=⟨Nat.le_trans h.len hm,h.el⟩
theorem aK7{w0:World}{I Y:List Atom}{bc:Nat}{vb va:Value}{code:List UInt8}{p:eL code}{a:List Int}[hb:eO I bc (dV vb p) Y][hv:bK UInt8 Y vb code][ha:bK Int Y va a](h:eA a=true) :
  CJ prog 152 [.pointer (some ⟨bc,0,none⟩),.agg #[va]] w0 I (fun q:{ q:Value×List (Sh (List Int))×eL code // ShB 3 q.2.1 }=>.agg #[q.1.1]) (fun q=>.ow [q.1.1] q.1.2.1::.bk bc (dV vb q.1.2.2)::Y):=by
 refine eN hb.perm ?_
 refine aK func152 ntmps152 ?_
 repeat' (first|refine aU ?_|refine cV fun r hr=>?_|refine aW fun r=>?_|refine bT fun b=>?_|fail)
 refine lp_ [6] [11,12,15,7,16,17,18,19,20,21,22,23,24,25,26,27,28,29,30,13,14] (Z:=Int×Value×List (Sh (List Int))×eL code) (fun k=>[.int .i64 k.1]) (fun k=>[.bk b [k.2.1],.ow [k.2.1] k.2.2.1,.bk bc (dV vb k.2.2.2)]) (fun k=>0<=k.1/\∃ m:Nat,k.1+m<=3/\ShB m k.2.2.1) (fun k=>k.1.toNat) (r.1.1,.slice none 0 0,[],r.1.2) [.bk b [.slice none 0 0],.ow [.slice none 0 0] ([]:List (Sh (List Int))),.bk bc (dV vb r.1.2)] ⟨by simp only;omega,0,by simp only;omega,ShB.nil 0⟩ ?_
 intro ⟨n,sw,ts,p0⟩ u l' hl' ⟨hn,m,hm,hS⟩
 simp only[bM,List.map,List.set] at hl'
 subst hl'
 simp only[aA,aB] at hn hm hS ⊢
 have hsl:=hS.len
 repeat' (first|refine aU ?_|refine cV fun r hr=>?_|refine aW fun r=>?_|refine bG fun sv=>?_|refine bV fun hc=>?_|refine bW fun hc=>?_|refine aS (fun hc=>?_) fun hc=>?_|refine wN 7 [] ?_|refine xp ?_|refine xy ?_|refine bI ?_|fail)
 ·refine vJ sv ?_
  simp only[List.map_cons,List.map_nil]
  repeat' (first|refine aU ?_|refine bP ?_|refine bG fun sv=>?_|fail)
  exact eB (n-1,sv,ts++[Sh.mk r.1.2.1],r.1.2.2) ⟨by simp only;omega,m+1,by simp only;omega,hS.snoc (by omega)⟩
 ·refine vJ sv ?_
  simp only[List.map_cons,List.map_nil]
  repeat' (first|refine aU ?_|refine bP ?_|refine bG fun sv=>?_|fail)
  exact eB (n-1,sv,ts++[Sh.mk []],r.2) ⟨by simp only;omega,m+1,by simp only;omega,hS.snoc (by simp)⟩
 ·exact⟨⟨(sw,ts,p0),hS.mono (by omega)⟩,rfl,aH⟩
instance:Op_ prog 5 UInt8 aPb:=aV5 underlying5 (by kernel_rfl)
instance:Op_ prog 22 (List UInt8) bA:=gC underlying22 (by kernel_rfl) inferInstance
instance bPc{I:List Atom}{v:Value}{code:List UInt8}[hv:bK UInt8 I v code] :
  bQ prog 4 [v] I True Unit (fun _:Unit=>.bool (decide (4096<code.length))) (fun _=>I):=⟨fun _ w0=>by
 refine dQ v fun hlx=>?_
 refine aK func4 ntmps4 ?_
 repeat' (first|refine aU ?_|fail)
 exact⟨(),bO (by congr 1;simp only[eq_iff_iff];omega),aH⟩⟩
end Go.Proofs.YtajdgkpjbpindaaGreatDoor
