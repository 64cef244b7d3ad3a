/- Texts of the proof of FnNames. -/
import Derived.Test.YtajdgkpjbpindaaGreatDoorTba
import Derived.Test.YtajdgkpjbpindaaGreatDoorTbd
set_option linter.unusedVariables false
set_option linter.unusedSimpArgs false
set_option linter.unusedSectionVars false
namespace Go.Proofs.YtajdgkpjbpindaaGreatDoor
open Go Go.Eng Tryz
set_option synthInstance.maxHeartbeats 400000
set_option synthInstance.maxSize 1000
set_option maxHeartbeats 4000000
set_option maxRecDepth 20000
instance l1MaxN_ctr{I:List Atom}{x y:Int} :
  bQ prog 110 [.int .i64 x,.int .i64 y] I True Unit (fun _:Unit=>.int .i64 (max x y)) (fun _=>I):=⟨fun _ w0=>by
 refine aK func110 ntmps110 ?_
 repeat' (first|refine aU ?_|refine bV fun hc=>?_|refine bW fun hc=>?_|refine aS (fun hc=>?_) fun hc=>?_|fail)
 all_goals exact⟨(),iG (by omega),aH⟩⟩
theorem kM{w0:World}{I Y Ε:List Atom}{β:Type}{iβ:cB β}(sv:Value){xs:List (Sh β)}[hp:cQ (List (Sh β)) bA I [sv] xs Y](h:Go.Eng.Ent w0 (@Atom.rd (List β) bA [sv] (xs.map Sh.v)::Y) Ε):Go.Eng.Ent w0 I Ε:=fun w hs=>h w (by
 haveI hi:aZk (List β) bA I sv (xs.map Sh.v) Y True:=inferInstance
 exact hi.ent trivial w0 w hs)
abbrev PdT(s:Nat)(code:List UInt8):Type:={ q:Value×List dK×eL code // PfB s q.2.1 }
instance bIh{I Y:List Atom}{bc:Nat}{vb v0 v1:Value}{code:List UInt8}{p:eL code}{x:aQ}[hb:eO I bc (dV vb p) Y][hv:bK UInt8 Y vb code][h0:eK Int Y v0 x.1][h1:eK cM Y v1 x.2] :
  bQ prog 72 [.pointer (some ⟨bc,0,none⟩),.agg #[v0,v1]] I (True) (PdT 0 code) (fun q:PdT 0 code=>.agg #[q.1.1]) (fun q=>.rd [q.1.1] q.1.2.1::.bk bc (dV vb q.1.2.2)::Y):=⟨fun _ w0=>by
 refine eN hb.perm ?_
 refine aK func72 ntmps72 ?_
 repeat' (first|refine aU ?_|refine bP ?_|refine cV fun r hr=>?_|refine aW fun r=>?_|refine bT fun b=>?_|refine bV fun hc=>?_|refine bW fun hc=>?_|refine aS (fun hc=>?_) fun hc=>?_|refine wN 15 [] ?_|refine wN 19 [] ?_|refine xp ?_|refine xy ?_|refine x2 ?_ ?_|refine bI ?_|fail)
 all_goals try (rename { q:Int×eL code // _ }=>d;exact⟨⟨(r.1,r.2.1.1,d.1.2),r.2.2.b⟩,rfl,dJ r.1 aH⟩)
 all_goals try
  rename (Value×Value)×WbT=>wb
  have hk:=zY wb.2.1.1
  refine vT (mR (ps:=[]) (n:=fY wb.2.1.1) (h0:=lV) (by omega)) ?_
  intro r2
  repeat' (first|refine aU ?_|refine bT fun b=>?_|fail)
  rename { q:Int×eL code // _ }=>d
  exact⟨⟨(r2,(kC [] (fY wb.2.1.1)).getD [],d.1.2),(xX [] _).b⟩,rfl,dJ r2 aH⟩
 all_goals try (rename { q:Value×List Int×eL code // _ }=>d;exact⟨⟨(r.1,r.2.1.1,d.1.2.2),r.2.2.b⟩,rfl,dJ r.1 aH⟩)
 rename Nat=>bp
 refine lp_ [20] [97,98,101,102,103,104,21,105,106,22,107,108,111,112,113,114,115,116,117,109,110,118,119,23,120,121,124,125,126,127,128,129,130,131,122,123,132,133,24,134,135,138,139,140,141,142,143,144,145,146,147,148,136,137,149,150,151,152,153,154,99,100] (Z:=(Value×List (Sh dK))×Int×eL code) (fun k=>[.int .i64 k.2.1]) (fun k=>[.bk bp [k.1.1],.ow [k.1.1] k.1.2,.bk bc (dV vb k.2.2)]) (fun k=>0<=k.2.1/\k.1.2.length+k.2.1<=3/\∀ y∈k.1.2,NdB 0 y.v) (fun k=>k.2.1.toNat) ((.slice none 0 0,[]),1+r.1.1,r.1.2) [.bk bp [.slice none 0 0],.ow [.slice none 0 0] ([]:List (Sh dK)),.bk bc (dV vb r.1.2)] ⟨by simp only;omega,by simp only[aL];omega,fun y hy=>absurd hy (by simp)⟩ ?_
 intro ⟨⟨pv,ns⟩,n,p1⟩ u l' hl' ⟨hn,hnl,hns⟩
 simp only[bM,List.map,List.set] at hl'
 subst hl'
 simp only[aA,aB] at hn hnl hns ⊢
 repeat' (first|refine aU ?_|refine bP ?_|refine cV fun r hr=>?_|refine aW fun r=>?_|refine bT fun b=>?_|refine bV fun hc=>?_|refine bW fun hc=>?_|refine aS (fun hc=>?_) fun hc=>?_|fail)
 ·rename_i rk hrk
  obtain ⟨⟨kd,pk⟩,hkd⟩:=rk
  simp only at hkd ⊢
  refine lp_ [22] [107,108,111,112,113,114,115,116,117,109,110] (Z:=(Value×List Int)×Int×eL code) (fun k=>[.int .i64 k.2.1]) (fun k=>[.bk b [.int .i64 (1+kd),k.1.1,.slice none 0 0,.slice none 0 0],.ow [k.1.1] k.1.2,.bk bc (dV vb k.2.2)]) (fun k=>0<=k.2.1/\k.1.2.length+k.2.1<=3) (fun k=>k.2.1.toNat) ((.slice none 0 0,[]),r.1.1,r.1.2) [.bk b [.int .i64 (1+kd),.slice none 0 0,.slice none 0 0,.slice none 0 0],.ow [.slice none 0 0] ([]:List Int),.bk bc (dV vb r.1.2)] ⟨by simp only;omega,by simp only[aL];omega⟩ ?_
  intro ⟨⟨nv,nums⟩,k1,p2⟩ u2 l2 hl2 ⟨hk1,hn1⟩
  simp only[bM,List.map,List.set] at hl2
  subst hl2
  simp only[aA,aB] at hk1 hn1 ⊢
  repeat' (first|refine aU ?_|refine bP ?_|refine cV fun r hr=>?_|refine aW fun r=>?_|refine bV fun hc=>?_|refine bW fun hc=>?_|refine aS (fun hc=>?_) fun hc=>?_|refine bG fun sv=>?_|refine wN 29 [5,7] ?_|refine xp ?_|refine x0 ?_|refine xy ?_|refine bI ?_|fail)
  ·exact eB ((sv,nums++[r.1.1]),k1-1,r.1.2) ⟨by simp only;omega,by simp only[aD,aJ];omega⟩
  refine lp_ [23] [120,121,124,125,126,127,128,129,130,131,122,123] (Z:=(Value×List (Sh (List Int)))×Int×eL code) (fun k=>[.int .i64 k.2.1]) (fun k=>[.bk b [.int .i64 (1+kd),nv,k.1.1,.slice none 0 0],.ow [k.1.1] k.1.2,.bk bc (dV vb k.2.2)]) (fun k=>0<=k.2.1/\k.1.2.length+k.2.1<=2/\∀ t∈k.1.2,t.v.length<=60) (fun k=>k.2.1.toNat) ((.slice none 0 0,[]),r.1.1,r.1.2) [.bk b [.int .i64 (1+kd),nv,.slice none 0 0,.slice none 0 0],.ow [.slice none 0 0] ([]:List (Sh (List Int))),.bk bc (dV vb r.1.2)] ⟨by simp only;omega,by simp only[aL];omega,fun y hy=>absurd hy (by simp)⟩ ?_
  intro ⟨⟨tv,ts⟩,k2,p3⟩ u3 l3 hl3 ⟨hk2,hn2,hts⟩
  simp only[bM,List.map,List.set] at hl3
  subst hl3
  simp only[aA,aB] at hk2 hn2 hts ⊢
  repeat' (first|refine aU ?_|refine bP ?_|refine cV fun r hr=>?_|refine aW fun r=>?_|refine bV fun hc=>?_|refine bW fun hc=>?_|refine aS (fun hc=>?_) fun hc=>?_|refine bG fun sv=>?_|refine wN 33 [6,8] ?_|refine xp ?_|refine x0 ?_|refine xy ?_|refine bI ?_|fail)
  ·exact dH ((sv,ts++List.map Sh.mk [r.1.2.1]),k2-1,r.1.2.2) ⟨by simp only;omega,by simp only[aD,aY,aJ];omega,fun t ht=>(aP.1 ht).elim (hts t) fun h=>by
    have:t=Sh.mk r.1.2.1:=by simpa using h
    rw[this];exact hr⟩ (by simp only;omega) (by kernel_rfl) aH
  refine lp_ [24] [134,135,138,139,140,141,142,143,144,145,146,147,148,136,137] (Z:=(Value×List Int)×Int×eL code) (fun k=>[.int .i64 k.2.1]) (fun k=>[.bk b [.int .i64 (1+kd),nv,tv,k.1.1],.ow [k.1.1] k.1.2,.bk bc (dV vb k.2.2)]) (fun k=>0<=k.2.1/\k.1.2.length+k.2.1<=2/\∀ q∈k.1.2,-1000<=q/\q<=1000) (fun k=>k.2.1.toNat) ((.slice none 0 0,[]),r.1.1,r.1.2) [.bk b [.int .i64 (1+kd),nv,tv,.slice none 0 0],.ow [.slice none 0 0] ([]:List Int),.bk bc (dV vb r.1.2)] ⟨by simp only;omega,by simp only[aL];omega,fun y hy=>absurd hy (by simp)⟩ ?_
  intro ⟨⟨kv,ks⟩,k3,p4⟩ u4 l4 hl4 ⟨hk3,hn3,hks⟩
  simp only[bM,List.map,List.set] at hl4
  subst hl4
  simp only[aA,aB] at hk3 hn3 hks ⊢
  repeat' (first|refine aU ?_|refine bP ?_|refine bV fun hc=>?_|refine bW fun hc=>?_|refine aS (fun hc=>?_) fun hc=>?_|refine cV fun r hr=>?_|refine aW fun r=>?_|refine bG fun sv=>?_|refine wN 37 [9,11] ?_|refine xp ?_|refine x0 ?_|refine xy ?_|refine bI ?_|fail)
  ·exact eB ((sv,ks++[r.1.1]),k3-1,r.1.2) ⟨by simp only;omega,by simp only[aD,aJ];omega,fun q hq=>(aP.1 hq).elim (hks q) fun h=>by rw[aO] at h;omega⟩
  refine fU kv ?_
  refine fU nv ?_
  refine aG8 tv ?_
  haveI hi6:I6 (1+kd):=⟨by omega⟩
  repeat' (first|refine aU ?_|refine bP ?_|refine bG fun sv=>?_|fail)
  have hnd:NdB 0 (1+kd,nums,ts.map Sh.v,ks):=⟨by simp only;omega,by simp only;omega,by simp only[aY];omega,fun t ht=>by
   obtain ⟨z,hz,rfl⟩:=dT.1 ht
   exact hts z hz,by simp only;omega,hks⟩
  exact dH ((sv,ns++List.map Sh.mk [(1+kd,nums,ts.map Sh.v,ks)]),n-1,p4) ⟨by simp only;omega,by simp only[aD,aY,aJ];omega,fun y hy=>(aP.1 hy).elim (hns y) fun h=>by
   have:y=Sh.mk (1+kd,nums,ts.map Sh.v,ks):=by simpa using h
   rw[this];exact hnd⟩ (by simp only;omega) (by kernel_rfl) aH
 ·exact⟨⟨(pv,ns.map Sh.v,p1),⟨by simp only[aY];omega,fun y hy=>by
   obtain ⟨z,hz,rfl⟩:=dT.1 hy
   exact hns z hz⟩⟩,rfl,fun w hs=>(aH (I:=Atom.rd [pv] (ns.map Sh.v)::_)) w (kM pv (fun w h=>h) w hs)⟩⟩
theorem iU{w0:World}{I Y:List Atom}{β:Type}{iβ:cB β}(sv:Value){xs:List β}{i:Nat}{ec:List Value}[hp:cQ (jF β) lX I [sv] (jF.mk xs i ec) Y]:Go.Eng.Ent w0 I (@Atom.ow (jF (Sh β)) lX [sv] (jF.mk (xs.map Sh.mk) i ec)::Y):=by
 intro w hs
 obtain ⟨hb,F,hnd,hl,f,g,rfl,hA,hsep⟩:=hs.perm hp.perm
 obtain ⟨b,cap,dV,e,p,s,t,f1,f2,h0,rfl,h1,h2,h3,h4,h5,h6,h7,h8,h9,h10⟩:=(show cB.ow (·∉f++g) w f [sv] (jF.mk xs i ec) from hA)
 simp only at h0 h2 h3 h5 h7 h8 h9 h10
 have hmem:∀ c,c∈[b]++g->c∈(b::(f1++f2))++g:=fun c hc=>by
  rcases aP.1 hc with h|h
  ·exact List.mem_append_left _ (by rw[aO] at h;simp [h])
  ·exact List.mem_append_right _ h
 have hnd':=hnd
 rw[aA,List.nodup_cons,bJ] at hnd'
 have hn2:([b]++g).Nodup:=by
  rw[aA,aB,List.nodup_cons]
  exact⟨fun h=>hnd'.1 (List.mem_append_right _ h),hnd'.2.2.1⟩
 have hno:∀ c,c∈f1++f2->c∉[b]++g:=fun c hc hm=>by
  rcases aP.1 hm with h|h
  ·rw[aO] at h
   exact hnd'.1 (by rw[← h];exact List.mem_append_left _ hc)
  ·exact hnd'.2.2.2 c hc c h rfl
 refine⟨hb,[b]++g,hn2,fun c hc=>hl c (hmem c hc),[b],g,rfl,?_,hsep.mono (fun c hc _=>⟨fun hm=>hc (hmem c hm),rfl⟩) (aM _) (fun _ _=>rfl)⟩
 show cB.ow (V:=jF (Sh β)) _ w [b] [sv] _
 refine⟨b,cap,dV,e,p,s,t,[],[],by simp only[aY];exact h0,rfl,h1,h2,by simp only[aY];exact h3,h4,by simp only[aY];exact h5,h6,h7,by simp only[aY];exact h8,?_,?_⟩
 ·simp only
  rw[← List.map_take]
  exact h9.toSh (fun c hc hm=>hc (hmem c hm)) (fun c hc=>hno c (List.mem_append_left _ hc))
 ·simp only
  rw[← List.map_drop]
  exact h10.toSh (fun c hc hm=>hc (hmem c hm)) (fun c hc=>hno c (List.mem_append_right _ hc))
theorem gF{w0:World}{I Y Ε Ζ:List Atom}{V:Type}{iα:cB V}(sv:Value){xs:List V}{i:Nat}{ec:List Value}(y:V)[hp:cQ (jF V) lX I [sv] (jF.mk xs i ec) Y](ho:Own Y ec y Ε)(h:Go.Eng.Ent w0 (.ow [sv] (xs.set i y)::Ε) Ζ):Go.Eng.Ent w0 I Ζ:=fun w hs=>h w (yN (hp:=hp) ho hs)
theorem aAo{P:Program}{ops:Array Oper}{Q:Exit->Act->World->Prop}{w0:World}{rest:List Oper}{l:List Value}{I Y:List Atom}{V:Type}{iα:cB V}[un:UnO V](sv:Value)(i:Nat){xs:List V}{y:V}[hp:cQ (List V) bA I [sv] xs Y](hi:xs[i]?=some y)
  (h:∀ p:un.Pr,un.fact y->WL P ops Q w0 rest l (.ow [sv] (jF.mk xs i (un.cells p y))::(un.atoms p y++Y))):WL P ops Q w0 rest l I:=fun w hs=>by
 obtain ⟨p,hf,hs'⟩:=xK (un:=un) (hp:=hp) hi hs
 exact h p hf w hs'
theorem kL{ps:List dK}{j:Nat}{y:dK}(h:PfB 0 ps)(hy:NdB 1 y):PfB 1 (((ps.map Sh.mk).set j (Sh.mk y)).map Sh.v):=by
 rw[show(ps.map Sh.mk).set j (Sh.mk y)=(ps.set j y).map Sh.mk from List.map_set.symm,uD]
 refine⟨by rw[aV];have:=h.n;omega,fun z hz=>?_⟩
 rcases List.mem_or_eq_of_mem_set hz with h1|h1
 ·exact(h.e z h1).up
 ·rw[h1];exact hy
theorem aDg{k:Int}{a:List Int}{b:List (List Int)}{c:List Int}(h1:0<=k/\k<=13)(h2:a.length<=201)(h3:b.length<=62)(h4:∀ t∈b,t.length<=60)(h5:c.length<=65)(h6:∀ q∈c,-1000<=q/\q<=1000):NdB 1 (k,a,b,c):=⟨h1,h2,h3,h4,h5,h6⟩
theorem bFx{b:List (List Int)}{t:List Int}(h:∀ y∈b,y.length<=60)(ht:t.length<=60):∀ y∈b++[t],y.length<=60:=fun y hy=>(aP.1 hy).elim (h y) fun e=>by rw[aO] at e;rw[e];exact ht
theorem bJs{b:List (List Int)}{t:List Int}{i:Nat}(h:∀ y∈b,y.length<=60)(ht:t.length<=60):∀ y∈b.set i t,y.length<=60:=fun y hy=>(List.mem_or_eq_of_mem_set hy).elim (h y) fun e=>by rw[e];exact ht
theorem bBo{c:List Int}{x:Int}(h:∀ y∈c,-1000<=y/\y<=1000)(hx:-1000<=x/\x<=1000):∀ y∈c++[x],-1000<=y/\y<=1000:=fun y hy=>(aP.1 hy).elim (h y) fun e=>by rw[aO] at e;rw[e];exact hx
instance bH1{I Y:List Atom}{bc:Nat}{vb v:Value}{code:List UInt8}{p:eL code}{ps:List dK}[hb:eO I bc (dV vb p) Y][hv:bK UInt8 Y vb code][h0:bK dK Y v ps] :
  bQ prog 73 [.pointer (some ⟨bc,0,none⟩),.agg #[v]] I (PfB 0 ps) (PdT 1 code) (fun q:PdT 1 code=>.agg #[q.1.1]) (fun q=>.rd [q.1.1] q.1.2.1::.bk bc (dV vb q.1.2.2)::Y):=⟨fun hs w0=>by
 refine eN hb.perm ?_
 have hn:=hs.n
 have hfit:∀ n∈ps,aK8 n:=fun n hn=>(hs.e n hn).fits (by decide)
 refine aK func73 ntmps73 ?_
 repeat' (first|refine aU ?_|refine bP ?_|refine cV fun r hr=>?_|refine aW fun r=>?_|refine bT fun b=>?_|refine bV fun hc=>?_|refine bW fun hc=>?_|refine aS (fun hc=>?_) fun hc=>?_|fail)
 ·exact⟨⟨(r,ps,p),hs.up⟩,rfl,dJ r aH⟩
 obtain ⟨⟨d,pc⟩,hd,hd'⟩:=r
 simp only at hd hd' ⊢
 obtain ⟨j,rfl⟩:=Int.eq_ofNat_of_zero_le (hd (by omega)).1
 have hj:j<ps.length:=by omega
 have hnd:=hs.e _ (dX hj)
 rename Value=>q
 refine aAo q j (y:=ps.getD j default) (by rw[aC,aG hj];rfl) fun pp hf=>?_
 simp only[UnO.cells,UnO.atoms,UnO.fact,aA,aB,cF] at hf ⊢
 generalize ps.getD j default=nd at hnd hf ⊢
 obtain ⟨nk,na,nb,nc⟩:=nd
 obtain ⟨p0,p1,p2,p3⟩:=pp
 simp only[bH] at hf ⊢
 obtain ⟨hk,ha,hbb,ht,hc3,hq⟩:=hnd
 simp only at hk ha hbb ht hc3 hq
 haveI hi6:I6 nk:=⟨hf.1⟩
 repeat' (first|refine aU ?_|refine cV fun r hr=>?_|refine aW fun r=>?_|refine bT fun b=>?_|refine bV fun hc=>?_|refine bW fun hc=>?_|refine aS (fun hc=>?_) fun hc=>?_|refine bG fun sv=>?_|refine bP ?_|refine wN 10 [5,7] ?_|refine wN 13 [10] ?_|refine wN 15 [6,8] ?_|refine wN 18 [6] ?_|refine wN 20 [5,7] ?_|refine xp ?_|refine x0 ?_|refine xy ?_|refine bI ?_|fail)
 ·haveI hi7:I6 r.1.1:=⟨by omega⟩
  refine⟨⟨(q,((ps.map Sh.mk).set j (Sh.mk ((r.1.1,na,nb,nc)))).map Sh.v,r.1.2),kL hs ?_⟩,rfl,fun w hw=>?_⟩
  ·refine aDg (by omega) ?_ ?_ ?_ ?_ ?_
   ·first|omega|(simp only[aD,aV,aJ]<;>omega)
   ·first|omega|(simp only[aD,aV,aJ]<;>omega)
   ·exact ht
   ·first|omega|(simp only[aD,aR,aJ]<;>omega)
   ·exact hq
  ·have e1:=iU q w hw
   exact(dJ p1 (dJ p2 (dJ p3 (gF q (Sh.mk ((r.1.1,na,nb,nc))) lC (kM q aH))))) w e1
 ·refine⟨⟨(q,((ps.map Sh.mk).set j (Sh.mk ((nk,na++[r.1.1],nb,nc)))).map Sh.v,r.1.2),kL hs ?_⟩,rfl,fun w hw=>?_⟩
  ·refine aDg (by omega) ?_ ?_ ?_ ?_ ?_
   ·first|omega|(simp only[aD,aV,aJ]<;>omega)
   ·first|omega|(simp only[aD,aV,aJ]<;>omega)
   ·exact ht
   ·first|omega|(simp only[aD,aR,aJ]<;>omega)
   ·exact hq
  ·have e1:=iU q w hw
   exact(dJ sv (dJ p2 (dJ p3 (gF q (Sh.mk ((nk,na++[r.1.1],nb,nc))) lC (kM q aH))))) w e1
 ·rename_i dI hI
  refine⟨⟨(q,((ps.map Sh.mk).set j (Sh.mk ((nk,na.set dI.1.1.toNat r.1.1,nb,nc)))).map Sh.v,r.1.2),kL hs ?_⟩,rfl,fun w hw=>?_⟩
  ·refine aDg (by omega) ?_ ?_ ?_ ?_ ?_
   ·first|omega|(simp only[aD,aV,aJ]<;>omega)
   ·first|omega|(simp only[aD,aV,aJ]<;>omega)
   ·exact ht
   ·first|omega|(simp only[aD,aR,aJ]<;>omega)
   ·exact hq
  ·have e1:=iU q w hw
   exact(dJ p1 (dJ p2 (dJ p3 (gF q (Sh.mk ((nk,na.set dI.1.1.toNat r.1.1,nb,nc))) lC (kM q aH))))) w e1
 ·refine⟨⟨(q,((ps.map Sh.mk).set j (Sh.mk ((nk,na,nb,nc)))).map Sh.v,r.1.2),kL hs ?_⟩,rfl,fun w hw=>?_⟩
  ·refine aDg (by omega) ?_ ?_ ?_ ?_ ?_
   ·first|omega|(simp only[aD,aV,aJ]<;>omega)
   ·first|omega|(simp only[aD,aV,aJ]<;>omega)
   ·exact ht
   ·first|omega|(simp only[aD,aR,aJ]<;>omega)
   ·exact hq
  ·have e1:=iU q w hw
   exact(dJ p1 (dJ p2 (dJ p3 (gF q (Sh.mk ((nk,na,nb,nc))) lC (kM q aH))))) w e1
 ·refine⟨⟨(q,((ps.map Sh.mk).set j (Sh.mk ((nk,na,nb++[[r.1.1]],nc)))).map Sh.v,r.1.2),kL hs ?_⟩,rfl,fun w hw=>?_⟩
  ·refine aDg (by omega) ?_ ?_ ?_ ?_ ?_
   ·first|omega|(simp only[aD,aV,aJ]<;>omega)
   ·first|omega|(simp only[aD,aV,aJ]<;>omega)
   ·exact bFx ht (by simp)
   ·first|omega|(simp only[aD,aR,aJ]<;>omega)
   ·exact hq
  ·have e1:=iU q w hw
   exact(dJ p1 (dJ sv (dJ p3 (gF q (Sh.mk ((nk,na,nb++[[r.1.1]],nc))) lC (kM q aH))))) w e1
 ·refine⟨⟨(q,((ps.map Sh.mk).set j (Sh.mk ((nk,na,nb.set (Int.toNat 0) [r.1.1],nc)))).map Sh.v,r.1.2),kL hs ?_⟩,rfl,fun w hw=>?_⟩
  ·refine aDg (by omega) ?_ ?_ ?_ ?_ ?_
   ·first|omega|(simp only[aD,aV,aJ]<;>omega)
   ·first|omega|(simp only[aD,aV,aJ]<;>omega)
   ·exact bJs ht (by simp)
   ·first|omega|(simp only[aD,aR,aJ]<;>omega)
   ·exact hq
  ·have e1:=iU q w hw
   exact(dJ p1 (dJ p2 (dJ p3 (gF q (Sh.mk ((nk,na,nb.set (Int.toNat 0) [r.1.1],nc))) lC (kM q aH))))) w e1
 ·refine⟨⟨(q,((ps.map Sh.mk).set j (Sh.mk ((nk,na,nb,nc)))).map Sh.v,r.1.2),kL hs ?_⟩,rfl,fun w hw=>?_⟩
  ·refine aDg (by omega) ?_ ?_ ?_ ?_ ?_
   ·first|omega|(simp only[aD,aV,aJ]<;>omega)
   ·first|omega|(simp only[aD,aV,aJ]<;>omega)
   ·exact ht
   ·first|omega|(simp only[aD,aR,aJ]<;>omega)
   ·exact hq
  ·have e1:=iU q w hw
   exact(dJ p1 (dJ p2 (dJ p3 (gF q (Sh.mk ((nk,na,nb,nc))) lC (kM q aH))))) w e1
 ·refine⟨⟨(q,((ps.map Sh.mk).set j (Sh.mk ((nk,na,nb,nc++[r.1.1])))).map Sh.v,r.1.2),kL hs ?_⟩,rfl,fun w hw=>?_⟩
  ·refine aDg (by omega) ?_ ?_ ?_ ?_ ?_
   ·first|omega|(simp only[aD,aV,aJ]<;>omega)
   ·first|omega|(simp only[aD,aV,aJ]<;>omega)
   ·exact ht
   ·first|omega|(simp only[aD,aR,aJ]<;>omega)
   ·exact bBo hq (by omega)
  ·have e1:=iU q w hw
   exact(dJ p1 (dJ p2 (dJ sv (gF q (Sh.mk ((nk,na,nb,nc++[r.1.1]))) lC (kM q aH))))) w e1
 ·refine fU p3 ?_
  repeat' (first|refine aU ?_|refine bG fun sv=>?_|fail)
  refine⟨⟨(q,((ps.map Sh.mk).set j (Sh.mk ((nk,na,nb,nc.drop (Int.toNat 1))))).map Sh.v,r.1.2),kL hs ?_⟩,rfl,fun w hw=>?_⟩
  ·refine aDg (by omega) ?_ ?_ ?_ ?_ ?_
   ·first|omega|(simp only[aD,aV,aJ]<;>omega)
   ·first|omega|(simp only[aD,aV,aJ]<;>omega)
   ·exact ht
   ·first|omega|(simp only[aD,aR,aJ]<;>omega)
   ·exact fun y hy=>hq y (List.mem_of_mem_drop hy)
  ·have e1:=iU q w hw
   exact(dJ p1 (dJ p2 (gF q (Sh.mk ((nk,na,nb,nc.drop (Int.toNat 1)))) lC (kM q aH)))) w e1
 ·refine⟨⟨(q,((ps.map Sh.mk).set j (Sh.mk ((nk,na,nb,nc)))).map Sh.v,r.1.2),kL hs ?_⟩,rfl,fun w hw=>?_⟩
  ·refine aDg (by omega) ?_ ?_ ?_ ?_ ?_
   ·first|omega|(simp only[aD,aV,aJ]<;>omega)
   ·first|omega|(simp only[aD,aV,aJ]<;>omega)
   ·exact ht
   ·first|omega|(simp only[aD,aR,aJ]<;>omega)
   ·exact hq
  ·have e1:=iU q w hw
   exact(dJ p1 (dJ p2 (dJ p3 (gF q (Sh.mk ((nk,na,nb,nc))) lC (kM q aH))))) w e1⟩
theorem aZe:NdB 1 (0,[],[],[]):=⟨by decide,by decide,by decide,fun t ht=>absurd ht (by simp),by decide,fun k hk=>absurd hk (by simp)⟩
instance aX7{I Y:List Atom}{bc:Nat}{vb v0 v1:Value}{code:List UInt8}{p:eL code}{x:aQ}[hb:eO I bc (dV vb p) Y][hv:bK UInt8 Y vb code][h0:eK Int Y v0 x.1][h1:eK cM Y v1 x.2] :
  bQ prog 41 [.pointer (some ⟨bc,0,none⟩),.agg #[v0,v1]] I (True) (PdT 1 code) (fun q:PdT 1 code=>.agg #[q.1.1]) (fun q=>.rd [q.1.1] q.1.2.1::.bk bc (dV vb q.1.2.2)::Y):=⟨fun _ w0=>by
 refine eN hb.perm ?_
 refine aK func41 ntmps41 ?_
 repeat' (first|refine aU ?_|refine bP ?_|refine cV fun r hr=>?_|refine aW fun r=>?_|refine bG fun sv=>?_|refine bT fun b=>?_|refine bV fun hc=>?_|refine bW fun hc=>?_|refine aS (fun hc=>?_) fun hc=>?_|fail)
 all_goals first
  | exact⟨⟨(sv,List.replicate (64+r.1.1).toNat (0,[],[],[]),r.1.2),⟨by simp only[cA];omega,fun y hy=>by rw[List.eq_of_mem_replicate hy];exact aZe⟩⟩,rfl,dJ sv aH⟩
  | (rename PdT 1 code=>d;exact⟨⟨(d.1.1,d.1.2.1,r.2),d.2⟩,rfl,aH⟩)
  | (rename PdT 0 code=>d;exact⟨⟨(d.1.1,d.1.2.1,r.2),d.2.up⟩,rfl,aH⟩)⟩
end Go.Proofs.YtajdgkpjbpindaaGreatDoor
