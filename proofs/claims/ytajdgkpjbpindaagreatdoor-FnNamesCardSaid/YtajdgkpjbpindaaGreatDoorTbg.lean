/- Texts of the proof of FnNames. -/
import Derived.Test.YtajdgkpjbpindaaGreatDoorTbf
import Derived.Test.YtajdgkpjbpindaaGreatDoorTbe
set_option linter.unusedVariables false
set_option linter.unusedSimpArgs false
set_option linter.unusedSectionVars false
namespace Go.Proofs.YtajdgkpjbpindaaGreatDoor
open Go Go.Eng Tryz
set_option synthInstance.maxHeartbeats 400000
set_option synthInstance.maxSize 1000
set_option maxHeartbeats 4000000
set_option maxRecDepth 20000
instance bF8{I:List Atom}{v0 v1 va vb vc vk:Value}{x:aQ}{n:dK}{ks:List jH}[h0:eK Int I v0 x.1][h1:eK cM I v1 x.2][ha:eK Int I va n.2.1][hb:eK (List Int) I vb n.2.2.1][hc':eK Int I vc n.2.2.2][hk:eK jH I vk ks] :
  bQ prog 128 [.agg #[v0,v1],.agg #[.int .i64 n.1,va,vb,vc],vk] I (eE x=true/\NdB 0 n/\∀ c∈ks,ClB c) ((Value×Value)×ClT) (fun q:(Value×Value)×ClT=>.tuple #[.agg #[.int .i64 q.2.1.1.1,q.1.1,q.1.2],.bool q.2.1.2]) (fun q=>.ow [q.1.1] q.2.1.1.2.1::.ow [q.1.2] q.2.1.1.2.2::I):=⟨fun hs w0=>by
 obtain ⟨hok,⟨hnk,hnl,htn,hts,hkn,hkb⟩,hks⟩:=hs
 have hnl1:n.2.1.length<=1000:=by omega
 have htn1:n.2.2.1.length<=1000:=by omega
 refine aK func128 ntmps128 ?_
 repeat' (first|refine aU ?_|refine bT fun b=>?_|fail)
 refine lc_ [8] [9,10,11,12,13,16,17,18,19,20,21,22,23,24,25,7,14,15] (Z:=Nat) (fun k=>[.int .i64 k]) (fun k=>k<=n.2.2.1.length) (fun k=>n.2.2.1.length-k) 0 (aI _) ?_
 intro i u l' hl' hi
 simp only[bM,List.map,List.set] at hl'
 subst hl'
 by_cases hil:i<n.2.2.1.length
 ·repeat' (first|refine aU ?_|refine bP ?_|refine bV fun hc=>?_|refine bW fun hc=>?_|refine aS (fun hc=>?_) fun hc=>?_|refine cV fun r hr=>?_|refine aW fun r=>?_|refine wb 4 [] ?_|refine xp ?_|(refine xd fun p c d e f g h hf=>?_;simp only[Un.cells,Un.atoms,Un.fact,aA,aB] at f g h hf;subst f g h)|refine xy ?_|refine bI ?_|fail)
  ·exact⟨((.slice none 0 0,.slice none 0 0),⟨((0,[],[]),false),iS⟩),rfl,aH⟩
  ·exact eB (i+1) (by omega)
 ·repeat' (first|refine aU ?_|refine cV fun r hr=>?_|refine aW fun r=>?_|refine bV fun hc=>?_|refine bW fun hc=>?_|refine aS (fun hc=>?_) fun hc=>?_|fail)
  all_goals exact⟨r,rfl,aH⟩⟩
theorem bP8{V:Type}{xs:List V}{k:Nat}{d:V}(h:k<xs.length):xs[k]?=some (xs.getD k d):=by rw[aC,aG h];rfl
theorem aA0{V:Type}:∀ {xs:List V} {k:Nat} {d:V},xs.set k (xs.getD k d)=xs
 | [],_,_=>rfl
 | x::xs,0,d=>rfl
 | x::xs,k+1,d=>by rw[List.set_cons_succ,List.getD_cons_succ,aA0]
theorem zW{ks:List (Sh jH)}{c:jH}(h:∀ c∈ks,ClB c.v)(hc:ClB c):∀ d∈ks++[Sh.mk c],ClB d.v:=fun d hd=>(aP.1 hd).elim (h d) fun e=>by rw[aO] at e;rw[e];exact hc
abbrev bOb(n:Nat):Type:={ cs:List jH // cs.length=n/\∀ c∈cs,ClB c }
instance bMa{I:List Atom}{v0 v1 v:Value}{x:aQ}{ps:List dK}[h0:eK Int I v0 x.1][h1:eK cM I v1 x.2][hp:eK dK I v ps] :
  bQ prog 93 [.agg #[v0,v1],.agg #[v]] I (eE x=true/\PfA ps) (Value×bOb ps.length) (fun q:Value×bOb ps.length=>q.1) (fun q=>.rd [q.1] q.2.1::I):=⟨fun hs w0=>by
 obtain ⟨hok,hpf⟩:=hs
 have hpn:=hpf.n
 refine aK func93 ntmps93 ?_
 repeat' (first|refine aU ?_|refine bG fun sv=>?_|refine bT fun b=>?_|fail)
 refine wB (xs:=([]:List jH)) sv ?_
 rw[List.map_nil]
 refine lp_ [5,6] [13,14,15,16,17,20,21,22,23,24,7,25,8,9,10,26,27,28,29,30,33,34,35,36,37,38,39,40,41,42,43,44,45,46,47,48,49,50,51,52,53,54,55,56,31,32,57,11,58,60,61,62,63,59,64,65,66,67,68,69,18,19] (Z:=(Value×List (Sh jH))×Nat) (fun k=>[k.1.1,.int .i64 k.2]) (fun k=>[.ow [k.1.1] k.1.2]) (fun k=>k.2<=ps.length/\k.1.2.length=k.2/\∀ c∈k.1.2,ClB c.v) (fun k=>ps.length-k.2) ((sv,[]),0) [.ow [sv] ([]:List (Sh jH))] ⟨aI _,rfl,fun c hc=>absurd hc (by simp)⟩ ?_
 intro ⟨⟨so,out⟩,i⟩ u l' hl' ⟨hi,hol,hcl⟩
 simp only[bM,List.map,List.set] at hl'
 subst hl'
 simp only[aA,aB] at hi hol hcl ⊢
 by_cases hil:i<ps.length
 ·have hnp:=hpf.a i hil
  have hnb:NdB 0 (ps.getD i default):=aZv hnp (by omega)
  have hkn:=hnb.c
  have hnq:∀ k<(ps.getD i default).2.2.2.length,0<=(ps.getD i default).2.2.2.getD k 0/\(ps.getD i default).2.2.2.getD k 0<i:=fun k hk=>by
   have:¬ ((ps.getD i default).2.2.2.getD k 0<0∨(i:Int)<=(ps.getD i default).2.2.2.getD k 0):=fun h'=>hnp.2.2.2 ⟨k,hk,h'⟩
   omega
  repeat' (first|refine aU ?_|refine bG fun sv=>?_|refine bT fun b=>?_|(refine iH fun p c d f g hf=>?_;simp only[Un.cells,Un.atoms,Un.fact,aA,aB] at f g hf;subst f g)|refine bV fun hc=>?_|refine bW fun hc=>?_|refine aS (fun hc=>?_) fun hc=>?_|fail)
  refine wB (xs:=([]:List jH)) sv ?_
  rw[List.map_nil]
  refine lp_ [8,9,10] [26,27,28,29,30,33,34,35,36,37,38,39,40,41,42,43,44,45,46,47,48,49,50,51,52,53,54,55,56,31,32] (Z:=(Value×List (Sh jH))×Bool×Nat) (fun k=>[k.1.1,.bool k.2.1,.int .i64 k.2.2]) (fun k=>[.ow [k.1.1] k.1.2]) (fun k=>k.2.2<=(ps.getD i default).2.2.2.length/\k.1.2.length=k.2.2/\∀ c∈k.1.2,ClB c.v) (fun k=>(ps.getD i default).2.2.2.length-k.2.2) ((sv,[]),true,0) [.ow [sv] ([]:List (Sh jH))] ⟨aI _,rfl,fun c hc=>absurd hc (by simp)⟩ ?_
  intro ⟨⟨sk,ks⟩,is,j⟩ u2 l2 hl2 ⟨hj,hkl,hkc⟩
  simp only[bM,List.map,List.set] at hl2
  subst hl2
  simp only[aA,aB] at hj hkl hkc ⊢
  by_cases hjl:j<(ps.getD i default).2.2.2.length
  ·have hq:=hnq j hjl
   have hce:=hcl _ (dX (xs:=out) (k:=((ps.getD i default).2.2.2.getD j 0).toNat) (by omega))
   haveI:fJ ((ps.getD i default).2.2.2.getD j 0) ((ps.getD i default).2.2.2.getD j 0).toNat:=⟨by omega⟩
   haveI:I6 (out.getD ((ps.getD i default).2.2.2.getD j 0).toNat default).v.1:=⟨by have:=hce.k;omega⟩
   refine aIp so ((ps.getD i default).2.2.2.getD j 0).toNat (y:=out.getD ((ps.getD i default).2.2.2.getD j 0).toNat default) (bP8 (by omega)) fun pp hf=>?_
   simp only[UnO.cells,UnO.atoms,UnO.fact,aA,aB,cF,Un.cells,Un.atoms,Un.fact] at hf ⊢
   repeat' (first|refine aU ?_|refine eF fun hbi=>?_|refine bP ?_|refine bG fun sv=>?_|refine bV fun hc=>?_|refine bW fun hc=>?_|refine aS (fun hc=>?_) fun hc=>?_|fail)
   ·exact dH ((sv,ks++[(out.getD ((ps.getD i default).2.2.2.getD j 0).toNat default).v].map Sh.mk),decide ((out.getD ((ps.getD i default).2.2.2.getD j 0).toNat default).v.1≠0),j+1) ⟨by simp only;omega,by simp only[aD,aY,aJ];omega,zW hkc hce⟩ (by simp only;omega) (by kernel_rfl) (gF so (out.getD ((ps.getD i default).2.2.2.getD j 0).toNat default) lC (by rw[aA0];exact aH))
   ·exact dH ((sv,ks++[(out.getD ((ps.getD i default).2.2.2.getD j 0).toNat default).v].map Sh.mk),false,j+1) ⟨by simp only;omega,by simp only[aD,aY,aJ];omega,zW hkc hce⟩ (by simp only;omega) (by kernel_rfl) (gF so (out.getD ((ps.getD i default).2.2.2.getD j 0).toNat default) lC (by rw[aA0];exact aH))
  ·refine sH sk ?_
   have hkv:∀ c∈ks.map Sh.v,ClB c:=fun c hc=>by
    obtain ⟨y,hy,e⟩:=dT.1 hc
    exact e▸hkc y hy
   repeat' (first|refine aU ?_|refine cV fun r hr=>?_|refine aW fun r=>?_|refine bG fun sv=>?_|refine bT fun b=>?_|refine bV fun hc=>?_|refine bW fun hc=>?_|refine aS (fun hc=>?_) fun hc=>?_|fail)
   ·haveI:I6 r.2.1.1.1:=⟨by have:=r.2.2.k;omega⟩
    refine fU r.1.1 ?_
    refine fU r.1.2 ?_
    repeat' (first|refine aU ?_|refine bP ?_|refine bG fun sv=>?_|fail)
    exact eB ((sv,out++[(r.2.1.1.1,r.2.1.1.2.1,r.2.1.1.2.2)].map Sh.mk),i+1) ⟨by simp only;omega,by simp only[aD,aY,aJ];omega,zW hcl r.2.2⟩
   ·refine fU sv ?_
    repeat' (first|refine aU ?_|refine bP ?_|refine bG fun sv=>?_|fail)
    exact eB ((sv,out++[(0,[],[])].map Sh.mk),i+1) ⟨by simp only;omega,by simp only[aD,aY,aJ];omega,zW hcl iS⟩
 ·repeat' (first|refine aU ?_|refine bV fun hc=>?_|refine bW fun hc=>?_|refine aS (fun hc=>?_) fun hc=>?_|fail)
  refine⟨(so,⟨out.map Sh.v,by rw[aY];omega,fun c hc=>?_⟩),rfl,kM so aH⟩
  obtain ⟨y,hy,e⟩:=dT.1 hc
  exact e▸hcl y hy⟩
instance (priority:=2000) bKy{I Y:List Atom}{b:Nat}[h:kV I Y]:kV (.bk b [.int .i64 0,.slice none 0 0,.slice none 0 0]::I) Y:=⟨iW h.sub⟩
instance bHg{I:List Atom}{v0 v1 v:Value}{x:aQ}{ps:List dK}{at_:Int}[h0:eK Int I v0 x.1][h1:eK cM I v1 x.2][hp:eK dK I v ps] :
  bQ prog 61 [.agg #[v0,v1],.agg #[v],.int .i64 at_] I (ps.length<=1048576) ((Value×Value)×ClT) (fun q:(Value×Value)×ClT=>.tuple #[.agg #[.int .i64 q.2.1.1.1,q.1.1,q.1.2],.bool q.2.1.2]) (fun q=>.rd [q.1.1] q.2.1.1.2.1::.rd [q.1.2] q.2.1.1.2.2::I):=⟨fun hl w0=>by
 refine aK func61 ntmps61 ?_
 repeat' (first|refine aU ?_|refine bP ?_|refine cV fun r hr=>?_|refine aW fun r=>?_|refine bT fun b=>?_|refine bV fun hc=>?_|refine bW fun hc=>?_|refine aS (fun hc=>?_) fun hc=>?_|fail)
 all_goals try exact⟨((.slice none 0 0,.slice none 0 0),⟨((0,[],[]),false),iS⟩),rfl,fun w hs=>(dJ (.slice none 0 0) (x:=([]:List Int)) (dJ (.slice none 0 0) (x:=([]:List Int)) aH)) w ((aH:Go.Eng.Ent w0 _ (@Atom.ow (List Int) bA [.slice none 0 0] []::@Atom.ow (List Int) bA [.slice none 0 0] []::I)) w hs)⟩
 rename rG ps ps.length/\1<=ps.length/\ps.length<=64=>hal
 have hpf:PfA ps:=⟨hal.2.2,hal.1⟩
 repeat' (first|refine aU ?_|refine cV fun r hr=>?_|refine aW fun r=>?_|fail)
 have hrl:=r.2.2.1
 haveI:fJ at_ at_.toNat:=⟨by omega⟩
 have hb:=r.2.2.2 _ (dX (xs:=r.2.1) (k:=at_.toNat) (by omega))
 repeat' (first|refine aU ?_|refine bT fun b=>?_|(refine iH fun p c d f g hf=>?_;simp only[Un.cells,Un.atoms,Un.fact,aA,aB] at f g hf;subst f g)|fail)
 ((refine wbd 4 [] ?_<;>repeat' (first|refine aU ?_|refine xp ?_|refine xy ?_|fail))<;>refine bI ?_)
 repeat' (first|refine aU ?_|fail)
 exact⟨((p.2.1,p.2.2),⟨(r.2.1.getD at_.toNat default,decide ((r.2.1.getD at_.toNat default).1≠0)),hb⟩),rfl,aH⟩⟩
instance bId{I:List Atom}{v0 v1 v:Value}{x:aQ}{ps:List dK}[h0:eK Int I v0 x.1][h1:eK cM I v1 x.2][hp:eK dK I v ps] :
  bQ prog 31 [.agg #[v0,v1],.agg #[v]] I (ps.length<=1048576) ((Value×Value)×ClT) (fun q:(Value×Value)×ClT=>.tuple #[.agg #[.int .i64 q.2.1.1.1,q.1.1,q.1.2],.bool q.2.1.2]) (fun q=>.rd [q.1.1] q.2.1.1.2.1::.rd [q.1.2] q.2.1.1.2.2::I):=⟨fun hl w0=>by
 refine aK func31 ntmps31 ?_
 repeat' (first|refine aU ?_|refine bP ?_|refine cV fun r hr=>?_|refine aW fun r=>?_|refine bT fun b=>?_|fail)
 exact⟨r,rfl,aH⟩⟩
instance (priority:=2000) bPa{I Y:List Atom}{b:Nat}[h:kV I Y]:kV (.bk b [.slice none 0 0]::I) Y:=⟨iW h.sub⟩
instance (priority:=2000) bPs{I Y:List Atom}{b:Nat}[h:kV I Y]:kV (.bk b [.slice none 0 0,.slice none 0 0]::I) Y:=⟨iW h.sub⟩
instance (priority:=2000) bPr{I Y:List Atom}{b:Nat}[h:kV I Y]:kV (.bk b [.int .i64 0,.slice none 0 0,.slice none 0 0,.slice none 0 0]::I) Y:=⟨iW h.sub⟩
abbrev LdT(code:List UInt8):Type:={ q:(Value×Value×Value)×aQ×List dK×eL code // q.2.1.1.length<=9/\PfB 1 q.2.2.1 }
instance bIt{I Y:List Atom}{bc:Nat}{vb:Value}{code:List UInt8}{p:eL code}[hb:eO I bc (dV vb p) Y][hv:bK UInt8 Y vb code] :
  bQ prog 30 [.pointer (some ⟨bc,0,none⟩)] I (True) (LdT code) (fun q:LdT code=>.tuple #[.agg #[q.1.1.1,q.1.1.2.1],.agg #[q.1.1.2.2]]) (fun q=>.rd [q.1.1.1] q.1.2.1.1::.rd [q.1.1.2.1] q.1.2.1.2::.rd [q.1.1.2.2] q.1.2.2.1::.bk bc (dV vb q.1.2.2.2)::Y):=⟨fun _ w0=>by
 refine eN hb.perm ?_
 refine aK func30 ntmps30 ?_
 repeat' (first|refine aU ?_|refine cV fun r hr=>?_|refine aW fun r=>?_|refine bT fun b=>?_|refine bV fun hc=>?_|refine bW fun hc=>?_|refine aS (fun hc=>?_) fun hc=>?_|fail)
 ·rename PdT 1 code=>d
  refine fC r.1.1 ?_
  refine sH r.1.2.1 ?_
  ((refine wbd 5 [] ?_<;>repeat' (first|refine aU ?_|refine xp ?_|refine xy ?_|fail))<;>refine bI ?_)
  repeat' (first|refine aU ?_|fail)
  exact⟨⟨((r.1.1,r.1.2.1,d.1.1),(r.1.2.2.1,r.1.2.2.2.1.map Sh.v),d.1.2.1,r.1.2.2.2.2),hr.1,d.2⟩,rfl,aH⟩
 ·rename PdT 1 code=>d
  rename DaT code=>y
  ((refine wbd 5 [] ?_<;>repeat' (first|refine aU ?_|refine xp ?_|refine xy ?_|fail))<;>refine bI ?_)
  repeat' (first|refine aU ?_|fail)
  exact⟨⟨((y.1.1,y.1.2.1,d.1.1),y.1.2.2.1,d.1.2.1,r.2),y.2.1,d.2⟩,rfl,aH⟩⟩
theorem aIq{w0:World}{I Ε:List Atom}(V:Type)[iα:cB V](h:Go.Eng.Ent w0 (@Atom.rd (List V) bA [.slice none 0 0] []::I) Ε):Go.Eng.Ent w0 I Ε:=fun w hs=>h w (gX.sat (I:=I) (Y:=@Atom.ow (List V) bA [.slice none 0 0] []::I) zP hs).share
abbrev LnT(code:List UInt8):Type:={ q:(Value×Value×Value×Value)×List Int×dK×eL code // q.2.1.length<=9/\(-9223372036854775808<=q.2.2.1.1/\q.2.2.1.1<=9223372036854775807) }
instance aT9{I Y:List Atom}{bc:Nat}{vb:Value}{code:List UInt8}{p:eL code}[hb:eO I bc (dV vb p) Y][hv:bK UInt8 Y vb code] :
  bQ prog 17 [.pointer (some ⟨bc,0,none⟩)] I (True) (LnT code) (fun q:LnT code=>.tuple #[.agg #[q.1.1.1],.agg #[.int .i64 q.1.2.2.1.1,q.1.1.2.1,q.1.1.2.2.1,q.1.1.2.2.2]]) (fun q=>.rd [q.1.1.1] q.1.2.1::.rd [q.1.1.2.1] q.1.2.2.1.2.1::.rd [q.1.1.2.2.1] q.1.2.2.1.2.2.1::.rd [q.1.1.2.2.2] q.1.2.2.1.2.2.2::.bk bc (dV vb q.1.2.2.2)::Y):=⟨fun _ w0=>by
 refine eN hb.perm ?_
 refine aK func17 ntmps17 ?_
 repeat' (first|refine aU ?_|refine cV fun r hr=>?_|refine aW fun r=>?_|refine bT fun b=>?_|refine bV fun hc=>?_|refine bW fun hc=>?_|refine aS (fun hc=>?_) fun hc=>?_|refine bG fun sv=>?_|refine wN 4 [9,10] ?_|refine xp ?_|refine x0 ?_|refine xy ?_|refine x2 ?_ ?_|refine bI ?_|fail)
 iterate 3
  ·rename DaT code=>y
   rename { q:Int×eL code // -9223372036854775808<=q.1/\q.1<=9223372036854775807 }=>d1
   exact⟨⟨((y.1.1,sv,.slice none 0 0,.slice none 0 0),y.1.2.2.1.1,(3,[d1.1.1,-9223372036854775807-r.1.1],[],[]),r.1.2),y.2.1,(by decide:(-9223372036854775808:Int)<=3/\(3:Int)<=9223372036854775807)⟩,rfl,dJ sv (aIq (List Int) (aIq Int aH))⟩
 ((refine wbd 5 [] ?_<;>repeat' (first|refine aU ?_|refine cV fun r hr=>?_|refine aW fun r=>?_|refine xp ?_|(refine xd fun p c d e f g h hf=>?_;simp only[Un.cells,Un.atoms,Un.fact,aA,aB] at f g h hf;subst f g h)|refine xy ?_|fail))<;>refine bI ?_)
 repeat' (first|refine aU ?_|fail)
 rename DaT code=>y
 rename PdT 1 code=>d
 exact⟨⟨((y.1.1,p.2.1,p.2.2.1,p.2.2.2),y.1.2.2.1.1,d.1.2.1.getD r.1.1.toNat default,r.1.2),y.2.1,hf.1⟩,rfl,aH⟩⟩
abbrev LcT(code:List UInt8):Type:={ q:(Value×Value×Value)×List Int×jH×eL code // q.2.1.length<=9/\(0<=q.2.2.1.1/\q.2.2.1.1<=9)/\q.2.2.1.2.1.length<=60/\q.2.2.1.2.2.length<=60 }
instance aPx{I:List Atom}{vc:Value}{code:List UInt8}[hv:bK UInt8 I vc code] :
  bQ prog 10 [vc] I (True) (LcT code) (fun q:LcT code=>.tuple #[.agg #[q.1.1.1],.agg #[.int .i64 q.1.2.2.1.1,q.1.1.2.1,q.1.1.2.2]]) (fun q=>.rd [q.1.1.1] q.1.2.1::.rd [q.1.1.2.1] q.1.2.2.1.2.1::.rd [q.1.1.2.2] q.1.2.2.1.2.2::I):=⟨fun _ w0=>by
 refine aK func10 ntmps10 ?_
 repeat' (first|refine aU ?_|refine cV fun r hr=>?_|refine aW fun r=>?_|refine bT fun b=>?_|fail)
 have hpn:r.1.2.2.1.length<=1048576:=by have:=hr.2.n;omega
 rename LdT code=>y
 repeat' (first|refine aU ?_|refine cV fun r hr=>?_|refine aW fun r=>?_|refine bT fun b=>?_|refine bV fun hc=>?_|refine bW fun hc=>?_|refine aS (fun hc=>?_) fun hc=>?_|refine wN 5 [11] ?_|refine xp ?_|refine xy ?_|refine bI ?_|fail)
 iterate 2
  ·((refine wbd 6 [] ?_<;>(first|refine bY 0 ?_|fail)<;>refine bY 1 ?_<;>(first|refine bY 2 ?_|fail)<;>(refine bX 3 ?_<;>(repeat' (first|refine aU ?_|fail)))<;>(refine bX 4 ?_<;>(repeat' (first|refine aU ?_|fail))))<;>refine bI ?_)
   repeat' (first|refine aU ?_|fail)
   rename { q:Int×eL code // 0<=q.1/\q.1<=9 }=>k
   revert r
   rename { q:Value×List Int×eL code // q.2.1.length<=41 }=>t1
   intro r hr
   exact⟨⟨((y.1.1.1,t1.1.1,r.1.1),y.1.2.1.1,(k.1.1,t1.1.2.1,r.1.2.1),r.1.2.2),y.2.1,k.2,by have:=t1.2;simp only;omega,by simp only;omega⟩,rfl,aH⟩
 ·((refine wbd 6 [] ?_<;>(first|refine bY 0 ?_|fail)<;>refine bY 1 ?_<;>(first|refine bY 2 ?_|fail)<;>(refine bX 3 ?_<;>(repeat' (first|refine aU ?_|fail)))<;>(refine bX 4 ?_<;>(repeat' (first|refine aU ?_|fail))))<;>refine bI ?_)
  repeat' (first|refine aU ?_|fail)
  rename (Value×Value)×ClT=>c
  exact⟨⟨((y.1.1.1,c.1.1,c.1.2),y.1.2.1.1,c.2.1.1,r.2),y.2.1,c.2.2.k,c.2.2.a,c.2.2.b⟩,rfl,aH⟩⟩
end Go.Proofs.YtajdgkpjbpindaaGreatDoor
