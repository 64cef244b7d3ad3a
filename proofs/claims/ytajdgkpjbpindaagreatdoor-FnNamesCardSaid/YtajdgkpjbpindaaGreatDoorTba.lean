/- Texts of the proof of FnNames. -/
import Derived.Test.YtajdgkpjbpindaaGreatDoorTay
import Derived.Test.YtajdgkpjbpindaaGreatDoorTaz
set_option linter.unusedVariables false
set_option linter.unusedSimpArgs false
set_option linter.unusedSectionVars false
namespace Go.Proofs.YtajdgkpjbpindaaGreatDoor
open Go Go.Eng Tryz
set_option synthInstance.maxHeartbeats 400000
set_option synthInstance.maxSize 1000
set_option maxHeartbeats 4000000
set_option maxRecDepth 20000
instance LeftLinearInN_ctr{I:List Atom}{v0 v1:Value}{x:aQ}[h0:bK Int I v0 x.1][h1:bK cM I v1 x.2] :
  bQ prog 182 [.agg #[v0,v1]] I True Bool (fun q:Bool=>.bool q) (fun _=>I):=⟨fun _ w0=>by
 refine jV (fun w1=>?_) (aE h0 (aE h1 fI))
 refine dQ v1 fun hlx=>?_
 refine aK func182 ntmps182 ?_
 repeat' (first|refine aU ?_|refine cV fun r hr=>?_|refine aW fun r=>?_|refine bT fun b=>?_|refine bV fun hc=>?_|refine bW fun hc=>?_|refine aS (fun hc=>?_) fun hc=>?_|fail)
 ·exact⟨_,rfl,aH⟩
 ·have hok:eE x=true:=by assumption
  refine lc_ [3] [7,8,9,10,11,14,15,16,17,18,19,20,21,2,12,13] (Z:=Nat) (fun k=>[.int .i64 k]) (fun k=>k<=x.2.length) (fun k=>x.2.length-k) 0 (aI _) ?_
  intro k u l' hl' hk
  simp only[bM,List.map,List.set] at hl'
  subst hl'
  have hlk:=fun h=>aX (iB hok (k:=k) h).1
  repeat' (first|refine aU ?_|refine bP ?_|refine cV fun r hr=>?_|refine aW fun r=>?_|(refine iH fun p c d f g hf=>?_;simp only[Un.cells,Un.atoms,Un.fact,aA,aB] at f g hf;subst f g)|refine bV fun hc=>?_|refine bW fun hc=>?_|refine aS (fun hc=>?_) fun hc=>?_|fail)
  ·exact⟨_,rfl,aH⟩
  ·exact eB (k+1) (by omega)
  ·exact⟨_,rfl,aH⟩⟩
instance aGi{I:List Atom}{v0 v1 va vb:Value}{x:aQ}{a y:List Int}[h0:bK Int I v0 x.1][h1:bK cM I v1 x.2][h2:bK Int I va a][h3:bK Int I vb y] :
  bQ prog 248 [.agg #[v0,v1],va,vb] I True Bool (fun q:Bool=>.bool q) (fun _=>I):=⟨fun _ w0=>by
 refine jV (fun w1=>?_) (aE h0 (aE h1 (aE h2 (aE h3 fI))))
 refine dQ v1 fun hlx=>?_
 refine aK func248 ntmps248 ?_
 repeat' (first|refine aU ?_|refine bT fun b=>?_|fail)
 refine lc_ [7] [10,11,12,13,14,18,19,20,21,17,22,23,8,9,24,25,26,27,28,29,6,15,16] (Z:=Nat) (fun k=>[.int .i64 k]) (fun k=>k<=x.2.length) (fun k=>x.2.length-k) 0 (aI _) ?_
 intro k u l' hl' hk
 simp only[bM,List.map,List.set] at hl'
 subst hl'
 by_cases hlt:k<x.2.length
 ·repeat' (first|refine aU ?_|refine bP ?_|refine cV fun r hr=>?_|refine aW fun r=>?_|refine bV fun hc=>?_|refine bW fun hc=>?_|refine aS (fun hc=>?_) fun hc=>?_|fail)
  all_goals first|exact⟨_,rfl,aH⟩|exact eB (k+1) (by omega)
 ·repeat' (first|refine aU ?_|refine bV fun hc=>?_|refine bW fun hc=>?_|refine aS (fun hc=>?_) fun hc=>?_|fail)
  exact⟨_,rfl,aH⟩⟩
attribute [local instance 2000] aGi aDk LeftLinearInN_ctr
theorem aBx(a t:List Int):∀ {n i:Nat},i<n->(fF a t n).getD i default=(⟨mK a t (pC a (iZ t) i)⟩:Sh (List Int))
 | n+1,i,h=>by
  show(fF a t n++[(⟨mK a t (pC a (iZ t) n)⟩:Sh (List Int))]).getD i default=_
  by_cases he:i<n
  ·rw[aC,dD (by rw[fS];omega),← aC,aBx a t he]
  ·rw[aC,cP (by rw[fS];omega),fS,show i-n=0 by omega,show n=i by omega];rfl
theorem aBi{a t:List Int}(h:jO a t)(h0:0<=t.getD 0 0){i:Nat}(hi:i<iA a t):jO a ((fF a t (iA a t)).getD i default).v/\((fF a t (iA a t)).getD i default).v.length<t.length:=by
 have hlt:=aN3 h h0 hi
 rw[aBx a t hi]
 refine⟨h.sub hlt,?_⟩
 simp only
 rw[aIk h hlt]
 have h1:=h.at hlt
 have h2:=aFv a (iZ t) i
 omega
theorem xS(n:Nat):∀ {w0:World} {I:List Atom} {v0 v1 va vb:Value} {x:aQ} {a y:List Int} [h0:bK Int I v0 x.1] [h1:bK cM I v1 x.2] [h2:bK Int I va a] [h3:bK Int I vb y] (hs:jO x.1 a/\jO x.1 y/\a.length<=n),CJ prog 183 [.agg #[v0,v1],va,vb] w0 I (fun q:Bool=>.bool q) (fun _=>I):=by
 induction n with
 | zero=>
  intro w0 I v0 v1 va vb x a y h0 h1 h2 h3 hs
  have:=hs.1.len
  omega
 | succ n ih=>
  intro w0 I v0 v1 va vb x a y h0 h1 h2 h3 hs
  haveI hI:∀ (Y:List Atom) (v0 v1 va vb:Value) (x:aQ) (a y:List Int) [bK Int Y v0 x.1] [bK cM Y v1 x.2] [bK Int Y va a] [bK Int Y vb y],bQ prog 183 [.agg #[v0,v1],va,vb] Y (jO x.1 a/\jO x.1 y/\a.length<=n) Bool (fun q=>.bool q) (fun _=>Y):=fun Y _ _ _ _ _ _ _ _ _ _ _=>⟨fun s w0=>ih s⟩
  refine jV (fun w1=>?_) (aE h0 (aE h1 (aE h2 (aE h3 fI))))
  obtain ⟨hs2,hs3,hs4⟩:=hs
  have hal:=hs2.len
  have hbl:=hs3.len
  refine aK func183 ntmps183 ?_
  repeat' (first|refine aU ?_|refine cV fun r hr=>?_|refine aW fun r=>?_|refine bT fun b=>?_|refine bV fun hc=>?_|refine bW fun hc=>?_|refine aS (fun hc=>?_) fun hc=>?_|refine wb 3 [] ?_|refine xf fun hbi=>?_|refine xp ?_|refine xg ?_|refine xn ?_|refine pM fun hc=>?_|refine pN fun hc=>?_|refine xi (fun hc=>?_) fun hc=>?_|refine bI ?_|fail)
  all_goals try exact⟨_,rfl,aH⟩
  have hroot:0<=a.getD 0 0/\a.getD 0 0=y.getD 0 0:=⟨hc,by assumption⟩
  have hN:iA x.1 y=iA x.1 a:=by unfold iA;rw[← hroot.2]
  have hla:=fS x.1 a (iA x.1 a)
  have hly:=fS x.1 y (iA x.1 y)
  have hn3:=aZg hs2 hroot.1
  rename_i ra
  refine fC ra ?_
  refine fC r ?_
  refine lc_ [9] [40,41,42,43,46,47,48,49,50,51,52,53,54,55,56,6,44,45] (Z:=Nat) (fun i=>[.int .i64 i]) (fun i=>i<=iA x.1 a) (fun i=>iA x.1 a-i) 0 (aI _) ?_
  intro i u l' hl' hi
  simp only[bM,List.map,List.set] at hl'
  subst hl'
  by_cases hilt:i<iA x.1 a
  ·have hga:=aBi hs2 hroot.1 hilt
   have hgy:=aBi hs3 (by omega) (i:=i) (by omega)
   obtain ⟨hga1,hga2⟩:=hga
   obtain ⟨hgy1,hgy2⟩:=hgy
   repeat' (first|refine aU ?_|refine bP ?_|refine bV fun hc=>?_|refine bW fun hc=>?_|refine aS (fun hc=>?_) fun hc=>?_|refine cV fun r hr=>?_|refine aW fun r=>?_|refine wb 10 [] ?_|refine xp ?_|(refine xd fun p c d e f g h hf=>?_;simp only[Un.cells,Un.atoms,Un.fact,aA,aB] at f g h hf;subst f g h)|refine xy ?_|refine bI ?_|fail)
   all_goals first|exact⟨_,rfl,aH⟩|exact eB (i+1) (by omega)
  ·repeat' (first|refine aU ?_|refine bV fun hc=>?_|refine bW fun hc=>?_|refine aS (fun hc=>?_) fun hc=>?_|fail)
   exact⟨_,rfl,aH⟩
instance xM{I:List Atom}{v0 v1 va vb:Value}{x:aQ}{a y:List Int}[h0:bK Int I v0 x.1][h1:bK cM I v1 x.2][h2:bK Int I va a][h3:bK Int I vb y] :
  bQ prog 183 [.agg #[v0,v1],va,vb] I (jO x.1 a/\jO x.1 y) (Bool) (fun q:Bool=>.bool q) (fun _=>I):=⟨fun hs w0=>by
 exact xS 60 ⟨hs.1,hs.2,hs.1.len.2⟩⟩
attribute [local instance 2000] xM
instance aQr{I:List Atom}{v0 v1:Value}{x:aQ}[h0:eK Int I v0 x.1][h1:eK cM I v1 x.2] :
  bQ prog 134 [.agg #[v0,v1]] I True Bool (fun q:Bool=>.bool q) (fun _=>I):=⟨fun _ w0=>by
 refine aK func134 ntmps134 ?_
 repeat' (first|refine aU ?_|refine cV fun r hr=>?_|refine aW fun r=>?_|refine bT fun b=>?_|refine bV fun hc=>?_|refine bW fun hc=>?_|refine aS (fun hc=>?_) fun hc=>?_|fail)
 all_goals try exact⟨_,rfl,aH⟩⟩
instance bFy{I:List Atom}{v0 v1:Value}{x:aQ}[h0:eK Int I v0 x.1][h1:eK cM I v1 x.2] :
  bQ prog 135 [.agg #[v0,v1]] I True Bool (fun q:Bool=>.bool q) (fun _=>I):=⟨fun _ w0=>by
 refine aK func135 ntmps135 ?_
 repeat' (first|refine aU ?_|refine cV fun r hr=>?_|refine aW fun r=>?_|refine bT fun b=>?_|refine bV fun hc=>?_|refine bW fun hc=>?_|refine aS (fun hc=>?_) fun hc=>?_|fail)
 all_goals try exact⟨_,rfl,aH⟩
 rename Value×PkT x=>pk
 have hpk:=pk.2.2.2
 have hpl:=pk.2.2.1
 refine fC pk.1 ?_
 refine lc_ [5] [18,19,20,21,24,25,26,27,28,29,30,31,32,33,34,35,36,2,22,23] (Z:=Nat) (fun k=>[.int .i64 k]) (fun k=>k<=pk.2.1.1.length) (fun k=>pk.2.1.1.length-k) 0 (aI _) ?_
 intro i u l' hl' hi
 simp only[bM,List.map,List.set] at hl'
 subst hl'
 by_cases hil:i<pk.2.1.1.length
 ·have hp:=hpk _ (dX hil)
  have hp1:=hp.l
  have hp2:=hp.r
  repeat' (first|refine aU ?_|refine bP ?_|refine bV fun hc=>?_|refine bW fun hc=>?_|refine aS (fun hc=>?_) fun hc=>?_|refine cV fun r hr=>?_|refine aW fun r=>?_|refine wb 7 [] ?_|refine xp ?_|(refine xd fun p c d e f g h hf=>?_;simp only[Un.cells,Un.atoms,Un.fact,aA,aB] at f g h hf;subst f g h)|refine xy ?_|refine bI ?_|fail)
  all_goals first|exact⟨_,rfl,aH⟩|exact eB (i+1) (by omega)|skip
 ·repeat' (first|refine aU ?_|refine bV fun hc=>?_|refine bW fun hc=>?_|refine aS (fun hc=>?_) fun hc=>?_|fail)
  exact⟨_,rfl,aH⟩⟩
instance aYu{I:List Atom}{v0 v1 p0 p1 p2:Value}{x:aQ}{pk:mQ}{n:Int}[h0:eK Int I v0 x.1][h1:eK cM I v1 x.2][h2:eK Int I p0 pk.1][h3:eK Int I p1 pk.2.1][h4:eK Int I p2 pk.2.2.1] :
  bQ prog 137 [.agg #[v0,v1],.agg #[p0,p1,p2,.int .i64 pk.2.2.2.1,.int .i64 pk.2.2.2.2.1,.int .i64 pk.2.2.2.2.2],.int .i64 n] I (True) ((Value×Value)×(Value×Value)×Jn2) (fun q:(Value×Value)×(Value×Value)×Jn2=>.tuple #[.agg #[q.1.1,q.1.2],.agg #[q.2.1.1,q.2.1.2],.bool q.2.2.1.2.2]) (fun q=>.ow [q.1.1] q.2.2.1.1.1::.ow [q.1.2] q.2.2.1.1.2::.ow [q.2.1.1] q.2.2.1.2.1.1::.ow [q.2.1.2] q.2.2.1.2.1.2::I):=⟨fun _ w0=>by
 refine aK func137 ntmps137 ?_
 repeat' (first|refine aU ?_|refine cV fun r hr=>?_|refine aW fun r=>?_|refine bT fun b=>?_|refine bV fun hc=>?_|refine bW fun hc=>?_|refine aS (fun hc=>?_) fun hc=>?_|fail)
 ·exact⟨((.slice none 0 0,.slice none 0 0),(.slice none 0 0,.slice none 0 0),⟨(([],[]),([],[]),false),lH,lH⟩),rfl,aH⟩
 ·exact⟨r,rfl,aH⟩⟩
instance bAq{I:List Atom}{v0 v1:Value}{xs ys:List (List Int)}[h0:eK (List Int) I v0 xs][h1:eK (List Int) I v1 ys] :
  bQ prog 187 [v0,v1] I (True) ((Value×List Int)×(Value×List Int)×Bool) (fun q:(Value×List Int)×(Value×List Int)×Bool=>.tuple #[q.1.1,q.2.1.1,.bool q.2.2]) (fun q=>.rd [q.1.1] q.1.2::.rd [q.2.1.1] q.2.1.2::I):=⟨fun _ w0=>by
 refine dQ v0 fun hl0=>?_
 refine dQ v1 fun hl1=>?_
 refine aK func187 ntmps187 ?_
 repeat' (first|refine aU ?_|fail)
 refine lc_ [7] [9,10,11,12,8,15,16,17,18,21,22,23,24,25,26,27,28,29,30,31,32,33,34,35,36,37,38,4,5,6,19,20,13,14] (Z:=Nat) (fun k=>[.int .i64 k]) (fun k=>k<=xs.length) (fun k=>xs.length-k) 0 (aI _) ?_
 intro i u l' hl' hi
 simp only[bM,List.map,List.set] at hl'
 subst hl'
 by_cases hil:i<xs.length
 ·repeat' (first|refine aU ?_|refine bV fun hc=>?_|refine bW fun hc=>?_|refine aS (fun hc=>?_) fun hc=>?_|fail)
  refine lc_ [8] [15,16,17,18,21,22,23,24,25,26,27,28,29,30,31,32,33,34,35,36,37,38,4,5,6,19,20] (Z:=Nat) (fun k=>[.int .i64 k]) (fun k=>k<=ys.length) (fun k=>ys.length-k) 0 (aI _) ?_
  intro k u2 l2 hl2 hk
  simp only[bM,List.map,List.set] at hl2
  subst hl2
  by_cases hkl:k<ys.length
  ·repeat' (first|refine aU ?_|refine bP ?_|refine bV fun hc=>?_|refine bW fun hc=>?_|refine aS (fun hc=>?_) fun hc=>?_|refine cV fun r hr=>?_|refine aW fun r=>?_|refine wb 7 [] ?_|refine wb 8 [] ?_|refine xp ?_|(refine xd fun p c d e f g h hf=>?_;simp only[Un.cells,Un.atoms,Un.fact,aA,aB] at f g h hf;subst f g h)|refine xy ?_|refine bI ?_|fail)
   ·exact⟨((_,xs.getD i default),(_,ys.getD k default),true),rfl,aH⟩
   ·exact eB (k+1) (by omega)
  ·repeat' (first|refine aU ?_|refine bP ?_|refine bV fun hc=>?_|refine bW fun hc=>?_|refine aS (fun hc=>?_) fun hc=>?_|fail)
   exact eB (i+1) (by omega)
 ·repeat' (first|refine aU ?_|refine bG fun sv=>?_|refine bV fun hc=>?_|refine bW fun hc=>?_|refine aS (fun hc=>?_) fun hc=>?_|fail)
  rename_i sv2
  exact⟨((_,[]),(_,[]),false),rfl,dJ sv (dJ sv2 aH)⟩⟩
instance bGq{I:List Atom}{v0 v1:Value}{x:aQ}{n:Int}[h0:eK Int I v0 x.1][h1:eK cM I v1 x.2] :
  bQ prog 140 [.agg #[v0,v1],.int .i64 n] I (True) (((Value×Value×Value)×(Value×List Int)×(Value×List Int))×{ y:mQ×Bool // y.2=true->PkP x y.1 }) (fun q:((Value×Value×Value)×(Value×List Int)×(Value×List Int))×{ y:mQ×Bool // y.2=true->PkP x y.1 }=>.tuple #[.agg #[q.1.1.1,q.1.1.2.1,q.1.1.2.2,.int .i64 q.2.1.1.2.2.2.1,.int .i64 q.2.1.1.2.2.2.2.1,.int .i64 q.2.1.1.2.2.2.2.2],q.1.2.1.1,q.1.2.2.1,.bool q.2.1.2]) (fun q=>.rd [q.1.1.1] q.2.1.1.1::.rd [q.1.1.2.1] q.2.1.1.2.1::.rd [q.1.1.2.2] q.2.1.1.2.2.1::.rd [q.1.2.1.1] q.1.2.1.2::.rd [q.1.2.2.1] q.1.2.2.2::I):=⟨fun _ w0=>by
 refine aK func140 ntmps140 ?_
 repeat' (first|refine aU ?_|refine cV fun r hr=>?_|refine aW fun r=>?_|refine bT fun b=>?_|fail)
 rename Value×PkT x=>pk
 have hpk:=pk.2.2.2
 have hpl:=pk.2.2.1
 refine fC pk.1 ?_
 refine lc_ [10] [19,20,21,22,23,24,25,29,30,31,32,33,34,35,36,37,38,39,40,41,42,43,44,45,28,46,47,48,11,12,13,49,50,51,52,53,54,55,5,6,7,26,27] (Z:=Nat) (fun k=>[.int .i64 k]) (fun k=>k<=pk.2.1.1.length) (fun k=>pk.2.1.1.length-k) 0 (aI _) ?_
 intro i u l' hl' hi
 simp only[bM,List.map,List.set] at hl'
 subst hl'
 by_cases hil:i<pk.2.1.1.length
 ·have hp:=hpk _ (dX hil)
  repeat' (first|refine aU ?_|refine bG fun sv=>?_|refine bV fun hc=>?_|refine bW fun hc=>?_|refine aS (fun hc=>?_) fun hc=>?_|fail)
  ·((refine wbi 5 [] ?_<;>(first|refine bY 0 ?_|fail)<;>refine bY 1 ?_<;>refine bY 2 ?_<;>(first|(refine oF 3 fun p c d e f g h hf=>?_;simp only[Un.cells,Un.atoms,Un.fact,aA,aB] at f g h hf;subst f g h)|fail)<;>(first|refine bY 4 ?_|fail)<;>(first|refine bY 5 ?_|fail)<;>refine bY 6 ?_<;>(first|refine bY 8 ?_|fail)<;>refine bY 9 ?_<;>refine bY 10 ?_<;>(first|refine bY 11 ?_|fail)<;>(first|refine bY 12 ?_|fail)<;>(first|refine bY 13 ?_|fail)<;>refine bY 14 ?_<;>(refine bX 7 ?_<;>(repeat' (first|refine aU ?_|(refine aW fun r=>?_;(try have hr:=Subtype.property r);try ((try refine fU r.1 ?_)))|fail)))<;>(refine bX 15 ?_<;>(repeat' (first|refine aU ?_|(refine aW fun r=>?_;(try have hr:=Subtype.property r);try ((try refine fU r.1 ?_)))|fail)))<;>(refine bX 16 ?_<;>(repeat' (first|refine aU ?_|(refine aW fun r=>?_;(try have hr:=Subtype.property r);try ((try refine fU r.1 ?_)))|fail)))<;>refine bY 17 ?_<;>refine bY 18 ?_<;>refine bY 19 ?_<;>refine bY 20 ?_<;>refine bY 21 ?_<;>refine bY 22 ?_<;>refine bY 23 ?_)<;>refine bI ?_)
   repeat' (first|refine aU ?_|refine bP ?_|refine bV fun hc=>?_|refine bW fun hc=>?_|refine aS (fun hc=>?_) fun hc=>?_|fail)
   ·exact⟨(((p.1,p.2.1,p.2.2.1),(r.1.1,r.1.2),(r.2.1.1,r.2.1.2)),⟨(pk.2.1.1.getD i default,true),fun _=>hp⟩),rfl,aH⟩
   ·exact eB (i+1) (by omega)
  ·rename_i sv2
   exact⟨(((.slice none 0 0,.slice none 0 0,.slice none 0 0),(sv2,[]),(sv,[])),⟨(([],[],[],0,0,0),false),fun h=>nomatch h⟩),rfl,dJ sv (dJ sv2 aH)⟩
 ·repeat' (first|refine aU ?_|refine bG fun sv=>?_|refine bV fun hc=>?_|refine bW fun hc=>?_|refine aS (fun hc=>?_) fun hc=>?_|fail)
  all_goals
   rename_i sv2
   exact⟨(((.slice none 0 0,.slice none 0 0,.slice none 0 0),(sv2,[]),(sv,[])),⟨(([],[],[],0,0,0),false),fun h=>nomatch h⟩),rfl,dJ sv (dJ sv2 aH)⟩⟩
end Go.Proofs.YtajdgkpjbpindaaGreatDoor
namespace Go.Proofs.YtajdgkpjbpindaaGreatDoor
open Go Go.Eng Tryz
set_option synthInstance.maxHeartbeats 400000
set_option synthInstance.maxSize 1000
set_option maxHeartbeats 4000000
set_option maxRecDepth 20000
instance aIv{I:List Atom}{v v1:Value}{a t:List Int}{at_:Int}{k0:Nat}[hm:fJ at_ k0][h:bK Int I v a][h1:bK Int I v1 t] :
  bQ prog 344 [.agg #[v],v1,.int .i64 at_] I (bB a t=true/\0<=at_/\at_<t.length) (Value) (fun q:Value=>q) (fun q=>.ow [q] (lL a t k0 (hC a t k0))::I):=⟨fun hs w0=>by
 refine cL (A:=fun q:Value=>[.ow [q] (lL a t k0 (hC a t k0))]) (fun w1=>?_) (aE h (aE h1 fI)) fun _=>inferInstance
 simp only[aA,aB]
 obtain ⟨ht,h0,h1⟩:=hs
 obtain rfl:at_=(k0:Int):=by have:=hm.eq;omega
 refine aK func344 ntmps344 ?_
 repeat' (first|refine aU ?_|refine cV fun r hr=>?_|refine aW fun r=>?_|refine bG fun sv=>?_|refine bT fun b=>?_|refine bV fun hc=>?_|refine bW fun hc=>?_|refine aS (fun hc=>?_) fun hc=>?_|fail)
 all_goals first
  | exact absurd (by assumption) (by omega)
  | (rw[ht] at *;exact absurd (by assumption) (by decide))
  | exact⟨r,rfl,aH⟩⟩
structure MaC(a:List Int)(g:List (List Int))(p t:List Int)(N:Nat):Prop where
 po:bB a p=true
 to:bB a t=true
 le:p.length<=N
 gl:g.length=24
abbrev MaT:Type:={ y:List (List Int)×Bool // y.1.length=24 }
theorem aN9{a t:List Int}(h:bB a t=true){i:Nat}(hi:i<hC a t 0):(0<=(lL a t 0 (hC a t 0)).getD i 0/\(lL a t 0 (hC a t 0)).getD i 0<t.length)/\bB a (eX a t ((lL a t 0 (hC a t 0)).getD i 0).toNat)=true/\(eX a t ((lL a t 0 (hC a t 0)).getD i 0).toNat).length<t.length:=by
 have h0:=(aX h).1
 have hk:=kQ h (k:=0) h0 hi
 have hg:=vN (a:=a) (t:=t) (k:=0) hi
 have hz:=(fN h hk.2).2
 rw[hg,bH]
 refine⟨⟨by omega,by omega⟩,gL h hk.2,?_⟩
 rw[mD h hk.2]
 omega
section
attribute [local instance 1250] aAb
attribute [local instance 2000] aIv
theorem aHf(N:Nat):∀ {w0:World} {I:List Atom} {va vg vp vt:Value} {a pp t:List Int} {g:List (List Int)} [h0:eK Int I va a] [h1:eK (List Int) I vg g] [h2:eK Int I vp pp] [h3:eK Int I vt t] (hs:MaC a g pp t N),
  CJ prog 321 [.agg #[va],vg,vp,vt] w0 I (fun q:Value×MaT=>.tuple #[q.1,.bool q.2.1.2]) (fun q=>.rd [q.1] q.2.1.1::I):=by
 induction N with
 | zero=>
  intro w0 I va vg vp vt a pp t g h0 h1 h2 h3 hs
  have:=(aX hs.po).1
  have:=hs.le
  omega
 | succ n ih=>
  intro w0 I va vg vp vt a pp t g h0 h1 h2 h3 hs
  haveI hI:∀ (Y:List Atom) (va vg vp vt:Value) (a pp t:List Int) (g:List (List Int)) [eK Int Y va a] [eK (List Int) Y vg g] [eK Int Y vp pp] [eK Int Y vt t],bQ prog 321 [.agg #[va],vg,vp,vt] Y (MaC a g pp t n) (Value×MaT) (fun q=>.tuple #[q.1,.bool q.2.1.2]) (fun q=>.rd [q.1] q.2.1.1::Y):=fun Y _ _ _ _ _ _ _ _ _ _ _ _=>⟨fun s w0=>ih s⟩
  obtain ⟨hp,ht,hn,hg⟩:=hs
  have hpl:=aX hp
  have htl:=aX ht
  have hgp:=dY hp (k:=0) (by omega)
  refine oI (i:=bA) (cs:=[vg]) (x:=g) ?_
  refine aK func321 ntmps321 ?_
  have hgm:(g.map Sh.mk).length=24:=by rw[aY];exact hg
  repeat' (first|refine aU ?_|refine eF fun hbi=>?_|refine bP ?_|refine cV fun r hr=>?_|refine aW fun r=>?_|refine bG fun sv=>?_|refine bT fun b=>?_|(refine iH fun p c d f g hf=>?_;simp only[Un.cells,Un.atoms,Un.fact,aA,aB] at f g hf;subst f g)|refine bV fun hc=>?_|refine bW fun hc=>?_|refine aS (fun hc=>?_) fun hc=>?_|refine wb 10 [] ?_|refine xf fun hbi=>?_|refine xp ?_|refine bI ?_|fail)
  all_goals try exact⟨(vg,⟨(g,_),hg⟩),rfl,aH⟩
  ·rw[show(List.map Sh.mk g).set (-1-pp.getD 0 0).toNat ⟨t⟩=(g.set (-1-pp.getD 0 0).toNat t).map Sh.mk from List.map_set.symm]
   exact⟨(sv,⟨(g.set (-1-pp.getD 0 0).toNat t,true),by rw[aV];exact hg⟩),rfl,iN (ys:=g.set (-1-pp.getD 0 0).toNat t) sv aH⟩
  have hN:hC a t 0=hC a pp 0:=by unfold hC;rw[← hc]
  have hKp:=fun i h=>aN9 hp (i:=i) h
  have hKt:=fun i h=>aN9 ht (i:=i) h
  have hlp:=nS a pp 0 (hC a pp 0)
  have hlt:=nS a t 0 (hC a t 0)
  have har:=(pR hp (k:=0) (by omega)).1
  rename_i rp
  refine fC rp ?_
  refine fC r ?_
  refine lp_ [1,14] [69,70,71,72,76,77,78,79,80,81,82,83,84,85,86,87,88,89,90,91,92,75,93,94,15,16,95,96,97,8,9,98,73,74] (Z:=(Value×List (List Int))×Nat) (fun k=>[k.1.1,.int .i64 k.2]) (fun k=>[.rd [k.1.1] k.1.2]) (fun k=>k.2<=hC a pp 0/\k.1.2.length=24) (fun k=>hC a pp 0-k.2) ((vg,g),0) [.rd [vg] g] ⟨aI _,hg⟩ ?_
  intro ⟨⟨vk,gk⟩,i⟩ u l' hl' ⟨hi,hgk⟩
  simp only[bM,List.map,List.set] at hl'
  subst hl'
  simp only[aA,aB] at hi hgk ⊢
  by_cases hil:i<hC a pp 0
  ·obtain ⟨hp1,hp2,hp3⟩:=hKp i hil
   obtain ⟨ht1,ht2,ht3⟩:=hKt i (by omega)
   have hM:MaC a gk (eX a pp ((lL a pp 0 (hC a pp 0)).getD i 0).toNat) (eX a t ((lL a t 0 (hC a t 0)).getD i 0).toNat) n:=⟨hp2,ht2,by omega,hgk⟩
   repeat' (first|refine aU ?_|refine bV fun hc=>?_|refine bW fun hc=>?_|refine aS (fun hc=>?_) fun hc=>?_|fail)
   ((refine wbi 17 [] ?_<;>repeat' (first|refine aU ?_|(refine aW fun r=>?_;(try have hr:=Subtype.property r);try ((refine fU r ?_)))|refine xf fun hbi=>?_|refine xp ?_|refine xy ?_|fail))<;>refine bI ?_)
   all_goals
    rename Value×MaT=>rg
    repeat' (first|refine aU ?_|refine bP ?_|refine bV fun hc=>?_|refine bW fun hc=>?_|refine aS (fun hc=>?_) fun hc=>?_|fail)
    ·exact⟨(vk,⟨(gk,false),hgk⟩),rfl,aH⟩
    ·exact eB ((rg.1,rg.2.1.1),i+1) ⟨by simp only;omega,rg.2.2⟩
  ·repeat' (first|refine aU ?_|refine bV fun hc=>?_|refine bW fun hc=>?_|refine aS (fun hc=>?_) fun hc=>?_|fail)
   exact⟨(vk,⟨(gk,true),hgk⟩),rfl,aH⟩
instance bFu{I:List Atom}{va vg vp vt:Value}{a p t:List Int}{g:List (List Int)}[h0:eK Int I va a][h1:eK (List Int) I vg g][h2:eK Int I vp p][h3:eK Int I vt t] :
  bQ prog 321 [.agg #[va],vg,vp,vt] I (MaC a g p t 60) (Value×MaT) (fun q:Value×MaT=>.tuple #[q.1,.bool q.2.1.2]) (fun q=>.rd [q.1] q.2.1.1::I):=⟨fun hs w0=>by
 exact aHf 60 hs⟩
end
structure bE1(a:List Int)(es:List SEq):Prop where
 ok:eA a=true
 n:es.length<=12
 e:∀ k,k<es.length->bB a (es.getD k default).1=true/\bB a (es.getD k default).2=true
instance bNu{I:List Atom}{va v v':Value}{a:List Int}{e:SEq}[h0:bK Int I va a][h1:bK Int I v e.1][h2:bK Int I v' e.2] :
  bQ prog 319 [.agg #[va],.agg #[v,v']] I True Unit (fun _:Unit=>.bool (bB a e.1&&bB a e.2)) (fun _=>I):=⟨fun _ w0=>by
 refine jV (fun w1=>?_) (aE h0 (aE h1 (aE h2 fI)))
 refine aK func319 ntmps319 ?_
 repeat' (first|refine aU ?_|refine cV fun r hr=>?_|refine aW fun r=>?_|refine bT fun b=>?_|refine bV fun hc=>?_|refine bW fun hc=>?_|refine aS (fun hc=>?_) fun hc=>?_|fail)
 all_goals exact⟨(),bO (by simp only[*,Bool.true_and,Bool.false_and]),aH⟩⟩
instance bM3{I:List Atom}{va v:Value}{a:List Int}{es:List SEq}[h0:bK Int I va a][h1:bK SEq I v es] :
  bQ prog 290 [.agg #[va],v] I True Unit (fun _:Unit=>.bool (kZ (bE1 a es))) (fun _=>I):=⟨fun _ w0=>by
 refine jV (fun w1=>?_) (aE h0 (aE h1 fI))
 refine dQ v fun hlv=>?_
 refine aK func290 ntmps290 ?_
 repeat' (first|refine aU ?_|refine cV fun r hr=>?_|refine aW fun r=>?_|refine bT fun b=>?_|refine bV fun hc=>?_|refine bW fun hc=>?_|refine aS (fun hc=>?_) fun hc=>?_|fail)
 ·exact⟨(),bO (eV fun h=>by rw[h.ok] at hc;cases hc),aH⟩
 ·exact⟨(),bO (eV fun h=>by have:=h.n;omega),aH⟩
 have hok:eA a=true:=by assumption
 refine lc_ [5] [14,15,16,17,20,21,22,23,24,25,26,4,18,19] (Z:=Nat) (fun k=>[.int .i64 k]) (fun k=>k<=es.length/\∀ i,i<k->bB a (es.getD i default).1=true/\bB a (es.getD i default).2=true) (fun k=>es.length-k) 0 ⟨aI _,fun i hi=>absurd hi (cX i)⟩ ?_
 intro k u l' hl' ⟨hk,hkk⟩
 simp only[bM,List.map,List.set] at hl'
 subst hl'
 by_cases hkl:k<es.length
 ·repeat' (first|refine aU ?_|refine bP ?_|refine bV fun hc=>?_|refine bW fun hc=>?_|refine aS (fun hc=>?_) fun hc=>?_|refine cV fun r hr=>?_|refine aW fun r=>?_|refine wb 6 [] ?_|refine xp ?_|(refine xd fun p c d e f g h hf=>?_;simp only[Un.cells,Un.atoms,Un.fact,aA,aB] at f g h hf;subst f g h)|refine xy ?_|refine bI ?_|fail)
  ·exact⟨(),bO (eV fun h=>hc (h.e k hkl)),aH⟩
  ·refine eB (k+1) ⟨by omega,fun i hi=>?_⟩
   by_cases e:i=k
   ·rw[e];exact hc
   ·exact hkk i (by omega)
 ·repeat' (first|refine aU ?_|refine bV fun hc=>?_|refine bW fun hc=>?_|refine aS (fun hc=>?_) fun hc=>?_|fail)
  exact⟨(),bO (hZ ⟨hok,by omega,fun i hi=>hkk i (by omega)⟩),aH⟩⟩
instance bIj{I:List Atom}{va ve vt vm:Value}{a t:List Int}{es:List SEq}{m:iJ}[h0:bK Int I va a][h1:bK SEq I ve es][h2:bK Int I vt t][h3:bK Int I vm m.2.2.2] :
  bQ prog 291 [.agg #[va],ve,vt,.agg #[.int .i64 m.1,.int .i64 m.2.1,.bool m.2.2.1,vm]] I (bE1 a es/\bB a t=true) ({ b:Bool // b=true->bB a m.2.2.2=true }) (fun q:{ b:Bool // b=true->bB a m.2.2.2=true }=>.bool q.1) (fun _=>I):=⟨fun hs w0=>by
 refine jV (fun w1=>?_) (aE h0 (aE h1 (aE h2 (aE h3 fI))))
 obtain ⟨⟨hok,hn,he⟩,ht⟩:=hs
 have htl:=aX ht
 refine aK func291 ntmps291 ?_
 repeat' (first|refine aU ?_|refine bP ?_|refine cV fun r hr=>?_|refine aW fun r=>?_|refine bT fun b=>?_|(refine iH fun p c d f g hf=>?_;simp only[Un.cells,Un.atoms,Un.fact,aA,aB] at f g hf;subst f g)|refine bV fun hc=>?_|refine bW fun hc=>?_|refine aS (fun hc=>?_) fun hc=>?_|fail)
 all_goals try exact⟨⟨false,fun h=>nomatch h⟩,rfl,aH⟩
 all_goals
  have hto:bB a m.2.2.2=true:=by assumption
  have hmo:=aX hto
  rename Value=>vv
  obtain ⟨he1,he2⟩:=he m.1.toNat (by omega)
  have hz:(List.replicate 24 ([]:List Int)).length=24:=by simp
  have hs1:=gL ht (k:=m.2.1.toNat) (by omega)
  have hs2:=gL hto (k:=m.2.1.toNat) (by omega)
  have hM1:MaC a (List.replicate 24 []) (es.getD m.1.toNat default).1 (eX a t m.2.1.toNat) 60:=⟨he1,hs1,(aX he1).2,hz⟩
  have hM2:MaC a (List.replicate 24 []) (es.getD m.1.toNat default).2 (eX a t m.2.1.toNat) 60:=⟨he2,hs1,(aX he2).2,hz⟩
  refine fC vv ?_
  ((refine wbi 12 [] ?_<;>repeat' (first|refine aU ?_|(refine aW fun r=>?_;(try have hr:=Subtype.property r);try ((refine fU r ?_)))|(refine bG fun sv=>?_;try ((refine fU sv ?_)))|refine xp ?_|refine xy ?_|refine x2 ?_ ?_|fail))<;>refine bI ?_)
 all_goals
  have hM3:MaC a r.2.1.1 (es.getD m.1.toNat default).2 (eX a m.2.2.2 m.2.1.toNat) 60:=⟨he2,hs2,(aX he2).2,r.2.2⟩
  have hM4:MaC a r.2.1.1 (es.getD m.1.toNat default).1 (eX a m.2.2.2 m.2.1.toNat) 60:=⟨he1,hs2,(aX he1).2,r.2.2⟩
  repeat' (first|refine aU ?_|refine cV fun r hr=>?_|refine aW fun r=>?_|refine bV fun hc=>?_|refine bW fun hc=>?_|refine aS (fun hc=>?_) fun hc=>?_|fail)
  ·exact⟨⟨false,fun h=>nomatch h⟩,rfl,aH⟩
  ·exact⟨⟨r.2.1.2,fun _=>hto⟩,rfl,aH⟩⟩
theorem aH4{w0:World}{I:List Atom}{va ve vf vm:Value}{a:List Int}{es:List SEq}{c:jX}[h0:bK Int I va a][h1:bK SEq I ve es][h2:bK Int I vf c.1][h3:bK iJ I vm c.2] :
  CJ prog 229 [.agg #[va],ve,.agg #[vf,vm]] w0 I (fun q:Bool=>.bool q) (fun _=>I):=by
 refine jV (fun w1=>?_) (aE h0 (aE h1 (aE h2 (aE h3 fI))))
 refine aK func229 ntmps229 ?_
 repeat' (first|refine aU ?_|refine cV fun r hr=>?_|refine aW fun r=>?_|refine bT fun b=>?_|refine bV fun hc=>?_|refine bW fun hc=>?_|refine aS (fun hc=>?_) fun hc=>?_|fail)
 all_goals try exact⟨_,rfl,aH⟩
 have hE:bE1 a es:=by assumption
 have hT:bB a c.1=true:=by assumption
 refine aWx [vf] ?_
 refine lp_ [7,8] [28,29,30,31,32,35,36,37,38,39,40,41,42,43,44,6,45,46,47,48,49,50,33,34] (Z:=(Value×List Int)×Nat) (fun k=>[k.1.1,.int .i64 k.2]) (fun k=>[.rd [k.1.1] k.1.2]) (fun k=>k.2<=c.2.length/\bB a k.1.2=true) (fun k=>c.2.length-k.2) ((vf,c.1),0) [.rd [vf] c.1] ⟨aI _,hT⟩ ?_
 intro ⟨⟨vt,t⟩,i⟩ u l' hl' ⟨hi,ht⟩
 simp only[bM,List.map,List.set] at hl'
 subst hl'
 simp only[aA,aB] at hi ht ⊢
 by_cases hil:i<c.2.length
 ·have hEt:bE1 a es/\bB a t=true:=⟨hE,ht⟩
  repeat' (first|refine aU ?_|refine bP ?_|refine bV fun hc=>?_|refine bW fun hc=>?_|refine aS (fun hc=>?_) fun hc=>?_|refine cV fun r hr=>?_|refine aW fun r=>?_|refine wb 7 [] ?_|refine xp ?_|(refine xd fun p c d e f g h hf=>?_;simp only[Un.cells,Un.atoms,Un.fact,aA,aB] at f g h hf;subst f g h)|refine xy ?_|refine bI ?_|fail)
  ·exact⟨_,rfl,aH⟩
  ·exact eB ((p.2.2.2,(c.2.getD i default).2.2.2),i+1) ⟨by simp only;omega,hr hc⟩
 ·repeat' (first|refine aU ?_|refine bV fun hc=>?_|refine bW fun hc=>?_|refine aS (fun hc=>?_) fun hc=>?_|fail)
  exact⟨_,rfl,aH⟩
end Go.Proofs.YtajdgkpjbpindaaGreatDoor
namespace Go.Proofs.YtajdgkpjbpindaaGreatDoor
open Go Go.Eng Tryz
set_option synthInstance.maxHeartbeats 400000
set_option synthInstance.maxSize 1000
set_option maxHeartbeats 4000000
set_option maxRecDepth 20000
structure CB(c:jX):Prop where
 f:c.1.length<=60
 s:∀ m∈c.2,m.2.2.2.length<=60
 n:c.2.length<=60
theorem aL2:CB ([],[]):=⟨aI _,fun u hu=>absurd hu (by simp),aI _⟩
def aXp(c:jX):List Int:=if c.2.length=0 then c.1 else (c.2.getD (c.2.length-1) default).2.2.2
theorem CB.end{c:jX}(h:CB c):(aXp c).length<=60:=by
 unfold aXp
 split
 ·exact h.f
 ·exact h.s _ (dX (by omega))
theorem uR{ms:List iJ}{m:iJ}(h:∀ m∈ms,m.2.2.2.length<=60)(hm:m.2.2.2.length<=60):∀ y∈ms++[m],y.2.2.2.length<=60:=fun y hy=>(aP.1 hy).elim (h y) fun e=>by rw[aO] at e;rw[e];exact hm
instance bKw{I:List Atom}{vf vm:Value}{c:jX}[h0:eK Int I vf c.1][h1:eK iJ I vm c.2] :
  bQ prog 312 [.agg #[vf,vm]] I (CB c) (Value) (fun q:Value=>q) (fun q=>.rd [q] (aXp c)::I):=⟨fun hs w0=>by
 have hn:=hs.n
 unfold aXp
 refine aK func312 ntmps312 ?_
 repeat' (first|refine aU ?_|refine bP ?_|refine bT fun b=>?_|(refine iH fun p c d f g hf=>?_;simp only[Un.cells,Un.atoms,Un.fact,aA,aB] at f g hf;subst f g)|refine bV fun hc=>?_|refine bW fun hc=>?_|refine aS (fun hc=>?_) fun hc=>?_|fail)
 ·rw[if_pos (by omega)];exact⟨vf,rfl,aHw vf aH⟩
 ·rw[if_neg (by omega)];exact⟨_,rfl,aH⟩⟩
instance aT4{I:List Atom}{vt:Value}{e a:Int}{bk:Bool}{t:List Int}[h0:bK Int I vt t] :
  bQ prog 311 [.agg #[.int .i64 e,.int .i64 a,.bool bk,vt]] I (t.length<=60) (Value) (fun q:Value=>.agg #[.int .i64 e,.int .i64 a,.bool bk,q]) (fun q=>.ow [q] t::I):=⟨fun hs w0=>by
 refine cL (A:=fun q:Value=>[.ow [q] t]) (fun w1=>?_) (aE h0 fI) fun _=>inferInstance
 simp only[aA,aB]
 refine aK func311 ntmps311 ?_
 repeat' (first|refine aU ?_|refine cV fun r hr=>?_|refine aW fun r=>?_|refine bT fun b=>?_|fail)
 exact⟨r,rfl,aH⟩⟩
abbrev CbT:Type:={ c:jX // CB c }
instance bH0{I:List Atom}{vf vm:Value}{c:jX}[h0:bK Int I vf c.1][h1:bK iJ I vm c.2] :
  bQ prog 272 [.agg #[vf,vm]] I (CB c) ((Value×Value)×CbT) (fun q:(Value×Value)×CbT=>.agg #[q.1.1,q.1.2]) (fun q=>.ow [q.1.1] q.2.1.1::.ow [q.1.2] q.2.1.2::I):=⟨fun hs w0=>by
 refine cL (A:=fun q:(Value×Value)×CbT=>[.ow [q.1.1] q.2.1.1,.ow [q.1.2] q.2.1.2]) (fun w1=>?_) (aE h0 (aE h1 fI)) fun _=>inferInstance
 simp only[aA,aB]
 have hce:=hs.end
 have hn:=hs.n
 have hf0:=hs.f
 refine aK func272 ntmps272 ?_
 repeat' (first|refine aU ?_|refine bP ?_|refine cV fun r hr=>?_|refine aW fun r=>?_|refine bT fun b=>?_|fail)
 rename_i b3 _
 refine lp_ [4] [14,15,18,19,20,21,22,5,23,24,25,26,27,28,29,30,31,32,33,34,35,36,37,38,39,40,41,42,43,44,45,46,16,17] (Z:=(Value×List iJ)×Nat) (fun k=>[.int .i64 ((k.2:Int)-1)]) (fun k=>[.bk b [r,k.1.1],.ow [k.1.1] k.1.2]) (fun k=>k.2+k.1.2.length=c.2.length/\∀ m∈k.1.2,m.2.2.2.length<=60) (fun k=>k.2) ((.slice none 0 0,[]),c.2.length) [.bk b [r,.slice none 0 0],.ow [.slice none 0 0] ([]:List iJ)] ⟨by simp,fun m hm=>absurd hm (by simp)⟩ ?_
 intro ⟨⟨so,ms⟩,j⟩ u l' hl' ⟨hj,hm⟩
 simp only[bM,List.map,List.set] at hl'
 subst hl'
 simp only[aA,aB] at hj hm ⊢
 cases j with
 | zero=>
  repeat' (first|refine aU ?_|refine bV fun hc=>?_|refine bW fun hc=>?_|refine aS (fun hc=>?_) fun hc=>?_|fail)
  exact⟨((r,so),⟨(aXp c,ms),hce,hm,by simp only;omega⟩),rfl,aH⟩
 | succ j=>
  rw[show((j+1:Nat):Int)-1=(j:Int) by omega]
  have hjn:j<c.2.length:=by omega
  have hmj:=hs.s _ (dX hjn)
  have hmp:0<j->(c.2.getD (j-1) default).2.2.2.length<=60:=fun h=>hs.s _ (dX (by omega))
  haveI:fJ ((j:Int)-1) (j-1):=⟨by omega⟩
  by_cases hj0:0<j
  ·have hmp2:=hmp hj0
   repeat' (first|refine aU ?_|refine bP ?_|refine bT fun b=>?_|(refine iH fun p c d f g hf=>?_;simp only[Un.cells,Un.atoms,Un.fact,aA,aB] at f g hf;subst f g)|refine bV fun hc=>?_|refine bW fun hc=>?_|refine aS (fun hc=>?_) fun hc=>?_|refine cV fun r hr=>?_|refine aW fun r=>?_|refine bG fun sv=>?_|refine wb 10 [5,7] ?_|refine xp ?_|refine x0 ?_|refine xy ?_|refine bI ?_|fail)
   exact eB ((sv,ms++[((c.2.getD j default).1,(c.2.getD j default).2.1,!(c.2.getD j default).2.2.1,(c.2.getD (j-1) default).2.2.2)]),j) ⟨by simp only[aD,aJ];omega,uR hm hmp2⟩
  ·repeat' (first|refine aU ?_|refine bP ?_|refine bT fun b=>?_|(refine iH fun p c d f g hf=>?_;simp only[Un.cells,Un.atoms,Un.fact,aA,aB] at f g hf;subst f g)|refine bV fun hc=>?_|refine bW fun hc=>?_|refine aS (fun hc=>?_) fun hc=>?_|refine cV fun r hr=>?_|refine aW fun r=>?_|refine bG fun sv=>?_|refine wb 10 [5,7] ?_|refine xp ?_|refine x0 ?_|refine xy ?_|refine bI ?_|fail)
   exact eB ((sv,ms++[((c.2.getD j default).1,(c.2.getD j default).2.1,!(c.2.getD j default).2.2.1,c.1)]),j) ⟨by simp only[aD,aJ];omega,uR hm hf0⟩⟩
instance bHd{I:List Atom}{vf vm:Value}{w:gK}[h0:bK Int I vf w.1][h1:bK eW I vm w.2] :
  bQ prog 271 [.agg #[vf,vm]] I (WB w) ((Value×Value)×CbT) (fun q:(Value×Value)×CbT=>.agg #[q.1.1,q.1.2]) (fun q=>.ow [q.1.1] q.2.1.1::.ow [q.1.2] q.2.1.2::I):=⟨fun hs w0=>by
 refine cL (A:=fun q:(Value×Value)×CbT=>[.ow [q.1.1] q.2.1.1,.ow [q.1.2] q.2.1.2]) (fun w1=>?_) (aE h0 (aE h1 fI)) fun _=>inferInstance
 simp only[aA,aB]
 have hn:=hs.n
 have hf:=hs.f
 refine aK func271 ntmps271 ?_
 repeat' (first|refine aU ?_|refine cV fun r hr=>?_|refine aW fun r=>?_|refine bT fun b=>?_|fail)
 refine lp_ [4] [10,11,12,13,14,17,18,19,20,21,5,22,23,24,25,26,27,28,29,30,31,32,33,34,15,16] (Z:=(Value×List iJ)×Nat) (fun k=>[.int .i64 k.2]) (fun k=>[.bk b [r,k.1.1],.ow [k.1.1] k.1.2]) (fun k=>k.2<=w.2.length/\k.1.2.length=k.2/\∀ m∈k.1.2,m.2.2.2.length<=60) (fun k=>w.2.length-k.2) ((.slice none 0 0,[]),0) [.bk b [r,.slice none 0 0],.ow [.slice none 0 0] ([]:List iJ)] ⟨aI _,rfl,fun m hm=>absurd hm (by simp)⟩ ?_
 intro ⟨⟨so,ms⟩,j⟩ u l' hl' ⟨hj,hml,hm⟩
 simp only[bM,List.map,List.set] at hl'
 subst hl'
 simp only[aA,aB] at hj hml hm ⊢
 by_cases hjl:j<w.2.length
 ·have hmj:=hs.s _ (dX hjl)
  repeat' (first|refine aU ?_|refine bP ?_|refine bT fun b=>?_|(refine iH fun p c d f g hf=>?_;simp only[Un.cells,Un.atoms,Un.fact,aA,aB] at f g hf;subst f g)|refine bV fun hc=>?_|refine bW fun hc=>?_|refine aS (fun hc=>?_) fun hc=>?_|refine cV fun r hr=>?_|refine aW fun r=>?_|refine bG fun sv=>?_|refine wb 6 [11,13] ?_|refine xp ?_|refine x0 ?_|refine xy ?_|refine bI ?_|fail)
  exact eB ((sv,ms++[((w.2.getD j default).2.1,(w.2.getD j default).1,false,(w.2.getD j default).2.2)]),j+1) ⟨by simp only;omega,by simp only[aD,aJ];omega,uR hm hmj⟩
 ·repeat' (first|refine aU ?_|refine bV fun hc=>?_|refine bW fun hc=>?_|refine aS (fun hc=>?_) fun hc=>?_|fail)
  exact⟨((r,so),⟨(w.1,ms),hf,hm,by simp only;omega⟩),rfl,aH⟩⟩
abbrev CbB:Type:={ c:jX×Bool // CB c.1 }
instance bGn{I:List Atom}{vf vm vf' vm':Value}{c d:jX}[h0:bK Int I vf c.1][h1:bK iJ I vm c.2][h2:bK Int I vf' d.1][h3:bK iJ I vm' d.2] :
  bQ prog 270 [.agg #[vf,vm],.agg #[vf',vm']] I (CB c/\CB d) ((Value×Value)×CbB) (fun q:(Value×Value)×CbB=>.tuple #[.agg #[q.1.1,q.1.2],.bool q.2.1.2]) (fun q=>.ow [q.1.1] q.2.1.1.1::.ow [q.1.2] q.2.1.1.2::I):=⟨fun hs w0=>by
 refine cL (A:=fun q:(Value×Value)×CbB=>[.ow [q.1.1] q.2.1.1.1,.ow [q.1.2] q.2.1.1.2]) (fun w1=>?_) (aE h0 (aE h1 (aE h2 (aE h3 fI)))) fun _=>inferInstance
 simp only[aA,aB]
 obtain ⟨hc1,hd1⟩:=hs
 have hn:=hc1.n
 have hm:=hd1.n
 have hf:=hc1.f
 refine aK func270 ntmps270 ?_
 repeat' (first|refine aU ?_|refine bP ?_|refine cV fun r hr=>?_|refine aW fun r=>?_|refine bT fun b=>?_|refine bV fun hc=>?_|refine bW fun hc=>?_|refine aS (fun hc=>?_) fun hc=>?_|fail)
 ·exact⟨((.slice none 0 0,.slice none 0 0),⟨(([],[]),false),aL2⟩),rfl,aH⟩
 refine lp_ [7] [22,23,24,25,26,29,30,31,32,33,34,35,36,37,38,39,27,28] (Z:=(Value×List iJ)×Nat) (fun k=>[.int .i64 k.2]) (fun k=>[.bk b [r,k.1.1],.ow [k.1.1] k.1.2]) (fun k=>k.2<=c.2.length/\k.1.2.length=k.2/\∀ m∈k.1.2,m.2.2.2.length<=60) (fun k=>c.2.length-k.2) ((.slice none 0 0,[]),0) [.bk b [r,.slice none 0 0],.ow [.slice none 0 0] ([]:List iJ)] ⟨aI _,rfl,fun m hm=>absurd hm (by simp)⟩ ?_
 intro ⟨⟨so,ms⟩,j⟩ u l' hl' ⟨hj,hml,hmm⟩
 simp only[bM,List.map,List.set] at hl'
 subst hl'
 simp only[aA,aB] at hj hml hmm ⊢
 by_cases hjl:j<c.2.length
 ·have hmj:=hc1.s _ (dX hjl)
  repeat' (first|refine aU ?_|refine bP ?_|refine bV fun hc=>?_|refine bW fun hc=>?_|refine aS (fun hc=>?_) fun hc=>?_|refine cV fun r hr=>?_|refine aW fun r=>?_|refine bG fun sv=>?_|refine wb 7 [9,11] ?_|refine xp ?_|refine x0 ?_|(refine xd fun p c d e f g h hf=>?_;simp only[Un.cells,Un.atoms,Un.fact,aA,aB] at f g h hf;subst f g h)|refine xy ?_|refine bI ?_|fail)
  exact eB ((sv,ms++[((c.2.getD j default).1,(c.2.getD j default).2.1,(c.2.getD j default).2.2.1,(c.2.getD j default).2.2.2)]),j+1) ⟨by simp only;omega,by simp only[aD,aJ];omega,uR hmm hmj⟩
 ·repeat' (first|refine aU ?_|refine bV fun hc=>?_|refine bW fun hc=>?_|refine aS (fun hc=>?_) fun hc=>?_|fail)
  refine lp_ [8] [40,41,42,43,44,47,48,49,50,51,52,53,54,55,56,57,45,46] (Z:=(Value×List iJ)×Nat) (fun k=>[.int .i64 k.2]) (fun k=>[.bk b [r,k.1.1],.ow [k.1.1] k.1.2]) (fun k=>k.2<=d.2.length/\k.1.2.length=c.2.length+k.2/\∀ m∈k.1.2,m.2.2.2.length<=60) (fun k=>d.2.length-k.2) ((so,ms),0) [.bk b [r,so],.ow [so] ms] ⟨aI _,by simp only;omega,hmm⟩ ?_
  intro ⟨⟨so2,ms2⟩,i⟩ u2 l2 hl2 ⟨hi,hml2,hmm2⟩
  simp only[bM,List.map,List.set] at hl2
  subst hl2
  simp only[aA,aB] at hi hml2 hmm2 ⊢
  by_cases hil:i<d.2.length
  ·have hmi:=hd1.s _ (dX hil)
   repeat' (first|refine aU ?_|refine bP ?_|refine bV fun hc=>?_|refine bW fun hc=>?_|refine aS (fun hc=>?_) fun hc=>?_|refine cV fun r hr=>?_|refine aW fun r=>?_|refine bG fun sv=>?_|refine wb 11 [9,11] ?_|refine xp ?_|refine x0 ?_|(refine xd fun p c d e f g h hf=>?_;simp only[Un.cells,Un.atoms,Un.fact,aA,aB] at f g h hf;subst f g h)|refine xy ?_|refine bI ?_|fail)
   exact eB ((sv,ms2++[((d.2.getD i default).1,(d.2.getD i default).2.1,(d.2.getD i default).2.2.1,(d.2.getD i default).2.2.2)]),i+1) ⟨by simp only;omega,by simp only[aD,aJ];omega,uR hmm2 hmi⟩
  ·repeat' (first|refine aU ?_|refine bV fun hc=>?_|refine bW fun hc=>?_|refine aS (fun hc=>?_) fun hc=>?_|fail)
   exact⟨((r,so2),⟨((c.1,ms2),true),hf,hmm2,by simp only;omega⟩),rfl,aH⟩⟩
instance bMr{I:List Atom}{v0 v1:Value}{x:aQ}[h0:bK Int I v0 x.1][h1:bK cM I v1 x.2] :
  bQ prog 230 [.agg #[v0,v1]] I (True) (Value×List SEq) (fun q:Value×List SEq=>q.1) (fun q=>.ow [q.1] q.2::I):=⟨fun _ w0=>by
 refine cL (A:=fun q:Value×List SEq=>[.ow [q.1] q.2]) (fun w1=>?_) (aE h0 (aE h1 fI)) fun _=>inferInstance
 simp only[aA,aB]
 refine aK func230 ntmps230 ?_
 repeat' (first|refine aU ?_|refine cV fun r hr=>?_|refine aW fun r=>?_|refine bG fun sv=>?_|refine bT fun b=>?_|refine bV fun hc=>?_|refine bW fun hc=>?_|refine aS (fun hc=>?_) fun hc=>?_|fail)
 ·exact⟨(sv,[]),rfl,aH⟩
 have hok:eE x=true:=by assumption
 have hrl:=(eM.1 hok).1.2
 refine lp_ [3,4] [10,11,12,13,14,17,18,19,20,21,22,23,24,25,26,27,28,29,30,31,32,33,34,15,16] (Z:=(Value×List SEq)×Nat) (fun k=>[k.1.1,.int .i64 k.2]) (fun k=>[.ow [k.1.1] k.1.2]) (fun k=>k.2<=x.2.length/\k.1.2.length=k.2) (fun k=>x.2.length-k.2) ((sv,[]),0) [.ow [sv] ([]:List SEq)] ⟨aI _,rfl⟩ ?_
 intro ⟨⟨so,es⟩,j⟩ u l' hl' ⟨hj,hml⟩
 simp only[bM,List.map,List.set] at hl'
 subst hl'
 simp only[aA,aB] at hj hml ⊢
 by_cases hjl:j<x.2.length
 ·have hL:=aX (iB hok hjl).1
  have hR:=aX (iB hok hjl).2
  repeat' (first|refine aU ?_|refine bP ?_|refine bV fun hc=>?_|refine bW fun hc=>?_|refine aS (fun hc=>?_) fun hc=>?_|refine cV fun r hr=>?_|refine aW fun r=>?_|refine bG fun sv=>?_|refine wb 7 [17] ?_|refine xp ?_|refine x0 ?_|(refine xd fun p c d e f g h hf=>?_;simp only[Un.cells,Un.atoms,Un.fact,aA,aB] at f g h hf;subst f g h)|refine xy ?_|refine bI ?_|fail)
  exact eB ((sv,es++[((x.2.getD j default).1,(x.2.getD j default).2)]),j+1) ⟨by simp only;omega,by simp only[aD,aJ];omega⟩
 ·repeat' (first|refine aU ?_|refine bV fun hc=>?_|refine bW fun hc=>?_|refine aS (fun hc=>?_) fun hc=>?_|fail)
  exact⟨(so,es),rfl,aH⟩⟩
instance bBu{I:List Atom}{v0 v1 v:Value}{x:aQ}{t:List Int}{n:Int}[h0:bK Int I v0 x.1][h1:bK cM I v1 x.2][h2:bK Int I v t] :
  bQ prog 267 [.agg #[v0,v1],v,.int .i64 n] I True Bool (fun q:Bool=>.bool q) (fun _=>I):=⟨fun _ w0=>by
 refine jV (fun w1=>?_) (aE h0 (aE h1 (aE h2 fI)))
 refine aK func267 ntmps267 ?_
 repeat' (first|refine aU ?_|refine cV fun r hr=>?_|refine aW fun r=>?_|refine bT fun b=>?_|refine bV fun hc=>?_|refine bW fun hc=>?_|refine aS (fun hc=>?_) fun hc=>?_|fail)
 all_goals exact⟨_,rfl,aH⟩⟩
instance bHb{I:List Atom}{v0 v1 v v':Value}{x:aQ}{s t:List Int}{n:Int}[h0:eK Int I v0 x.1][h1:eK cM I v1 x.2][h2:eK Int I v s][h3:eK Int I v' t] :
  bQ prog 203 [.agg #[v0,v1],v,v',.int .i64 n] I (True) ({ n:Int // -1<=n/\n<=1 }) (fun q:{ n:Int // -1<=n/\n<=1 }=>.int .i64 q.1) (fun _=>I):=⟨fun _ w0=>by
 refine aK func203 ntmps203 ?_
 repeat' (first|refine aU ?_|refine cV fun r hr=>?_|refine aW fun r=>?_|refine bT fun b=>?_|refine bV fun hc=>?_|refine bW fun hc=>?_|refine aS (fun hc=>?_) fun hc=>?_|fail)
 all_goals try exact⟨⟨-1,by decide⟩,rfl,aH⟩
 have hfl:∀ y:Bool,-1<=zG y/\zG y<=1:=by decide
 exact⟨⟨zG _,hfl _⟩,rfl,aH⟩⟩
instance aUr{I:List Atom}{v0 v1 a0 a1 b0 b1:Value}{x:aQ}{v w:gK}[h0:bK Int I v0 x.1][h1:bK cM I v1 x.2][h2:bK Int I a0 v.1][h3:bK eW I a1 v.2][h4:bK Int I b0 w.1][h5:bK eW I b1 w.2] :
  bQ prog 204 [.agg #[v0,v1],.agg #[a0,a1],.agg #[b0,b1]] I (True) ((Value×Value)×CbB) (fun q:(Value×Value)×CbB=>.tuple #[.agg #[q.1.1,q.1.2],.bool q.2.1.2]) (fun q=>.ow [q.1.1] q.2.1.1.1::.ow [q.1.2] q.2.1.1.2::I):=⟨fun _ w0=>by
 refine cL (A:=fun q:(Value×Value)×CbB=>[.ow [q.1.1] q.2.1.1.1,.ow [q.1.2] q.2.1.1.2]) (fun w1=>?_) (aE h0 (aE h1 (aE h2 (aE h3 (aE h4 (aE h5 fI)))))) fun _=>inferInstance
 simp only[aA,aB]
 refine aK func204 ntmps204 ?_
 repeat' (first|refine aU ?_|refine bT fun b=>?_|refine bV fun hc=>?_|refine bW fun hc=>?_|refine aS (fun hc=>?_) fun hc=>?_|refine cV fun r hr=>?_|refine aW fun r=>?_|refine wb 1 [] ?_|refine xp ?_|refine xg ?_|refine xn ?_|refine pM fun hc=>?_|refine pN fun hc=>?_|refine xi (fun hc=>?_) fun hc=>?_|refine xy ?_|refine bI ?_|fail)
 all_goals try exact⟨((.slice none 0 0,.slice none 0 0),⟨(([],[]),false),aL2⟩),rfl,aH⟩
 have hwb:∀ {y:gK},lU x y=true->WB y:=fun h=>⟨(aX (wkO h).fr).2,fun u hu=>(aX ((wkO h).ts u hu)).2,(wkO h).le⟩
 have hv:=hwb (by assumption:lU x v=true)
 have hw:=hwb (by assumption:lU x w=true)
 ((refine wbi 3 [8] ?_<;>repeat' (first|refine aU ?_|(refine aW fun r=>?_;(try have hr:=Subtype.property r);try ((have hq:=r.2.2)))|refine xp ?_|refine x0 ?_|refine xy ?_|fail))<;>refine bI ?_)
 repeat' (first|refine aU ?_|fail)
 exact⟨r,rfl,aH⟩⟩
instance bH3{I:List Atom}{v0 v1 v v':Value}{x:aQ}{s t:List Int}{n:Int}[h0:eK Int I v0 x.1][h1:eK cM I v1 x.2][h2:eK Int I v s][h3:eK Int I v' t] :
  bQ prog 157 [.agg #[v0,v1],v,v',.int .i64 n] I (True) ((Value×Value)×CbB) (fun q:(Value×Value)×CbB=>.tuple #[.agg #[q.1.1,q.1.2],.bool q.2.1.2]) (fun q=>.ow [q.1.1] q.2.1.1.1::.ow [q.1.2] q.2.1.1.2::I):=⟨fun _ w0=>by
 refine aK func157 ntmps157 ?_
 repeat' (first|refine aU ?_|refine cV fun r hr=>?_|refine aW fun r=>?_|refine bT fun b=>?_|refine bV fun hc=>?_|refine bW fun hc=>?_|refine aS (fun hc=>?_) fun hc=>?_|fail)
 ·exact⟨((.slice none 0 0,.slice none 0 0),⟨(([],[]),false),aL2⟩),rfl,aH⟩
 ·exact⟨r,rfl,aH⟩⟩
structure NdB(s:Nat)(n:dK):Prop where
 k:0<=n.1/\n.1<=13
 a:n.2.1.length<=200+s
 b:n.2.2.1.length<=61+s
 t:∀ t∈n.2.2.1,t.length<=60
 c:n.2.2.2.length<=64+s
 q:∀ k∈n.2.2.2,-1000<=k/\k<=1000
structure PfB(s:Nat)(ps:List dK):Prop where
 n:ps.length<=64+s
 e:∀ y∈ps,NdB s y
theorem NdB.up{n:dK}(h:NdB 0 n):NdB 1 n:=⟨h.k,by have:=h.a;omega,by have:=h.b;omega,h.t,by have:=h.c;omega,h.q⟩
theorem PfB.up{ps:List dK}(h:PfB 0 ps):PfB 1 ps:=⟨by have:=h.n;omega,fun y hy=>(h.e y hy).up⟩
theorem aZv{n:dK}{m:Int}(h:nJ n m)(hm:m<=1000):NdB 0 n:=by
 obtain ⟨h1,h2,h3,h4⟩:=h
 refine⟨by omega,by omega,by omega,fun t ht=>?_,by omega,fun k hk=>?_⟩
 ·obtain ⟨i,hi,rfl⟩:=cO ht
  have:¬ ¬ (1<=(n.2.2.1.getD i default).length/\(n.2.2.1.getD i default).length<=60):=fun h'=>h3 ⟨i,hi,h'⟩
  rw[aC,aG hi,aZ] at this
  omega
 ·obtain ⟨i,hi,rfl⟩:=cO hk
  have:¬ (n.2.2.2.getD i 0<0∨m<=n.2.2.2.getD i 0):=fun h'=>h4 ⟨i,hi,h'⟩
  rw[aC,aG hi,aZ] at this
  omega
theorem NdB.fits{s:Nat}{n:dK}(h:NdB s n)(hs:s<=10):aK8 n:=⟨by have:=h.a;omega,by have:=h.b;omega,fun t ht=>by have:=h.t t ht;omega,by have:=h.c;omega,fun k hk=>by have:=h.q k hk;omega⟩
structure PfA(ps:List dK):Prop where
 n:ps.length<=64
 a:rG ps ps.length
theorem mA:PfA []:=⟨aI _,fun i hi=>absurd hi (cX i)⟩
theorem PfA.b{ps:List dK}(h:PfA ps):PfB 0 ps:=⟨by have:=h.n;omega,fun y hy=>by
 obtain ⟨i,hi,rfl⟩:=cO hy
 have h1:=h.a i hi
 have h2:=h.n
 rw[aC,aG hi,aZ] at h1
 exact aZv h1 (by omega)⟩
theorem xX(ps:List dK)(n:dK):PfA ((kC ps n).getD []):=by
 unfold kC
 split
 ·rename_i h
  obtain ⟨h1,h2,h3⟩:=h
  refine⟨by rw[aZ,aD,aJ];omega,fun i hi=>?_⟩
  rw[aZ,aD,aJ] at hi
  rw[aZ]
  by_cases e:i<ps.length
  ·rw[aC,dD e,← aC];exact h2 i e
  ·obtain rfl:i=ps.length:=by omega
   rw[aC,cP (aM _),Nat.sub_self];exact h3
 ·exact mA
abbrev PfT:Type:={ p:List dK×Bool // PfA p.1 }
theorem lV{I:List Atom}{V:Type}{iα:cB V}:dZ (List V) bA I [.slice none 0 0] []:=⟨fun {ok w F} _=>(inferInstance:dZ (List V) bA [@Atom.ow (List V) bA [.slice none 0 0] []] [.slice none 0 0] []).get (ok:=ok) (w:=w) (F:=[]) ⟨[],[],rfl,.inl ⟨rfl,rfl,rfl⟩,rfl⟩⟩
theorem rS{w0:World}{I:List Atom}{va vb vc:Value}{n:dK}[ha:bK Int I va n.2.1][hb:bK (List Int) I vb n.2.2.1][hc':bK Int I vc n.2.2.2](hn1:0<=n.1/\n.1<=13) :
  CJ prog 133 [.agg #[.int .i64 n.1,va,vb,vc]] w0 I (fun q:Value×PfT=>.tuple #[.agg #[q.1],.bool q.2.1.2]) (fun q=>.ow [q.1] q.2.1.1::I):=by
 refine cL (A:=fun q:Value×PfT=>[.ow [q.1] q.2.1.1]) (fun w1=>?_) (aE ha (aE hb (aE hc' fI))) fun _=>inferInstance
 simp only[aA,aB]
 refine aK func133 ntmps133 ?_
 refine xI (V:=dK) (iα:=inferInstance) ?_
 repeat' (first|refine aU ?_|refine cV fun r hr=>?_|refine aW fun r=>?_|refine bT fun b=>?_|fail)
 exact⟨(r,⟨((kC [] n).getD [],(kC [] n).isSome),xX [] n⟩),rfl,aH⟩
instance bJp{I:List Atom}{va vb vc:Value}{n:dK}[ha:bK Int I va n.2.1][hb:bK (List Int) I vb n.2.2.1][hc':bK Int I vc n.2.2.2] :
  bQ prog 133 [.agg #[.int .i64 n.1,va,vb,vc]] I (0<=n.1/\n.1<=13) (Value×PfT) (fun q:Value×PfT=>.tuple #[.agg #[q.1],.bool q.2.1.2]) (fun q=>.ow [q.1] q.2.1.1::I):=⟨fun s w0=>rS s⟩
instance bJr{I:List Atom}{v:Value}{ns:List dK}[h0:bK dK I v ns] :
  bQ prog 139 [v] I (True) (Value×PfT) (fun q:Value×PfT=>.tuple #[.agg #[q.1],.bool q.2.1.2]) (fun q=>.ow [q.1] q.2.1.1::I):=⟨fun _ w0=>by
 refine cL (A:=fun q:Value×PfT=>[.ow [q.1] q.2.1.1]) (fun w1=>?_) (aE h0 fI) fun _=>inferInstance
 simp only[aA,aB]
 refine dQ v fun hlv=>?_
 refine aK func139 ntmps139 ?_
 repeat' (first|refine aU ?_|refine bT fun b=>?_|fail)
 refine lp_ [5] [9,10,11,12,16,17,18,19,20,21,15,22,23,6,7,24,25,26,3,27,13,14] (Z:=(Value×List dK)×Nat) (fun k=>[.int .i64 k.2]) (fun k=>[.bk b [k.1.1],.ow [k.1.1] k.1.2]) (fun k=>k.2<=ns.length/\PfA k.1.2) (fun k=>ns.length-k.2) ((.slice none 0 0,[]),0) [.bk b [.slice none 0 0],.ow [.slice none 0 0] ([]:List dK)] ⟨aI _,mA⟩ ?_
 intro ⟨⟨so,ps⟩,i⟩ u l' hl' ⟨hi,hps⟩
 simp only[bM,List.map,List.set] at hl'
 subst hl'
 simp only[aA,aB] at hi hps ⊢
 by_cases hil:i<ns.length
 ·repeat' (first|refine aU ?_|refine bP ?_|refine bV fun hc=>?_|refine bW fun hc=>?_|refine aS (fun hc=>?_) fun hc=>?_|refine bT fun b=>?_|refine cV fun r hr=>?_|refine aW fun r=>?_|refine wb 5 [] ?_|refine xp ?_|(refine xd fun p c d e f g h hf=>?_;simp only[Un.cells,Un.atoms,Un.fact,aA,aB] at f g h hf;subst f g h)|refine xy ?_|refine x2 ?_ ?_|refine bI ?_|fail)
  all_goals first
   | exact⟨(.slice none 0 0,⟨([],false),mA⟩),rfl,aH⟩
   | exact eB ((r,(kC ps (ns.getD i default)).getD []),i+1) ⟨by simp only;omega,xX _ _⟩
 ·repeat' (first|refine aU ?_|refine bV fun hc=>?_|refine bW fun hc=>?_|refine aS (fun hc=>?_) fun hc=>?_|fail)
  exact⟨(so,⟨(ps,_),hps⟩),rfl,aH⟩⟩
abbrev NkT:Type:={ n:dK×Bool // 0<=n.1.1/\n.1.1<=13 }
theorem bFa(ls:List eG):0<=(iO ls).1/\(iO ls).1<=13:=by unfold iO;split<;>simp
theorem aU7{a:List Int}{ps:List cJ}(h:gU a ps):ps.length<=8/\∀ f,f<ps.length->(ps.getD f default).2.length<=3:=by
 obtain ⟨h1,h2,h3⟩:=h
 have h4:=eC h1
 refine⟨by omega,fun f hf=>?_⟩
 have h5:=(h3 f hf).2.1
 have h6:=fM h1 (k:=f) (by omega)
 omega
theorem bJt(x:qH):0<=(kI x).1/\(kI x).1<=13:=by unfold kI;split<;>simp
theorem bEx(x:jX):0<=(gR x).1/\(gR x).1<=13:=by unfold gR;split<;>simp
theorem bLu(x y:gK):0<=(kJ x y).1/\(kJ x y).1<=13:=by unfold kJ;split<;>simp
theorem zY(x:gK):0<=(fY x).1/\(fY x).1<=13:=by unfold fY;split<;>simp
theorem aOl{m:Nat}:∀ (xs:List (List Int)),(∀ s∈xs,s.length<=m)->nR xs<=m*xs.length
 | [],_=>aI _
 | x::xs,h=>by
  have h1:=h x List.mem_cons_self
  have h2:=aOl xs fun t ht=>h t (List.mem_cons_of_mem _ ht)
  have h3:nA.size x=x.length:=lE x
  simp only[nR,aF,Nat.mul_add,Nat.mul_one]
  omega
theorem aQp{m:Nat}(xs:List (List Int))(h:∀ s∈xs,s.length<=m):nA.size xs<=(m+1)*xs.length:=by
 have h1:=aOl xs h
 rw[iE,Nat.succ_mul]
 omega
theorem aY9{y:qH}(h:LpB y):nA.size y.2.2<=1048576:=by
 have h1:=aQp (m:=60) y.2.2 h.s
 have h2:=h.n
 have:(60+1)*y.2.2.length<=61*24:=Nat.mul_le_mul_left 61 h2
 omega
instance bHu{I:List Atom}{v0 v1:Value}{x:aQ}{m:Int}[h0:eK Int I v0 x.1][h1:eK cM I v1 x.2] :
  bQ prog 132 [.agg #[v0,v1],.int .i64 m] I (True) ((Value×Value×Value)×NkT) (fun q:(Value×Value×Value)×NkT=>.tuple #[.agg #[.int .i64 q.2.1.1.1,q.1.1,q.1.2.1,q.1.2.2],.bool q.2.1.2]) (fun q=>.ow [q.1.1] q.2.1.1.2.1::.ow [q.1.2.1] q.2.1.1.2.2.1::.ow [q.1.2.2] q.2.1.1.2.2.2::I):=⟨fun _ w0=>by
 refine aK func132 ntmps132 ?_
 repeat' (first|refine aU ?_|refine cV fun r hr=>?_|refine aW fun r=>?_|refine bT fun b=>?_|refine bV fun hc=>?_|refine bW fun hc=>?_|refine aS (fun hc=>?_) fun hc=>?_|fail)
 ·exact⟨((r.1,.slice none 0 0,.slice none 0 0),⟨((3,r.2.1.1,[],[]),true),(by decide:(0:Int)<=3/\(3:Int)<=13)⟩),rfl,aH⟩
 ·have hwt:=r.2.2 hc
  have hw1:=hwt.v
  have hw2:=hwt.s
  have hw3:=hwt.n
  have hsg:=eC hwt.ok
  repeat' (first|refine aU ?_|refine bG fun sv=>?_|fail)
  exact⟨((_,.slice none 0 0,.slice none 0 0),⟨((4,([r.2.1.1.1]++r.2.1.1.2.1)++r.2.1.1.2.2,[],[]),true),(by decide:(0:Int)<=4/\(4:Int)<=13)⟩),rfl,aH⟩
 ·rename Value×TrT=>tr
  have htr:=tr.2.2.2
  refine aG8 tr.1 ?_
  simp only[uD]
  repeat' (first|refine aU ?_|refine cV fun r hr=>?_|refine aW fun r=>?_|fail)
  exact⟨(r,⟨(iO tr.2.1.1,tr.2.1.2),bFa _⟩),rfl,aH⟩
 ·have hpp:=aU7 (r.2.2 hc)
  obtain ⟨hp1,hp2⟩:=hpp
  refine lp_ [16] [60,61,62,63,66,67,68,69,70,71,72,73,74,75,76,77,78,79,80,81,82,83,84,64,65] (Z:=(Value×List Int)×Nat) (fun k=>[.int .i64 k.2]) (fun k=>[.bk b [.int .i64 5,k.1.1,.slice none 0 0,.slice none 0 0],.ow [k.1.1] k.1.2]) (fun k=>k.2<=r.2.1.1.length/\k.1.2.length<=4*k.2) (fun k=>r.2.1.1.length-k.2) ((.slice none 0 0,[]),0) [.bk b [.int .i64 5,.slice none 0 0,.slice none 0 0,.slice none 0 0],.ow [.slice none 0 0] ([]:List Int)] ⟨aI _,aM _⟩ ?_
  intro ⟨⟨so,l⟩,i⟩ u l' hl' ⟨hi,hll⟩
  simp only[bM,List.map,List.set] at hl'
  subst hl'
  simp only[aA,aB] at hi hll ⊢
  by_cases hil:i<r.2.1.1.length
  ·have hco:=hp2 i hil
   repeat' (first|refine aU ?_|refine bP ?_|refine bV fun hc=>?_|refine bW fun hc=>?_|refine aS (fun hc=>?_) fun hc=>?_|refine bG fun sv=>?_|refine wb 16 [8,10] ?_|refine wb 17 [7,9] ?_|refine xp ?_|refine x0 ?_|(refine xd fun p c d e f g h hf=>?_;simp only[Un.cells,Un.atoms,Un.fact,aA,aB] at f g h hf;subst f g h)|refine xy ?_|refine bI ?_|fail)
   exact eB ((sv,l++[(r.2.1.1.getD i default).1]++(r.2.1.1.getD i default).2),i+1) ⟨by simp only;omega,by simp only[aD,aJ];omega⟩
  ·repeat' (first|refine aU ?_|refine bV fun hc=>?_|refine bW fun hc=>?_|refine aS (fun hc=>?_) fun hc=>?_|fail)
   exact⟨((so,.slice none 0 0,.slice none 0 0),⟨((5,l,[],[]),true),(by decide:(0:Int)<=5/\(5:Int)<=13)⟩),rfl,aH⟩⟩
instance bA8{I:List Atom}{v0 v1:Value}{x:aQ}{m:Int}[h0:eK Int I v0 x.1][h1:eK cM I v1 x.2] :
  bQ prog 100 [.agg #[v0,v1],.int .i64 m] I (True) (Value×PfT) (fun q:Value×PfT=>.tuple #[.agg #[q.1],.bool q.2.1.2]) (fun q=>.ow [q.1] q.2.1.1::I):=⟨fun _ w0=>by
 refine aK func100 ntmps100 ?_
 repeat' (first|refine aU ?_|refine cV fun r hr=>?_|refine aW fun r=>?_|refine bT fun b=>?_|refine bV fun hc=>?_|refine bW fun hc=>?_|refine aS (fun hc=>?_) fun hc=>?_|fail)
 all_goals try exact⟨(.slice none 0 0,⟨([],false),mA⟩),rfl,aH⟩
 rename (Value×Value×Value)×NkT=>nk
 have hnk:=nk.2.2
 repeat' (first|refine aU ?_|refine cV fun r hr=>?_|refine aW fun r=>?_|fail)
 exact⟨r,rfl,aH⟩⟩
instance bAs{I:List Atom}{v0 v1:Value}{x:aQ}{m:Int}[h0:eK Int I v0 x.1][h1:eK cM I v1 x.2] :
  bQ prog 103 [.agg #[v0,v1],.int .i64 m] I (True) (Value×PfT) (fun q:Value×PfT=>.tuple #[.agg #[q.1],.bool q.2.1.2]) (fun q=>.ow [q.1] q.2.1.1::I):=⟨fun _ w0=>by
 refine aK func103 ntmps103 ?_
 repeat' (first|refine aU ?_|refine cV fun r hr=>?_|refine aW fun r=>?_|refine bT fun b=>?_|refine bV fun hc=>?_|refine bW fun hc=>?_|refine aS (fun hc=>?_) fun hc=>?_|fail)
 all_goals try exact⟨(.slice none 0 0,⟨([],false),mA⟩),rfl,aH⟩
 rename (Value×Value×Value)×LpT=>lp
 have hlp:=lp.2.2
 have ha:=hlp.a
 have hsz:=aY9 hlp
 have hlk:=bJt lp.2.1.1
 repeat' (first|refine aU ?_|refine cV fun r hr=>?_|refine aW fun r=>?_|fail)
 exact⟨r,rfl,aH⟩⟩
instance aX4{I:List Atom}{v0 v1 v v':Value}{x:aQ}{s t:List Int}{n:Int}[h0:eK Int I v0 x.1][h1:eK cM I v1 x.2][h2:eK Int I v s][h3:eK Int I v' t] :
  bQ prog 109 [.agg #[v0,v1],v,v',.int .i64 n] I (True) (Value×PfT) (fun q:Value×PfT=>.tuple #[.agg #[q.1],.bool q.2.1.2]) (fun q=>.ow [q.1] q.2.1.1::I):=⟨fun _ w0=>by
 refine aK func109 ntmps109 ?_
 repeat' (first|refine aU ?_|refine cV fun r hr=>?_|refine aW fun r=>?_|refine bT fun b=>?_|refine bV fun hc=>?_|refine bW fun hc=>?_|refine aS (fun hc=>?_) fun hc=>?_|fail)
 all_goals try exact⟨(.slice none 0 0,⟨([],false),mA⟩),rfl,aH⟩
 rename (Value×Value)×CbB=>cb
 have hck:=bEx cb.2.1.1
 repeat' (first|refine aU ?_|refine cV fun r hr=>?_|refine aW fun r=>?_|fail)
 exact⟨r,rfl,aH⟩⟩
instance bH8{I:List Atom}{v0 v1 v v':Value}{x:aQ}{s t:List Int}{a k n:Int}[h0:eK Int I v0 x.1][h1:eK cM I v1 x.2][h2:eK Int I v s][h3:eK Int I v' t] :
  bQ prog 143 [.agg #[v0,v1],v,.int .i64 a,.int .i64 k,v',.int .i64 n] I (s.length<=60/\(-1<=a/\a<=100)/\(-1<=k/\k<=100)) ((Value×Value)×WbT) (fun q:(Value×Value)×WbT=>.tuple #[.agg #[q.1.1,q.1.2],.bool q.2.1.2]) (fun q=>.ow [q.1.1] q.2.1.1.1::.ow [q.1.2] q.2.1.1.2::I):=⟨fun hs w0=>by
 obtain ⟨hsl,ha,hk⟩:=hs
 refine aK func143 ntmps143 ?_
 repeat' (first|refine aU ?_|refine cV fun r hr=>?_|refine aW fun r=>?_|refine bT fun b=>?_|fail)
 have hst:=aD6 x s a k
 generalize iT x s a k=st at hst ⊢
 refine fU r ?_
 haveI hi1:I6 a:=⟨by omega⟩
 haveI hi2:I6 k:=⟨by omega⟩
 have hW1:WB (s,[(a,k,st.getD [])]):=⟨hsl,fun u hu=>by rw[aO] at hu;rw[hu];exact hst,by simp⟩
 repeat' (first|refine aU ?_|refine cV fun r hr=>?_|refine aW fun r=>?_|refine bG fun sv=>?_|refine bT fun b=>?_|refine bV fun hc=>?_|refine bW fun hc=>?_|refine aS (fun hc=>?_) fun hc=>?_|fail)
 all_goals try exact⟨((.slice none 0 0,.slice none 0 0),⟨(([],[]),false),lH⟩),rfl,aH⟩
 have hW2:=r.2.2
 with_reducible refine vT (zM (a:=(s,[(a,k,st.getD [])])) (y:=r.2.1.1) ⟨hW1,hW2⟩) ?_
 intro q
 repeat' (first|refine aU ?_|fail)
 exact⟨q,rfl,aH⟩⟩
instance bDc{I:List Atom}{v0 v1:Value}{x:aQ}{m:Int}[h0:eK Int I v0 x.1][h1:eK cM I v1 x.2] :
  bQ prog 102 [.agg #[v0,v1],.int .i64 m] I (True) (Value×PfT) (fun q:Value×PfT=>.tuple #[.agg #[q.1],.bool q.2.1.2]) (fun q=>.ow [q.1] q.2.1.1::I):=⟨fun _ w0=>by
 refine aK func102 ntmps102 ?_
 repeat' (first|refine aU ?_|refine cV fun r hr=>?_|refine aW fun r=>?_|refine bT fun b=>?_|refine bV fun hc=>?_|refine bW fun hc=>?_|refine aS (fun hc=>?_) fun hc=>?_|fail)
 all_goals try exact⟨(.slice none 0 0,⟨([],false),mA⟩),rfl,aH⟩
 have hok:eE x=true:=by assumption
 rename ((Value×Value×Value)×(Value×List Int)×Value×List Int)×{ y:mQ×Bool // y.2=true->PkP x y.1 }=>sp
 have hp:=sp.2.2 hc
 obtain ⟨hb1,hb2,hb3⟩:=hp.b
 have hpo:=hp.c.o
 have hpt:=hp.t.len.2
 ((refine wb 4 [] ?_<;>repeat' (first|refine aU ?_|refine cV fun r hr=>?_|refine aW fun r=>?_|refine xp ?_|(refine xd fun p c d e f g h hf=>?_;simp only[Un.cells,Un.atoms,Un.fact,aA,aB] at f g h hf;subst f g h)|refine xy ?_|fail))<;>refine bI ?_)
 repeat' (first|refine aU ?_|refine cV fun r hr=>?_|refine aW fun r=>?_|refine bT fun b=>?_|refine bV fun hc=>?_|refine bW fun hc=>?_|refine aS (fun hc=>?_) fun hc=>?_|fail)
 all_goals try exact⟨(.slice none 0 0,⟨([],false),mA⟩),rfl,aH⟩
 rename_i wa ba ha
 have hk1:=zY wa.2.1.1
 have hk2:=zY r.2.1.1
 ((refine wb1 9 [10] ?_<;>repeat' (first|refine aU ?_|refine bG fun sv=>?_|refine cV fun r hr=>?_|refine aW fun r=>?_|refine xp ?_|refine x0 ?_|refine xy ?_|refine x2 ?_ ?_|fail))<;>refine bI ?_)
 all_goals
  repeat' (first|refine aU ?_|fail)
  exact⟨r,rfl,aH⟩⟩
instance bDj {I : List Atom} {v0 v1 : Value} {x : aQ} {m n : Int} [h0 : fK (List Int) bA I [v0] x.1] [h1 : fK (List cM) bA I [v1] x.2] :
    bQ Tryz.prog 101 [.agg #[v0, v1], .int .i64 m, .int .i64 n] I (True) (Value × PfT) (fun q : Value × PfT => .tuple #[.agg #[q.1], .bool q.2.1.2]) (fun q => .ow [q.1] q.2.1.1 :: I) := ⟨fun _ w0 => by
  refine aK Tryz.func101 Tryz.ntmps101 ?_
  repeat' (first | refine aU ?_ | refine cV fun r hr => ?_ | refine aW fun r => ?_ | refine bT fun b => ?_ | refine bV fun hc => ?_ | refine bW fun hc => ?_ | refine aS (fun hc => ?_) fun hc => ?_ | fail)
  all_goals try exact ⟨(.slice none 0 0, ⟨([], false), mA⟩), rfl, aH⟩
  · refine vT (rS (n := (8, [], [], [])) (ha := lV) (hb := lV) (hc' := lV) (by decide)) ?_
    intro r
    repeat' (first | refine aU ?_ | fail)
    exact ⟨r, rfl, aH⟩
  · refine vT (rS (n := (8, [], [], [])) (ha := lV) (hb := lV) (hc' := lV) (by decide)) ?_
    intro r
    repeat' (first | refine aU ?_ | fail)
    exact ⟨r, rfl, aH⟩
  rename (Value × Value × Value) × NkT => nk
  have hnk := nk.2.2
  have hpk := r.2.2.1
  rename Value × PkT x => pk
  refine fU pk.1 ?_
  repeat' (first | refine aU ?_ | refine bG fun sv => ?_ | refine bT fun b => ?_ | fail)
  rename_i vn
  refine bD [12, 14] [54, 55, 56, 57, 61, 62, 63, 64, 65, 66, 67, 60, 68, 69, 70, 15, 16, 17, 71, 72, 73, 7, 74, 75, 76, 77, 78, 79, 80, 81, 82, 83, 84, 85, 86, 58, 59] (Z := (Value × List dK) × (Value × List Int) × Nat) (fun k => [k.1.1, .int .i64 k.2.2]) (fun k => [.ow [k.1.1] k.1.2, .bk b [.int .i64 7, .slice none 0 0, .slice none 0 0, k.2.1.1], .ow [k.2.1.1] k.2.1.2]) (fun k => k.2.2 <= pk.2.1.1.length /\ k.1.2.length = k.2.2 + 1 /\ k.2.1.2.length = k.2.2 + 1) (fun k => pk.2.1.1.length - k.2.2) ((vn, [(nk.2.1.1.1, nk.2.1.1.2.1, nk.2.1.1.2.2.1, nk.2.1.1.2.2.2)]), (sv, [0]), 0) [.ow [vn] [(nk.2.1.1.1, nk.2.1.1.2.1, nk.2.1.1.2.2.1, nk.2.1.1.2.2.2)], .bk b [.int .i64 7, .slice none 0 0, .slice none 0 0, sv], .ow [sv] [0]] (by kernel_rfl) ⟨Nat.zero_le _, rfl, rfl⟩ rfl ?_
  intro ⟨⟨so, ns⟩, ⟨sk, ks⟩, i⟩ u l' hl' ⟨hi, hnl, hkl⟩
  simp only [bM, List.map_cons, List.map_nil, List.set_cons_zero, List.set_cons_succ] at hl'
  subst hl'
  simp only [List.cons_append, List.nil_append] at hi hnl hkl ⊢
  by_cases hil : i < pk.2.1.1.length
  · repeat' (first | refine aU ?_ | refine cV fun r hr => ?_ | refine aW fun r => ?_ | refine bV fun hc => ?_ | refine bW fun hc => ?_ | refine aS (fun hc => ?_) fun hc => ?_ | ((refine wb 14 [] ?_ <;> refine bY 0 ?_ <;> refine bY 1 ?_ <;> refine bY 2 ?_ <;> (refine oF 3 fun p cs as_ asb_ hcs has hasb hf => ?_; simp only [Un.cells, Un.atoms, Un.fact, List.cons_append, List.nil_append] at hcs has hasb hf; subst hcs has hasb) <;> refine bY 4 ?_ <;> refine bY 5 ?_ <;> (refine vQ 6 11 12 ?_ ?_ ?_; rotate_right; (focus ((repeat' (first | refine aU ?_ | refine bT fun b => ?_)) <;> (refine fH 6 11 ?_ ?_; rotate_right; (focus ((repeat' (first | refine aU ?_ | refine bT fun b => ?_)) <;> (refine bX 6 ?_ <;> (repeat' (first | refine aU ?_ | refine cV fun r hr => ?_ | refine aW fun r => ?_))) <;> refine bY 7 ?_ <;> refine bY 8 ?_ <;> refine bY 9 ?_ <;> refine bY 10 ?_ <;> (refine bX 13 ?_ <;> (repeat' refine aU ?_)) <;> (refine bX 14 ?_ <;> (repeat' refine aU ?_)) <;> refine bY 15 ?_)); rotate_right; (focus ((repeat' (first | refine aU ?_ | refine cV fun r hr => ?_ | refine aW fun r => ?_)) <;> refine bY 7 ?_ <;> refine bY 8 ?_ <;> refine bY 9 ?_ <;> refine bY 10 ?_ <;> (refine bX 11 ?_ <;> (repeat' (first | refine aU ?_ | refine bT fun b => ?_))) <;> (refine bX 13 ?_ <;> (repeat' refine aU ?_)) <;> (refine bX 14 ?_ <;> (repeat' refine aU ?_)) <;> refine bY 15 ?_))))); rotate_right; (focus ((repeat' (first | refine aU ?_ | refine bT fun b => ?_)) <;> (refine fH 6 12 ?_ ?_; rotate_right; (focus ((repeat' (first | refine aU ?_ | refine bT fun b => ?_)) <;> (refine bX 6 ?_ <;> (repeat' (first | refine aU ?_ | refine cV fun r hr => ?_ | refine aW fun r => ?_))) <;> refine bY 7 ?_ <;> refine bY 8 ?_ <;> refine bY 9 ?_ <;> refine bY 10 ?_ <;> (refine bX 13 ?_ <;> (repeat' refine aU ?_)) <;> (refine bX 14 ?_ <;> (repeat' refine aU ?_)) <;> refine bY 15 ?_)); rotate_right; (focus ((repeat' (first | refine aU ?_ | refine cV fun r hr => ?_ | refine aW fun r => ?_)) <;> refine bY 7 ?_ <;> refine bY 8 ?_ <;> refine bY 9 ?_ <;> refine bY 10 ?_ <;> (refine bX 12 ?_ <;> (repeat' (first | refine aU ?_ | refine bT fun b => ?_))) <;> (refine bX 13 ?_ <;> (repeat' refine aU ?_)) <;> (refine bX 14 ?_ <;> (repeat' refine aU ?_)) <;> refine bY 15 ?_))))); rotate_right; (focus ((repeat' (first | refine aU ?_ | refine cV fun r hr => ?_ | refine aW fun r => ?_)) <;> refine bY 7 ?_ <;> refine bY 8 ?_ <;> refine bY 9 ?_ <;> refine bY 10 ?_ <;> (refine fH 11 12 ?_ ?_; rotate_right; (focus ((repeat' (first | refine aU ?_ | refine bT fun b => ?_)) <;> (refine bX 11 ?_ <;> (repeat' (first | refine aU ?_ | refine bT fun b => ?_))) <;> (refine bX 13 ?_ <;> (repeat' refine aU ?_)) <;> (refine bX 14 ?_ <;> (repeat' refine aU ?_)) <;> refine bY 15 ?_)); rotate_right; (focus ((repeat' (first | refine aU ?_ | refine bT fun b => ?_)) <;> (refine bX 12 ?_ <;> (repeat' (first | refine aU ?_ | refine bT fun b => ?_))) <;> (refine bX 13 ?_ <;> (repeat' refine aU ?_)) <;> (refine bX 14 ?_ <;> (repeat' refine aU ?_)) <;> refine bY 15 ?_))))))) <;> refine bI ?_) | fail)
    all_goals try exact ⟨(.slice none 0 0, ⟨([], false), mA⟩), rfl, aH⟩
    all_goals
      rename (Value × Value) × (Value × Value) × Jn2 => jn
      have hjk := bLu jn.2.2.1.1 jn.2.2.1.2.1
      repeat' (first | refine aU ?_ | refine bP ?_ | refine bG fun sv => ?_ | fail)
      rename_i s1 s2 s3
      exact dH ((s2, ns ++ [((kJ jn.2.2.1.1 jn.2.2.1.2.1).1, (kJ jn.2.2.1.1 jn.2.2.1.2.1).2.1, (kJ jn.2.2.1.1 jn.2.2.1.2.1).2.2.1, (kJ jn.2.2.1.1 jn.2.2.1.2.1).2.2.2)]), (sv, ks ++ [(i : Int) + 1]), i + 1) ⟨by simp only; omega, by simp only [List.length_append, List.length_singleton]; omega, by simp only [List.length_append, List.length_singleton]; omega⟩ (by simp only; omega) (by kernel_rfl) aH
  · repeat' (first | refine aU ?_ | refine cV fun r hr => ?_ | refine aW fun r => ?_ | refine bG fun sv => ?_ | refine bV fun hc => ?_ | refine bW fun hc => ?_ | refine aS (fun hc => ?_) fun hc => ?_ | fail)
    exact ⟨r, rfl, aH⟩⟩
abbrev TkT(V:Type)(n:Nat)(a:Int):Type:={ y:List V×Int // y.1.length<=200/\(y.2=-1∨0<=a/\a<y.2/\y.2<=n) }
instance bGp{I:List Atom}{v:Value}{xs:List Int}{a:Int}[h:bK Int I v xs] :
  bQ prog 282 [v,.int .i64 a] I (xs.length<=200/\-1<=a/\a<=200) (Value×TkT Int xs.length a) (fun q:Value×TkT Int xs.length a=>.tuple #[q.1,.int .i64 q.2.1.2]) (fun q=>.ow [q.1] q.2.1.1::I):=⟨fun hs w0=>by
 refine cL (A:=fun q:Value×TkT Int xs.length a=>[.ow [q.1] q.2.1.1]) (fun w1=>?_) (aE h fI) fun _=>inferInstance
 simp only[aA,aB]
 obtain ⟨hl,ha⟩:=hs
 refine aK func282 ntmps282 ?_
 repeat' (first|refine aU ?_|refine eF fun hbi=>?_|refine bP ?_|refine cV fun r hr=>?_|refine aW fun r=>?_|refine bG fun sv=>?_|refine bV fun hc=>?_|refine bW fun hc=>?_|refine aS (fun hc=>?_) fun hc=>?_|fail)
 all_goals try exact⟨(sv,⟨([],-1),by simp⟩),rfl,aH⟩
 exact⟨(r,⟨(List.drop (a+1).toNat (List.take (a+1+xs.getD a.toNat 0).toNat xs),a+1+xs.getD a.toNat 0),by simp only[aR,aN];omega,by simp only;omega⟩),rfl,aH⟩⟩
instance aRz{I:List Atom}{v:Value}{xs:List Int}{a:Int}[h:bK Int I v xs] :
  bQ prog 283 [v,.int .i64 a] I (xs.length<=200/\-1<=a/\a<=200) (Value×TkT cJ xs.length a) (fun q:Value×TkT cJ xs.length a=>.tuple #[q.1,.int .i64 q.2.1.2]) (fun q=>.ow [q.1] q.2.1.1::I):=⟨fun hs w0=>by
 refine cL (A:=fun q:Value×TkT cJ xs.length a=>[.ow [q.1] q.2.1.1]) (fun w1=>?_) (aE h fI) fun _=>inferInstance
 simp only[aA,aB]
 obtain ⟨hl,ha⟩:=hs
 refine aK func283 ntmps283 ?_
 repeat' (first|refine aU ?_|refine eF fun hbi=>?_|refine bP ?_|refine cV fun r hr=>?_|refine aW fun r=>?_|refine bG fun sv=>?_|refine bV fun hc=>?_|refine bW fun hc=>?_|refine aS (fun hc=>?_) fun hc=>?_|fail)
 all_goals try exact⟨(sv,⟨([],-1),by simp⟩),rfl,aH⟩
 refine lp_ [6,7] [32,33,34,35,36,37,38,39,40,41,42,43,4,5,45,46,47,48,44,49,50,8,9,51,52,53,54,55,56,57,58,59,60,61,62,63] (Z:=(Value×List cJ)×Int) (fun k=>[k.1.1,.int .i64 k.2]) (fun k=>[.ow [k.1.1] k.1.2]) (fun k=>a+1<=k.2/\k.2<=xs.length/\k.1.2.length+(a+1)<=k.2) (fun k=>(xs.length-k.2).toNat) ((sv,[]),a+1) [.ow [sv] ([]:List cJ)] ⟨Int.le_refl _,by simp only;omega,by simp⟩ ?_
 intro ⟨⟨so,ps⟩,e⟩ u l' hl' ⟨he,hen,hpl⟩
 simp only[bM,List.map,List.set] at hl'
 subst hl'
 simp only[aA,aB] at he hen hpl ⊢
 repeat' (first|refine aU ?_|refine eF fun hbi=>?_|refine bP ?_|refine cV fun r hr=>?_|refine aW fun r=>?_|refine bG fun sv=>?_|refine bV fun hc=>?_|refine bW fun hc=>?_|refine aS (fun hc=>?_) fun hc=>?_|fail)
 ·exact⟨(sv,⟨([],-1),by simp⟩),rfl,aH⟩
 ·exact⟨(sv,⟨([],-1),by simp⟩),rfl,aH⟩
 ·have hq:=r.2.2
  exact eB ((sv,ps++[(xs.getD e.toNat 0,r.2.1.1)]),r.2.1.2) ⟨by simp only;omega,by simp only;omega,by simp only[aD,aJ];omega⟩
 ·exact⟨(so,⟨(ps,e),by simp only;omega,by simp only;omega⟩),rfl,aH⟩⟩
instance aJ3{I:List Atom}{v:Value}{xs:List Int}[h:bK Int I v xs] :
  bQ prog 224 [v] I (True) (Value×List eG×Bool) (fun q:Value×List eG×Bool=>.tuple #[q.1,.bool q.2.2]) (fun q=>.ow [q.1] q.2.1::I):=⟨fun _ w0=>by
 refine cL (A:=fun q:Value×List eG×Bool=>[.ow [q.1] q.2.1]) (fun w1=>?_) (aE h fI) fun _=>inferInstance
 simp only[aA,aB]
 refine aK func224 ntmps224 ?_
 repeat' (first|refine aU ?_|refine bG fun sv=>?_|refine bV fun hc=>?_|refine bW fun hc=>?_|refine aS (fun hc=>?_) fun hc=>?_|fail)
 ·exact⟨(sv,[],false),rfl,aH⟩
 refine lp_ [4,5] [19,20,21,22,24,25,26,23,27,28,6,7,30,31,32,29,33,34,8,9,36,37,38,35,39,40,10,11,42,43,44,41,45,46,12,13,47,48,49,2,3,50,51,52,53,54,55,56,57,58] (Z:=(Value×List eG)×Int) (fun k=>[k.1.1,.int .i64 k.2]) (fun k=>[.ow [k.1.1] k.1.2]) (fun k=>0<=k.2/\k.2<=xs.length/\(k.1.2.length:Int)<=k.2) (fun k=>(xs.length-k.2).toNat) ((sv,[]),0) [.ow [sv] ([]:List eG)] ⟨Int.le_refl _,by simp only;omega,by simp⟩ ?_
 intro ⟨⟨so,ps⟩,e⟩ u l' hl' ⟨he,hen,hpl⟩
 simp only[bM,List.map,List.set] at hl'
 subst hl'
 simp only[aA,aB] at he hen hpl ⊢
 repeat' (first|refine aU ?_|refine cV fun r hr=>?_|refine aW fun r=>?_|refine bV fun hc=>?_|refine bW fun hc=>?_|refine aS (fun hc=>?_) fun hc=>?_|fail)
 ·have hq:=r.2.2
  repeat' (first|refine aU ?_|refine cV fun r hr=>?_|refine aW fun r=>?_|fail)
  have hq2:=r.2.2
  rename Value×TkT Int xs.length e=>r1
  repeat' (first|refine aU ?_|refine cV fun r hr=>?_|refine aW fun r=>?_|fail)
  rename Value×TkT Int xs.length r1.2.1.2=>r2
  have hq3:=r.2.2
  rename Value×TkT cJ xs.length r2.2.1.2=>r3
  repeat' (first|refine aU ?_|refine cV fun r hr=>?_|refine aW fun r=>?_|refine bG fun sv=>?_|refine bV fun hc=>?_|refine bW fun hc=>?_|refine aS (fun hc=>?_) fun hc=>?_|fail)
  ·exact⟨(sv,[],false),rfl,aH⟩
  ·have hq4:=r.2.2
   exact eB ((sv,ps++[(r1.2.1.1,r2.2.1.1,r3.2.1.1,r.2.1.1)]),r.2.1.2) ⟨by simp only;omega,by simp only;omega,by simp only[aD,aJ];omega⟩
 ·exact⟨(so,ps,true),rfl,aH⟩⟩
end Go.Proofs.YtajdgkpjbpindaaGreatDoor
