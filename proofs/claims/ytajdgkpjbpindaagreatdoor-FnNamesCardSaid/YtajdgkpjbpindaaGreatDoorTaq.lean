/- Texts of the proof of FnNames. -/
import Derived.Test.YtajdgkpjbpindaaGreatDoorTai
import Derived.Test.YtajdgkpjbpindaaGreatDoorTap
set_option linter.unusedVariables false
set_option linter.unusedSimpArgs false
set_option linter.unusedSectionVars false
namespace Go.Proofs.YtajdgkpjbpindaaGreatDoor
open Go Go.Eng Tryz
set_option synthInstance.maxHeartbeats 400000
set_option synthInstance.maxSize 1000
set_option maxHeartbeats 4000000
set_option maxRecDepth 20000
structure WtQ(vr:Int)(sy t:List Int):Prop where
 v:1<=vr/\vr<=20
 n:t.length<=60
 ix:∀ i,i<t.length->-24<=t.getD i 0/\t.getD i 0<sy.length
 el:∀ i,i<sy.length->0<=sy.getD i 0/\sy.getD i 0<=20
theorem WtP.q{a sy rk t:List Int}{vr:Int}(h:WtP a vr sy rk)(ht:bB a t=true):WtQ vr sy t:=⟨h.v,(aX ht).2,fun i hi=>by rw[h.s];exact dY ht hi,h.el⟩
instance bAr{I:List Atom}{v v1 v2:Value}{sy rk t:List Int}{vr:Int}[h:bK Int I v t][h1:bK Int I v1 sy][h2:bK Int I v2 rk] :
  bQ prog 339 [.agg #[.int .i64 vr,v1,v2],v] I (WtQ vr sy t) ({ n:Int // -1<=n/\n<=9999 }) (fun q:{ n:Int // -1<=n/\n<=9999 }=>.int .i64 q.1) (fun _=>I):=⟨fun hs w0=>by
 refine jV (fun w1=>?_) (aE h (aE h1 (aE h2 fI)))
 have hv:=hs.v
 have htl:=hs.n
 refine aK func339 ntmps339 ?_
 repeat' (first|refine aU ?_|refine bT fun b=>?_|fail)
 refine lc_ [5,6] [7,8,9,10,13,14,15,16,17,18,19,20,21,22,23,24,25,26,27,28,29,30,31,11,12] (Z:=Int×Nat) (fun k=>[.int .i64 k.1,.int .i64 k.2]) (fun k=>k.2<=t.length/\0<=k.1/\k.1<=20*k.2) (fun k=>t.length-k.2) (0,0) ⟨aI _,by decide,by decide⟩ ?_
 intro ⟨n,i⟩ u l' hl' ⟨hi,hn0,hn1⟩
 simp only[bM,List.map,List.set] at hl'
 subst hl'
 simp only at hi hn0 hn1 ⊢
 by_cases hil:i<t.length
 ·have hg:=hs.ix i hil
  have hel:=hs.el (t.getD i 0).toNat
  repeat' (first|refine aU ?_|refine eF fun hbi=>?_|refine bP ?_|refine bV fun hc=>?_|refine bW fun hc=>?_|refine aS (fun hc=>?_) fun hc=>?_|refine wb 7 [] ?_|refine xf fun hbi=>?_|refine xp ?_|refine bI ?_|fail)
  ·exact eB (n+vr,i+1) ⟨by simp only;omega,by simp only;omega,by simp only;omega⟩
  ·exact eB (n+sy.getD (t.getD i 0).toNat 0,i+1) ⟨by simp only;omega,by simp only;omega,by simp only;omega⟩
 ·repeat' (first|refine aU ?_|refine bV fun hc=>?_|refine bW fun hc=>?_|refine aS (fun hc=>?_) fun hc=>?_|fail)
  exact⟨⟨n,by omega,by omega⟩,rfl,aH⟩⟩
instance bB3{I:List Atom}{v:Value}{x:Int}{t:List Int}[h:bK Int I v t] :
  bQ prog 356 [v,.int .i64 x] I (True) ({ n:Int // 0<=n }) (fun q:{ n:Int // 0<=n }=>.int .i64 q.1) (fun _=>I):=⟨fun _ w0=>by
 refine jV (fun w1=>?_) (aE h fI)
 refine dQ v fun hls=>?_
 refine aK func356 ntmps356 ?_
 repeat' (first|refine aU ?_|fail)
 refine lc_ [5,6] [7,8,9,10,13,14,15,16,17,18,19,20,11,12] (Z:=Nat×Nat) (fun k=>[.int .i64 k.1,.int .i64 k.2]) (fun k=>k.2<=t.length/\k.1<=k.2) (fun k=>t.length-k.2) (0,0) ⟨aI _,by decide⟩ ?_
 intro ⟨n,i⟩ u l' hl' ⟨hi,hn⟩
 simp only[bM,List.map,List.set] at hl'
 subst hl'
 simp only at hi hn ⊢
 by_cases hil:i<t.length
 ·repeat' (first|refine aU ?_|refine eF fun hbi=>?_|refine bP ?_|refine bV fun hc=>?_|refine bW fun hc=>?_|refine aS (fun hc=>?_) fun hc=>?_|fail)
  ·exact eB (n+1,i+1) ⟨by simp only;omega,by simp only;omega⟩
  ·exact eB (n,i+1) ⟨by simp only;omega,by simp only;omega⟩
 ·repeat' (first|refine aU ?_|refine bV fun hc=>?_|refine bW fun hc=>?_|refine aS (fun hc=>?_) fun hc=>?_|fail)
  exact⟨⟨n,by omega⟩,rfl,aH⟩⟩
instance bCq{I:List Atom}{v v1:Value}{s t:List Int}[h:bK Int I v s][h1:bK Int I v1 t] :
  bQ prog 340 [v,v1] I True Bool (fun q:Bool=>.bool q) (fun _=>I):=⟨fun _ w0=>by
 refine jV (fun w1=>?_) (aE h (aE h1 fI))
 refine dQ v fun hls=>?_
 refine aK func340 ntmps340 ?_
 repeat' (first|refine aU ?_|fail)
 refine lc_ [5] [6,7,8,9,12,13,14,15,16,17,18,19,20,21,22,23,24,25,26,27,28,29,30,31,4,10,11] (Z:=Nat) (fun k=>[.int .i64 k]) (fun k=>k<=s.length) (fun k=>s.length-k) 0 (aI _) ?_
 intro i u l' hl' hi
 simp only[bM,List.map,List.set] at hl'
 subst hl'
 by_cases hil:i<s.length
 ·repeat' (first|refine aU ?_|refine bP ?_|refine bV fun hc=>?_|refine bW fun hc=>?_|refine aS (fun hc=>?_) fun hc=>?_|refine cV fun r hr=>?_|refine aW fun r=>?_|refine wb 4 [] ?_|refine xf fun hbi=>?_|refine xp ?_|refine xg ?_|refine xn ?_|refine pM fun hc=>?_|refine pN fun hc=>?_|refine xi (fun hc=>?_) fun hc=>?_|refine xy ?_|refine bI ?_|fail)
  all_goals first|exact⟨_,rfl,aH⟩|exact eB (i+1) (by omega)
 ·repeat' (first|refine aU ?_|refine bV fun hc=>?_|refine bW fun hc=>?_|refine aS (fun hc=>?_) fun hc=>?_|fail)
  exact⟨_,rfl,aH⟩⟩
instance aZj{I:List Atom}{v v1 v2 v3:Value}{a sy rk t:List Int}{vr x:Int}[h:bK Int I v t][h1:bK Int I v1 sy][h2:bK Int I v2 rk][h3:bK Int I v3 a] :
  bQ prog 341 [.agg #[v3],.agg #[.int .i64 vr,v1,v2],.int .i64 x,v] I (WtP a vr sy rk/\bB a t=true) (Bool) (fun q:Bool=>.bool q) (fun _=>I):=⟨fun hs w0=>by
 refine jV (fun w1=>?_) (aE h (aE h1 (aE h2 (aE h3 fI))))
 obtain ⟨hw,ht⟩:=hs
 have hv:=hw.v
 have hsl:=hw.s
 have htl:=aX ht
 refine aK func341 ntmps341 ?_
 repeat' (first|refine aU ?_|refine bT fun b=>?_|fail)
 refine lc_ [9] [10,11,12,13,14,17,18,19,20,21,22,23,24,25,26,27,28,29,30,31,32,33,34,35,36,37,38,39,40,41,42,43,8,15,16] (Z:=Nat) (fun k=>[.int .i64 k]) (fun k=>k<=t.length) (fun k=>t.length-k) 0 (aI _) ?_
 intro i u l' hl' hi
 simp only[bM,List.map,List.set] at hl'
 subst hl'
 by_cases hil:i<t.length
 ·have hg:=dY ht hil
  repeat' (first|refine aU ?_|refine eF fun hbi=>?_|refine bP ?_|refine bV fun hc=>?_|refine bW fun hc=>?_|refine aS (fun hc=>?_) fun hc=>?_|refine wb 4 [] ?_|refine xf fun hbi=>?_|refine xp ?_|refine xg ?_|refine xn ?_|refine pM fun hc=>?_|refine pN fun hc=>?_|refine xi (fun hc=>?_) fun hc=>?_|refine bI ?_|fail)
  all_goals first|exact⟨_,rfl,aH⟩|exact eB (i+1) (by omega)
 ·repeat' (first|refine aU ?_|refine eF fun hbi=>?_|refine bP ?_|refine bV fun hc=>?_|refine bW fun hc=>?_|refine aS (fun hc=>?_) fun hc=>?_|fail)
  all_goals exact⟨_,rfl,aH⟩⟩
theorem bHo{p:Program}{f:Nat}{args:List Value}{w:World}{I:List Atom}{P:Prop}(hP:¬ P)(h:CJ p f args w I (fun q:{ t:Bool // t=true->P }=>.bool q.1) (fun _=>I)):CJ p f args w I (fun _:Unit=>.bool false) (fun _=>I):=
 jS h fun q=>⟨(),by
  rcases q with⟨t,ht⟩
  cases t
  ·rfl
  ·exact absurd (ht rfl) hP,fun w hs=>hs⟩
abbrev aV3:Type:={ n:Int // -1<=n/\n<=99 }
theorem aNn(n:Nat):∀ {w0:World} {I:List Atom} {v v1 v2 v3 v4:Value} {a sy rk s t:List Int} {vr:Int} [h:bK Int I v a] [h1:bK Int I v1 sy] [h2:bK Int I v2 rk] [h3:bK Int I v3 s] [h4:bK Int I v4 t] (hs:WtP a vr sy rk/\bB a s=true/\bB a t=true/\s.length<=n),CJ prog 315 [.agg #[v],.agg #[.int .i64 vr,v1,v2],v3,v4] w0 I (fun q:aV3=>.int .i64 q.1) (fun _=>I):=by
 induction n with
 | zero=>
  intro w0 I v v1 v2 v3 v4 a sy rk s t vr h h1 h2 h3 h4 hs
  have:=aX hs.2.1
  omega
 | succ n ih=>
  intro w0 I v v1 v2 v3 v4 a sy rk s t vr h h1 h2 h3 h4 hs
  haveI hI:∀ (Y:List Atom) (v v1 v2 v3 v4:Value) (a sy rk s t:List Int) (vr:Int) [bK Int Y v a] [bK Int Y v1 sy] [bK Int Y v2 rk] [bK Int Y v3 s] [bK Int Y v4 t],bQ prog 315 [.agg #[v],.agg #[.int .i64 vr,v1,v2],v3,v4] Y (WtP a vr sy rk/\bB a s=true/\bB a t=true/\s.length<=n) aV3 (fun q=>.int .i64 q.1) (fun _=>Y):=fun Y _ _ _ _ _ _ _ _ _ _ _ _ _ _ _ _=>⟨fun s w0=>ih s⟩
  refine jV (fun w1=>?_) (aE h (aE h1 (aE h2 (aE h3 (aE h4 fI)))))
  obtain ⟨hw,hs1,ht1,hn⟩:=hs
  have hsl:=aX hs1
  have htl:=aX ht1
  have hgs:=dY hs1 (k:=0) (by omega)
  have hgt:=dY ht1 (k:=0) (by omega)
  have hrk:=hw.n
  have hq1:=hw.q hs1
  have hq2:=hw.q ht1
  refine aK func315 ntmps315 ?_
  repeat' (first|refine aU ?_|refine eF fun hbi=>?_|refine bP ?_|refine cV fun r hr=>?_|refine aW fun r=>?_|refine bT fun b=>?_|refine bV fun hc=>?_|refine bW fun hc=>?_|refine aS (fun hc=>?_) fun hc=>?_|refine wb 8 [] ?_|refine wb 13 [] ?_|refine wb 14 [] ?_|refine xf fun hbi=>?_|refine xp ?_|refine xy ?_|refine bI ?_|fail)
  all_goals try exact⟨⟨_,by decide⟩,rfl,aH⟩
  have hcs:0<=s.getD 0 0:=by assumption
  have hN:sC a t=sC a s:=by unfold sC;rw[← hc]
  have hla:=jZ a s (sC a s)
  have hly:=jZ a t (sC a t)
  have hn3:=(aZb hs1).2
  rename_i ra
  refine fC ra ?_
  refine fC r ?_
  refine lc_ [13] [80,81,82,83,86,87,88,89,90,91,92,93,94,95,96,97,98,99,100,101,102,103,104,105,106,107,8,84,85] (Z:=Nat) (fun i=>[.int .i64 i]) (fun i=>i<=sC a s) (fun i=>sC a s-i) 0 (aI _) ?_
  intro i u l' hl' hi
  simp only[bM,List.map,List.set] at hl'
  subst hl'
  by_cases hilt:i<sC a s
  ·have hga:=qR a s hilt
   have hgy:=qR a t (n:=sC a t) (i:=i) (by omega)
   have hoa:=aPr hs1 hilt
   have hoy:=aPr ht1 (i:=i) (by omega)
   have hTa:bB a ((kF a s (sC a s)).getD i default).v=true/\((kF a s (sC a s)).getD i default).v.length<=n:=by
    rw[hga];exact⟨hoa.1,by have:=hoa.2;unfold bDg at this;simp only;omega⟩
   have hTy:bB a ((kF a t (sC a t)).getD i default).v=true:=by
    rw[hgy];exact hoy.1
   obtain ⟨hTa1,hTa2⟩:=hTa
   repeat' (first|refine aU ?_|refine bP ?_|refine bV fun hc=>?_|refine bW fun hc=>?_|refine aS (fun hc=>?_) fun hc=>?_|refine cV fun r hr=>?_|refine aW fun r=>?_|refine wb 22 [] ?_|refine wb 23 [] ?_|refine xp ?_|(refine xd fun p c d e f g h hf=>?_;simp only[Un.cells,Un.atoms,Un.fact,aA,aB] at f g h hf;subst f g h)|refine xy ?_|refine bI ?_|fail)
   all_goals first|exact⟨⟨_,by decide⟩,rfl,aH⟩|exact eB (i+1) (by omega)
  ·repeat' (first|refine aU ?_|refine bV fun hc=>?_|refine bW fun hc=>?_|refine aS (fun hc=>?_) fun hc=>?_|fail)
   exact⟨⟨_,by decide⟩,rfl,aH⟩
instance l14Why_ctr{I:List Atom}{v v1 v2 v3 v4:Value}{a sy rk s t:List Int}{vr:Int}[h:bK Int I v a][h1:bK Int I v1 sy][h2:bK Int I v2 rk][h3:bK Int I v3 s][h4:bK Int I v4 t] :
  bQ prog 315 [.agg #[v],.agg #[.int .i64 vr,v1,v2],v3,v4] I (WtP a vr sy rk/\bB a s=true/\bB a t=true) (aV3) (fun q:aV3=>.int .i64 q.1) (fun _=>I):=⟨fun hs w0=>by
 exact aNn 60 ⟨hs.1,hs.2.1,hs.2.2,(aX hs.2.1).2⟩⟩
theorem iB{x:aQ}(h:eE x=true){k:Nat}(hk:k<x.2.length):bB x.1 (x.2.getD k default).1=true/\bB x.1 (x.2.getD k default).2=true:=by
 have:=(eM.1 h).2 _ (dX hk)
 have h1:aCl _ _:=of_decide_eq_true this
 exact⟨h1.1.1,h1.1.2.1⟩
instance aX9{I:List Atom}{v v' v1 v2:Value}{x:aQ}{sy rk:List Int}{vr:Int}[h:bK Int I v x.1][h':bK cM I v' x.2][h1:bK Int I v1 sy][h2:bK Int I v2 rk] :
  bQ prog 281 [.agg #[v,v'],.agg #[.int .i64 vr,v1,v2]] I (WtP x.1 vr sy rk/\eE x=true) (Bool) (fun q:Bool=>.bool q) (fun _=>I):=⟨fun hs w0=>by
 refine jV (fun w1=>?_) (aE h (aE h' (aE h1 (aE h2 fI))))
 obtain ⟨hw,hs⟩:=hs
 refine dQ v' fun hlr=>?_
 refine aK func281 ntmps281 ?_
 repeat' (first|refine aU ?_|refine bT fun b=>?_|fail)
 refine lc_ [5] [6,7,8,9,10,13,14,15,16,17,18,19,20,21,22,23,24,25,26,27,28,29,4,11,12] (Z:=Nat) (fun k=>[.int .i64 k]) (fun k=>k<=x.2.length) (fun k=>x.2.length-k) 0 (aI _) ?_
 intro i u l' hl' hi
 simp only[bM,List.map,List.set] at hl'
 subst hl'
 by_cases hil:i<x.2.length
 ·have hg:=iB hs hil
  obtain ⟨hg1,hg2⟩:=hg
  repeat' (first|refine aU ?_|refine bP ?_|refine bV fun hc=>?_|refine bW fun hc=>?_|refine aS (fun hc=>?_) fun hc=>?_|refine cV fun r hr=>?_|refine aW fun r=>?_|refine wb 4 [] ?_|refine xp ?_|(refine xd fun p c d e f g h hf=>?_;simp only[Un.cells,Un.atoms,Un.fact,aA,aB] at f g h hf;subst f g h)|refine xy ?_|refine bI ?_|fail)
  all_goals first|exact⟨_,rfl,aH⟩|exact eB (i+1) (by omega)
 ·repeat' (first|refine aU ?_|refine bV fun hc=>?_|refine bW fun hc=>?_|refine aS (fun hc=>?_) fun hc=>?_|fail)
  exact⟨_,rfl,aH⟩⟩
instance aVb{I:List Atom}{v v' v1 v2:Value}{x:aQ}{sy rk:List Int}{vr:Int}[h:bK Int I v x.1][h':bK cM I v' x.2][h1:bK Int I v1 sy][h2:bK Int I v2 rk] :
  bQ prog 223 [.agg #[v,v'],.agg #[.int .i64 vr,v1,v2]] I (True) ({ t:Bool // t=true->WtP x.1 vr sy rk/\eE x=true }) (fun q:{ t:Bool // t=true->WtP x.1 vr sy rk/\eE x=true }=>.bool q.1) (fun _=>I):=⟨fun _ w0=>by
 refine jV (fun w1=>?_) (aE h (aE h' (aE h1 (aE h2 fI))))
 by_cases hW:WtP x.1 vr sy rk
 ·refine aK func223 ntmps223 ?_
  repeat' (first|refine aU ?_|refine cV fun r hr=>?_|refine aW fun r=>?_|refine bT fun b=>?_|refine bV fun hc=>?_|refine bW fun hc=>?_|refine aS (fun hc=>?_) fun hc=>?_|fail)
  all_goals first|exact⟨⟨false,fun h=>nomatch h⟩,rfl,aH⟩|exact⟨⟨_,fun _=>⟨hW,by assumption⟩⟩,rfl,aH⟩
 ·haveI hI:∀ (Y:List Atom) (v v1 v2:Value) (a sy rk:List Int) (vr:Int) [bK Int Y v a] [bK Int Y v1 sy] [bK Int Y v2 rk],bQ prog 280 [.agg #[v],.agg #[.int .i64 vr,v1,v2]] Y (¬ WtP a vr sy rk) Unit (fun _=>.bool false) (fun _=>Y):=fun Y v v1 v2 a sy rk vr _ _ _=>⟨fun h w0=>bHo h qS⟩
  refine aK func223 ntmps223 ?_
  repeat' (first|refine aU ?_|refine cV fun r hr=>?_|refine aW fun r=>?_|refine bT fun b=>?_|refine bV fun hc=>?_|refine bW fun hc=>?_|refine aS (fun hc=>?_) fun hc=>?_|fail)
  all_goals exact⟨⟨false,fun h=>nomatch h⟩,rfl,aH⟩⟩
end Go.Proofs.YtajdgkpjbpindaaGreatDoor
