/- Texts of the proof of FnNames. -/
import Derived.Test.YtajdgkpjbpindaaGreatDoorTac
set_option linter.unusedVariables false
set_option linter.unusedSimpArgs false
set_option linter.unusedSectionVars false
namespace Go.Proofs.YtajdgkpjbpindaaGreatDoor
open Go Go.Eng Tryz
theorem aI3{x n:Int}{xs:List Int}(h:x≠n):(x::xs).idxOf n=xs.idxOf n+1:=by
 rw[List.idxOf_cons,show(x==n)=false from by simpa using h];rfl
theorem aZ2{n:Int}:∀ {xs:List Int} {k:Nat},n∉xs.take k->k<xs.length->xs.getD k 0=n->xs.idxOf n=k
 | [],k,_,h,_=>by simp at h
 | x::xs,0,_,_,h=>by
  have h:x=n:=h
  rw[h,List.idxOf_cons_self]
 | x::xs,k+1,h1,h2,h3=>by
  simp only[List.take_succ_cons,cH,not_or] at h1
  rw[aI3 (fun e=>h1.1 e.symm),aZ2 h1.2 (by simpa using h2) h3]
def kA(t:List Int):Nat->List Int
 | 0=>[]
 | k+1=>if t.getD k 0<0/\t.getD k 0∉kA t k then kA t k++[t.getD k 0] else kA t k
theorem aSv{t:List Int}{k:Nat}(h:t.getD k 0<0)(h':t.getD k 0∉kA t k):kA t (k+1)=kA t k++[t.getD k 0]:=if_pos ⟨h,h'⟩
theorem aE3{t:List Int}{k:Nat}(h:¬ (t.getD k 0<0/\t.getD k 0∉kA t k)):kA t (k+1)=kA t k:=if_neg h
theorem rV(t:List Int):∀ k,(kA t k).length<=k
 | 0=>aM _
 | k+1=>by
  have:=rV t k
  unfold kA
  split
  ·simp only[aD,aF,aL];omega
  ·omega
theorem yJ(t:List Int):∀ k,(kA t k).Nodup
 | 0=>List.nodup_nil
 | k+1=>by
  have:=yJ t k
  unfold kA
  split
  ·rename_i h
   rw[bJ]
   exact⟨this,by simp,fun a ha b hb e=>by rw[aO.1 hb] at e;exact h.2 (e▸ha)⟩
  ·exact this
def rn(o:List Int)(n:Int):Int:=if n<0/\n∈o then -1-(o.idxOf n:Int) else n
theorem aIi{f:Int->Int}{t:List Int}{k:Nat}(h:k<t.length):(t.take (k+1)).map f=(t.take k).map f++[f (t.getD k 0)]:=by
 rw[bC h,cG,aC,aG h];rfl
instance bF1{I:List Atom}{v:Value}{t:List Int}[h:bK Int I v t] :
  bQ prog 124 [v] I (t.length<=1048576) (Value) (fun q:Value=>q) (fun q=>.ow [q] (kA t t.length)::I):=⟨fun hl w0=>by
 refine cL (A:=fun q:Value=>[.ow [q] (kA t t.length)]) (fun w1=>?_) (aE h fI) fun _=>inferInstance
 simp only[aA,aB]
 refine aK func124 ntmps124 ?_
 repeat' (first|refine aU ?_|refine bG fun sv=>?_|fail)
 refine lp_ [3,4] [6,7,8,9,12,13,14,15,16,17,18,19,20,21,22,23,24,25,26,27,28,29,30,31,32,10,11] (Z:=Nat×Value) (fun k=>[k.2,.int .i64 k.1]) (fun k=>[.ow [k.2] (kA t k.1)]) (fun k=>k.1<=t.length) (fun k=>t.length-k.1) (0,sv) [.ow [sv] ([]:List Int)] (aI _) ?_
 intro ⟨k,sw⟩ u l' hl' hk
 simp only[bM,List.map,List.set] at hl'
 subst hl'
 simp only[aA,aB] at hk ⊢
 have hol:=rV t k
 repeat' (first|refine aU ?_|refine eF fun hbi=>?_|refine bP ?_|refine aW fun r=>?_|refine bG fun sv=>?_|refine bV fun hc=>?_|refine bW fun hc=>?_|refine aS (fun hc=>?_) fun hc=>?_|fail)
 ·rw[← aSv ‹t.getD k 0<0› hc]
  exact eB (k+1,sv) (by simp only;omega)
 ·exact dH (k+1,sw) (by simp only;omega) (by simp only;omega) (by kernel_rfl) (by simp only[aE3 (fun h=>h.2 hc)];exact aH)
 ·exact dH (k+1,sw) (by simp only;omega) (by simp only;omega) (by kernel_rfl) (by simp only[aE3 (t:=t) (k:=k) (fun h=>by omega)];exact aH)
 ·rw[show t.length=k by omega]
  exact⟨_,rfl,aH⟩⟩
def rnT(o:List Int)(n:Int)(j:Nat):Int:=if n<0/\n∈o.take j then -1-(o.idxOf n:Int) else n
theorem aYz(o:List Int)(n:Int):rnT o n 0=n:=by simp [rnT]
theorem aM4{o:List Int}{j:Nat}(hn:o.Nodup)(hj:j<o.length):o.getD j 0∉o.take j:=by
 intro hm
 rw[aC,aG hj,aZ] at hm
 have h2:(o.take j++o.drop j).Nodup:=by rw[dF];exact hn
 rw[bJ] at h2
 exact h2.2.2 _ hm _ (by rw[List.drop_eq_getElem_cons hj];exact List.Mem.head _) rfl
theorem bFt{o:List Int}{n:Int}{j:Nat}(hn:o.Nodup)(hj:j<o.length)(h:o.getD j 0=n)(hneg:n<0):rnT o n (j+1)=-1-(j:Int):=by
 have h1:n∉o.take j:=h▸aM4 hn hj
 unfold rnT
 rw[if_pos ⟨hneg,(jM hj).2 (.inr h.symm)⟩,aZ2 h1 hj h]
theorem aYr{o:List Int}{n:Int}{j:Nat}(hj:j<o.length)(h:¬ o.getD j 0=n):rnT o n (j+1)=rnT o n j:=by
 unfold rnT
 have e:n∈o.take (j+1)↔n∈o.take j:=by
  rw[jM hj]
  exact⟨fun h'=>h'.elim id (fun h'=>absurd h'.symm h),.inl⟩
 simp only[e]
theorem aPh{o:List Int}{n:Int}{j:Nat}(h:o.length<=j∨0<=n):rnT o n j=rn o n:=by
 unfold rnT rn
 rcases h with h|h
 ·rw[bE h]
 ·rw[if_neg (by omega),if_neg (by omega)]
theorem bOi{o:List Int}{n:Int}{j:Nat}(ho:o.length<=1048576)(h:-9223372036854775808<=n/\n<=9223372036854775807):-9223372036854775808<=rnT o n j/\rnT o n j<=9223372036854775807:=by
 unfold rnT
 split
 ·have:=List.idxOf_le_length (a:=n) (l:=o)
  omega
 ·exact h
theorem aR8{w0:World}{I:List Atom}{v vo:Value}{t o:List Int}[h:bK Int I v t][h1:bK Int I vo o](hl:t.length<=1048576)(hol:o.length<=1048576)(hn:o.Nodup):CJ prog 308 [vo,v] w0 I (fun q:Value=>q) (fun q=>.ow [q] (t.map (rn o))::I):=by
 refine cL (A:=fun q:Value=>[.ow [q] (t.map (rn o))]) (fun w1=>?_) (aE h (aE h1 fI)) fun _=>inferInstance
 simp only[aA,aB]
 refine aK func308 ntmps308 ?_
 repeat' (first|refine aU ?_|refine bG fun sv=>?_|fail)
 refine lp_ [5,6] [10,11,12,13,16,17,18,19,7,8,20,21,22,23,24,25,26,27,28,29,30,33,34,35,36,37,38,39,40,41,42,43,31,32,44,45,46,47,14,15] (Z:=Nat×Value) (fun k=>[k.2,.int .i64 k.1]) (fun k=>[.ow [k.2] ((t.take k.1).map (rn o))]) (fun k=>k.1<=t.length) (fun k=>t.length-k.1) (0,sv) [.ow [sv] ([]:List Int)] (aI _) ?_
 intro ⟨k,sw⟩ u l' hl' hk
 simp only[bM,List.map,List.set] at hl'
 subst hl'
 simp only[aA,aB] at hk ⊢
 repeat' (first|refine aU ?_|refine eF fun hbi=>?_|refine bP ?_|refine bV fun hc=>?_|refine bW fun hc=>?_|refine aS (fun hc=>?_) fun hc=>?_|fail)
 ·have hcb:-9223372036854775808<=t.getD k 0/\t.getD k 0<=9223372036854775807:=by assumption
  have hrb:=fun j=>bOi (j:=j) hol hcb
  have hlm:((t.take k).map (rn o)).length=k:=by rw[aY,aN];omega
  refine bD [7,8] [20,21,22,23,24,25,26,27,28,29,30,33,34,35,36,37,38,39,40,41,42,43,31,32] (Z:=Nat) (fun j=>[.int .i64 (rnT o (t.getD k 0) j),.int .i64 j]) (fun j=>[]) (fun j=>j<=o.length) (fun j=>o.length-j) 0 [] (by rw[aYz];kernel_rfl) (aI _) rfl ?_
  intro j u l' hl' hj
  simp only[bM,List.map,List.set] at hl'
  subst hl'
  simp only[aA,aB] at hj ⊢
  have hrj:=hrb j
  repeat' (first|refine aU ?_|refine eF fun hbi=>?_|refine bP ?_|refine bG fun sv=>?_|refine bV fun hc=>?_|refine bW fun hc=>?_|refine aS (fun hc=>?_) fun hc=>?_|refine wb 9 [] ?_|refine xf fun hbi=>?_|refine xp ?_|refine bI ?_|fail)
  ·exact dH (j+1) (by omega) (by omega) (by rw[bFt hn (by omega) hc ‹t.getD k 0<0›];kernel_rfl) aH
  ·exact dH (j+1) (by omega) (by omega) (by rw[aYr (by omega) hc];kernel_rfl) aH
  ·rw[aPh (.inr hc),← aIi (by omega)]
   exact eB (k+1,sv) (by simp only;omega)
  ·rw[aPh (.inl (by omega)),← aIi (by omega)]
   exact eB (k+1,sv) (by simp only;omega)
 ·rw[bE (by omega)]
  exact⟨_,rfl,aH⟩
instance bNo{I:List Atom}{v vo:Value}{t o:List Int}[h:bK Int I v t][h1:bK Int I vo o] :
  bQ prog 308 [vo,v] I ((t.length<=1048576)/\(o.length<=1048576)/\(o.Nodup)) (Value) (fun q:Value=>q) (fun q=>.ow [q] (t.map (rn o))::I):=⟨fun s w0=>aR8 s.1 s.2.1 s.2.2⟩
def aTj(x:aQ)(t:List Int)(k r:Nat):Nat:=if qV x t k r=true then 1 else 0
theorem aAw{x:aQ}{t:List Int}{k r:Nat}:0<aTj x t k r↔qV x t k r=true:=by
 unfold aTj
 split<;>simp [*]
def rH(x:aQ)(t:List Int)(k:Nat):Int:=gI (aTj x t k) 0 x.2.length
theorem yQ(f:Nat->Nat):∀ n k,-1<=gI f k n/\gI f k n<(k+n:Nat)
 | 0,k=>by simp only[gI];omega
 | n+1,k=>by
  have:=yQ f n (k+1)
  unfold gI
  split
  ·omega
  ·omega
theorem aVq{w0:World}{I:List Atom}{v0 v1 v:Value}{x:aQ}{t:List Int}{at_:Int}[h0:bK Int I v0 x.1][h1:bK cM I v1 x.2][h2:bK Int I v t](hs:eE x=true/\bB x.1 t=true/\0<=at_/\at_<t.length):CJ prog 199 [.agg #[v0,v1],v,.int .i64 at_] w0 I (fun _:Unit=>.int .i64 (rH x t at_.toNat)) (fun _=>I):=by
 refine jV (fun w1=>?_) (aE h0 (aE h1 (aE h2 fI)))
 obtain ⟨hs1,hs2,hs3,hs4⟩:=hs
 have hl1:=(eM.1 hs1).1.2
 have hT:=gL hs2 (k:=at_.toNat) (by omega)
 refine aK func199 ntmps199 ?_
 repeat' (first|refine aU ?_|refine aW fun r=>?_|refine bT fun b=>?_|fail)
 refine lc_ [8] [16,17,18,19,20,24,25,26,27,28,29,30,31,32,33,23,34,35,9,10,36,37,6,21,22] (Z:=Nat) (fun k=>[.int .i64 k]) (fun k=>k<=x.2.length/\rH x t at_.toNat=gI (aTj x t at_.toNat) k (x.2.length-k)) (fun k=>x.2.length-k) 0 ⟨aI _,rfl⟩ ?_
 intro k u l' hl' ⟨hk,hkk⟩
 simp only[bM,List.map,List.set] at hl'
 subst hl'
 by_cases hlt:k<x.2.length
 ·have hL:=nL hs1 hlt
  repeat' (first|refine aU ?_|refine bP ?_|refine bV fun hc=>?_|refine bW fun hc=>?_|refine aS (fun hc=>?_) fun hc=>?_|refine bT fun b=>?_|refine aW fun r=>?_|refine wb 5 [] ?_|refine xp ?_|(refine xd fun p c d e f g h hf=>?_;simp only[Un.cells,Un.atoms,Un.fact,aA,aB] at f g h hf;subst f g h)|refine xy ?_|refine x2 ?_ ?_|refine bI ?_|fail)
  all_goals first
   | (
     have hh:qV x t at_.toNat k=true:=hc
     exact⟨(),iG (by rw[hkk,aSu hlt (aAw.2 hh)]),aH⟩)
   | (
     have hh:qV x t at_.toNat k=false:=hc
     exact eB (k+1) ⟨by omega,by rw[hkk,aVh hlt (fun h=>by rw[aAw.1 h] at hh;cases hh)]⟩)
 ·repeat' (first|refine aU ?_|refine bV fun hc=>?_|refine bW fun hc=>?_|refine aS (fun hc=>?_) fun hc=>?_|fail)
  exact⟨(),iG (by rw[hkk,show x.2.length-k=0 by omega];rfl),aH⟩
def kG(x:aQ)(t:List Int)(s:Int):Prop:=eE x=true/\bB x.1 t=true/\1<=s/\s<=3
instance {x:aQ}{t:List Int}{s:Int}:Decidable (kG x t s):=by unfold kG;infer_instance
def aHq(x:aQ)(t:List Int)(s:Int):Bool:=decide (kG x t s)
instance {x:aQ}{t:List Int}{s:Int}:jB (aHq x t s) (kG x t s):=⟨decide_eq_true_iff⟩
instance {x:aQ}{t:List Int}{s:Int}:jQ (aHq x t s) (¬ kG x t s):=⟨decide_eq_false_iff_not⟩
instance bG0{I:List Atom}{v0 v1 v:Value}{x:aQ}{t:List Int}{s:Int}[h0:bK Int I v0 x.1][h1:bK cM I v1 x.2][h2:bK Int I v t] :
  bQ prog 146 [.agg #[v0,v1],v,.int .i64 s] I True Unit (fun _:Unit=>.bool (aHq x t s)) (fun _=>I):=⟨fun _ w0=>by
 refine aK func146 ntmps146 ?_
 repeat' (first|refine aU ?_|refine aW fun r=>?_|refine bT fun b=>?_|refine bV fun hc=>?_|refine bW fun hc=>?_|refine aS (fun hc=>?_) fun hc=>?_|fail)
 ·exact⟨(),bO (decide_eq_decide.2 ⟨fun h=>h.2.2,fun h=>⟨hc.1,hc.2,h⟩⟩),aH⟩
 ·exact⟨(),bO (decide_eq_false fun h=>hc ⟨h.1,h.2.1⟩),aH⟩⟩
def fP(x:aQ)(t:List Int)(s:Int):List Int:=if s=1 then iX x t else if s=2 then cD x t else (cD x t).drop ((cD x t).length-1)
theorem aIe{p:Nat->Bool}{l:List Int}{k:Nat}(h:p k=true):0<(kU p l (k+1)).length:=by
 rw[pY h];simp
theorem tZ{x:aQ}{t:List Int}(h:0<(cD x t).length):0<(iX x t).length:=by
 unfold iX
 obtain ⟨n,hn⟩:∃ n,(cD x t).length=n+1:=⟨(cD x t).length-1,by omega⟩
 rw[hn]
 exact aIe (decide_eq_true (.inl hn.symm))
theorem qB{p:Nat->Bool}{l:List Int}:∀ {n i:Nat},n<=l.length->i<(kU p l n).length->∃ j,j<l.length/\(kU p l n).getD i 0=l.getD j 0
 | 0,i,_,h=>by simp [kU] at h
 | n+1,i,hn,h=>by
  cases hp:p n with
  | false=>
   rw[aEu hp] at h ⊢
   exact qB (by omega) h
  | true=>
   rw[pY hp] at h ⊢
   rw[pE]
   rw[aD] at h
   simp only[aF,aL] at h
   split
   ·exact qB (by omega) (by assumption)
   ·exact⟨n,by omega,by rw[if_pos (by omega)]⟩
theorem aI4{x:aQ}{t:List Int}(h:¬ 0<(cD x t).length):iX x t=[]:=by
 unfold iX
 rw[show(cD x t).length=0 by omega];rfl
theorem aNg{x:aQ}{t:List Int}{s:Int}:0<(fP x t s).length↔0<(cD x t).length:=by
 unfold fP
 split
 ·constructor
  ·intro h
   by_cases h2:0<(cD x t).length
   ·exact h2
   ·rw[aI4 h2] at h;simp at h
  ·exact tZ
 ·split
  ·exact Iff.rfl
  ·rw[aR];omega
theorem aBt{x:aQ}{t:List Int}{s:Int}(h:0<(cD x t).length):0<=(fP x t s).getD 0 0/\(fP x t s).getD 0 0<t.length:=by
 have hg:∀ i,i<(cD x t).length->0<=(cD x t).getD i 0/\(cD x t).getD i 0<t.length:=fun i hi=>let h:=tG hi;⟨h.2.2.1,h.2.2.2.1⟩
 unfold fP
 split
 ·obtain ⟨j,hj,he⟩:=qB (p:=inI x.1 t (cD x t)) (aM (cD x t).length) (tZ h)
  unfold iX
  rw[he]
  exact hg j hj
 ·split
  ·exact hg 0 h
  ·have e:((cD x t).drop ((cD x t).length-1)).getD 0 0=(cD x t).getD ((cD x t).length-1) 0:=by
    simp only[aC,List.getElem?_drop,Nat.add_zero]
   rw[e]
   exact hg _ (by omega)
def gT(x:aQ)(t:List Int)(s:Int):Int×Int×Bool:=if kG x t s/\0<(cD x t).length then ((fP x t s).getD 0 0,rH x t ((fP x t s).getD 0 0).toNat,true) else (0,0,false)
theorem aSh{x:aQ}{t:List Int}{s:Int}(h:¬ kG x t s):gT x t s=(0,0,false):=if_neg (fun h'=>h h'.1)
theorem aJ9{x:aQ}{t:List Int}{s:Int}(h:¬ 0<(cD x t).length):gT x t s=(0,0,false):=if_neg (fun h'=>h h'.2)
theorem zX{x:aQ}{t:List Int}{s:Int}(h:kG x t s)(h':0<(cD x t).length):gT x t s=((fP x t s).getD 0 0,rH x t ((fP x t s).getD 0 0).toNat,true):=if_pos ⟨h,h'⟩
instance bBg{I:List Atom}{v0 v1 v:Value}{x:aQ}{t:List Int}{s:Int}[h0:bK Int I v0 x.1][h1:bK cM I v1 x.2][h2:bK Int I v t] :
  bQ prog 198 [.agg #[v0,v1],v,.int .i64 s] I (kG x t s) (Value) (fun q:Value=>q) (fun q=>.rd [q] (fP x t s)::I):=⟨fun hs w0=>by
 obtain ⟨hs1,hs2,hs3,hs4⟩:=hs
 have h60:=sY x t
 have hc3:s=1∨s=2∨s=3:=by omega
 rcases hc3 with rfl|rfl|rfl
 ·rw[show fP x t 1=iX x t from rfl]
  refine aK func198 ntmps198 ?_
  repeat' (first|refine aU ?_|refine aW fun r=>?_|refine bT fun b=>?_|refine bV fun hc=>?_|refine bW fun hc=>?_|refine aS (fun hc=>?_) fun hc=>?_|fail)
  exact⟨_,rfl,wW r aH⟩
 ·rw[show fP x t 2=cD x t from rfl]
  refine aK func198 ntmps198 ?_
  repeat' (first|refine aU ?_|refine aW fun r=>?_|refine bT fun b=>?_|refine bV fun hc=>?_|refine bW fun hc=>?_|refine aS (fun hc=>?_) fun hc=>?_|fail)
  exact⟨_,rfl,wW r aH⟩
 ·rw[show fP x t 3=(cD x t).drop ((cD x t).length-1) from rfl]
  refine aK func198 ntmps198 ?_
  repeat' (first|refine aU ?_|refine bP ?_|refine aW fun r=>?_|refine bT fun b=>?_|refine bV fun hc=>?_|refine bW fun hc=>?_|refine aS (fun hc=>?_) fun hc=>?_|fail)
  ·refine fU r ?_
   repeat' (first|refine aU ?_|refine bG fun sv=>?_|fail)
   exact⟨_,rfl,aH⟩
  ·rw[show(cD x t).length-1=0 by omega,List.drop_zero]
   exact⟨_,rfl,wW r aH⟩⟩
instance aUg{I:List Atom}{v0 v1 v:Value}{x:aQ}{t:List Int}{s:Int}[h0:bK Int I v0 x.1][h1:bK cM I v1 x.2][h2:bK Int I v t] :
  bQ prog 148 [.agg #[v0,v1],v,.int .i64 s] I True Unit (fun _:Unit=>.tuple #[.int .i64 (gT x t s).1,.int .i64 (gT x t s).2.1,.bool (gT x t s).2.2]) (fun _=>I):=⟨fun _ w0=>by
 refine jV (fun w1=>?_) (aE h0 (aE h1 (aE h2 fI)))
 have hpg:=aBt (x:=x) (t:=t) (s:=s)
 have hpp:=aNg (x:=x) (t:=t) (s:=s)
 refine aK func148 ntmps148 ?_
 repeat' (first|refine aU ?_|refine aW fun r=>?_|refine bT fun b=>?_|refine bV fun hc=>?_|refine bW fun hc=>?_|refine aS (fun hc=>?_) fun hc=>?_|fail)
 ·rw[aSh hc]
  exact⟨(),rfl,aH⟩
 ·rw[aJ9 (fun h=>by have:=hpp.2 h;omega)]
  exact⟨(),rfl,aH⟩
 have hst:kG x t s:=by assumption
 have hn:0<(cD x t).length:=hpp.1 (by omega)
 have hp2:=hpg hn
 have hra:eE x=true/\bB x.1 t=true/\0<=(fP x t s).getD 0 0/\(fP x t s).getD 0 0<t.length:=⟨hst.1,hst.2.1,hp2.1,hp2.2⟩
 haveI hX:∀ (Y:List Atom) [bK Int Y v0 x.1] [bK cM Y v1 x.2] [bK Int Y v t],bQ prog 199 [.agg #[v0,v1],v,.int .i64 ((fP x t s).getD 0 0)] Y True Unit (fun _=>.int .i64 (rH x t ((fP x t s).getD 0 0).toNat)) (fun _=>Y):=fun Y _ _ _=>⟨fun _ w0=>aVq hra⟩
 repeat' (first|refine aU ?_|refine aW fun r=>?_|refine wb 6 [] ?_|refine xf fun hbi=>?_|refine xp ?_|refine xy ?_|refine bI ?_|fail)
 all_goals
  rw[zX hst hn]
  exact⟨(),rfl,aH⟩⟩
def nK(m:Int)(ks:List Int)(n:Nat):Prop:=∃ i,i<n/\(ks.getD i 0<0∨m<=ks.getD i 0)
instance {m:Int}{ks:List Int}{n:Nat}:Decidable (nK m ks n):=decidable_of_iff (∃ i,∃ _:i<n,(ks.getD i 0<0∨m<=ks.getD i 0)) ⟨fun ⟨i,h,h'⟩=>⟨i,h,h'⟩,fun ⟨i,h,h'⟩=>⟨i,h,h'⟩⟩
theorem aJ7{m:Int}{ks:List Int}{n:Nat}(h:¬ nK m ks n)(h2:¬ (ks.getD n 0<0∨m<=ks.getD n 0)):¬ nK m ks (n+1):=by
 rintro ⟨i,hi,h'⟩
 by_cases he:i=n
 ·rw[he] at h';exact h2 h'
 ·exact h ⟨i,by omega,h'⟩
def rZ(ts:List (List Int))(n:Nat):Prop:=∃ i,i<n/\¬ (1<=(ts.getD i default).length/\(ts.getD i default).length<=60)
instance {ts:List (List Int)}{n:Nat}:Decidable (rZ ts n):=decidable_of_iff (∃ i,∃ _:i<n,¬ (1<=(ts.getD i default).length/\(ts.getD i default).length<=60)) ⟨fun ⟨i,h,h'⟩=>⟨i,h,h'⟩,fun ⟨i,h,h'⟩=>⟨i,h,h'⟩⟩
theorem aDy{ts:List (List Int)}{n:Nat}(h:¬ rZ ts n)(h2:1<=(ts.getD n default).length/\(ts.getD n default).length<=60):¬ rZ ts (n+1):=by
 rintro ⟨i,hi,h'⟩
 by_cases he:i=n
 ·rw[he] at h';exact h' h2
 ·exact h ⟨i,by omega,h'⟩
instance bF9{I Y:List Atom}{b:Nat}{k m:Int}[hb:eO I b [.int .i64 m] Y] :
  bQ prog 56 [.int .i64 k,.pointer (some ⟨b,0,none⟩)] I True Unit (fun _:Unit=>.bool (decide (k<0∨m<=k))) (fun _=>.bk b [.int .i64 m]::Y):=⟨fun _ w0=>by
 refine eN hb.perm ?_
 refine aK func56 ntmps56 ?_
 repeat' (first|refine aU ?_|refine bV fun hc=>?_|refine bW fun hc=>?_|refine aS (fun hc=>?_) fun hc=>?_|fail)
 ·exact⟨(),bO (decide_eq_true (.inl hc)),aH⟩
 ·exact⟨(),bO (decide_eq_decide.2 ⟨fun h=>by omega,fun h=>.inr h⟩),aH⟩⟩
instance aXc{I Y:List Atom}{b:Nat}{m:Int}{v:Value}{ks:List Int}[hb:eO I b [.int .i64 m] Y][h:bK Int Y v ks] :
  bQ prog 86 [v,.func (.func 56) #[] #[.pointer (some ⟨b,0,none⟩)]] I (True) ({ n:Int // 0<=n↔nK m ks ks.length }) (fun q:{ n:Int // 0<=n↔nK m ks ks.length }=>.int .i64 q.1) (fun _=>.bk b [.int .i64 m]::Y):=⟨fun _ w0=>by
 refine eN hb.perm ?_
 refine dQ v fun hlx=>?_
 refine aK func86 ntmps86 ?_
 repeat' (first|refine aU ?_|fail)
 refine lc_ [8] [9,10,5,11,12,13,14,15,16,17,4,18] (Z:=Nat) (fun k=>[.int .i64 k]) (fun k=>k<=ks.length/\¬ nK m ks k) (fun k=>ks.length-k) 0 ⟨aI _,fun ⟨i,hi,_⟩=>by omega⟩ ?_
 intro k u l' hl' ⟨hk,hkk⟩
 simp only[bM,List.map,List.set] at hl'
 subst hl'
 repeat' (first|refine aU ?_|refine eF fun hbi=>?_|refine bP ?_|refine aW fun r=>?_|refine bV fun hc=>?_|refine bW fun hc=>?_|refine aS (fun hc=>?_) fun hc=>?_|fail)
 ·exact⟨⟨(k:Int),⟨fun _=>⟨k,by omega,hc⟩,fun _=>by omega⟩⟩,rfl,aH⟩
 ·exact eB (k+1) ⟨by omega,aJ7 hkk hc⟩
 ·exact⟨⟨-1,⟨fun h=>by omega,fun h=>absurd (by rw[show ks.length=k by omega] at h;exact h) hkk⟩⟩,rfl,aH⟩⟩
instance aPu{I Y:List Atom}{b:Nat}{m:Int}{v:Value}{ks:List Int}[hb:eO I b [.int .i64 m] Y][h:bK Int Y v ks] :
  bQ prog 55 [v,.func (.func 56) #[] #[.pointer (some ⟨b,0,none⟩)]] I True Unit (fun _:Unit=>.bool (decide (nK m ks ks.length))) (fun _=>.bk b [.int .i64 m]::Y):=⟨fun _ w0=>by
 refine eN hb.perm ?_
 refine aK func55 ntmps55 ?_
 repeat' (first|refine aU ?_|refine aW fun r=>?_|fail)
 exact⟨(),bO (decide_eq_decide.2 r.2.symm),aH⟩⟩
def nJ(n:dK)(m:Int):Prop:=(0<=m/\1<=n.1/\n.1<=12)/\(n.2.1.length<=200/\n.2.2.1.length<=61/\n.2.2.2.length<=64)/\¬ rZ n.2.2.1 n.2.2.1.length/\¬ nK m n.2.2.2 n.2.2.2.length
instance {n:dK}{m:Int}:Decidable (nJ n m):=by unfold nJ;infer_instance
def jN(n:dK)(m:Int):Bool:=decide (nJ n m)
instance {n:dK}{m:Int}:jB (jN n m) (nJ n m):=⟨decide_eq_true_iff⟩
instance {n:dK}{m:Int}:jQ (jN n m) (¬ nJ n m):=⟨decide_eq_false_iff_not⟩
theorem pG{w0:World}{I:List Atom}{va vb vc:Value}{n:dK}{m:Int}[ha:bK Int I va n.2.1][hb:bK (List Int) I vb n.2.2.1][hc':bK Int I vc n.2.2.2]:CJ prog 25 [.agg #[.int .i64 n.1,va,vb,vc],.int .i64 m] w0 I (fun _:Unit=>.bool (jN n m)) (fun _=>I):=by
 refine jV (fun w1=>?_) (aE ha (aE hb (aE hc' fI)))
 refine dQ va fun hla=>?_
 refine dQ vb fun hlb=>?_
 refine dQ vc fun hlc=>?_
 refine aK func25 ntmps25 ?_
 repeat' (first|refine aU ?_|refine bT fun b=>?_|refine bV fun hc=>?_|refine bW fun hc=>?_|refine aS (fun hc=>?_) fun hc=>?_|fail)
 all_goals first
  | exact⟨(),bO (decide_eq_false fun h=>by have h1:=h.1;have h2:=h.2.1;omega),aH⟩
  | skip
 refine lc_ [40] [41,42,43,6,44,45,46,4,47] (Z:=Nat) (fun k=>[.int .i64 k]) (fun k=>k<=n.2.2.1.length/\¬ rZ n.2.2.1 k) (fun k=>n.2.2.1.length-k) 0 ⟨aI _,fun ⟨i,hi,_⟩=>by omega⟩ ?_
 intro k u l' hl' ⟨hk,hkk⟩
 simp only[bM,List.map,List.set] at hl'
 subst hl'
 repeat' (first|refine aU ?_|refine bP ?_|refine aW fun r=>?_|(refine iH fun p c d f g hf=>?_;simp only[Un.cells,Un.atoms,Un.fact,aA,aB] at f g hf;subst f g)|refine bV fun hc=>?_|refine bW fun hc=>?_|refine aS (fun hc=>?_) fun hc=>?_|fail)
 ·exact⟨(),bO (decide_eq_false fun h=>h.2.2.1 ⟨k,by omega,hc⟩),aH⟩
 ·exact eB (k+1) ⟨by omega,aDy hkk hc⟩
 ·have hkl:k=n.2.2.1.length:=by omega
  subst hkl
  refine⟨(),bO ?_,aH⟩
  unfold jN
  rw[← decide_not]
  exact decide_eq_decide.2 ⟨fun h=>h.2.2.2,fun h=>⟨by omega,by omega,hkk,h⟩⟩
instance aT5{I:List Atom}{va vb vc:Value}{n:dK}{m:Int}[ha:bK Int I va n.2.1][hb:bK (List Int) I vb n.2.2.1][hc':bK Int I vc n.2.2.2] :
  bQ prog 25 [.agg #[.int .i64 n.1,va,vb,vc],.int .i64 m] I True Unit (fun _:Unit=>.bool (jN n m)) (fun _=>I):=⟨fun s w0=>pG⟩
instance aUb{I:List Atom}{va vb vc:Value}{n:dK}{m:Int}[ha:bK Int I va n.2.1][hb:bK (List Int) I vb n.2.2.1][hc':bK Int I vc n.2.2.2] :
  bQ prog 45 [.agg #[.int .i64 n.1,va,vb,vc],.int .i64 m] I (m<=1048576) (Unit) (fun _:Unit=>.bool (jN n m)) (fun _=>I):=⟨fun hm w0=>by
 refine jV (fun w1=>?_) (aE ha (aE hb (aE hc' fI)))
 refine dQ va fun hla=>?_
 refine dQ vb fun hlb=>?_
 refine dQ vc fun hlc=>?_
 refine aK func45 ntmps45 ?_
 repeat' (first|refine aU ?_|refine aW fun r=>?_|refine bT fun b=>?_|refine bV fun hc=>?_|refine bW fun hc=>?_|refine aS (fun hc=>?_) fun hc=>?_|fail)
 all_goals first
  | exact⟨(),bO (decide_eq_false fun h=>by have h1:=h.1;have h2:=h.2.1;omega),aH⟩
  | skip
 refine lc_ [5] [33,34,35,36,37,40,41,42,43,44,45,46,4,38,39] (Z:=Nat) (fun k=>[.int .i64 k]) (fun k=>k<=n.2.2.1.length/\¬ rZ n.2.2.1 k) (fun k=>n.2.2.1.length-k) 0 ⟨aI _,fun ⟨i,hi,_⟩=>by omega⟩ ?_
 intro k u l' hl' ⟨hk,hkk⟩
 simp only[bM,List.map,List.set] at hl'
 subst hl'
 repeat' (first|refine aU ?_|refine bP ?_|refine aW fun r=>?_|(refine iH fun p c d f g hf=>?_;simp only[Un.cells,Un.atoms,Un.fact,aA,aB] at f g hf;subst f g)|refine bV fun hc=>?_|refine bW fun hc=>?_|refine aS (fun hc=>?_) fun hc=>?_|fail)
 ·exact⟨(),bO (decide_eq_false fun h=>h.2.2.1 ⟨k,by omega,hc⟩),aH⟩
 ·exact eB (k+1) ⟨by omega,aDy hkk hc⟩
 have hkl:k=n.2.2.1.length:=by omega
 subst hkl
 refine lc_ [6] [47,48,49,50,51,54,55,56,57,58,59,60,61,62,4,52,53] (Z:=Nat) (fun k=>[.int .i64 k]) (fun k=>k<=n.2.2.2.length/\¬ nK m n.2.2.2 k) (fun k=>n.2.2.2.length-k) 0 ⟨aI _,fun ⟨i,hi,_⟩=>by omega⟩ ?_
 intro k u l' hl' ⟨hk,hkk2⟩
 simp only[bM,List.map,List.set] at hl'
 subst hl'
 repeat' (first|refine aU ?_|refine eF fun hbi=>?_|refine bP ?_|refine aW fun r=>?_|refine bV fun hc=>?_|refine bW fun hc=>?_|refine aS (fun hc=>?_) fun hc=>?_|fail)
 ·exact⟨(),bO (decide_eq_false fun h=>h.2.2.2 ⟨k,by omega,by omega⟩),aH⟩
 ·exact eB (k+1) ⟨by omega,aJ7 hkk2 (by omega)⟩
 ·have hkl:k=n.2.2.2.length:=by omega
  subst hkl
  exact⟨(),bO (decide_eq_true ⟨by omega,by omega,hkk,hkk2⟩),aH⟩⟩
theorem bQm{ts:List (List Int)}{k:Nat}(h:k<ts.length):ts.getD k default∈ts:=by
 rw[aC,aG h];exact cS h
theorem bOx{ts:List (List Int)}{k:Nat}(h:k<ts.length):ts.take k++[ts.getD k default]=ts.take (k+1):=by
 rw[bC h,aC,aG h];rfl
theorem wS{w0:World}{I:List Atom}{v:Value}{ts:List (List Int)}[h:bK (List Int) I v ts](hl:ts.length<=1048576)(ht:∀ t∈ts,t.length<=1048576):CJ prog 202 [v] w0 I (fun q:Value=>q) (fun q=>.ow [q] ts::I):=by
 refine cL (A:=fun q:Value=>[.ow [q] ts]) (fun w1=>?_) (aE h fI) fun _=>inferInstance
 simp only[aA,aB]
 refine aK func202 ntmps202 ?_
 repeat' (first|refine aU ?_|refine bG fun sv=>?_|fail)
 refine lp_ [3,4] [6,7,8,9,12,13,14,15,16,17,18,19,10,11] (Z:=Nat×Value) (fun k=>[k.2,.int .i64 k.1]) (fun k=>[.ow [k.2] (ts.take k.1)]) (fun k=>k.1<=ts.length) (fun k=>ts.length-k.1) (0,sv) [.ow [sv] ([]:List (List Int))] (aI _) ?_
 intro ⟨k,sw⟩ u l' hl' hk
 simp only[bM,List.map,List.set] at hl'
 subst hl'
 simp only[aA,aB] at hk ⊢
 have hn2:=aN (i:=k) (l:=ts)
 have htk:=fun hh=>ht _ (bQm (ts:=ts) (k:=k) hh)
 repeat' (first|refine aU ?_|refine bP ?_|refine aW fun r=>?_|refine bG fun sv=>?_|(refine iH fun p c d f g hf=>?_;simp only[Un.cells,Un.atoms,Un.fact,aA,aB] at f g hf;subst f g)|refine bV fun hc=>?_|refine bW fun hc=>?_|refine aS (fun hc=>?_) fun hc=>?_|fail)
 ·rw[bOx (by omega)]
  exact eB (k+1,sv) (by simp only;omega)
 ·rw[bE (by omega)]
  exact⟨_,rfl,aH⟩
instance aUi{I:List Atom}{v:Value}{ts:List (List Int)}[h:bK (List Int) I v ts] :
  bQ prog 202 [v] I ((ts.length<=1048576)/\(∀ t∈ts,t.length<=1048576)) (Value) (fun q:Value=>q) (fun q=>.ow [q] ts::I):=⟨fun s w0=>wS s.1 s.2⟩
theorem bQi{ts:List dK}{k:Nat}(h:k<ts.length):ts.getD k default∈ts:=by
 rw[aC,aG h];exact cS h
theorem bOs{ts:List dK}{k:Nat}(h:k<ts.length):ts.take k++[ts.getD k default]=ts.take (k+1):=by
 rw[bC h,aC,aG h];rfl
def aK8(n:dK):Prop:=n.2.1.length<=1048576/\n.2.2.1.length<=1048576/\(∀ t∈n.2.2.1,t.length<=1048576)/\n.2.2.2.length<=1048576/\(∀ k∈n.2.2.2,-1048576<=k/\k<=1048576)
instance aU1{I:List Atom}{va vb vc:Value}{n:dK}[ha:bK Int I va n.2.1][hb:bK (List Int) I vb n.2.2.1][hc':bK Int I vc n.2.2.2] :
  bQ prog 154 [.agg #[.int .i64 n.1,va,vb,vc]] I (aK8 n) (Value×Value×Value) (fun p:Value×Value×Value=>.agg #[.int .i64 n.1,p.1,p.2.1,p.2.2]) (fun p=>.ow [p.1] n.2.1::.ow [p.2.1] n.2.2.1::.ow [p.2.2] n.2.2.2::I):=⟨fun hf w0=>by
 refine cL (A:=fun p:Value×Value×Value=>[.ow [p.1] n.2.1,.ow [p.2.1] n.2.2.1,.ow [p.2.2] n.2.2.2]) (fun w1=>?_) (aE ha (aE hb (aE hc' fI))) fun _=>inferInstance
 simp only[aA,aB]
 obtain ⟨hf1,hf2,hf3,hf4,hf5⟩:=hf
 refine aK func154 ntmps154 ?_
 repeat' (first|refine aU ?_|refine bT fun b=>?_|refine aW fun r=>?_|refine wb 1 [12] ?_|refine xp ?_|refine xy ?_|refine bI ?_|fail)
 all_goals exact⟨(_,_,_),rfl,aH⟩⟩
theorem aF8{w0:World}{I:List Atom}{v:Value}{ps:List dK}[ha:bK dK I v ps](hl:ps.length<=1048576)(hf:∀ n∈ps,aK8 n):CJ prog 111 [.agg #[v]] w0 I (fun q:Value=>.agg #[q]) (fun q=>.ow [q] ps::I):=by
 refine cL (A:=fun q:Value=>[.ow [q] ps]) (fun w1=>?_) (aE ha fI) fun _=>inferInstance
 simp only[aA,aB]
 refine aK func111 ntmps111 ?_
 repeat' (first|refine aU ?_|refine bT fun b=>?_|fail)
 refine lp_ [4] [6,7,8,9,10,13,14,15,16,17,18,19,20,21,22,23,11,12] (Z:=Nat×Value) (fun k=>[.int .i64 k.1]) (fun k=>[.bk b [k.2],.ow [k.2] (ps.take k.1)]) (fun k=>k.1<=ps.length) (fun k=>ps.length-k.1) (0,.slice none 0 0) [.bk b [.slice none 0 0],.ow [.slice none 0 0] ([]:List dK)] (aI _) ?_
 intro ⟨k,sw⟩ u l' hl' hk
 simp only[bM,List.map,List.set] at hl'
 subst hl'
 simp only[aA,aB] at hk ⊢
 have hn2:=aN (i:=k) (l:=ps)
 by_cases hlt:k<ps.length
 ·have hfk:=hf _ (bQi hlt)
  repeat' (first|refine aU ?_|refine bP ?_|refine bV fun hc=>?_|refine bW fun hc=>?_|refine aS (fun hc=>?_) fun hc=>?_|refine aW fun r=>?_|refine bG fun sv=>?_|refine wb 5 [9,11] ?_|refine xp ?_|refine x0 ?_|(refine xd fun p c d e f g h hf=>?_;simp only[Un.cells,Un.atoms,Un.fact,aA,aB] at f g h hf;subst f g h)|refine xy ?_|refine bI ?_|fail)
  all_goals
   rw[show ps.take k++[((ps.getD k default).1,(ps.getD k default).2.1,(ps.getD k default).2.2.1,(ps.getD k default).2.2.2)]=ps.take (k+1) from bOs hlt]
   exact eB (k+1,sv) (by simp only;omega)
 ·repeat' (first|refine aU ?_|refine bV fun hc=>?_|refine bW fun hc=>?_|refine aS (fun hc=>?_) fun hc=>?_|fail)
  rw[bE (by omega)]
  exact⟨_,rfl,aH⟩
instance bHz{I:List Atom}{v:Value}{ps:List dK}[ha:bK dK I v ps] :
  bQ prog 111 [.agg #[v]] I ((ps.length<=1048576)/\(∀ n∈ps,aK8 n)) (Value) (fun q:Value=>.agg #[q]) (fun q=>.ow [q] ps::I):=⟨fun s w0=>aF8 s.1 s.2⟩
def rG(ps:List dK)(n:Nat):Prop:=∀ i,i<n->nJ (ps.getD i default) i
instance {ps:List dK}{n:Nat}:Decidable (rG ps n):=by unfold rG;infer_instance
theorem aV1{ps:List dK}{n:Nat}(h:rG ps n)(h2:nJ (ps.getD n default) n):rG ps (n+1):=fun i hi=>by
 by_cases he:i=n
 ·rw[he];exact h2
 ·exact h i (by omega)
theorem aPc{n:dK}{m:Int}(h:nJ n m)(hm:m<=1048576):aK8 n:=by
 obtain ⟨h1,h2,h3,h4⟩:=h
 refine⟨by omega,by omega,fun t ht=>?_,by omega,fun k hk=>?_⟩
 ·obtain ⟨i,hi,rfl⟩:=cO ht
  have:¬ ¬ (1<=(n.2.2.1.getD i default).length/\(n.2.2.1.getD i default).length<=60):=fun h'=>h3 ⟨i,hi,h'⟩
  rw[aC,aG hi,aZ] at this
  omega
 ·obtain ⟨i,hi,rfl⟩:=cO hk
  have:¬ (n.2.2.2.getD i 0<0∨m<=n.2.2.2.getD i 0):=fun h'=>h4 ⟨i,hi,h'⟩
  rw[aC,aG hi,aZ] at this
  omega
theorem aWe{ps:List dK}(h:rG ps ps.length)(hl:ps.length<=1048576):∀ n∈ps,aK8 n:=by
 intro n hn
 obtain ⟨i,hi,rfl⟩:=cO hn
 have h1:=h i hi
 rw[aC,aG hi,aZ] at h1
 exact aPc h1 (by omega)
instance bCf{I:List Atom}{v:Value}{ps:List dK}[ha:bK dK I v ps] :
  bQ prog 127 [.agg #[v]] I (ps.length<=1048576) (Unit) (fun _:Unit=>.bool (decide (rG ps ps.length))) (fun _=>I):=⟨fun hl w0=>by
 refine jV (fun w1=>?_) (aE ha fI)
 refine aK func127 ntmps127 ?_
 repeat' (first|refine aU ?_|refine bT fun b=>?_|fail)
 refine lc_ [3] [4,5,6,7,8,11,12,13,14,15,16,17,18,2,9,10] (Z:=Nat) (fun k=>[.int .i64 k]) (fun k=>k<=ps.length/\rG ps k) (fun k=>ps.length-k) 0 ⟨aI _,fun i hi=>by omega⟩ ?_
 intro k u l' hl' ⟨hk,hkk⟩
 simp only[bM,List.map,List.set] at hl'
 subst hl'
 repeat' (first|refine aU ?_|refine bP ?_|refine aW fun r=>?_|(refine iH fun p c d f g hf=>?_;simp only[Un.cells,Un.atoms,Un.fact,aA,aB] at f g hf;subst f g)|refine bV fun hc=>?_|refine bW fun hc=>?_|refine aS (fun hc=>?_) fun hc=>?_|fail)
 ·exact⟨(),bO (decide_eq_false fun h=>hc (h k (by omega))),aH⟩
 ·exact eB (k+1) ⟨by omega,aV1 hkk hc⟩
 ·exact⟨(),bO (decide_eq_true (by rw[show ps.length=k by omega];exact hkk)),aH⟩⟩
def aXg(ps:List dK)(n:dK):Prop:=ps.length<64/\rG ps ps.length/\nJ n ps.length
instance {ps:List dK}{n:dK}:Decidable (aXg ps n):=by unfold aXg;infer_instance
def kC(ps:List dK)(n:dK):Option (List dK):=if aXg ps n then some (ps++[n]) else none
theorem aFk{ps:List dK}{n:dK}(h:¬ aXg ps n):kC ps n=none:=if_neg h
theorem bDu{ps:List dK}{n:dK}(h:aXg ps n):kC ps n=some (ps++[n]):=if_pos h
theorem mR{w0:World}{I:List Atom}{v va vb vc:Value}{ps:List dK}{n:dK}[h0:bK dK I v ps][ha:bK Int I va n.2.1][hb:bK (List Int) I vb n.2.2.1][hc':bK Int I vc n.2.2.2](hn1:-9223372036854775808<=n.1/\n.1<=9223372036854775807):CJ prog 107 [.agg #[v],.agg #[.int .i64 n.1,va,vb,vc]] w0 I (fun q:Value=>.tuple #[.agg #[q],.bool (kC ps n).isSome]) (fun q=>.ow [q] ((kC ps n).getD [])::I):=by
 refine cL (A:=fun q:Value=>[.ow [q] ((kC ps n).getD [])]) (fun w1=>?_) (aE h0 (aE ha (aE hb (aE hc' fI)))) fun _=>inferInstance
 simp only[aA,aB]
 refine dQ v fun hlv=>?_
 refine aK func107 ntmps107 ?_
 repeat' (first|refine aU ?_|refine aW fun r=>?_|refine bT fun b=>?_|refine bV fun hc=>?_|refine bW fun hc=>?_|refine aS (fun hc=>?_) fun hc=>?_|fail)
 all_goals first
  | (
    rw[aFk (fun h=>‹¬ rG ps ps.length› h.2.1)]
    simp only[cK,cC]
    exact⟨_,rfl,aH⟩)
  | (
    rw[aFk (fun h=>‹¬ nJ n ps.length› h.2.2)]
    simp only[cK,cC]
    exact⟨_,rfl,aH⟩)
  | (
    rw[aFk (fun h=>by have:=h.1;omega)]
    simp only[cK,cC]
    exact⟨_,rfl,aH⟩)
  | (
    rw[aFk (fun h=>‹¬ (rG ps ps.length/\1<=ps.length/\ps.length<=64)› ⟨h.2.1,by omega,by have:=h.1;omega⟩)]
    simp only[cK,cC]
    exact⟨_,rfl,aH⟩)
  | skip
 all_goals
  have hlt:ps.length<64:=by omega
  have hall:rG ps ps.length:=by
   first
    | assumption
    | exact(‹rG ps ps.length/\1<=ps.length/\ps.length<=64›).1
    | (intro i hi;omega)
  have hnp:nJ n ps.length:=by assumption
  have hfa:=aWe hall (by omega)
  have hfn:=aPc hnp (by omega)
  obtain ⟨g1,g2,g3,g4,g5⟩:=id hfn
  rw[bDu ⟨hlt,hall,hnp⟩]
  simp only[aZ,dL]
  repeat' (first|refine aU ?_|refine aW fun r=>?_|refine bT fun b=>?_|refine bG fun sv=>?_|refine wb 4 [5,7] ?_|refine xp ?_|refine x0 ?_|refine xy ?_|refine bI ?_|fail)
 all_goals
  rw[show ps++[(n.1,n.2.1,n.2.2.1,n.2.2.2)]=ps++[n] from rfl]
  exact⟨_,rfl,aH⟩
instance aMc{I:List Atom}{v va vb vc:Value}{ps:List dK}{n:dK}[h0:bK dK I v ps][ha:bK Int I va n.2.1][hb:bK (List Int) I vb n.2.2.1][hc':bK Int I vc n.2.2.2] :
  bQ prog 107 [.agg #[v],.agg #[.int .i64 n.1,va,vb,vc]] I (-9223372036854775808<=n.1/\n.1<=9223372036854775807) (Value) (fun q:Value=>.tuple #[.agg #[q],.bool (kC ps n).isSome]) (fun q=>.ow [q] ((kC ps n).getD [])::I):=⟨fun s w0=>mR s⟩
end Go.Proofs.YtajdgkpjbpindaaGreatDoor
