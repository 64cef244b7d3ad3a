/- Texts of the proof of FnNames. -/
import Derived.Test.YtajdgkpjbpindaaGreatDoorTao
set_option linter.unusedVariables false
set_option linter.unusedSimpArgs false
set_option linter.unusedSectionVars false
namespace Go.Proofs.YtajdgkpjbpindaaGreatDoor
open Go Go.Eng Tryz
def bOl(ts:List (List Int))(n:Int):List Int:=if n<0 then ts.getD (-1-n).toNat default else []
def fe(ts:List (List Int))(n:Int):List Int:=if n<0 then fX ts (-1-n).toNat else [n]
def kT(ts:List (List Int))(t:List Int)(k:Nat):List Int:=((t.take k).map (fe ts)).flatten
def iC(ts:List (List Int))(t:List Int):Option (List Int):=if (kT ts t t.length).length<=60 then some (kT ts t t.length) else none
theorem oB{ts:List (List Int)}{t:List Int}{k:Nat}(hk:k<t.length):kT ts t (k+1)=kT ts t k++fe ts (t.getD k 0):=by
 unfold kT
 rw[bC hk,cG,List.flatten_append,aC,aG hk]
 simp
theorem aTp{ts:List (List Int)}{t:List Int}{k:Nat}:(kT ts t k).length<=(kT ts t t.length).length:=by
 unfold kT
 rw[cZ]
 conv=>rhs;rw[← dF k t,cG,List.flatten_append,aD]
 omega
theorem aQo{ts:List (List Int)}{t:List Int}{k:Nat}(h:60<(kT ts t k).length):iC ts t=none:=by
 have:=aTp (ts:=ts) (t:=t) (k:=k)
 exact if_neg (by omega)
theorem aVw{ts:List (List Int)}{t:List Int}{k:Nat}(hk:k=t.length)(h:(kT ts t k).length<=60):iC ts t=some (kT ts t k):=by
 subst hk
 exact if_pos h
theorem aDj{w0:World}{I:List Atom}{v vt:Value}{ts:List (List Int)}{t:List Int}[h:bK (List Int) I v ts][h2:bK Int I vt t](hl:∀ x∈ts,x.length<=60)(htl:t.length<=60)(hv:∀ n∈t,-24<=n) :
  CJ prog 151 [.agg #[v],vt] w0 I (fun q:Value=>.tuple #[q,.bool (iC ts t).isSome]) (fun q=>.ow [q] ((iC ts t).getD [])::I):=by
 refine cL (A:=fun q:Value=>[.ow [q] ((iC ts t).getD [])]) (fun w1=>?_) (aE h (aE h2 fI)) fun _=>inferInstance
 simp only[aA,aB]
 refine aK func151 ntmps151 ?_
 repeat' (first|refine aU ?_|refine bG fun sv=>?_|refine bT fun b=>?_|fail)
 refine lp_ [6,7] [9,10,11,12,15,16,17,18,19,20,21,22,23,24,25,26,27,28,29,30,31,32,33,34,35,36,37,38,39,4,5,13,14] (Z:=Nat×Value) (fun k=>[k.2,.int .i64 k.1]) (fun k=>[.ow [k.2] (kT ts t k.1)]) (fun k=>k.1<=t.length/\(kT ts t k.1).length<=60) (fun k=>t.length-k.1) (0,sv) [.ow [sv] ([]:List Int)] ⟨aI _,by simp [kT]⟩ ?_
 intro ⟨k,sw⟩ u l' hl' ⟨hk,hkl⟩
 simp only[bM,List.map,List.set] at hl'
 subst hl'
 simp only[aA,aB] at hk hkl ⊢
 have hvk:k<t.length->-24<=t.getD k 0:=fun h=>hv _ (eD h)
 have hfl:=aE7 (ts:=ts) (i:=(-1-t.getD k 0).toNat) hl
 repeat' (first|refine aU ?_|refine eF fun hbi=>?_|refine bP ?_|refine bG fun sv=>?_|refine bV fun hc=>?_|refine bW fun hc=>?_|refine aS (fun hc=>?_) fun hc=>?_|refine aW fun r=>?_|refine wb 6 [8] ?_|refine xf fun hbi=>?_|refine xp ?_|refine x0 ?_|refine xy ?_|refine bI ?_|fail)
 ·have e:=oB (ts:=ts) (t:=t) (k:=k) (by omega)
  rw[show fe ts (t.getD k 0)=fX ts (-1-t.getD k 0).toNat from if_pos ‹_›] at e
  rw[← e] at hc
  rw[aQo (k:=k+1) (by omega)]
  simp only[cK,cC]
  exact⟨_,rfl,aH⟩
 ·have e:=oB (ts:=ts) (t:=t) (k:=k) (by omega)
  rw[show fe ts (t.getD k 0)=fX ts (-1-t.getD k 0).toNat from if_pos ‹_›] at e
  rw[← e] at hc ⊢
  exact eB (k+1,sv) ⟨by simp only;omega,by simp only;omega⟩
 ·have e:=oB (ts:=ts) (t:=t) (k:=k) (by omega)
  rw[show fe ts (t.getD k 0)=[t.getD k 0] from if_neg (by omega)] at e
  rw[← e] at hc
  rw[aQo (k:=k+1) (by omega)]
  simp only[cK,cC]
  exact⟨_,rfl,aH⟩
 ·have e:=oB (ts:=ts) (t:=t) (k:=k) (by omega)
  rw[show fe ts (t.getD k 0)=[t.getD k 0] from if_neg (by omega)] at e
  rw[← e] at hc ⊢
  exact eB (k+1,sv) ⟨by simp only;omega,by simp only;omega⟩
 ·rw[aVw (show k=t.length by omega) hkl]
  simp only[aZ,dL]
  exact⟨_,rfl,aH⟩
instance bBz{I:List Atom}{v vt:Value}{ts:List (List Int)}{t:List Int}[h:bK (List Int) I v ts][h2:bK Int I vt t] :
  bQ prog 151 [.agg #[v],vt] I ((∀ x∈ts,x.length<=60)/\(t.length<=60)/\(∀ n∈t,-24<=n)) (Value) (fun q:Value=>.tuple #[q,.bool (iC ts t).isSome]) (fun q=>.ow [q] ((iC ts t).getD [])::I):=⟨fun s w0=>aDj s.1 s.2.1 s.2.2⟩
def sQ(a t:List Int)(k:Nat)(u:List Int):List Int:=t.take k++u++t.drop (k+sz a t k)
def lN(a t:List Int)(k:Nat)(u:List Int):Option (List Int):=if (sQ a t k u).length<=60 then some (sQ a t k u) else none
theorem bJv{a t:List Int}{k:Nat}{u:List Int}(h:¬ (sQ a t k u).length<=60):lN a t k u=none:=if_neg h
theorem bE2{a t:List Int}{k:Nat}{u:List Int}(h:(sQ a t k u).length<=60):lN a t k u=some (sQ a t k u):=if_pos h
theorem aNb{w0:World}{I:List Atom}{va vt vu:Value}{a t u:List Int}{at_:Int}{m:Nat}[hm:fJ at_ m][h0:bK Int I va a][h1:bK Int I vt t][h2:bK Int I vu u](hs:bB a t=true/\0<=at_/\at_<t.length)(hu:u.length<=60) :
  CJ prog 153 [.agg #[va],vt,.int .i64 at_,vu] w0 I (fun q:Value=>.tuple #[q,.bool (lN a t m u).isSome]) (fun q=>.ow [q] ((lN a t m u).getD [])::I):=by
 obtain ⟨hs1,hs2,hs3⟩:=hs
 obtain rfl:at_=(m:Int):=by have:=hm.eq;omega
 have hsig:=eI hs1
 have htl:=aX hs1
 have he:=aKv hs1 (k:=m) (by omega)
 have hta:=(fN hs1 (k:=m) (by omega)).2
 have e:List.take ((m:Int)).toNat t++u++List.drop (jR a (dS a) t m).toNat t=sQ a t m u:=by
  rw[he]
  simp only[sQ,bH]
 refine cL (A:=fun q:Value=>[.ow [q] ((lN a t m u).getD [])]) (fun w1=>?_) (aE h0 (aE h1 (aE h2 fI))) fun _=>inferInstance
 simp only[aA,aB]
 refine aK func153 ntmps153 ?_
 repeat' (first|refine aU ?_|refine aW fun r=>?_|refine bG fun sv=>?_|refine bT fun b=>?_|refine bV fun hc=>?_|refine bW fun hc=>?_|refine aS (fun hc=>?_) fun hc=>?_|fail)
 all_goals first
  | (
    rw[e] at hc
    rw[bJv (by omega)]
    simp only[cK,cC]
    exact⟨_,rfl,aH⟩)
  | (
    rw[e] at hc ⊢
    rw[bE2 (by omega)]
    simp only[aZ,dL]
    exact⟨_,rfl,aH⟩)
  | fail
instance bNe{I:List Atom}{va vt vu:Value}{a t u:List Int}{at_:Int}{m:Nat}[hm:fJ at_ m][h0:bK Int I va a][h1:bK Int I vt t][h2:bK Int I vu u] :
  bQ prog 153 [.agg #[va],vt,.int .i64 at_,vu] I ((bB a t=true/\0<=at_/\at_<t.length)/\(u.length<=60)) (Value) (fun q:Value=>.tuple #[q,.bool (lN a t m u).isSome]) (fun q=>.ow [q] ((lN a t m u).getD [])::I):=⟨fun s w0=>aNb s.1 s.2⟩
def fQ(x:aQ)(t:List Int)(k r:Nat):Option (List Int):=
 match fD x.1 (x.2.getD r default).1 (eX x.1 t k) with
 | none=>none
 | some s=>match iC s (x.2.getD r default).2 with
  | none=>none
  | some u=>lN x.1 t k u
theorem aXz{a p t:List Int}(ht:bB a t=true):∀ x∈(fD a p t).getD [],x.length<=60:=by
 unfold fD
 cases hg:eU a p t (List.replicate 24 []) with
 | none=>simp
 | some ys=>
  obtain ⟨h1,h2⟩:=kY p t _ ys hg (aX ht).2 aNp
  simp only[Option.map_some,aZ]
  intro x hx
  rcases sL hx with h|h
  ·rw[h];simp
  ·exact h2 x h
theorem aPm(ts:List (List Int))(t:List Int):((iC ts t).getD []).length<=60:=by
 unfold iC
 split
 ·simpa
 ·simp
theorem aKr(a t:List Int)(k:Nat)(u:List Int):((lN a t k u).getD []).length<=60:=by
 unfold lN
 split
 ·simpa
 ·simp
theorem uZ{a t:List Int}(h:bB a t=true):∀ n∈t,-24<=n:=by
 rw[aAc] at h
 simp only[cN,decide_eq_true_eq] at h
 exact h.1.2
theorem bCh{x:aQ}{t:List Int}{k r:Nat}(h:(fD x.1 (x.2.getD r default).1 (eX x.1 t k)).isSome=false):fQ x t k r=none:=by
 unfold fQ
 cases hm:fD x.1 (x.2.getD r default).1 (eX x.1 t k) with
 | none=>rfl
 | some s=>rw[hm] at h;cases h
theorem aW3{x:aQ}{t:List Int}{k r:Nat}(h:(iC ((fD x.1 (x.2.getD r default).1 (eX x.1 t k)).getD []) (x.2.getD r default).2).isSome=false):fQ x t k r=none:=by
 unfold fQ
 cases hm:fD x.1 (x.2.getD r default).1 (eX x.1 t k) with
 | none=>rfl
 | some s=>
  rw[hm] at h
  simp only[aZ] at h
  cases hf:iC s (x.2.getD r default).2 with
  | none=>simp only[hf]
  | some u=>rw[hf] at h;cases h
theorem aYk{x:aQ}{t:List Int}{k r:Nat}(h:(fD x.1 (x.2.getD r default).1 (eX x.1 t k)).isSome=true)(h2:(iC ((fD x.1 (x.2.getD r default).1 (eX x.1 t k)).getD []) (x.2.getD r default).2).isSome=true) :
  fQ x t k r=lN x.1 t k ((iC ((fD x.1 (x.2.getD r default).1 (eX x.1 t k)).getD []) (x.2.getD r default).2).getD []):=by
 unfold fQ
 cases hm:fD x.1 (x.2.getD r default).1 (eX x.1 t k) with
 | none=>rw[hm] at h;cases h
 | some s=>
  rw[hm] at h2
  simp only[aZ] at h2 ⊢
  cases hf:iC s (x.2.getD r default).2 with
  | none=>rw[hf] at h2;cases h2
  | some u=>simp only[hf,aZ]
theorem yB{w0:World}{I:List Atom}{v0 v1 v:Value}{x:aQ}{t:List Int}{at_ rule:Int}[h0:bK Int I v0 x.1][h1:bK cM I v1 x.2][h2:bK Int I v t](hs:vE x t at_ rule):CJ prog 149 [.agg #[v0,v1],v,.int .i64 at_,.int .i64 rule] w0 I (fun q:Value=>.tuple #[q,.bool (fQ x t at_.toNat rule.toNat).isSome]) (fun q=>.ow [q] ((fQ x t at_.toNat rule.toNat).getD [])::I):=by
 obtain ⟨hs1,hs2,hs5,hs6⟩:=hs
 have hL:=nL hs1 (k:=rule.toNat) (by omega)
 have hR:=aSy hs1 (k:=rule.toNat) (by omega)
 have hT:=gL hs2.1 (k:=at_.toNat) (by omega)
 have hle:=aXz (p:=(x.2.getD rule.toNat default).1) hT
 have hfl:=aPm ((fD x.1 (x.2.getD rule.toNat default).1 (eX x.1 t at_.toNat)).getD []) (x.2.getD rule.toNat default).2
 have hRl:=(aX hR).2
 have hRm:=uZ hR
 have hs21:=hs2.1
 refine cL (A:=fun q:Value=>[.ow [q] ((fQ x t at_.toNat rule.toNat).getD [])]) (fun w1=>?_) (aE h0 (aE h1 (aE h2 fI))) fun _=>inferInstance
 simp only[aA,aB]
 refine aK func149 ntmps149 ?_
 repeat' (first|refine aU ?_|refine aW fun r=>?_|refine bG fun sv=>?_|refine bT fun b=>?_|(refine iH fun p c d f g hf=>?_;simp only[Un.cells,Un.atoms,Un.fact,aA,aB] at f g hf;subst f g)|refine bV fun hc=>?_|refine bW fun hc=>?_|refine aS (fun hc=>?_) fun hc=>?_|refine wb 2 [] ?_|refine xp ?_|refine xy ?_|refine x2 ?_ ?_|refine bI ?_|fail)
 all_goals first
  | (
    rw[bCh ‹(fD _ _ _).isSome=false›]
    simp only[cK,cC]
    exact⟨_,rfl,aH⟩)
  | (
    rw[aW3 ‹(iC _ _).isSome=false›]
    simp only[cK,cC]
    exact⟨_,rfl,aH⟩)
  | (
    rw[aYk ‹(fD _ _ _).isSome=true› ‹(iC _ _).isSome=true›]
    exact⟨_,rfl,aH⟩)
  | trace_state
instance bLa{I:List Atom}{v0 v1 v:Value}{x:aQ}{t:List Int}{at_ rule:Int}[h0:bK Int I v0 x.1][h1:bK cM I v1 x.2][h2:bK Int I v t] :
  bQ prog 149 [.agg #[v0,v1],v,.int .i64 at_,.int .i64 rule] I (vE x t at_ rule) (Value) (fun q:Value=>.tuple #[q,.bool (fQ x t at_.toNat rule.toNat).isSome]) (fun q=>.ow [q] ((fQ x t at_.toNat rule.toNat).getD [])::I):=⟨fun s w0=>yB s⟩
def iT(x:aQ)(t:List Int)(at_ rule:Int):Option (List Int):=if vE x t at_ rule then fQ x t at_.toNat rule.toNat else none
theorem sE{x:aQ}{t:List Int}{at_ rule:Int}(h:¬ vE x t at_ rule):iT x t at_ rule=none:=if_neg h
theorem aBg{x:aQ}{t:List Int}{at_ rule:Int}(h:vE x t at_ rule):iT x t at_ rule=fQ x t at_.toNat rule.toNat:=if_pos h
theorem pF{w0:World}{I:List Atom}{v0 v1 v:Value}{x:aQ}{t:List Int}{at_ rule:Int}[h0:bK Int I v0 x.1][h1:bK cM I v1 x.2][h2:bK Int I v t]:CJ prog 191 [.agg #[v0,v1],v,.int .i64 at_,.int .i64 rule] w0 I (fun q:Value=>.tuple #[q,.bool (iT x t at_ rule).isSome]) (fun q=>.ow [q] ((iT x t at_ rule).getD [])::I):=by
 refine cL (A:=fun q:Value=>[.ow [q] ((iT x t at_ rule).getD [])]) (fun w1=>?_) (aE h0 (aE h1 (aE h2 fI))) fun _=>inferInstance
 simp only[aA,aB]
 refine dQ v1 fun hlx=>?_
 refine aK func191 ntmps191 ?_
 repeat' (first|refine aU ?_|refine bP ?_|refine aW fun r=>?_|refine bG fun sv=>?_|refine bT fun b=>?_|refine bV fun hc=>?_|refine bW fun hc=>?_|refine aS (fun hc=>?_) fun hc=>?_|fail)
 ·rw[sE (fun h=>hc ⟨h.1,h.2.1.1⟩)]
  simp only[cK,cC]
  exact⟨_,rfl,aH⟩
 ·rw[sE (fun h=>hc h.2.1.2)]
  simp only[cK,cC]
  exact⟨_,rfl,aH⟩
 ·rw[sE (fun h=>hc ⟨h.2.2.1,by have:=h.2.2.2;omega⟩)]
  simp only[cK,cC]
  exact⟨_,rfl,aH⟩
 have hx:eE x=true/\bB x.1 t=true:=by assumption
 have hat:0<=at_/\at_<t.length:=by assumption
 have hred:vE x t at_ rule:=⟨hx.1,⟨hx.2,hat⟩,hc.1,by omega⟩
 repeat' (first|refine aU ?_|refine aW fun r=>?_|fail)
 rw[aBg hred]
 exact⟨_,rfl,aH⟩
instance aUe{I:List Atom}{v0 v1 v:Value}{x:aQ}{t:List Int}{at_ rule:Int}[h0:bK Int I v0 x.1][h1:bK cM I v1 x.2][h2:bK Int I v t] :
  bQ prog 191 [.agg #[v0,v1],v,.int .i64 at_,.int .i64 rule] I True Value (fun q:Value=>.tuple #[q,.bool (iT x t at_ rule).isSome]) (fun q=>.ow [q] ((iT x t at_ rule).getD [])::I):=⟨fun s w0=>pF⟩
theorem aD4(x:aQ)(t:List Int)(k r:Nat):((fQ x t k r).getD []).length<=60:=by
 unfold fQ
 split
 ·simp
 ·split
  ·simp
  ·exact aKr _ _ _ _
theorem aD6(x:aQ)(t:List Int)(at_ rule:Int):((iT x t at_ rule).getD []).length<=60:=by
 unfold iT
 split
 ·exact aD4 _ _ _ _
 ·simp
end Go.Proofs.YtajdgkpjbpindaaGreatDoor
namespace Go.Proofs.YtajdgkpjbpindaaGreatDoor
open Go Go.Eng
def sC(a t:List Int):Nat:=(ar a (t.getD 0 0)).toNat
def lR(a t:List Int):Nat->Nat
 | 0=>1
 | i+1=>lR a t i+sz a t (lR a t i)
theorem aB1{a t:List Int}(h:bB a t=true):∀ i,i<=sC a t->lR a t i<=t.length/\eQ a (dS a) (t.drop (lR a t i)) (sC a t-i)=(true,t.length-lR a t i)
 | 0,_=>by
  have hl:=aX h
  have hs:=(fE.1 h).2.2.2
  have hd:=fA (t:=t) (k:=0) (by omega)
  rw[List.drop_zero] at hd
  refine⟨hl.1,?_⟩
  show eQ a (dS a) (t.drop 1) (sC a t-0)=(true,t.length-1)
  rw[hd] at hs
  simp only[eQ,cR] at hs
  split at hs
  ·simp at hs
  ·have e1:=congrArg Prod.fst hs
   have e2:=congrArg Prod.snd hs
   simp only[aF] at e1 e2
   rw[aR] at e2
   have:eQ a (dS a) (t.drop 1) (sC a t)=(true,t.length-1):=Prod.ext e1 (by
    show(eQ a (dS a) (t.drop 1) (ar a (t.getD 0 0)).toNat).2=t.length-1
    omega)
   simpa using this
 | i+1,hi=>by
  obtain ⟨h1,h2⟩:=aB1 h i (by omega)
  rw[show sC a t-i=1+(sC a t-(i+1)) by omega,iL] at h2
  split at h2
  ·rename_i hone
   have e1:=congrArg Prod.fst h2
   have e2:=congrArg Prod.snd h2
   simp only[List.drop_drop] at e1 e2
   have hle:=wZ a (dS a) (t.drop (lR a t i)) 1
   rw[aR] at hle
   refine⟨by show lR a t i+(eQ a (dS a) (t.drop (lR a t i)) 1).2<=_;omega,?_⟩
   show eQ a (dS a) (t.drop (lR a t i+(eQ a (dS a) (t.drop (lR a t i)) 1).2)) _=(true,t.length-(lR a t i+(eQ a (dS a) (t.drop (lR a t i)) 1).2))
   exact Prod.ext e1 (by show(eQ _ _ _ _).2=t.length-_;omega)
  ·rename_i hone
   rw[h2] at hone
   exact absurd rfl hone
theorem aWv{a t:List Int}(h:bB a t=true){i:Nat}(hi:i<sC a t):lR a t i<t.length/\1<=lR a t i:=by
 have h1:=(aB1 h i (by omega)).2
 have h2:1<=(eQ a (dS a) (t.drop (lR a t i)) ((sC a t-i-1)+1)).2:=rU _ _ _ _ (by rw[show sC a t-i-1+1=sC a t-i by omega,h1])
 rw[show sC a t-i-1+1=sC a t-i by omega,h1] at h2
 simp only at h2
 refine⟨by omega,?_⟩
 have:∀ j,1<=lR a t j:=fun j=>by
  induction j with
  | zero=>exact aM _
  | succ j ih=>show 1<=lR a t j+_;omega
 exact this i
theorem aZb{a t:List Int}(h:bB a t=true):(ar a (t.getD 0 0):Int)=sC a t/\sC a t<=3:=by
 have hl:=aX h
 have hg:=dY h (k:=0) (by omega)
 have hb:=iK (eI h) hg.2
 unfold sC
 omega
end Go.Proofs.YtajdgkpjbpindaaGreatDoor
namespace Go.Proofs.YtajdgkpjbpindaaGreatDoor
open Go Go.Eng Tryz
instance bIy{I:List Atom}{v0 v:Value}{a t:List Int}{at_:Int}{k0:Nat}[hm:fJ at_ k0][h0:bK Int I v0 a][h2:bK Int I v t] :
  bQ prog 304 [.agg #[v0],v,.int .i64 at_] I (bB a t=true/\0<=at_/\at_<t.length) (Unit) (fun _:Unit=>.int .i64 (k0+sz a t k0:Nat)) (fun _=>I):=⟨fun hs w0=>by
 refine jV (fun w1=>?_) (aE h0 (aE h2 fI))
 obtain ⟨hs1,hs2,hs3⟩:=hs
 obtain rfl:at_=(k0:Int):=by have:=hm.eq;omega
 have hl:=aX hs1
 have hta:=fN hs1 (k:=k0) (by omega)
 refine aK func304 ntmps304 ?_
 repeat' (first|refine aU ?_|refine bT fun b=>?_|fail)
 refine lc_ [2,7] [8,9,10,11,12,13,14,15,16,17,18,19,20,21,22,23,24,25,26,27,28] (Z:=Nat×Nat) (fun k=>[.int .i64 k.1,.int .i64 k.2]) (fun k=>k0<=k.1/\k.1<=t.length/\k.2<=3*k.1+1/\(eQ a (dS a) (t.drop k.1) k.2).1=true/\k.1+(eQ a (dS a) (t.drop k.1) k.2).2=k0+sz a t k0) (fun k=>t.length-k.1+(if k.2=0 then 0 else 1)) (k0,1) ⟨aM _,by omega,by omega,hta.1,rfl⟩ ?_
 intro ⟨k,m⟩ u l' hl' ⟨hk0,hk,hm3,h1,h2⟩
 simp only[bM,List.map,List.set] at hl'
 subst hl'
 simp only at hk0 hk hm3 h1 h2 ⊢
 cases m with
 | zero=>
  simp only[eQ] at h2
  repeat' (first|refine aU ?_|refine bV fun hc=>?_|refine bW fun hc=>?_|refine aS (fun hc=>?_) fun hc=>?_|fail)
  exact⟨(),iG (by omega),aH⟩
 | succ m=>
  by_cases hlt:k<t.length
  ·have hg:=dY hs1 hlt
   have hb:=iK (eI hs1) hg.2
   rw[fA hlt] at h1 h2
   simp only[eQ] at h1 h2
   have hbad:dS a (t.getD k 0)=false:=by unfold dS;exact decide_eq_false (by omega)
   rw[if_neg (by rw[hbad];simp)] at h1 h2
   simp only at h1 h2
   by_cases hneg:0<=t.getD k 0
   ·have har:ar a (t.getD k 0)=a.getD (t.getD k 0).toNat 0:=by unfold ar;rw[if_neg (by omega)]
    repeat' (first|refine aU ?_|refine eF fun hbi=>?_|refine bP ?_|refine bV fun hc=>?_|refine bW fun hc=>?_|refine aS (fun hc=>?_) fun hc=>?_|refine wb 4 [] ?_|refine xf fun hbi=>?_|refine xp ?_|refine bI ?_|fail)
    rw[show((m+1:Nat):Int)+a.getD (t.getD k 0).toNat 0-1=((m+(ar a (t.getD k 0)).toNat:Nat):Int) by omega]
    exact eB (k+1,m+(ar a (t.getD k 0)).toNat) ⟨by simp only;omega,by simp only;omega,by simp only;omega,h1,by simp only;omega⟩ (by simp only[Nat.succ_ne_zero,if_false];split<;>omega)
   ·have har:ar a (t.getD k 0)=0:=by unfold ar;rw[if_pos (by omega)]
    rw[har] at h1 h2
    simp only[Int.toNat_zero,Nat.add_zero] at h1 h2
    repeat' (first|refine aU ?_|refine eF fun hbi=>?_|refine bP ?_|refine bV fun hc=>?_|refine bW fun hc=>?_|refine aS (fun hc=>?_) fun hc=>?_|fail)
    rw[show((m+1:Nat):Int)-1=(m:Int) by omega]
    exact eB (k+1,m) ⟨by simp only;omega,by simp only;omega,by simp only;omega,h1,by simp only;omega⟩ (by simp only[Nat.succ_ne_zero,if_false];split<;>omega)
  ·rw[cI (by omega)] at h1
   simp [eQ] at h1⟩
def kF(a t:List Int):Nat->List (Sh (List Int))
 | 0=>[]
 | i+1=>kF a t i++[⟨eX a t (lR a t i)⟩]
theorem jZ(a t:List Int):∀ i,(kF a t i).length=i
 | 0=>rfl
 | i+1=>by simp [kF,jZ a t i]
theorem qR(a t:List Int):∀ {n i:Nat},i<n->(kF a t n).getD i default=(⟨eX a t (lR a t i)⟩:Sh (List Int))
 | n+1,i,h=>by
  show(kF a t n++[(⟨eX a t (lR a t n)⟩:Sh (List Int))]).getD i default=_
  by_cases he:i<n
  ·rw[aC,dD (by rw[jZ];omega),← aC,qR a t he]
  ·rw[aC,cP (by rw[jZ];omega),jZ,show i-n=0 by omega,show n=i by omega];rfl
instance bD4{I:List Atom}{v0 v:Value}{a t:List Int}[h0:bK Int I v0 a][h2:eK Int I v t] :
  bQ prog 249 [.agg #[v0],v] I (bB a t=true/\0<=t.getD 0 0) (Value) (fun q:Value=>q) (fun q=>.ow [q] (kF a t (sC a t))::I):=⟨fun hs w0=>by
 obtain ⟨hs1,hs2⟩:=hs
 have hl:=aX hs1
 have hg:=dY hs1 (k:=0) (by omega)
 obtain ⟨hn1,hn2⟩:=aZb hs1
 have har:ar a (t.getD 0 0)=a.getD (t.getD 0 0).toNat 0:=by unfold ar;rw[if_neg (by omega)]
 refine aK func249 ntmps249 ?_
 repeat' (first|refine aU ?_|refine eF fun hbi=>?_|refine bP ?_|refine bG fun sv=>?_|refine bT fun b=>?_|refine bV fun hc=>?_|refine bW fun hc=>?_|refine aS (fun hc=>?_) fun hc=>?_|fail)
 refine aH1 (V:=List Int) (β:=Sh (List Int)) sv rfl ?_
 refine lp_ [5,6,7] [15,16,17,18,19,20,21,22,23,26,27,28,29,8,30,31,32,33,34,35,36,37,24,25] (Z:=Nat×Value) (fun k=>[k.2,.int .i64 (lR a t k.1),.int .i64 k.1]) (fun k=>[.ow [k.2] (kF a t k.1)]) (fun k=>k.1<=sC a t) (fun k=>sC a t-k.1) (0,sv) [.ow [sv] ([]:List (Sh (List Int)))] (aI _) ?_
 intro ⟨k,sw⟩ u l' hl' hk
 simp only[bM,List.map,List.set] at hl'
 subst hl'
 simp only[aA,aB] at hk ⊢
 have hpl:=jZ a t k
 have hlt:=fun h=>aWv hs1 (i:=k) h
 have hle:=(aB1 hs1 k hk).1
 have hsz:=fun h=>(fN hs1 (hlt h).1).2
 have e:(t.take (lR a t k+sz a t (lR a t k))).drop (lR a t k)=eX a t (lR a t k):=by
  unfold eX;rw[List.drop_take];congr 1;omega
 by_cases hkn:k<sC a t
 ·have hs3:=hsz hkn
  have hs4:=hlt hkn
  repeat' (first|refine aU ?_|refine bP ?_|refine aW fun r=>?_|refine bG fun sv=>?_|refine bV fun hc=>?_|refine bW fun hc=>?_|refine aS (fun hc=>?_) fun hc=>?_|refine wb 6 [] ?_|refine xf fun hbi=>?_|refine xp ?_|refine bI ?_|fail)
  simp only[bH,List.map_cons,List.map_nil]
  rw[e,show kF a t k++[Sh.mk (eX a t (lR a t k))]=kF a t (k+1) from rfl]
  exact eB (k+1,sv) (by simp only;omega)
 ·repeat' (first|refine aU ?_|refine bV fun hc=>?_|refine bW fun hc=>?_|refine aS (fun hc=>?_) fun hc=>?_|refine wb 6 [] ?_|refine xf fun hbi=>?_|refine xp ?_|refine bI ?_|fail)
  rw[show sC a t=k by omega]
  exact⟨_,rfl,aH⟩⟩
def bDg(s t:List Int)(i:Nat):List Int:=eX s t (lR s t i)
theorem aPr{a t:List Int}(h:bB a t=true){i:Nat}(hi:i<sC a t):bB a (bDg a t i)=true/\(bDg a t i).length<t.length:=by
 obtain ⟨h1,h2⟩:=aWv h hi
 refine⟨gL h h1,?_⟩
 unfold bDg
 rw[mD h h1]
 have:=(fN h h1).2.2
 omega
def rT(x:aQ)(t:List Int):List eW->Bool
 | []=>true
 | s::ss=>(iT x t s.1 s.2.1).isSome&&(decide ((iT x t s.1 s.2.1).getD []=s.2.2)&&rT x ((iT x t s.1 s.2.1).getD []) ss)
def lU(x:aQ)(y:gK):Bool:=eE x&&(bB x.1 y.1&&(decide (y.2.length<=60)&&rT x y.1 y.2))
theorem xY{ss:List eW}{k:Nat}(h:k<ss.length):ss.drop k=ss.getD k default::ss.drop (k+1):=by
 rw[aC,aG h]
 exact List.drop_eq_getElem_cons h
theorem aMt{x:aQ}{t:List Int}{s:eW}{ss:List eW}(h1:(iT x t s.1 s.2.1).isSome=true)(h2:(iT x t s.1 s.2.1).getD []=s.2.2):rT x t (s::ss)=rT x ((iT x t s.1 s.2.1).getD []) ss:=by
 conv=>lhs;unfold rT
 rw[h1,Bool.true_and,decide_eq_true h2,Bool.true_and]
instance aT8{I:List Atom}{v0 v1 v2 v3:Value}{x:aQ}{y:gK}[h0:bK Int I v0 x.1][h1:bK cM I v1 x.2][h2:bK Int I v2 y.1][h3:bK eW I v3 y.2] :
  bQ prog 259 [.agg #[v0,v1],.agg #[v2,v3]] I True Unit (fun _:Unit=>.bool (lU x y)) (fun _=>I):=⟨fun _ w0=>by
 unfold lU
 refine jV (fun w1=>?_) (aE h0 (aE h1 (aE h2 (aE h3 fI))))
 refine dQ v3 fun hlx=>?_
 refine aK func259 ntmps259 ?_
 repeat' (first|refine aU ?_|refine aW fun r=>?_|refine bT fun b=>?_|refine bV fun hc=>?_|refine bW fun hc=>?_|refine aS (fun hc=>?_) fun hc=>?_|fail)
 ·refine⟨(),bO ?_,aH⟩
  cases h8:eE x with
  | false=>rfl
  | true=>
   cases h9:bB x.1 y.1 with
   | false=>rfl
   | true=>exact absurd ⟨h8,h9⟩ hc
 ·exact⟨(),bO (by rw[decide_eq_false (by omega:¬ y.2.length<=60),Bool.false_and,Bool.and_false,Bool.and_false]),aH⟩
 have hT:eE x=true/\bB x.1 y.1=true:=by assumption
 refine aWx [v2] ?_
 refine lp_ [5,6] [22,23,24,25,26,30,31,32,33,34,35,36,37,38,39,40,41,42,43,44,29,45,46,7,8,47,48,49,50,51,52,53,54,55,56,57,58,59,4,60,27,28] (Z:=Nat×Value×List Int) (fun k=>[k.2.1,.int .i64 k.1]) (fun k=>[.rd [k.2.1] k.2.2]) (fun k=>k.1<=y.2.length/\rT x y.1 y.2=rT x k.2.2 (y.2.drop k.1)) (fun k=>y.2.length-k.1) (0,v2,y.1) [.rd [v2] y.1] ⟨aI _,rfl⟩ ?_
 intro ⟨k,tv,t⟩ u l' hl' ⟨hk,hkk⟩
 simp only[bM,List.map,List.set] at hl'
 subst hl'
 simp only[aA,aB] at hk hkk ⊢
 repeat' (first|refine aU ?_|refine bP ?_|refine aW fun r=>?_|refine bV fun hc=>?_|refine bW fun hc=>?_|refine aS (fun hc=>?_) fun hc=>?_|refine wb 7 [] ?_|refine xp ?_|(refine xd fun p c d e f g h hf=>?_;simp only[Un.cells,Un.atoms,Un.fact,aA,aB] at f g h hf;subst f g h)|refine xy ?_|refine bI ?_|fail)
 ·refine⟨(),bO ?_,aH⟩
  rw[hkk,xY (by omega)]
  simp only[rT,hc,Bool.false_and,Bool.and_false]
 ·refine⟨(),bO ?_,aH⟩
  rw[hkk,xY (by omega)]
  simp only[rT,decide_eq_false hc,Bool.false_and,Bool.and_false]
 ·rename Value=>rv
  refine aX0 rv ?_
  exact eB (k+1,rv,_) ⟨by simp only;omega,by rw[hkk,xY (by omega),aMt ‹(iT _ _ _ _).isSome=true› hc]⟩
 ·refine⟨(),bO ?_,aH⟩
  rw[hkk,cI (by omega),hT.1,hT.2,decide_eq_true (by omega:y.2.length<=60)]
  rfl⟩
set_option synthInstance.maxHeartbeats 400000
set_option synthInstance.maxSize 1000
set_option maxHeartbeats 1000000
def iQ(x:aQ)(t:List Int)(k:Nat):Nat->List eW
 | 0=>[]
 | r+1=>iQ x t k r++(match fQ x t k r with|none=>[]|some b=>[((k:Int),(r:Int),b)])
def gS(x:aQ)(t:List Int):Nat->List eW
 | 0=>[]
 | k+1=>gS x t k++iQ x t k x.2.length
def mU(x:aQ)(t:List Int):List eW:=if eE x=true/\bB x.1 t=true then gS x t t.length else []
theorem aR7{x:aQ}{t:List Int}{k r:Nat}(h:fQ x t k r=none):iQ x t k (r+1)=iQ x t k r:=by
 show iQ x t k r++_=_
 rw[h]
 exact cF _
theorem aMx{x:aQ}{t b:List Int}{k r:Nat}(h:fQ x t k r=some b):iQ x t k (r+1)=iQ x t k r++[((k:Int),(r:Int),b)]:=by
 rw[iQ,h]
theorem uG(x:aQ)(t:List Int)(k:Nat):∀ r,(iQ x t k r).length<=r
 | 0=>aM _
 | r+1=>by
  have:=uG x t k r
  rw[iQ,aD]
  split<;>simp<;>omega
theorem pX(x:aQ)(t:List Int)(n:Nat)(hn:x.2.length<=n):∀ k,(gS x t k).length<=k*n
 | 0=>by simp [gS]
 | k+1=>by
  have h1:=pX x t n hn k
  have h2:=uG x t k x.2.length
  rw[gS,aD,dE,Nat.one_mul]
  omega
theorem aB4{x:aQ}{t:List Int}{k:Nat}{s:eW}:∀ {r:Nat},s∈iQ x t k r->∃ j,j<r/\fQ x t k j=some s.2.2
 | r+1,h=>by
  rw[iQ] at h
  rcases aP.1 h with h|h
  ·obtain ⟨j,h1,h2⟩:=aB4 h
   exact⟨j,by omega,h2⟩
  ·split at h
   ·cases h
   ·rw[aO] at h
    subst h
    exact⟨r,by omega,by assumption⟩
theorem uJ{x:aQ}{t:List Int}{s:eW}:∀ {k:Nat},s∈gS x t k->∃ i j,i<k/\j<x.2.length/\fQ x t i j=some s.2.2
 | k+1,h=>by
  rw[gS] at h
  rcases aP.1 h with h|h
  ·obtain ⟨i,j,h1,h2⟩:=uJ h
   exact⟨i,j,by omega,h2⟩
  ·obtain ⟨j,h1,h2⟩:=aB4 h
   exact⟨k,j,by omega,h1,h2⟩
instance bGk{I:List Atom}{v0 v1 v:Value}{x:aQ}{t:List Int}[h0:bK Int I v0 x.1][h1:bK cM I v1 x.2][h2:bK Int I v t] :
  bQ prog 309 [.agg #[v0,v1],v] I (eE x=true/\bB x.1 t=true) (Value) (fun q:Value=>q) (fun q=>.ow [q] (gS x t t.length)::I):=⟨fun hs w0=>by
 refine cL (A:=fun q:Value=>[.ow [q] (gS x t t.length)]) (fun w1=>?_) (aE h0 (aE h1 (aE h2 fI))) fun _=>inferInstance
 simp only[aA,aB]
 obtain ⟨hs1,hs2⟩:=hs
 have hl1:=(eM.1 hs1).1.2
 have hl:=aX hs2
 refine aK func309 ntmps309 ?_
 repeat' (first|refine aU ?_|refine bG fun sv=>?_|refine bT fun b=>?_|fail)
 refine lp_ [5,6] [11,12,13,14,7,17,18,19,20,21,25,26,27,28,29,24,30,31,8,9,32,33,34,35,36,37,38,39,22,23,15,16] (Z:=Value×Nat) (fun k=>[k.1,.int .i64 k.2]) (fun k=>[.ow [k.1] (gS x t k.2)]) (fun k=>k.2<=t.length) (fun k=>t.length-k.2) (sv,0) [.ow [sv] ([]:List eW)] (aI _) ?_
 intro ⟨sk,k⟩ u l' hl' hk
 simp only[bM,List.map,List.set] at hl'
 subst hl'
 simp only[aA,aB] at hk ⊢
 have hkl:=pX x t 12 hl1 k
 by_cases hkt:k<t.length
 ·repeat' (first|refine aU ?_|refine bV fun hc=>?_|refine bW fun hc=>?_|refine aS (fun hc=>?_) fun hc=>?_|fail)
  refine bD [5,7] [17,18,19,20,21,25,26,27,28,29,24,30,31,8,9,32,33,34,35,36,37,38,39,22,23] (Z:=Value×Nat) (fun r=>[r.1,.int .i64 r.2]) (fun r=>[.ow [r.1] (gS x t k++iQ x t k r.2)]) (fun r=>r.2<=x.2.length) (fun r=>x.2.length-r.2) (sk,0) [.ow [sk] (gS x t k)] (by kernel_rfl) (aI _) (by simp [iQ]) ?_
  intro ⟨sr,j⟩ u2 l2 hl2 hj
  simp only[bM,List.map,List.set] at hl2
  subst hl2
  simp only[aA,aB] at hj ⊢
  have hrl:=uG x t k j
  have hL:(gS x t k++iQ x t k j).length<=1000:=by rw[aD];omega
  by_cases hrt:j<x.2.length
  ·have hP:vE x t k j:=⟨hs1,⟨hs2,by omega,by omega⟩,by omega,by omega⟩
   have hn:fQ x t k j=none->gS x t k++iQ x t k j=gS x t k++iQ x t k (j+1):=fun h=>by rw[aR7 h]
   have hy:(fQ x t k j).isSome=true->gS x t k++iQ x t k j++[((k:Int),(j:Int),(fQ x t k j).getD [])]=gS x t k++iQ x t k (j+1):=fun h=>by
    cases hst:fQ x t k j with
    | none=>rw[hst] at h;cases h
    | some b=>rw[aMx hst,aT];rfl
   generalize hXe:gS x t k++iQ x t k j=X at *
   repeat' (first|refine aU ?_|refine bP ?_|refine aW fun r=>?_|refine bG fun sv=>?_|refine bV fun hc=>?_|refine bW fun hc=>?_|refine aS (fun hc=>?_) fun hc=>?_|fail)
   ·simp only[bH] at hc ⊢
    rw[hy hc]
    exact eB (sv,j+1) (by simp only;omega)
   ·simp only[bH] at hc ⊢
    rw[hn (by simpa using hc)]
    exact eB (sr,j+1) (by simp only;omega)
  ·obtain rfl:j=x.2.length:=by omega
   repeat' (first|refine aU ?_|refine bP ?_|refine bV fun hc=>?_|refine bW fun hc=>?_|refine aS (fun hc=>?_) fun hc=>?_|fail)
   rw[show gS x t k++iQ x t k x.2.length=gS x t (k+1) from rfl]
   exact eB (sr,k+1) (by simp only;omega)
 ·obtain rfl:k=t.length:=by omega
  repeat' (first|refine aU ?_|refine bV fun hc=>?_|refine bW fun hc=>?_|refine aS (fun hc=>?_) fun hc=>?_|fail)
  exact⟨_,rfl,aH⟩⟩
instance aM0{I:List Atom}{v0 v1 v:Value}{x:aQ}{t:List Int}[h0:bK Int I v0 x.1][h1:bK cM I v1 x.2][h2:bK Int I v t] :
  bQ prog 263 [.agg #[v0,v1],v] I True Value (fun q:Value=>q) (fun q=>.ow [q] (mU x t)::I):=⟨fun _ w0=>by
 refine aK func263 ntmps263 ?_
 repeat' (first|refine aU ?_|refine aW fun r=>?_|refine bG fun sv=>?_|refine bT fun b=>?_|refine bV fun hc=>?_|refine bW fun hc=>?_|refine aS (fun hc=>?_) fun hc=>?_|fail)
 ·rw[show mU x t=[] from if_neg hc]
  exact⟨_,rfl,aH⟩
 ·rw[show mU x t=gS x t t.length from if_pos hc]
  exact⟨_,rfl,aH⟩⟩
end Go.Proofs.YtajdgkpjbpindaaGreatDoor
namespace Go.Proofs.YtajdgkpjbpindaaGreatDoor
open Go Go.Eng
theorem aZu(b:List (List Int))(n:Int):fe (eH b) n=bF b n:=by
 unfold fe bF
 by_cases hn:n<0
 ·rw[if_pos hn,aJf,uL]
  by_cases hb:b.getD (-1-n).toNat []=[]
  ·rw[if_pos hb,if_neg (fun h=>h.2 hb)]
   congr 1
   omega
  ·rw[if_neg hb,if_pos ⟨hn,hb⟩]
 ·rw[if_neg hn,if_neg (fun h=>hn h.1)]
theorem aIz{x:aQ}{t b:List Int}{k r:Nat}(hs:eE x=true)(ht:bB x.1 t=true)(hk:k<t.length)(hr:r<x.2.length)(h:fQ x t k r=some b) :
  ∃ σ,Sb x.1 σ/\fm σ (x.2.getD r default).1=eX x.1 t k/\b=sQ x.1 t k (fm σ (x.2.getD r default).2)/\b.length<=60/\Tm x.1 (fm σ (x.2.getD r default).2):=by
 have hrule:=of_decide_eq_true ((eM.1 hs).2 _ (dX hr))
 unfold fQ at h
 cases hm:fD x.1 (x.2.getD r default).1 (eX x.1 t k) with
 | none=>rw[hm] at h;cases h
 | some ts=>
  rw[hm] at h
  obtain ⟨b',hb1,hb2,hb3,_⟩:=aMn hrule.1.1 (gL ht hk) hm
  have hsb:=bKe hb1
  simp only at h
  have hfl:∀ u,iC ts (x.2.getD r default).2=some u->u=fm (bF b') (x.2.getD r default).2:=by
   intro u hu
   unfold iC at hu
   split at hu
   ·injection hu with hu
    rw[← hu]
    unfold kT fm
    rw[cZ,hb2,funext (aZu b')]
   ·cases hu
  cases hf:iC ts (x.2.getD r default).2 with
  | none=>rw[hf] at h;cases h
  | some u=>
   rw[hf] at h
   simp only at h
   rw[hfl u hf] at h
   unfold lN at h
   split at h
   ·injection h with h
    exact⟨bF b',hsb,hb3,h.symm,by rw[← h];assumption,hsb.fm (yT hrule.1.2.1)⟩
   ·cases h
def Tms(a:List Int)(ks:List (List Int)):Prop:=∀ k∈ks,Tm a k
theorem aYt{a l r:List Int}{m:Nat}(h:Tm a l):eQ a (dS a) (l++r) (m+1)=((eQ a (dS a) r m).1,l.length+(eQ a (dS a) r m).2):=by
 have h1:eQ a (dS a) (l++r) 1=(true,l.length):=by rw[pZ a (dS a) r l 1 (by rw[h]),h]
 rw[Nat.add_comm m 1,iL,h1]
 simp
theorem aWf{a:List Int}:∀ {ks:List (List Int)},Tms a ks->Fo a ks.flatten ks.length
 | [],_=>rfl
 | k::ks,h=>by
  have ih:=aWf (ks:=ks) fun x hx=>h x (List.mem_cons_of_mem _ hx)
  unfold Fo at ih ⊢
  rw[List.flatten_cons,aF,aYt (h k (List.mem_cons_self)),ih,aD]
theorem aEq{a:List Int}:∀ (m:Nat) (l:List Int),Fo a l m->∃ ks,ks.length=m/\Tms a ks/\l=ks.flatten
 | 0,l,h=>by
  unfold Fo at h
  simp only[eQ] at h
  have:l=[]:=by
   have:=congrArg Prod.snd h
   simp only at this
   exact dG this.symm
  exact⟨[],rfl,(fun k hk=>by cases hk),by rw[this];rfl⟩
 | m+1,l,h=>by
  obtain ⟨h1,h2⟩:=aIo h
  obtain ⟨ks,e1,e2,e3⟩:=aEq m _ h2
  refine⟨l.take (eQ a (dS a) l 1).2::ks,(by rw[aF,e1]),fun k hk=>?_,?_⟩
  ·rcases cH.1 hk with rfl|hk
   ·exact h1
   ·exact e2 k hk
  ·rw[List.flatten_cons,← e3,dF]
theorem bEe{a:List Int}{f:Int}{l:List Int}(h:Tm a (f::l)):dS a f=false/\∃ ks,ks.length=(ar a f).toNat/\Tms a ks/\l=ks.flatten:=by
 obtain ⟨m',e,hb,hf⟩:=vP (h:Fo a (f::l) 1)
 obtain rfl:m'=0:=by omega
 rw[cR] at hf
 exact⟨hb,aEq _ _ hf⟩
theorem tO{a:List Int}{f:Int}{ks:List (List Int)}(hb:dS a f=false)(hl:ks.length=(ar a f).toNat)(h:Tms a ks):Tm a (f::ks.flatten):=by
 have hf:=aWf h
 unfold Fo at hf
 unfold Tm
 simp only[eQ,cR]
 rw[if_neg (by rw[hb];decide),← hl,hf]
 rfl
theorem bK2{a:List Int}{f:Int}{pre post s:List Int}{k:Nat}(hs:Tm a s)(hk:k<s.length):sz a (f::(pre++(s++post))) (1+pre.length+k)=sz a s k/\eX a (f::(pre++(s++post))) (1+pre.length+k)=eX a s k:=by
 have hd:(f::(pre++(s++post))).drop (1+pre.length+k)=s.drop k++post:=by
  rw[show 1+pre.length+k=(pre.length+k)+1 by omega,List.drop_succ_cons,List.drop_append,cI (by omega),aB,show pre.length+k-pre.length=k by omega,List.drop_append_of_le_length (by omega)]
 obtain ⟨m,h1,h2⟩:=zR a (dS a) s 1 k (by rw[hs]) (by rw[hs];exact hk)
 obtain ⟨h5,h6⟩:=vF _ _ _ m h1
 have hz:sz a (f::(pre++(s++post))) (1+pre.length+k)=sz a s k:=by
  unfold sz
  rw[hd,pZ a (dS a) post _ 1 h5]
 refine⟨hz,?_⟩
 unfold eX
 rw[hz,hd]
 have:=wZ a (dS a) (s.drop k) 1
 exact List.take_append_of_le_length this
theorem aY1:∀ {ks:List (List Int)} {k:Nat},k<ks.flatten.length->∃ (i:Nat) (hi:i<ks.length) (j:Nat),j<ks[i].length/\k=(ks.take i).flatten.length+j
 | [],k,h=>by cases h
 | s::ks,k,h=>by
  rw[List.flatten_cons,aD] at h
  by_cases hk:k<s.length
  ·exact⟨0,by simp,k,by simpa using hk,by simp⟩
  ·obtain ⟨i,hi,j,h1,h2⟩:=aY1 (ks:=ks) (k:=k-s.length) (by omega)
   exact⟨i+1,by simpa using hi,j,by simpa using h1,by rw[List.take_succ_cons,List.flatten_cons,aD];omega⟩
theorem aZ6{a:List Int}{f:Int}{pre post s u:List Int}{k:Nat}(hs:Tm a s)(hk:k<s.length):sQ a (f::(pre++(s++post))) (1+pre.length+k) u=f::(pre++(sQ a s k u++post)):=by
 have hz:=(bK2 (f:=f) (pre:=pre) (post:=post) hs hk).1
 obtain ⟨m,h1,h2⟩:=zR a (dS a) s 1 k (by rw[hs]) (by rw[hs];exact hk)
 obtain ⟨h5,h6⟩:=vF _ _ _ m h1
 have hle:=wZ a (dS a) (s.drop k) 1
 rw[aR] at hle
 have hle2:k+sz a s k<=s.length:=by unfold sz;omega
 unfold sQ
 rw[hz,show 1+pre.length+k=(pre.length+k)+1 by omega,show pre.length+k+1+sz a s k=(pre.length+(k+sz a s k))+1 by omega,List.take_succ_cons,List.drop_succ_cons,List.take_append,bE (by omega),List.drop_append,cI (l:=pre) (by omega),aB,show pre.length+k-pre.length=k by omega,show pre.length+(k+sz a s k)-pre.length=k+sz a s k by omega,List.take_append_of_le_length (by omega),List.drop_append_of_le_length (by omega)]
 simp only[aT,aA]
theorem aRt{a s u:List Int}(hs:Tm a s):sQ a s 0 u=u:=by
 unfold sQ sz
 rw[List.drop_zero,hs,List.take_zero,cR,List.drop_length,cF,aB]
theorem aNz{a u:List Int}(hu:Tm a u):∀ (n:Nat) (t:List Int) (k:Nat),t.length<=n->Tm a t->k<t.length->Tm a (sQ a t k u)
 | 0,t,k,hn,ht,hk=>by omega
 | n+1,[],k,hn,ht,hk=>by cases hk
 | n+1,f::l,0,hn,ht,hk=>by rw[aRt ht];exact hu
 | n+1,f::l,k+1,hn,ht,hk=>by
  obtain ⟨hb,ks,e1,e2,e3⟩:=bEe ht
  rw[aF] at hk hn
  obtain ⟨i,hi,j,h1,h2⟩:=aY1 (ks:=ks) (k:=k) (by rw[← e3];omega)
  have hki:Tm a ks[i]:=e2 _ (cS hi)
  have e:l=(ks.take i).flatten++(ks[i]++(ks.drop (i+1)).flatten):=by
   rw[← List.flatten_cons,← List.drop_eq_getElem_cons hi,← List.flatten_append,dF,e3]
  have hlen:ks[i].length<=n:=by
   have:=congrArg List.length e
   simp only[aD] at this
   omega
  have ih:=aNz hu n ks[i] j hlen hki h1
  rw[e,show k+1=1+(ks.take i).flatten.length+j by omega,aZ6 hki h1]
  have e':(ks.take i).flatten++(sQ a ks[i] j u++(ks.drop (i+1)).flatten)=(ks.set i (sQ a ks[i] j u)).flatten:=by
   rw[List.set_eq_take_append_cons_drop,if_pos hi,List.flatten_append,List.flatten_cons]
  rw[e']
  refine tO hb (by rw[aV,e1]) fun x hx=>?_
  rcases List.mem_or_eq_of_mem_set hx with hx|rfl
  ·exact e2 x hx
  ·exact ih
end Go.Proofs.YtajdgkpjbpindaaGreatDoor
namespace Go.Proofs.YtajdgkpjbpindaaGreatDoor
open Go Go.Eng Tryz
theorem aA2{ts:List (List Int)}{i:Nat}(hl:∀ t∈ts,t.length<=1048576):1<=(fX ts i).length/\(fX ts i).length<=1048576:=by
 unfold fX
 split
 ·rename_i h
  exact⟨h.2,hl _ (rM h.1)⟩
 ·simp
theorem aJl{w0:World}{I:List Atom}{v:Value}{ts:List (List Int)}{i:Int}{m:Nat}[hm:fJ i m][h:bK (List Int) I v ts](hi:0<=i/\i<=1048576)(hl:∀ t∈ts,t.length<=1048576) :
  CJ prog 196 [.agg #[v],.int .i64 i] w0 I (fun p:Value=>p) (fun p=>.ow [p] (fX ts m)::I):=by
 refine cL (A:=fun p=>[.ow [p] (fX ts m)]) (fun w1=>?_) (aE h fI) fun _=>inferInstance
 simp only[aA,aB]
 obtain rfl:i=(m:Int):=by have:=hm.eq;omega
 refine dQ v fun hlx=>?_
 have hle:m<ts.length->(ts.getD m default).length<=1048576:=fun h=>hl _ (rM h)
 refine aK func196 ntmps196 ?_
 repeat' (first|refine aU ?_|refine bP ?_|refine aW fun r=>?_|refine bG fun sv=>?_|refine bT fun b=>?_|(refine iH fun p c d f g hf=>?_;simp only[Un.cells,Un.atoms,Un.fact,aA,aB] at f g hf;subst f g)|refine bV fun hc=>?_|refine bW fun hc=>?_|refine aS (fun hc=>?_) fun hc=>?_|fail)
 ·rw[show fX ts m=ts.getD m default from if_pos (by omega)]
  exact⟨_,rfl,aH⟩
 ·rw[show fX ts m=[-1-(m:Int)] from if_neg (by omega)]
  exact⟨_,rfl,aH⟩
 ·rw[show fX ts m=[-1-(m:Int)] from if_neg (by omega)]
  exact⟨_,rfl,aH⟩
theorem aZc{w0:World}{I:List Atom}{v:Value}{ts:List (List Int)}[h:bK (List Int) I v ts](hn:ts.length<=48)(hl:∀ t∈ts,t.length<=1048576) :
  CJ prog 195 [.agg #[v]] w0 I (fun p:Value=>.agg #[p]) (fun p=>.ow [p] (eH ts)::I):=by
 refine cL (A:=fun p=>[.ow [p] (eH ts)]) (fun w1=>?_) (aE h fI) fun _=>inferInstance
 simp only[aA,aB]
 haveI hX:∀ (Y:List Atom) (v:Value) (ts:List (List Int)) (i:Int) (m:Nat) [fJ i m] [bK (List Int) Y v ts],bQ prog 196 [.agg #[v],.int .i64 i] Y ((0<=i/\i<=1048576)/\(∀ t∈ts,t.length<=1048576)) Value (fun p=>p) (fun p=>.ow [p] (fX ts m)::Y):=fun Y _ _ _ _ _ _=>⟨fun s w0=>aJl s.1 s.2⟩
 refine aK func195 ntmps195 ?_
 repeat' (first|refine aU ?_|refine bT fun b=>?_|fail)
 refine lp_ [4] [7,8,9,10,11,14,15,16,5,17,18,19,20,21,22,23,24,25,26,27,28,29,30,31,32,33,34,12,13] (Z:=Nat×Value) (fun k=>[.int .i64 k.1]) (fun k=>[.bk b [k.2],.ow [k.2] (eT 0 (ts.take k.1))]) (fun k=>k.1<=ts.length) (fun k=>ts.length-k.1) (0,.slice none 0 0) [.bk b [.slice none 0 0],.ow [.slice none 0 0] ([]:List (List Int))] (aI _) ?_
 intro ⟨k,sw⟩ u l' hl' hk
 simp only[bM,List.map,List.set] at hl'
 subst hl'
 simp only[aA,aB] at hk ⊢
 have hg:=aA2 (ts:=ts) (i:=k) hl
 have htl:=sA 0 (ts.take k)
 have htk:=aN (i:=k) (l:=ts)
 repeat' (first|refine aU ?_|refine eF fun hbi=>?_|refine bP ?_|refine aW fun r=>?_|refine bG fun sv=>?_|refine bV fun hc=>?_|refine bW fun hc=>?_|refine aS (fun hc=>?_) fun hc=>?_|fail)
 ·have e:eT 0 (ts.take k)++[[]]=eT 0 (ts.take (k+1)):=by
   rw[lT (mM (by omega)),lW (by omega),if_pos ⟨by omega,hc⟩]
  rw[e]
  exact eB (k+1,sv) (by simp only;omega)
 ·have e:eT 0 (ts.take k)++[fX ts k]=eT 0 (ts.take (k+1)):=by
   rw[lT (mM (by omega)),lW (by omega),if_neg (fun h=>hc h.2)]
  rw[e]
  exact eB (k+1,sv) (by simp only;omega)
 ·have e:eT 0 (ts.take k)++[fX ts k]=eT 0 (ts.take (k+1)):=by
   rw[lT (mM (by omega)),lW (by omega),if_neg (fun h=>by omega)]
  rw[e]
  exact eB (k+1,sv) (by simp only;omega)
 rw[bE (by omega)] at htl ⊢
 refine bD [] [35,36,37,38,39,40,41,42,43,44,45,46,47,48,49,50,51,52,53,54,55,56,57,58] (Z:=Nat×Value) (fun _=>[]) (fun j=>[.bk b [j.2],.ow [j.2] ((eT 0 ts).take j.1)]) (fun j=>j.1<=ts.length/\gE ((eT 0 ts).take j.1)=gE (eT 0 ts)) (fun j=>j.1) (ts.length,sw) [.bk b [sw],.ow [sw] (eT 0 ts)] (by kernel_rfl) ⟨aM _,by rw[bE (by omega)]⟩ (by simp only;rw[bE (by omega)]) ?_
 intro ⟨j,sx⟩ u l' hl' ⟨hj,hst⟩
 simp only[bM,List.map,List.set] at hl'
 subst hl'
 simp only[aA,aB] at hj hst ⊢
 have hjl:((eT 0 ts).take j).length=j:=by rw[aN];omega
 have hlast:0<j->((eT 0 ts).take j).getD (j-1) default=(eT 0 ts).getD (j-1) []:=fun h=>by
  rw[aC,aC,cU,if_pos (by omega)];rfl
 have htake:((eT 0 ts).take j).take (j-1)=(eT 0 ts).take (j-1):=by rw[List.take_take];congr 1;omega
 have hs1:0<j->(eT 0 ts).getD (j-1) []=[]->gE ((eT 0 ts).take (j-1))=gE (eT 0 ts):=fun h h'=>by
  rw[← hst,← qF (by omega) h',show j-1+1=j by omega]
 have hs2:0<j->(eT 0 ts).getD (j-1) []≠[]->gE (eT 0 ts)=(eT 0 ts).take j:=fun h h'=>by
  have:=qJ (j:=j-1) (by omega) h'
  rw[show j-1+1=j by omega,hst] at this
  exact this
 repeat' (first|refine aU ?_|refine bP ?_|refine bNh fun qa qc=>?_|refine bG fun sv=>?_|refine bV fun hc=>?_|refine bW fun hc=>?_|refine aS (fun hc=>?_) fun hc=>?_|fail)
 ·rw[hjl,hlast (by omega)] at hc
  have h1:=hs1 (by omega) (dG (by omega))
  rw[hjl,htake]
  exact eB (j-1,sv) ⟨by simp only;omega,h1⟩
 ·rw[hjl,hlast (by omega)] at hc
  have h1:=hs2 (by omega) (fun h=>hc (by rw[h];rfl))
  unfold eH
  rw[h1]
  exact⟨_,rfl,aH⟩
 ·have h1:(eT 0 ts).take j=eH ts:=by
   unfold eH
   have hz:j=0:=by omega
   rw[← hst,hz];rfl
  rw[h1]
  exact⟨_,rfl,aH⟩
theorem aOo{t:List Int}:∀ {xs:List (List Int)},t∈xs->t.length<=nA.size xs
 | x::xs,h=>by
  rw[iE]
  simp only[nR,aF]
  rcases cH.1 h with h|h
  ·subst h;rw[lE];omega
  ·have:=aOo h
   rw[iE] at this
   omega
def aVg(ts:List (List Int))(n:Nat):Prop:=∃ i,i<n/\60<(ts.getD i default).length
instance {ts:List (List Int)}{n:Nat}:Decidable (aVg ts n):=decidable_of_iff (∃ i,∃ _:i<n,60<(ts.getD i default).length) ⟨fun ⟨i,h,h'⟩=>⟨i,h,h'⟩,fun ⟨i,h,h'⟩=>⟨i,h,h'⟩⟩
def aLe(x:qH):Prop:=(x.1.2.length<=60/\1<=x.1.1.length/\x.1.1.length<=60)/\x.2.2.length<=24/\¬ aVg x.2.2 x.2.2.length
instance {x:qH}:Decidable (aLe x):=by unfold aLe;infer_instance
def vC(p:List (List Int)):Nat->List (List Int)
 | 0=>[]
 | k+1=>vC p k++[fX p k]
theorem aFa(p:List (List Int)):∀ k,(vC p k).length=k
 | 0=>rfl
 | k+1=>by simp [vC,aFa p k]
def kI(x:qH):dK:=if aLe x then (6,x.2.1::kB x.1.2,x.1.1::vC (eH x.2.2) (eH x.2.2).length,[]) else (0,[],[],[])
theorem aHs{x:qH}(h:¬ aLe x):kI x=(0,[],[],[]):=if_neg h
theorem aX8{x:qH}(h:aLe x):kI x=(6,x.2.1::kB x.1.2,x.1.1::vC (eH x.2.2) (eH x.2.2).length,[]):=if_pos h
theorem aX5{ts:List (List Int)}{t:List Int}(h:t∈ts)(h':60<t.length):aVg ts ts.length:=by
 obtain ⟨i,hi,rfl⟩:=cO h
 exact⟨i,hi,by rw[aC,aG hi];exact h'⟩
theorem aU4{ts:List (List Int)}{m:Nat}(h:∀ t∈ts,t.length<=m):∀ t∈eH ts,t.length<=m:=by
 intro t ht
 rcases sL ht with h'|h'
 ·rw[h'];exact aI _
 ·exact h t h'
theorem aMy(l:List (List Int))(i:Nat):(gE l).getD i []=l.getD i []:=by
 have hp:=aD9 l
 conv=>rhs;rw[← hp]
 simp only[aC,List.getElem?_append]
 split
 ·rfl
 ·rw[dA (by omega)]
  cases h:(List.replicate (l.length-(gE l).length) ([]:List Int))[i-(gE l).length]? with
  | none=>rfl
  | some y=>
   have:=List.mem_of_getElem? h
   rw[(List.mem_replicate.1 this).2];rfl
theorem aB7:∀ (ts:List (List Int)) (j i:Nat),i<ts.length->(eT j ts).getD i []=zF (j+i) (ts.getD i [])
 | t::ts,j,0,_=>rfl
 | t::ts,j,i+1,h=>by
  have:=aB7 ts (j+1) i (by simpa using h)
  rw[show j+(i+1)=j+1+i by omega]
  exact this
theorem aMj{ts:List (List Int)}(h:aVg ts ts.length):∃ i,i<(eH ts).length/\60<(fX (eH ts) i).length:=by
 obtain ⟨i,hi,hl⟩:=h
 have e:(eH ts).getD i []=ts.getD i []:=by
  unfold eH
  rw[aMy,aB7 ts 0 i hi]
  unfold zF
  rw[if_neg]
  rintro (h|h)
  ·rw[show ts.getD i default=[] from h] at hl;simp at hl
  ·rw[show ts.getD i default=_ from h] at hl;simp at hl
 have hlt:i<(eH ts).length:=by
  by_cases hlt:i<(eH ts).length
  ·exact hlt
  ·rw[aC,dA (by omega)] at e
   rw[show ts.getD i default=[] from e.symm] at hl;simp at hl
 refine⟨i,hlt,?_⟩
 unfold fX
 have hl2:60<((eH ts).getD i default).length:=by rw[show(eH ts).getD i default=ts.getD i default from e];exact hl
 rw[if_pos ⟨hlt,by omega⟩]
 exact hl2
theorem aLx{ts:List (List Int)}{i:Nat}(h:60<(fX (eH ts) i).length):aVg ts ts.length:=by
 unfold fX at h
 split at h
 ·rename_i h1
  rcases sL (rM h1.1) with h'|h'
  ·rw[h'] at h;simp at h
  ·exact aX5 h' h
 ·simp at h
set_option maxHeartbeats 8000000 in
theorem tU{w0:World}{I:List Atom}{x:qH}{v0 v1 v2:Value}[h:bK Int I v0 x.1.1][h':bK eW I v1 x.1.2][h2:bK (List Int) I v2 x.2.2](hat:-9223372036854775808<=x.2.1/\x.2.1<=9223372036854775807)(hsz:nA.size x.2.2<=1048576) :
  CJ prog 145 [.agg #[v0,v1,.int .i64 x.2.1,v2]] w0 I (fun p:Value×Value×Value=>.agg #[.int .i64 (kI x).1,p.1,p.2.1,p.2.2]) (fun p=>.ow [p.1] (kI x).2.1::.ow [p.2.1] (kI x).2.2.1::.ow [p.2.2] (kI x).2.2.2::I):=by
 refine cL (A:=fun p:Value×Value×Value=>[.ow [p.1] (kI x).2.1,.ow [p.2.1] (kI x).2.2.1,.ow [p.2.2] (kI x).2.2.2]) (fun w1=>?_) (aE h (aE h' (aE h2 fI))) fun _=>inferInstance
 simp only[aA,aB]
 refine dQ v1 fun hlx=>?_
 refine dQ v2 fun hly=>?_
 have hnx:=lZ x.1.2
 have hbig:∀ t∈x.2.2,t.length<=1048576:=fun t ht=>Nat.le_trans (aOo ht) hsz
 have hpb:=aU4 hbig
 have hpl:=aD8 x.2.2
 haveI hX:∀ (Y:List Atom) (v:Value) (ts:List (List Int)) (i:Int) (m:Nat) [fJ i m] [bK (List Int) Y v ts],bQ prog 196 [.agg #[v],.int .i64 i] Y ((0<=i/\i<=1048576)/\(∀ t∈ts,t.length<=1048576)) Value (fun p=>p) (fun p=>.ow [p] (fX ts m)::Y):=fun Y _ _ _ _ _ _=>⟨fun s w0=>aJl s.1 s.2⟩
 haveI hY:∀ (Y:List Atom) (v:Value) (ts:List (List Int)) [bK (List Int) Y v ts],bQ prog 195 [.agg #[v]] Y (ts.length<=48/\(∀ t∈ts,t.length<=1048576)) Value (fun p=>.agg #[p]) (fun p=>.ow [p] (eH ts)::Y):=fun Y _ _ _=>⟨fun s w0=>aZc s.1 s.2⟩
 refine aK func145 ntmps145 ?_
 repeat' (first|refine aU ?_|refine aW fun r=>?_|refine bT fun b=>?_|refine bV fun hc=>?_|refine bW fun hc=>?_|refine aS (fun hc=>?_) fun hc=>?_|((refine wb1 3 [] ?_<;>refine bY 0 ?_<;>refine bY 1 ?_<;>refine bY 3 ?_<;>refine bY 4 ?_<;>refine bY 7 ?_<;>refine bY 8 ?_<;>refine bY 9 ?_<;>(refine vQ 2 5 13 ?_ ?_ ?_;rotate_right;(focus ((repeat' (first|refine aU ?_|refine bT fun b=>?_))<;>(refine fH 2 5 ?_ ?_;rotate_right;(focus ((repeat' (first|refine aU ?_|refine aW fun r=>?_))<;>(refine bX 2 ?_<;>(repeat' (first|refine aU ?_|refine bG fun sv=>?_)))<;>(refine bX 6 ?_<;>(repeat' (first|refine aU ?_|refine bG fun sv=>?_)))<;>(refine bX 10 ?_<;>(repeat' (first|refine aU ?_|refine aW fun r=>?_)))<;>(refine bX 11 ?_<;>(repeat' (first|refine aU ?_|refine bG fun sv=>?_)))<;>(refine bX 12 ?_<;>(repeat' refine aU ?_))<;>(refine bX 14 ?_<;>(repeat' refine aU ?_))));rotate_right;(focus ((repeat' (first|refine aU ?_|refine bG fun sv=>?_))<;>(refine bX 5 ?_<;>(repeat' (first|refine aU ?_|refine aW fun r=>?_)))<;>(refine bX 6 ?_<;>(repeat' (first|refine aU ?_|refine bG fun sv=>?_)))<;>(refine bX 10 ?_<;>(repeat' (first|refine aU ?_|refine aW fun r=>?_)))<;>(refine bX 11 ?_<;>(repeat' (first|refine aU ?_|refine bG fun sv=>?_)))<;>(refine bX 12 ?_<;>(repeat' refine aU ?_))<;>(refine bX 14 ?_<;>(repeat' refine aU ?_)))))));rotate_right;(focus ((repeat' (first|refine aU ?_|refine aW fun r=>?_))<;>(refine fH 2 13 ?_ ?_;rotate_right;(focus ((repeat' (first|refine aU ?_|refine bT fun b=>?_))<;>(refine bX 2 ?_<;>(repeat' (first|refine aU ?_|refine bG fun sv=>?_)))<;>(refine bX 6 ?_<;>(repeat' (first|refine aU ?_|refine bG fun sv=>?_)))<;>(refine bX 10 ?_<;>(repeat' (first|refine aU ?_|refine aW fun r=>?_)))<;>(refine bX 11 ?_<;>(repeat' (first|refine aU ?_|refine bG fun sv=>?_)))<;>(refine bX 12 ?_<;>(repeat' refine aU ?_))<;>(refine bX 14 ?_<;>(repeat' refine aU ?_))));rotate_right;(focus ((repeat' (first|refine aU ?_|refine bG fun sv=>?_))<;>(refine fH 6 13 ?_ ?_;rotate_right;(focus ((repeat' (first|refine aU ?_|refine bT fun b=>?_))<;>(refine bX 6 ?_<;>(repeat' (first|refine aU ?_|refine bG fun sv=>?_)))<;>(refine bX 10 ?_<;>(repeat' (first|refine aU ?_|refine aW fun r=>?_)))<;>(refine bX 11 ?_<;>(repeat' (first|refine aU ?_|refine bG fun sv=>?_)))<;>(refine bX 12 ?_<;>(repeat' refine aU ?_))<;>(refine bX 14 ?_<;>(repeat' refine aU ?_))));rotate_right;(focus ((repeat' (first|refine aU ?_|refine bG fun sv=>?_))<;>(refine fH 10 13 ?_ ?_;rotate_right;(focus ((repeat' (first|refine aU ?_|refine bT fun b=>?_))<;>(refine bX 10 ?_<;>(repeat' (first|refine aU ?_|refine aW fun r=>?_)))<;>(refine bX 11 ?_<;>(repeat' (first|refine aU ?_|refine bG fun sv=>?_)))<;>(refine bX 12 ?_<;>(repeat' refine aU ?_))<;>(refine bX 14 ?_<;>(repeat' refine aU ?_))));rotate_right;(focus ((repeat' (first|refine aU ?_|refine aW fun r=>?_))<;>(refine fH 11 13 ?_ ?_;rotate_right;(focus ((repeat' (first|refine aU ?_|refine bT fun b=>?_))<;>(refine bX 11 ?_<;>(repeat' (first|refine aU ?_|refine bG fun sv=>?_)))<;>(refine bX 12 ?_<;>(repeat' refine aU ?_))<;>(refine bX 14 ?_<;>(repeat' refine aU ?_))));rotate_right;(focus ((repeat' (first|refine aU ?_|refine bG fun sv=>?_))<;>(refine fH 12 13 ?_ ?_;rotate_right;(focus ((repeat' (first|refine aU ?_|refine bT fun b=>?_))<;>(refine bX 12 ?_<;>(repeat' refine aU ?_))<;>(refine bX 14 ?_<;>(repeat' refine aU ?_))));rotate_right;(focus ((repeat' refine aU ?_)<;>(refine bX 13 ?_<;>(repeat' (first|refine aU ?_|refine bT fun b=>?_)))<;>(refine bX 14 ?_<;>(repeat' refine aU ?_)))))))))))))))))));rotate_right;(focus ((repeat' (first|refine aU ?_|refine bG fun sv=>?_))<;>(refine fH 5 13 ?_ ?_;rotate_right;(focus ((repeat' (first|refine aU ?_|refine bT fun b=>?_))<;>(refine bX 5 ?_<;>(repeat' (first|refine aU ?_|refine aW fun r=>?_)))<;>(refine bX 6 ?_<;>(repeat' (first|refine aU ?_|refine bG fun sv=>?_)))<;>(refine bX 10 ?_<;>(repeat' (first|refine aU ?_|refine aW fun r=>?_)))<;>(refine bX 11 ?_<;>(repeat' (first|refine aU ?_|refine bG fun sv=>?_)))<;>(refine bX 12 ?_<;>(repeat' refine aU ?_))<;>(refine bX 14 ?_<;>(repeat' refine aU ?_))));rotate_right;(focus ((repeat' (first|refine aU ?_|refine aW fun r=>?_))<;>(refine fH 6 13 ?_ ?_;rotate_right;(focus ((repeat' (first|refine aU ?_|refine bT fun b=>?_))<;>(refine bX 6 ?_<;>(repeat' (first|refine aU ?_|refine bG fun sv=>?_)))<;>(refine bX 10 ?_<;>(repeat' (first|refine aU ?_|refine aW fun r=>?_)))<;>(refine bX 11 ?_<;>(repeat' (first|refine aU ?_|refine bG fun sv=>?_)))<;>(refine bX 12 ?_<;>(repeat' refine aU ?_))<;>(refine bX 14 ?_<;>(repeat' refine aU ?_))));rotate_right;(focus ((repeat' (first|refine aU ?_|refine bG fun sv=>?_))<;>(refine fH 10 13 ?_ ?_;rotate_right;(focus ((repeat' (first|refine aU ?_|refine bT fun b=>?_))<;>(refine bX 10 ?_<;>(repeat' (first|refine aU ?_|refine aW fun r=>?_)))<;>(refine bX 11 ?_<;>(repeat' (first|refine aU ?_|refine bG fun sv=>?_)))<;>(refine bX 12 ?_<;>(repeat' refine aU ?_))<;>(refine bX 14 ?_<;>(repeat' refine aU ?_))));rotate_right;(focus ((repeat' (first|refine aU ?_|refine aW fun r=>?_))<;>(refine fH 11 13 ?_ ?_;rotate_right;(focus ((repeat' (first|refine aU ?_|refine bT fun b=>?_))<;>(refine bX 11 ?_<;>(repeat' (first|refine aU ?_|refine bG fun sv=>?_)))<;>(refine bX 12 ?_<;>(repeat' refine aU ?_))<;>(refine bX 14 ?_<;>(repeat' refine aU ?_))));rotate_right;(focus ((repeat' (first|refine aU ?_|refine bG fun sv=>?_))<;>(refine fH 12 13 ?_ ?_;rotate_right;(focus ((repeat' (first|refine aU ?_|refine bT fun b=>?_))<;>(refine bX 12 ?_<;>(repeat' refine aU ?_))<;>(refine bX 14 ?_<;>(repeat' refine aU ?_))));rotate_right;(focus ((repeat' refine aU ?_)<;>(refine bX 13 ?_<;>(repeat' (first|refine aU ?_|refine bT fun b=>?_)))<;>(refine bX 14 ?_<;>(repeat' refine aU ?_)))))))))))))))))))))<;>refine bI ?_)|fail)
 ·rw[aHs (fun h=>hc h.1)]
  exact⟨(_,_,_),rfl,aH⟩
 ·rw[aHs (fun h=>by have:=h.2.1;omega)]
  exact⟨(_,_,_),rfl,aH⟩
 all_goals
  refine aS1 3 0 fun b3 vn vt e0 e1 e2=>?_
  subst e0 e1 e2
  have hP1:x.1.2.length<=60/\1<=x.1.1.length/\x.1.1.length<=60:=by assumption
  refine lp_ [5] [35,36,37,38,39,42,43,44,6,45,46,47,48,49,50,51,52,53,54,40,41] (Z:=Nat×Value) (fun k=>[.int .i64 k.1]) (fun k=>[.bk b3 [.int .i64 6,vn,k.2,.slice none 0 0],.ow [k.2] (x.1.1::vC (eH x.2.2) k.1)]) (fun k=>k.1<=(eH x.2.2).length/\∀ j,j<k.1->(fX (eH x.2.2) j).length<=60) (fun k=>(eH x.2.2).length-k.1) (0,vt) [.bk b3 [.int .i64 6,vn,vt,.slice none 0 0],.ow [vt] [x.1.1]] ⟨aI _,fun j hj=>by simp only at hj;omega⟩ ?_
  intro ⟨k,sw⟩ u l' hl' ⟨hk,hkk⟩
  simp only[bM,List.map,List.set] at hl'
  subst hl'
  simp only[aA,aB] at hk hkk ⊢
  have hgl:=aFa (eH x.2.2) k
  have hml:(x.1.1::vC (eH x.2.2) k).length=k+1:=by rw[aF,hgl]
  have hgb:=aA2 (i:=k) hpb
  repeat' (first|refine aU ?_|refine bP ?_|refine aW fun r=>?_|refine bG fun sv=>?_|refine bV fun hc=>?_|refine bW fun hc=>?_|refine aS (fun hc=>?_) fun hc=>?_|fail)
  ·rw[aHs (fun h=>h.2.2 (aLx (i:=k) (by omega)))]
   exact⟨(_,_,_),rfl,aH⟩
  ·rw[show x.1.1::vC (eH x.2.2) k++[fX (eH x.2.2) k]=x.1.1::vC (eH x.2.2) (k+1) from rfl]
   exact dH (k+1,sv) ⟨by simp only;omega,fun j hj=>by
    by_cases he:j=k
    ·rw[he];omega
    ·exact hkk j (by simp only at hj;omega)⟩ (by simp only;omega) (by kernel_rfl) aH
  ·rw[aX8 (x:=x) ⟨hP1,by omega,fun hL=>by
    obtain ⟨i,hi,hg⟩:=aMj hL
    have:=hkk i (by omega)
    omega⟩,show(eH x.2.2).length=k by omega]
   exact⟨(_,_,_),rfl,aH⟩
instance aOj{I:List Atom}{x:qH}{v0 v1 v2:Value}[h:bK Int I v0 x.1.1][h':bK eW I v1 x.1.2][h2:bK (List Int) I v2 x.2.2] :
  bQ prog 145 [.agg #[v0,v1,.int .i64 x.2.1,v2]] I ((-9223372036854775808<=x.2.1/\x.2.1<=9223372036854775807)/\(nA.size x.2.2<=1048576)) (Value×Value×Value) (fun p:Value×Value×Value=>.agg #[.int .i64 (kI x).1,p.1,p.2.1,p.2.2]) (fun p=>.ow [p.1] (kI x).2.1::.ow [p.2.1] (kI x).2.2.1::.ow [p.2.2] (kI x).2.2.2::I):=⟨fun s w0=>tU s.1 s.2⟩
end Go.Proofs.YtajdgkpjbpindaaGreatDoor
