/- Texts of the proof of FnNames. -/
import Derived.Test.YtajdgkpjbpindaaGreatDoorTar
set_option linter.unusedVariables false
set_option linter.unusedSimpArgs false
set_option linter.unusedSectionVars false
namespace Go.Proofs.YtajdgkpjbpindaaGreatDoor
open Go Go.Eng Tryz
set_option synthInstance.maxHeartbeats 400000
set_option synthInstance.maxSize 1000
set_option maxHeartbeats 4000000
set_option maxRecDepth 20000
theorem bD5 {Y Ε : List Atom} {sv v : Value} {xs : List (List Int)} {i : Nat} {y : List Int} [hp : cQ (List Int) bA Y [v] y Ε] : dZ (List (List Int)) bA (.ow [sv] (jF.mk xs i [v]) :: Y) [sv] (xs.set i y) := ⟨fun {ok w F} hs => by
  obtain ⟨f, g, _, hf, hΔ⟩ := hs
  obtain ⟨g', _, f2, g2, _, hv, _⟩ := hΔ.perm hp.perm
  obtain ⟨H, _, how⟩ := yL (show cB.ow _ _ _ _ _ from hf) (show cB.ow _ _ _ _ _ from hv)
  exact cB.ow_rd how (fun _ _ => trivial) (fun _ _ => trivial)⟩
structure Bx where
 cs:List Value
instance bIm:cB Bx where
 sz:=1
 rd ok w cs x:=∃ b e,cs=[.pointer (some ⟨b,0,none⟩)]/\ok b/\b<w.heap.size/\w.heap[b]?=some (.cells x.cs.toArray e (0,0))
 ow _ _ _ _ _:=False
 pos:=by decide
 rd_len:=by rintro _ _ _ _ ⟨_,_,rfl,_⟩;rfl
 rd_one:=by rintro _ _ _ _ ⟨_,_,rfl,_⟩;simp [Value.oneCell']
 rd_mono:=by
  rintro ok ok' w w' _ x ⟨b,e,rfl,h1,h2,h3⟩ hm
  have h:=hm b h1 h2
  have h4:w'.heap[b]?=some (.cells x.cs.toArray e (0,0)):=h.2.trans h3
  exact⟨b,e,rfl,h.1,(bL.1 h4).1,h4⟩
 ow_mono:=fun h=>h.elim
 ow_rd:=fun h=>h.elim
 ow_lt:=fun h=>h.elim
theorem rK{I R:List Atom}{b:Nat}{cs:List Value}(hb:gD I b cs)(h:yE I R):yE I (@Atom.rd Bx bIm [.pointer (some ⟨b,0,none⟩)] (Bx.mk cs)::R):=
 ⟨fun hs=>⟨[],[],rfl,⟨rfl,by
  obtain ⟨e,he⟩:=hb.get hs
  exact⟨b,e,rfl,trivial,(bL.1 he).1,he⟩⟩,h.get hs⟩⟩
instance (priority:=1100) bOd{I:List Atom}{b:Nat}{cs:List Value}:gD (@Atom.rd Bx bIm [.pointer (some ⟨b,0,none⟩)] (Bx.mk cs)::I) b cs:=⟨fun ⟨_,_,_,⟨_,b',e,hp,_,_,he⟩,_⟩=>by
 simp only[bR,Value.pointer.injEq,Option.some.injEq,Addr.mk.injEq,and_true] at hp
 exact⟨e,by rw[hp];exact he⟩⟩
def Fit(a t:List Int)(p m:Nat):Prop:=(eQ a (dS a) (t.drop p) m).1=true
theorem aTq{a t:List Int}(ht:bB a t=true){k:Nat}(hk:k<t.length):Fit a t (k+1) (ar a (t.getD k 0)).toNat:=by
 have h:=(fN ht hk).1
 rw[fA hk] at h
 simp only[eQ] at h
 by_cases hb:dS a (t.getD k 0)=true
 ·rw[if_pos hb] at h;cases h
 ·rw[if_neg hb,cR] at h;exact h
theorem aVe{a t:List Int}{p m:Nat}(h:Fit a t p (m+1)):p<t.length/\Fit a t (p+sz a t p) m:=by
 unfold Fit at h ⊢
 have hp:p<t.length:=by
  by_cases hp:p<t.length
  ·exact hp
  ·rw[cI (by omega)] at h;simp [eQ] at h
 refine⟨hp,?_⟩
 rw[Nat.add_comm m 1,iL] at h
 by_cases h1:(eQ a (dS a) (t.drop p) 1).1=true
 ·rw[if_pos h1] at h
  rw[← List.drop_drop];exact h
 ·rw[if_neg h1] at h;exact absurd h h1
structure ArP(a t l:List Int)(k:Nat):Prop where
 n:l.length=(ar a (t.getD k 0)).toNat
 el:∀ q∈l,0<=q/\q<t.length
instance bGr{I:List Atom}{v v1:Value}{a t:List Int}{at_:Int}{k0:Nat}[hm:fJ at_ k0][h:bK Int I v a][h1:bK Int I v1 t] :
  bQ prog 345 [.agg #[v],v1,.int .i64 at_] I (bB a t=true/\0<=at_/\at_<t.length) (Value×{ l:List Int // ArP a t l k0 }) (fun q:Value×{ l:List Int // ArP a t l k0 }=>q.1) (fun q=>.ow [q.1] q.2.1::I):=⟨fun hs w0=>by
 refine cL (A:=fun q:Value×{ l:List Int // ArP a t l k0 }=>[.ow [q.1] q.2.1]) (fun w1=>?_) (aE h (aE h1 fI)) fun _=>inferInstance
 simp only[aA,aB]
 obtain ⟨ht,hs2,hs3⟩:=hs
 obtain rfl:at_=(k0:Int):=by have:=hm.eq;omega
 have hk:k0<t.length:=by omega
 have htl:=aX ht
 have hg:=dY ht hk
 have hb:=iK (eI ht) hg.2
 have hfs:=aTq ht hk
 refine aK func345 ntmps345 ?_
 repeat' (first|refine aU ?_|refine eF fun hbi=>?_|refine bP ?_|refine bG fun sv=>?_|refine bT fun b=>?_|refine bV fun hc=>?_|refine bW fun hc=>?_|refine aS (fun hc=>?_) fun hc=>?_|fail)
 ·have hz:ar a (t.getD k0 0)=0:=by unfold ar;rw[if_pos hc]
  exact⟨(sv,⟨[],by rw[hz];rfl,fun q hq=>absurd hq (by simp)⟩),rfl,aH⟩
 have har:ar a (t.getD k0 0)=a.getD (t.getD k0 0).toNat 0:=by unfold ar;rw[if_neg (by omega)]
 refine lp_ [7,8,9] [19,20,21,22,23,24,25,26,27,28,31,32,33,34,35,36,37,38,29,30] (Z:=(Value×List Int)×Nat×Nat) (fun k=>[k.1.1,.int .i64 k.2.1,.int .i64 k.2.2]) (fun k=>[.ow [k.1.1] k.1.2]) (fun k=>(k.2.2:Int)<=ar a (t.getD k0 0)/\k.1.2.length=k.2.2/\Fit a t k.2.1 ((ar a (t.getD k0 0)).toNat-k.2.2)/\∀ q∈k.1.2,0<=q/\q<t.length) (fun k=>(ar a (t.getD k0 0)).toNat-k.2.2) ((sv,[]),k0+1,0) [.ow [sv] ([]:List Int)] ⟨by simp only;omega,rfl,hfs,fun q hq=>absurd hq (by simp)⟩ ?_
 intro ⟨⟨so,l⟩,p,k⟩ u l' hl' ⟨hk1,hl,hfit,hel⟩
 simp only[bM,List.map,List.set] at hl'
 subst hl'
 simp only[aA,aB] at hk1 hl hfit hel ⊢
 by_cases hkl:(k:Int)<ar a (t.getD k0 0)
 ·rw[show(ar a (t.getD k0 0)).toNat-k=(ar a (t.getD k0 0)).toNat-(k+1)+1 by omega] at hfit
  obtain ⟨hp,hf2⟩:=aVe hfit
  have hta:=(fN ht hp).2
  repeat' (first|refine aU ?_|refine bP ?_|refine cV fun r hr=>?_|refine aW fun r=>?_|refine bG fun sv=>?_|refine bV fun hc=>?_|refine bW fun hc=>?_|refine aS (fun hc=>?_) fun hc=>?_|refine wb 6 [] ?_|refine xf fun hbi=>?_|refine xp ?_|refine bI ?_|fail)
  exact eB ((sv,l++[(p:Int)]),p+sz a t p,k+1) ⟨by simp only;omega,by simp only[aD,aJ];omega,hf2,fun q hq=>(aP.1 hq).elim (hel q) fun h=>by rw[aO] at h;omega⟩
 ·repeat' (first|refine aU ?_|refine bV fun hc=>?_|refine bW fun hc=>?_|refine aS (fun hc=>?_) fun hc=>?_|refine wb 6 [] ?_|refine xf fun hbi=>?_|refine xp ?_|refine bI ?_|fail)
  exact⟨(so,⟨l,by omega,hel⟩),rfl,aH⟩⟩
structure TwP(a rk s t:List Int)(sa ta ws:List (List Int)):Prop where
 hs:bB a s=true
 ht:bB a t=true
 rk:rk.length=a.length
 sl:sa.length=s.length
 se:∀ i,i<s.length->ArP a s (sa.getD i default) i
 tl:ta.length=t.length
 te:∀ i,i<t.length->ArP a t (ta.getD i default) i
 wl:ws.length=s.length
 we:∀ i,i<s.length->(ws.getD i default).length=t.length
structure Ix2(s t:List Int)(i j:Int):Prop where
 i:0<=i/\i<s.length
 j:0<=j/\j<t.length
instance bGc{I:List Atom}{b:Nat}{va vr vs vt v1 v2 v3:Value}{a rk s t:List Int}{i j:Int}{ni nj:Nat}[hi:fJ i ni][hj:fJ j nj][hb:gD I b [va,vr,vs,vt,v1,v2,v3]][h:bK Int I va a][h1:bK Int I vr rk][h2:bK Int I vs s][h3:bK Int I vt t] :
  bQ prog 358 [.pointer (some ⟨b,0,none⟩),.int .i64 i,.int .i64 j] I (bB a s=true/\bB a t=true/\Ix2 s t i j) (Bool) (fun q:Bool=>.bool q) (fun _=>I):=⟨fun hs w0=>by
 refine cL (R:=[.rd [.pointer (some ⟨b,0,none⟩)] (Bx.mk [va,vr,vs,vt,v1,v2,v3]),.rd [va] a,.rd [vr] rk,.rd [vs] s,.rd [vt] t]) (A:=fun _=>[]) (fun w1=>?_) (rK hb (aE h (aE h1 (aE h2 (aE h3 (inferInstance)))))) (fun _=>inferInstance)
 simp only[aA,aB]
 obtain ⟨hs1,ht1,hx⟩:=hs
 have hxi:=hx.i
 have hxj:=hx.j
 obtain rfl:i=(ni:Int):=by have:=hi.eq;omega
 obtain rfl:j=(nj:Int):=by have:=hj.eq;omega
 have hsl:=aX hs1
 have htl:=aX ht1
 have hts:=(fN hs1 (k:=ni) (by omega)).2
 have htt:=(fN ht1 (k:=nj) (by omega)).2
 refine aK func358 ntmps358 ?_
 repeat' (first|refine aU ?_|refine cV fun r hr=>?_|refine aW fun r=>?_|refine bG fun sv=>?_|refine wb 1 [] ?_|refine xp ?_|refine xy ?_|refine x2 ?_ ?_|refine bI ?_|fail)
 all_goals exact⟨_,rfl,aH⟩⟩
instance bKo{I:List Atom}{b:Nat}{va vr vs vt v1 v2 v3:Value}{a rk s t:List Int}{sa ta ws:List (List Int)}{i j:Int}{ni nj:Nat}[hi:fJ i ni][hj:fJ j nj][hb:gD I b [va,vr,vs,vt,v1,v2,v3]][h:bK Int I va a][h1:bK Int I vr rk][h2:bK Int I vs s][h3:bK Int I vt t][h4:bK (List Int) I v1 sa][h5:bK (List Int) I v2 ta][h6:bK (List Int) I v3 ws] :
  bQ prog 346 [.pointer (some ⟨b,0,none⟩),.int .i64 i,.int .i64 j] I (TwP a rk s t sa ta ws/\Ix2 s t i j) (Bool) (fun q:Bool=>.bool q) (fun _=>I):=⟨fun hs w0=>by
 refine cL (R:=[.rd [.pointer (some ⟨b,0,none⟩)] (Bx.mk [va,vr,vs,vt,v1,v2,v3]),.rd [va] a,.rd [vr] rk,.rd [vs] s,.rd [vt] t,.rd [v1] sa,.rd [v2] ta,.rd [v3] ws]) (A:=fun _=>[]) (fun w1=>?_) (rK hb (aE h (aE h1 (aE h2 (aE h3 (aE h4 (aE h5 (aE h6 (inferInstance))))))))) (fun _=>inferInstance)
 simp only[aA,aB]
 obtain ⟨hw,hx⟩:=hs
 have hxi:=hx.i
 have hxj:=hx.j
 obtain rfl:i=(ni:Int):=by have:=hi.eq;omega
 obtain rfl:j=(nj:Int):=by have:=hj.eq;omega
 have hs1:=hw.hs
 have ht1:=hw.ht
 have hsl:=aX hs1
 have htl:=aX ht1
 have hsal:=hw.sl
 have htal:=hw.tl
 have hwl:=hw.wl
 have hse:=hw.se ni (by omega)
 have hte:=hw.te nj (by omega)
 have hwe:=hw.we ni (by omega)
 have hn3:=dY ht1 (k:=nj) (by omega)
 have hn4:=iK (eI ht1) hn3.2
 have hnl:=hte.n
 refine aK func346 ntmps346 ?_
 repeat' (first|refine aU ?_|fail)
 refine lc_ [7] [8,9,10,11,12,13,14,15,16,17,20,21,22,23,24,25,26,27,28,29,30,31,32,33,34,35,36,37,38,39,40,41,42,43,44,45,46,47,48,49,50,51,52,53,54,6,18,19] (Z:=Nat) (fun k=>[.int .i64 k]) (fun k=>k<=(ta.getD nj default).length) (fun k=>(ta.getD nj default).length-k) 0 (aI _) ?_
 intro k u l' hl' hk
 simp only[bM,List.map,List.set] at hl'
 subst hl'
 by_cases hkl:k<(ta.getD nj default).length
 ·have hq:=hte.el _ (eD hkl)
  have hxk:Ix2 s t ni ((ta.getD nj default).getD k 0):=⟨hxi,hq⟩
  refine kD (V:=List Int) (k:=1) v3 ni (by omega) fun p hf=>?_
  simp only[Un.cells,Un.atoms,aA,aB]
  repeat' (first|refine aU ?_|refine bP ?_|(refine iH fun p c d f g hf=>?_;simp only[Un.cells,Un.atoms,Un.fact,aA,aB] at f g hf;subst f g)|refine bV fun hc=>?_|refine bW fun hc=>?_|refine aS (fun hc=>?_) fun hc=>?_|refine cV fun r hr=>?_|refine aW fun r=>?_|refine wb 4 [] ?_|refine xf fun hbi=>?_|refine xp ?_|refine xg ?_|refine xn ?_|refine pM fun hc=>?_|refine pN fun hc=>?_|refine xi (fun hc=>?_) fun hc=>?_|refine xy ?_|refine bI ?_|fail)
  all_goals first|exact⟨_,rfl,aH⟩|exact eB (k+1) (by omega)
 ·repeat' (first|refine aU ?_|(refine iH fun p c d f g hf=>?_;simp only[Un.cells,Un.atoms,Un.fact,aA,aB] at f g hf;subst f g)|refine bV fun hc=>?_|refine bW fun hc=>?_|refine aS (fun hc=>?_) fun hc=>?_|fail)
  all_goals exact⟨_,rfl,aH⟩⟩
instance bHe{I:List Atom}{b:Nat}{va vr vs vt v1 v2 v3:Value}{a rk s t:List Int}{sa ta ws:List (List Int)}{i j:Int}{ni nj:Nat}[hi:fJ i ni][hj:fJ j nj][hb:gD I b [va,vr,vs,vt,v1,v2,v3]][h:bK Int I va a][h1:bK Int I vr rk][h2:bK Int I vs s][h3:bK Int I vt t][h4:bK (List Int) I v1 sa][h5:bK (List Int) I v2 ta][h6:bK (List Int) I v3 ws] :
  bQ prog 347 [.pointer (some ⟨b,0,none⟩),.int .i64 i,.int .i64 j] I (TwP a rk s t sa ta ws/\Ix2 s t i j) (Bool) (fun q:Bool=>.bool q) (fun _=>I):=⟨fun hs w0=>by
 refine cL (R:=[.rd [.pointer (some ⟨b,0,none⟩)] (Bx.mk [va,vr,vs,vt,v1,v2,v3]),.rd [va] a,.rd [vr] rk,.rd [vs] s,.rd [vt] t,.rd [v1] sa,.rd [v2] ta,.rd [v3] ws]) (A:=fun _=>[]) (fun w1=>?_) (rK hb (aE h (aE h1 (aE h2 (aE h3 (aE h4 (aE h5 (aE h6 (inferInstance))))))))) (fun _=>inferInstance)
 simp only[aA,aB]
 obtain ⟨hw,hx⟩:=hs
 have hxi:=hx.i
 have hxj:=hx.j
 obtain rfl:i=(ni:Int):=by have:=hi.eq;omega
 obtain rfl:j=(nj:Int):=by have:=hj.eq;omega
 have hs1:=hw.hs
 have ht1:=hw.ht
 have hsl:=aX hs1
 have htl:=aX ht1
 have hsal:=hw.sl
 have htal:=hw.tl
 have hwl:=hw.wl
 have hse:=hw.se ni (by omega)
 have hte:=hw.te nj (by omega)
 have hwe:=hw.we ni (by omega)
 have hn3:=dY hs1 (k:=ni) (by omega)
 have hn4:=iK (eI hs1) hn3.2
 have hnl:=hse.n
 refine aK func347 ntmps347 ?_
 repeat' (first|refine aU ?_|fail)
 refine lc_ [7] [8,9,10,11,12,13,14,15,16,17,20,21,22,23,24,25,26,27,28,29,30,31,32,33,34,35,36,37,38,39,6,18,19] (Z:=Nat) (fun k=>[.int .i64 k]) (fun k=>k<=(sa.getD ni default).length) (fun k=>(sa.getD ni default).length-k) 0 (aI _) ?_
 intro k u l' hl' hk
 simp only[bM,List.map,List.set] at hl'
 subst hl'
 by_cases hkl:k<(sa.getD ni default).length
 ·have hq:=hse.el _ (eD hkl)
  have hwk:=hw.we ((sa.getD ni default).getD k 0).toNat (by omega)
  repeat' (first|refine aU ?_|refine bP ?_|(refine iH fun p c d f g hf=>?_;simp only[Un.cells,Un.atoms,Un.fact,aA,aB] at f g hf;subst f g)|refine bV fun hc=>?_|refine bW fun hc=>?_|refine aS (fun hc=>?_) fun hc=>?_|refine wb 4 [] ?_|refine xf fun hbi=>?_|refine xp ?_|(refine xd fun p c d e f g h hf=>?_;simp only[Un.cells,Un.atoms,Un.fact,aA,aB] at f g h hf;subst f g h)|refine bI ?_|fail)
  all_goals first|exact⟨_,rfl,aH⟩|exact eB (k+1) (by omega)
 ·repeat' (first|refine aU ?_|(refine iH fun p c d f g hf=>?_;simp only[Un.cells,Un.atoms,Un.fact,aA,aB] at f g hf;subst f g)|refine bV fun hc=>?_|refine bW fun hc=>?_|refine aS (fun hc=>?_) fun hc=>?_|fail)
  all_goals exact⟨_,rfl,aH⟩⟩
instance bCl{I:List Atom}{b:Nat}{va vr vs vt v1 v2 v3:Value}{a rk s t:List Int}{sa ta ws:List (List Int)}{i j:Int}{ni nj:Nat}[hi:fJ i ni][hj:fJ j nj][hb:gD I b [va,vr,vs,vt,v1,v2,v3]][h:bK Int I va a][h1:bK Int I vr rk][h2:bK Int I vs s][h3:bK Int I vt t][h4:bK (List Int) I v1 sa][h5:bK (List Int) I v2 ta][h6:bK (List Int) I v3 ws] :
  bQ prog 348 [.pointer (some ⟨b,0,none⟩),.int .i64 i,.int .i64 j] I (TwP a rk s t sa ta ws/\Ix2 s t i j/\s.getD i.toNat 0=t.getD j.toNat 0) (Bool) (fun q:Bool=>.bool q) (fun _=>I):=⟨fun hs w0=>by
 refine cL (R:=[.rd [.pointer (some ⟨b,0,none⟩)] (Bx.mk [va,vr,vs,vt,v1,v2,v3]),.rd [va] a,.rd [vr] rk,.rd [vs] s,.rd [vt] t,.rd [v1] sa,.rd [v2] ta,.rd [v3] ws]) (A:=fun _=>[]) (fun w1=>?_) (rK hb (aE h (aE h1 (aE h2 (aE h3 (aE h4 (aE h5 (aE h6 (inferInstance))))))))) (fun _=>inferInstance)
 simp only[aA,aB]
 obtain ⟨hw,hx,he⟩:=hs
 have hxi:=hx.i
 have hxj:=hx.j
 obtain rfl:i=(ni:Int):=by have:=hi.eq;omega
 obtain rfl:j=(nj:Int):=by have:=hj.eq;omega
 have hs1:=hw.hs
 have ht1:=hw.ht
 have hsl:=aX hs1
 have htl:=aX ht1
 have hsal:=hw.sl
 have htal:=hw.tl
 have hwl:=hw.wl
 have hse:=hw.se ni (by omega)
 have hte:=hw.te nj (by omega)
 have hwe:=hw.we ni (by omega)
 have hn3:=dY hs1 (k:=ni) (by omega)
 have hn4:=iK (eI hs1) hn3.2
 have hnl:=hse.n
 have hnt:=hte.n
 simp only[bH] at he
 rw[← he] at hnt
 refine aK func348 ntmps348 ?_
 repeat' (first|refine aU ?_|fail)
 refine lc_ [7] [8,9,10,11,12,13,14,15,16,17,20,21,22,23,24,25,26,27,28,29,30,31,32,33,34,35,36,37,38,39,40,41,42,43,44,45,46,47,48,49,50,51,52,53,54,55,56,57,58,59,60,61,62,63,64,65,66,67,68,69,70,71,6,18,19] (Z:=Nat) (fun k=>[.int .i64 k]) (fun k=>k<=(sa.getD ni default).length) (fun k=>(sa.getD ni default).length-k) 0 (aI _) ?_
 intro k u l' hl' hk
 simp only[bM,List.map,List.set] at hl'
 subst hl'
 by_cases hkl:k<(sa.getD ni default).length
 ·have hq:=hse.el _ (eD hkl)
  have hq2:=hte.el _ (eD (t:=ta.getD nj default) (k:=k) (by omega))
  have hxk:Ix2 s t ((sa.getD ni default).getD k 0) ((ta.getD nj default).getD k 0):=⟨hq,hq2⟩
  have hwk:=hw.we ((sa.getD ni default).getD k 0).toNat (by omega)
  repeat' (first|refine aU ?_|refine bP ?_|(refine iH fun p c d f g hf=>?_;simp only[Un.cells,Un.atoms,Un.fact,aA,aB] at f g hf;subst f g)|refine bV fun hc=>?_|refine bW fun hc=>?_|refine aS (fun hc=>?_) fun hc=>?_|refine cV fun r hr=>?_|refine aW fun r=>?_|refine wb 4 [] ?_|refine wb 5 [] ?_|refine xf fun hbi=>?_|refine xp ?_|(refine xd fun p c d e f g h hf=>?_;simp only[Un.cells,Un.atoms,Un.fact,aA,aB] at f g h hf;subst f g h)|refine xy ?_|refine bI ?_|fail)
  all_goals first|exact⟨_,rfl,aH⟩|exact eB (k+1) (by omega)
 ·repeat' (first|refine aU ?_|(refine iH fun p c d f g hf=>?_;simp only[Un.cells,Un.atoms,Un.fact,aA,aB] at f g hf;subst f g)|refine bV fun hc=>?_|refine bW fun hc=>?_|refine aS (fun hc=>?_) fun hc=>?_|fail)
  all_goals exact⟨_,rfl,aH⟩⟩
instance bAu{I:List Atom}{b:Nat}{va vr vs vt v1 v2 v3:Value}{a rk s t:List Int}{sa ta ws:List (List Int)}{i j:Int}{ni nj:Nat}[hi:fJ i ni][hj:fJ j nj][hb:gD I b [va,vr,vs,vt,v1,v2,v3]][h:bK Int I va a][h1:bK Int I vr rk][h2:bK Int I vs s][h3:bK Int I vt t][h4:bK (List Int) I v1 sa][h5:bK (List Int) I v2 ta][h6:bK (List Int) I v3 ws] :
  bQ prog 323 [.pointer (some ⟨b,0,none⟩),.int .i64 i,.int .i64 j] I (TwP a rk s t sa ta ws/\Ix2 s t i j) (aV3) (fun q:aV3=>.int .i64 q.1) (fun _=>I):=⟨fun hs w0=>by
 refine cL (R:=[.rd [.pointer (some ⟨b,0,none⟩)] (Bx.mk [va,vr,vs,vt,v1,v2,v3]),.rd [va] a,.rd [vr] rk,.rd [vs] s,.rd [vt] t,.rd [v1] sa,.rd [v2] ta,.rd [v3] ws]) (A:=fun _=>[]) (fun w1=>?_) (rK hb (aE h (aE h1 (aE h2 (aE h3 (aE h4 (aE h5 (aE h6 (inferInstance))))))))) (fun _=>inferInstance)
 simp only[aA,aB]
 obtain ⟨hw,hx⟩:=hs
 have hxi:=hx.i
 have hxj:=hx.j
 obtain rfl:i=(ni:Int):=by have:=hi.eq;omega
 obtain rfl:j=(nj:Int):=by have:=hj.eq;omega
 have hs1:=hw.hs
 have ht1:=hw.ht
 have hsl:=aX hs1
 have htl:=aX ht1
 have hsal:=hw.sl
 have htal:=hw.tl
 have hwl:=hw.wl
 have hse:=hw.se ni (by omega)
 have hte:=hw.te nj (by omega)
 have hwe:=hw.we ni (by omega)
 have hgs:=dY hs1 (k:=ni) (by omega)
 have hgt:=dY ht1 (k:=nj) (by omega)
 have hrk:=hw.rk
 refine aK func323 ntmps323 ?_
 repeat' (first|refine aU ?_|refine eF fun hbi=>?_|refine bP ?_|refine cV fun r hr=>?_|refine aW fun r=>?_|refine bV fun hc=>?_|refine bW fun hc=>?_|refine aS (fun hc=>?_) fun hc=>?_|refine wb 7 [] ?_|refine xf fun hbi=>?_|refine xp ?_|refine xg ?_|refine xn ?_|refine pM fun hc=>?_|refine pN fun hc=>?_|refine xi (fun hc=>?_) fun hc=>?_|refine xy ?_|refine bI ?_|fail)
 all_goals try exact⟨⟨_,by decide⟩,rfl,aH⟩⟩
theorem tQ{V:Type}{xs:List V}{x d:V}{k:Nat}(h:k<xs.length+1):(xs++[x]).getD k d=if k=xs.length then x else xs.getD k d:=by
 by_cases e:k=xs.length
 ·rw[if_pos e,e,aC,cP (aM _),Nat.sub_self];rfl
 ·rw[if_neg e,aC,dD (by omega),← aC]
abbrev TwT(a rk s t:List Int):Type:={ x:List (List Int)×List (List Int)×List (List Int) // TwP a rk s t x.1 x.2.1 x.2.2 }
instance bIs{I:List Atom}{va vr vs vt:Value}{a rk s t:List Int}[h:bK Int I va a][h1:bK Int I vr rk][h2:bK Int I vs s][h3:bK Int I vt t] :
  bQ prog 322 [.agg #[va],vr,vs,vt] I (bB a s=true/\bB a t=true/\rk.length=a.length) ((Nat×Value×Value×Value)×TwT a rk s t) (fun q:(Nat×Value×Value×Value)×TwT a rk s t=>.pointer (some ⟨q.1.1,0,none⟩)) (fun q=>.bk q.1.1 [va,vr,vs,vt,q.1.2.1,q.1.2.2.1,q.1.2.2.2]::.ow [q.1.2.1] q.2.1.1::.ow [q.1.2.2.1] q.2.1.2.1::.ow [q.1.2.2.2] q.2.1.2.2::I):=⟨fun hs w0=>by
 obtain ⟨hs1,ht1,hrk⟩:=hs
 have hsl:=aX hs1
 have htl:=aX ht1
 refine aK func322 ntmps322 ?_
 repeat' (first|refine aU ?_|refine bT fun b=>?_|fail)
 refine lp_ [10] [18,19,20,21,24,25,26,27,28,29,30,31,32,33,34,35,36,37,38,39,40,41,42,43,44,45,46,47,48,22,23] (Z:=(Value×List (List Int))×(Value×List (List Int))×Nat) (fun k=>[.int .i64 k.2.2]) (fun k=>[.bk b [va,vr,vs,vt,k.1.1,.slice none 0 0,k.2.1.1],.ow [k.1.1] k.1.2,.ow [k.2.1.1] k.2.1.2]) (fun k=>k.2.2<=s.length/\(k.1.2.length=k.2.2/\∀ i,i<k.2.2->ArP a s (k.1.2.getD i default) i)/\k.2.1.2.length=k.2.2/\∀ i,i<k.2.2->(k.2.1.2.getD i default).length=t.length) (fun k=>s.length-k.2.2) ((.slice none 0 0,[]),(.slice none 0 0,[]),0) [.bk b [va,vr,vs,vt,.slice none 0 0,.slice none 0 0,.slice none 0 0],.ow [.slice none 0 0] ([]:List (List Int)),.ow [.slice none 0 0] ([]:List (List Int))] ⟨aI _,⟨rfl,fun i hi=>absurd hi (cX i)⟩,rfl,fun i hi=>absurd hi (cX i)⟩ ?_
 intro ⟨⟨q1,sa⟩,⟨q3,ws⟩,i⟩ u l' hl' ⟨hi,⟨hsal,hsa⟩,hwl,hwe⟩
 simp only[bM,List.map,List.set] at hl'
 subst hl'
 simp only[aA,aB] at hi hsal hsa hwl hwe ⊢
 by_cases hil:i<s.length
 ·repeat' (first|refine aU ?_|refine bP ?_|refine bV fun hc=>?_|refine bW fun hc=>?_|refine aS (fun hc=>?_) fun hc=>?_|refine cV fun r hr=>?_|refine aW fun r=>?_|refine bG fun sv=>?_|refine wb 5 [10,13] ?_|refine wb 6 [9,12] ?_|refine xp ?_|refine x0 ?_|refine xy ?_|refine bI ?_|fail)
  rename_i c3 c2 c1 c0
  refine eB ((c2,sa++[r.2.1]),(sv,ws++[List.replicate t.length 0]),i+1) ⟨by simp only;omega,⟨by simp only[aD,aJ];omega,fun m hm=>?_⟩,by simp only[aD,aJ];omega,fun m hm=>?_⟩
  ·simp only at hm ⊢
   rw[tQ (by omega),hsal]
   by_cases e:m=i
   ·subst e;rw[if_pos rfl];exact r.2.2
   ·rw[if_neg e];exact hsa m (by omega)
  ·simp only at hm ⊢
   rw[tQ (by omega),hwl]
   by_cases e:m=i
   ·rw[if_pos e];simp
   ·rw[if_neg e];exact hwe m (by omega)
 ·obtain rfl:i=s.length:=by omega
  repeat' (first|refine aU ?_|refine bV fun hc=>?_|refine bW fun hc=>?_|refine aS (fun hc=>?_) fun hc=>?_|fail)
  refine lp_ [11] [49,50,51,52,55,56,57,58,59,60,61,62,63,64,65,66,67,53,54] (Z:=(Value×List (List Int))×Nat) (fun k=>[.int .i64 k.2]) (fun k=>[.bk b [va,vr,vs,vt,q1,k.1.1,q3],.ow [k.1.1] k.1.2]) (fun k=>k.2<=t.length/\k.1.2.length=k.2/\∀ i,i<k.2->ArP a t (k.1.2.getD i default) i) (fun k=>t.length-k.2) ((.slice none 0 0,[]),0) [.bk b [va,vr,vs,vt,q1,.slice none 0 0,q3],.ow [.slice none 0 0] ([]:List (List Int))] ⟨aI _,rfl,fun i hi=>absurd hi (cX i)⟩ ?_
  intro ⟨⟨q2,ta⟩,j⟩ u l' hl' ⟨hj,htal,hta⟩
  simp only[bM,List.map,List.set] at hl'
  subst hl'
  simp only[aA,aB] at hj htal hta ⊢
  by_cases hjl:j<t.length
  ·repeat' (first|refine aU ?_|refine bP ?_|refine bV fun hc=>?_|refine bW fun hc=>?_|refine aS (fun hc=>?_) fun hc=>?_|refine cV fun r hr=>?_|refine aW fun r=>?_|refine bG fun sv=>?_|refine wb 10 [10,13] ?_|refine xp ?_|refine x0 ?_|refine xy ?_|refine bI ?_|fail)
   refine eB ((sv,ta++[r.2.1]),j+1) ⟨by simp only;omega,by simp only[aD,aJ];omega,fun m hm=>?_⟩
   simp only at hm ⊢
   rw[tQ (by omega),htal]
   by_cases e:m=j
   ·subst e;rw[if_pos rfl];exact r.2.2
   ·rw[if_neg e];exact hta m (by omega)
  ·obtain rfl:j=t.length:=by omega
   repeat' (first|refine aU ?_|refine bV fun hc=>?_|refine bW fun hc=>?_|refine aS (fun hc=>?_) fun hc=>?_|fail)
   exact⟨((b,q1,q2,q3),⟨(sa,ta,ws),hs1,ht1,hrk,hsal,hsa,htal,hta,hwl,hwe⟩),rfl,aH⟩⟩
attribute [local instance 3000] bD5
theorem TwP.set{a rk s t:List Int}{sa ta ws:List (List Int)}(h:TwP a rk s t sa ta ws)(i:Nat){r:List Int}(hr:r.length=t.length):TwP a rk s t sa ta (ws.set i r):=
 ⟨h.hs,h.ht,h.rk,h.sl,h.se,h.tl,h.te,by rw[aV];exact h.wl,fun k hk=>by
  have hwl:=h.wl
  by_cases e:i=k
  ·subst e
   rw[aC,List.getElem?_set_self (by omega)];exact hr
  ·rw[aC,List.getElem?_set_ne e,← aC];exact h.we k hk⟩
instance bKt{I:List Atom}{va vr vs vt:Value}{a rk s t:List Int}[h:bK Int I va a][h1:bK Int I vr rk][h2:bK Int I vs s][h3:bK Int I vt t] :
  bQ prog 293 [.agg #[va],vr,vs,vt] I (bB a s=true/\bB a t=true/\rk.length=a.length) ({ n:Int // -9223372036854775808<=n/\n<=9223372036854775807 }) (fun q:{ n:Int // -9223372036854775808<=n/\n<=9223372036854775807 }=>.int .i64 q.1) (fun _=>I):=⟨fun hs w0=>by
 refine jV (fun w1=>?_) (aE h (aE h1 (aE h2 (aE h3 fI))))
 obtain ⟨hs1,ht1,hrk⟩:=hs
 have hsl:=aX hs1
 have htl:=aX ht1
 refine aK func293 ntmps293 ?_
 repeat' (first|refine aU ?_|refine bP ?_|refine cV fun r hr=>?_|refine aW fun r=>?_|refine bT fun b=>?_|fail)
 obtain ⟨⟨b,q1,q2,q3⟩,⟨⟨sa,ta,ws⟩,hw⟩⟩:=r
 simp only at hw ⊢
 refine lp_ [10] [20,21,24,25,26,11,27,28,31,32,33,34,35,36,37,38,39,40,41,42,43,29,30,22,23] (Z:=List (List Int)×Nat) (fun k=>[.int .i64 ((k.2:Int)-1)]) (fun k=>[.ow [q3] k.1]) (fun k=>k.2<=t.length/\TwP a rk s t sa ta k.1) (fun k=>k.2) (ws,t.length) [.ow [q3] ws] ⟨aM _,hw⟩ ?_
 intro ⟨ws,j⟩ u l' hl' ⟨hj,hw⟩
 simp only[bM,List.map,List.set] at hl'
 subst hl'
 simp only[aA,aB] at hj hw ⊢
 cases j with
 | zero=>
  have hwl:=hw.wl
  have hwe:=hw.we 0 (by omega)
  refine fC q3 ?_
  repeat' (first|refine aU ?_|refine eF fun hbi=>?_|refine bP ?_|(refine iH fun p c d f g hf=>?_;simp only[Un.cells,Un.atoms,Un.fact,aA,aB] at f g hf;subst f g)|refine bV fun hc=>?_|refine bW fun hc=>?_|refine aS (fun hc=>?_) fun hc=>?_|fail)
  exact⟨⟨_,hbi⟩,rfl,aH⟩
 | succ j=>
  rw[show((j+1:Nat):Int)-1=(j:Int) by omega]
  repeat' (first|refine aU ?_|refine bP ?_|refine bV fun hc=>?_|refine bW fun hc=>?_|refine aS (fun hc=>?_) fun hc=>?_|fail)
  refine lp_ [11] [27,28,31,32,33,34,35,36,37,38,39,40,41,42,43,29,30] (Z:=List (List Int)×Nat) (fun k=>[.int .i64 ((k.2:Int)-1)]) (fun k=>[.ow [q3] k.1]) (fun k=>k.2<=s.length/\TwP a rk s t sa ta k.1) (fun k=>k.2) (ws,s.length) [.ow [q3] ws] ⟨aM _,hw⟩ ?_
  intro ⟨ws,i⟩ u l' hl' ⟨hi,hw⟩
  simp only[bM,List.map,List.set] at hl'
  subst hl'
  simp only[aA,aB] at hi hw ⊢
  cases i with
  | zero=>
   repeat' (first|refine aU ?_|refine bP ?_|refine bV fun hc=>?_|refine bW fun hc=>?_|refine aS (fun hc=>?_) fun hc=>?_|fail)
   exact eB (ws,j) ⟨by simp only;omega,hw⟩
  | succ i=>
   rw[show((i+1:Nat):Int)-1=(i:Int) by omega]
   have hwl:=hw.wl
   have hwe:=hw.we i (by omega)
   have hw':=hw.set i hwe
   have hx:Ix2 s t i j:=⟨by omega,by omega⟩
   refine aIp q3 i (y:=ws.getD i default) (by rw[aC,aG (by omega)];rfl) fun p hf=>?_
   simp only[UnO.cells,UnO.atoms,aA,aB]
   repeat' (first|refine aU ?_|refine bP ?_|refine bV fun hc=>?_|refine bW fun hc=>?_|refine aS (fun hc=>?_) fun hc=>?_|refine cV fun r hr=>?_|refine aW fun r=>?_|refine wb 8 [13] ?_|refine xp ?_|refine xy ?_|refine bI ?_|fail)
   refine tY (Ε:=?E2) q3 ((ws.getD i default).set j r.1) ?h2 ?_
   case h2=>exact uX
   exact eB (ws.set i ((ws.getD i default).set j r.1),i) ⟨by simp only;omega,hw.set i (by rw[aV];exact hwe)⟩⟩
instance aYp{I:List Atom}{v v' v1:Value}{x:aQ}{rk:List Int}[h:bK Int I v x.1][h':bK cM I v' x.2][h1:bK Int I v1 rk] :
  bQ prog 233 [.agg #[v,v'],v1] I (rk.length=x.1.length/\eE x=true) (Bool) (fun q:Bool=>.bool q) (fun _=>I):=⟨fun hs w0=>by
 refine jV (fun w1=>?_) (aE h (aE h' (aE h1 fI)))
 obtain ⟨hrk,hs⟩:=hs
 refine dQ v' fun hlr=>?_
 refine aK func233 ntmps233 ?_
 repeat' (first|refine aU ?_|refine bT fun b=>?_|fail)
 refine lc_ [5] [6,7,8,9,10,13,14,15,16,17,18,19,20,21,22,23,24,25,26,27,28,29,4,11,12] (Z:=Nat) (fun k=>[.int .i64 k]) (fun k=>k<=x.2.length) (fun k=>x.2.length-k) 0 (aI _) ?_
 intro i u l' hl' hi
 simp only[bM,List.map,List.set] at hl'
 subst hl'
 by_cases hil:i<x.2.length
 ·have hg:=iB hs hil
  obtain ⟨hg1,hg2⟩:=hg
  repeat' (first|refine aU ?_|refine bP ?_|refine bV fun hc=>?_|refine bW fun hc=>?_|refine aS (fun hc=>?_) fun hc=>?_|refine cV fun r hr=>?_|refine aW fun r=>?_|refine wb 4 [] ?_|refine xp ?_|(refine xd fun p c d e f g h hf=>?_;simp only[Un.cells,Un.atoms,Un.fact,aA,aB] at f g h hf;subst f g h)|refine xy ?_|refine bI ?_|fail)
  all_goals first|exact⟨_,rfl,aH⟩|exact eB (i+1) (by omega)
 ·repeat' (first|refine aU ?_|refine bV fun hc=>?_|refine bW fun hc=>?_|refine aS (fun hc=>?_) fun hc=>?_|fail)
  exact⟨_,rfl,aH⟩⟩
instance aWi{I:List Atom}{v v' v1:Value}{x:aQ}{rk:List Int}[h:bK Int I v x.1][h':bK cM I v' x.2][h1:bK Int I v1 rk] :
  bQ prog 221 [.agg #[v,v'],v1] I (True) ({ t:Bool // t=true->RkP x.1 rk/\eE x=true }) (fun q:{ t:Bool // t=true->RkP x.1 rk/\eE x=true }=>.bool q.1) (fun _=>I):=⟨fun _ w0=>by
 refine jV (fun w1=>?_) (aE h (aE h' (aE h1 fI)))
 by_cases hW:RkP x.1 rk
 ·have hrk:=hW.n
  refine aK func221 ntmps221 ?_
  repeat' (first|refine aU ?_|refine cV fun r hr=>?_|refine aW fun r=>?_|refine bT fun b=>?_|refine bV fun hc=>?_|refine bW fun hc=>?_|refine aS (fun hc=>?_) fun hc=>?_|fail)
  all_goals first|exact⟨⟨false,fun h=>nomatch h⟩,rfl,aH⟩|exact⟨⟨_,fun _=>⟨hW,by assumption⟩⟩,rfl,aH⟩
 ·haveI hI:∀ (Y:List Atom) (v v1:Value) (a rk:List Int) [bK Int Y v a] [bK Int Y v1 rk],bQ prog 279 [.agg #[v],v1] Y (¬ RkP a rk) Unit (fun _=>.bool false) (fun _=>Y):=fun Y v v1 a rk _ _=>⟨fun h w0=>bHo h yD⟩
  refine aK func221 ntmps221 ?_
  repeat' (first|refine aU ?_|refine cV fun r hr=>?_|refine aW fun r=>?_|refine bT fun b=>?_|refine bV fun hc=>?_|refine bW fun hc=>?_|refine aS (fun hc=>?_) fun hc=>?_|fail)
  all_goals exact⟨⟨false,fun h=>nomatch h⟩,rfl,aH⟩⟩
instance bAh{I:List Atom}{v0 v1:Value}{x:aQ}[h0:bK Int I v0 x.1][h1:bK cM I v1 x.2] :
  bQ prog 177 [.agg #[v0,v1]] I (True) (Value×{ q:List Int×Bool // q.2=true->q.1.length=x.1.length }) (fun q:Value×{ q:List Int×Bool // q.2=true->q.1.length=x.1.length }=>.tuple #[q.1,.bool q.2.1.2]) (fun q=>.ow [q.1] q.2.1.1::I):=⟨fun _ w0=>by
 refine cL (A:=fun q:Value×{ q:List Int×Bool // q.2=true->q.1.length=x.1.length }=>[.ow [q.1] q.2.1.1]) (fun w1=>?_) (aE h0 (aE h1 fI)) fun _=>inferInstance
 simp only[aA,aB]
 by_cases hok:eE x=true
 ·have hsa:=(eM.1 hok).1.1
  have hsg:=eC hsa
  refine aK func177 ntmps177 ?_
  repeat' (first|refine aU ?_|refine cV fun r hr=>?_|refine aW fun r=>?_|refine bG fun sv=>?_|refine bT fun b=>?_|refine bV fun hc=>?_|refine bW fun hc=>?_|refine aS (fun hc=>?_) fun hc=>?_|fail)
  ·exact⟨(sv,⟨([],false),fun h=>nomatch h⟩),rfl,aH⟩
  have hd0:uM ((List.range x.1.length).map Int.ofNat):=fun q hq=>by
   obtain ⟨y,hy,rfl⟩:=dT.1 hq
   have:=List.mem_range.1 hy
   simp only[Int.ofNat_eq_natCast];omega
  refine lp_ [4,5] [17,18,19,20,21,2,3,23,24,22,25,26,6,7,27,28] (Z:=Value×List Int×Bool) (fun k=>[k.1,.bool k.2.2]) (fun k=>[.ow [k.1] k.2.1]) (fun k=>k.2.2=true->k.2.1.length=x.1.length/\uM k.2.1) (fun k=>if k.2.2=true then 16 ^ x.1.length-lJ k.2.1+1 else 0) (r,(List.range x.1.length).map Int.ofNat,true) [.ow [r] ((List.range x.1.length).map Int.ofNat)] (fun _=>⟨by simp,hd0⟩) ?_
  intro ⟨sq,xs,mo⟩ u l' hl' hI
  simp only[bM,List.map,List.set] at hl'
  subst hl'
  simp only[aA,aB] at hI ⊢
  cases mo with
  | false=>
   repeat' (first|refine aU ?_|refine bG fun sv=>?_|fail)
   exact⟨(sv,⟨([],false),fun h=>nomatch h⟩),rfl,aH⟩
  | true=>
   obtain ⟨hxl,hxd⟩:=hI rfl
   repeat' (first|refine aU ?_|refine cV fun r hr=>?_|refine aW fun r=>?_|refine bV fun hc=>?_|refine bW fun hc=>?_|refine aS (fun hc=>?_) fun hc=>?_|fail)
   ·exact⟨(sq,⟨(xs,true),fun _=>hxl⟩),rfl,aH⟩
   ·have hv:r.2.1.2=true->lJ r.2.1.1<16 ^ x.1.length/\r.2.1.1.length=x.1.length/\uM r.2.1.1/\lJ xs<lJ r.2.1.1:=fun h=>by
     obtain ⟨h1,h2,h3,h4⟩:=r.2.2 h
     have hd:uM r.2.1.1:=fun q hq=>by have:=h2 q hq;omega
     have:=sD hd
     rw[h1.trans hxl] at this
     exact⟨this,h1.trans hxl,hd,h4⟩
    exact eB (r.1,r.2.1.1,r.2.1.2) (fun h=>⟨(hv h).2.1,(hv h).2.2.1⟩) (aPz fun h=>⟨(hv h).1,(hv h).2.2.2⟩)
 ·refine aK func177 ntmps177 ?_
  repeat' (first|refine aU ?_|refine cV fun r hr=>?_|refine aW fun r=>?_|refine bG fun sv=>?_|refine bT fun b=>?_|refine bV fun hc=>?_|refine bW fun hc=>?_|refine aS (fun hc=>?_) fun hc=>?_|fail)
  ·exact⟨(sv,⟨([],false),fun h=>nomatch h⟩),rfl,aH⟩
  ·exact absurd (by assumption) hok⟩
end Go.Proofs.YtajdgkpjbpindaaGreatDoor
