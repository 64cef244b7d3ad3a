/- Texts of the proof of FnNames. -/
import Derived.Test.YtajdgkpjbpindaaGreatDoorTbh
import Derived.Test.YtajdgkpjbpindaaGreatDoorTbk
set_option linter.unusedVariables false
set_option linter.unusedSimpArgs false
set_option linter.unusedSectionVars false
namespace Go.Proofs.YtajdgkpjbpindaaGreatDoor
open Go Go.Eng
set_option synthInstance.maxHeartbeats 400000
set_option synthInstance.maxSize 1000
set_option maxHeartbeats 2000000
set_option maxRecDepth 20000
def tx(a t:List Int):Nat->Nat->List UInt8
 | 0,_=>[]
 | f+1,p=>if t.getD p 0<0 then 120::fV (-1-t.getD p 0).toNat else
   102::fV (t.getD p 0).toNat++((List.range (hC a t p)).map fun i=>(if i=0 then 40 else 44)::tx a t f (fO a t (p+1) i)).flatten++(if hC a t p=0 then [] else [41])
theorem aO1{a t:List Int}(h:bB a t=true):∀ (f g p:Nat),p<t.length->t.length-p<=f->t.length-p<=g->tx a t f p=tx a t g p
 | 0,g,p,hp,hf,_=>by omega
 | f+1,0,p,hp,_,hg=>by omega
 | f+1,g+1,p,hp,hf,hg=>by
  unfold tx
  by_cases h0:t.getD p 0<0
  ·rw[if_pos h0,if_pos h0]
  ·rw[if_neg h0,if_neg h0]
   congr 2
   congr 1
   refine List.map_congr_left fun i hi=>?_
   have hi:=List.mem_range.1 hi
   have hk:=kQ h hp hi
   rw[aO1 h f g _ hk.2 (by omega) (by omega)]
def TX(a t:List Int)(p:Nat):List UInt8:=tx a t (t.length-p) p
def KX(a t:List Int)(p i:Nat):List UInt8:=((List.range i).map fun j=>(if j=0 then 40 else 44)::TX a t (fO a t (p+1) j)).flatten
theorem wL(a t:List Int)(p:Nat):KX a t p 0=[]:=rfl
theorem wE(a t:List Int)(p i:Nat):KX a t p (i+1)=KX a t p i++((if i=0 then 40 else 44)::TX a t (fO a t (p+1) i)):=by
 unfold KX;rw[List.range_succ,cG,List.flatten_append];simp
theorem aF4{a t:List Int}{p:Nat}(hp:p<t.length)(h0:t.getD p 0<0):TX a t p=120::fV (-1-t.getD p 0).toNat:=by
 unfold TX
 rw[show t.length-p=(t.length-p-1)+1 by omega]
 unfold tx
 rw[if_pos h0]
theorem aIc{a t:List Int}(h:bB a t=true){p:Nat}(hp:p<t.length)(h0:0<=t.getD p 0):TX a t p=102::fV (t.getD p 0).toNat++KX a t p (hC a t p)++(if hC a t p=0 then [] else [41]):=by
 unfold TX KX
 rw[show t.length-p=(t.length-p-1)+1 by omega]
 conv=>lhs;unfold tx
 rw[if_neg (by omega)]
 congr 2
 congr 1
 refine List.map_congr_left fun i hi=>?_
 have hi:=List.mem_range.1 hi
 have hk:=kQ h hp hi
 unfold TX
 rw[aO1 h (t.length-p-1) (t.length-fO a t (p+1) i) _ hk.2 (by omega) (by omega)]
theorem bD0{a t:List Int}(h:bB a t=true){p:Nat}(hp:p<t.length):∀ i,i<=hC a t p->p+1<=fO a t (p+1) i/\fO a t (p+1) i<=t.length
 | 0,_=>⟨aM _,hp⟩
 | i+1,hi=>by
  have h1:=kQ h hp (i:=i) (by omega)
  have h2:=(fN h h1.2).2
  show p+1<=fO a t (p+1) i+sz a t (fO a t (p+1) i)/\fO a t (p+1) i+sz a t (fO a t (p+1) i)<=t.length
  omega
theorem aYo{a t:List Int}(h:bB a t=true){p:Nat}(hp:p<t.length):fO a t (p+1) (hC a t p)=p+(eX a t p).length:=by
 have h1:=bD0 h hp (hC a t p) (aM _)
 have h2:=congrArg List.length (aBo h hp)
 rw[aF] at h2
 have h3:(oU a t p (hC a t p)).length=fO a t (p+1) (hC a t p)-(p+1):=by
  unfold oU
  rw[aN,aR]
  omega
 omega
theorem qO{a t:List Int}(h:bB a t=true):∀ (N p:Nat),p<t.length->t.length-p<=N->1<=(TX a t p).length/\(TX a t p).length<=8*(eX a t p).length
 | 0,p,hp,hN=>by omega
 | N+1,p,hp,hN=>by
  have hs:=aX (gL h hp)
  by_cases h0:t.getD p 0<0
  ·rw[aF4 hp h0]
   have:=(mC (-1-t.getD p 0).toNat).2
   simp only[aF]
   omega
  ·rw[aIc h hp (by omega)]
   have h1:=(mC (t.getD p 0).toNat).2
   have h3:=(pR h hp).1
   have hK:∀ i,i<=hC a t p->(KX a t p i).length<=i+8*(oU a t p i).length:=fun i=>by
    induction i with
    | zero=>intro _;simp [wL]
    | succ i ih=>
     intro hi
     have hk:=kQ h hp (i:=i) (by omega)
     have h5:=(qO h N (fO a t (p+1) i) hk.2 (by omega)).2
     have h6:=ih (by omega)
     rw[wE,xJ h hp (by omega)]
     simp only[aD,aF]
     omega
   have h7:=hK (hC a t p) (aM _)
   have h8:=congrArg List.length (aBo h hp)
   rw[aF] at h8
   have h9:(if hC a t p=0 then ([]:List UInt8) else [41]).length<=1:=by split<;>simp
   simp only[aD,aF]
   omega
theorem aM2{a t:List Int}(h:bB a t=true){p:Nat}(hp:p<t.length):∀ i,i<=hC a t p->(KX a t p i).length<=i*481
 | 0,_=>by simp [wL]
 | i+1,hi=>by
  have h1:=aM2 h hp i (by omega)
  have hk:=kQ h hp (i:=i) (by omega)
  have h2:=(qO h _ _ hk.2 (aM _)).2
  have h3:=aX (gL h hk.2)
  rw[wE]
  simp only[aD,aF]
  omega
theorem aAp(c:UInt8):({ data:=#[c] }:ByteArray)=S [c]:=rfl
end Go.Proofs.YtajdgkpjbpindaaGreatDoor
namespace Go.Proofs.YtajdgkpjbpindaaGreatDoor
open Go Go.Eng Tryz
set_option synthInstance.maxHeartbeats 400000
set_option synthInstance.maxSize 1000
set_option maxHeartbeats 2000000
set_option maxRecDepth 20000
structure TxC(a t:List Int)(p:Int)(m N:Nat):Prop where
 ok:bB a t=true
 hp:0<=p/\p<t.length
 hN:t.length<=m+N
theorem aIw(N:Nat):∀ {w0:World} {I:List Atom} {v vt:Value} {a t:List Int} {p:Int} {m:Nat} [hm:fJ p m] [h:bK Int I v a] [h1:bK Int I vt t] (hG:TxC a t p m N),
  CJ prog 70 [.agg #[v],vt,.int .i64 p] w0 I (fun _:Unit=>.string (S (TX a t m))) (fun _=>I):=by
 induction N with
 | zero=>
  intro w0 I v vt a t p m hm h h1 hG
  have:=hG.hN
  have:=hG.hp
  have:=hm.eq
  omega
 | succ N ih=>
  intro w0 I v vt a t p m hm h h1 hG
  haveI hI:∀ (I:List Atom) (v vt:Value) (a t:List Int) (p:Int) (m:Nat) [fJ p m] [bK Int I v a] [bK Int I vt t],bQ prog 70 [.agg #[v],vt,.int .i64 p] I (TxC a t p m N) Unit (fun _=>.string (S (TX a t m))) (fun _=>I):=fun I v vt a t p m _ _ _=>⟨fun hG w0=>ih hG⟩
  obtain ⟨hok,hp,hN⟩:=hG
  refine jV (fun w1=>?_) (aE h (aE h1 fI))
  obtain rfl:p=(m:Int):=by have:=hm.eq;omega
  have hpl:m<t.length:=by omega
  have htl:=aX hok
  have htm:=dY hok hpl
  have hsg:=eC (eI hok)
  have c1:({ data:=#[120] }:ByteArray).size=1:=rfl
  have c2:({ data:=#[102] }:ByteArray).size=1:=rfl
  have c3:({ data:=#[40] }:ByteArray).size=1:=rfl
  have c4:({ data:=#[44] }:ByteArray).size=1:=rfl
  have c5:({ data:=#[41] }:ByteArray).size=1:=rfl
  have n1:=mC (-1-t.getD m 0).toNat
  have n2:=eZ (fV (-1-t.getD m 0).toNat)
  have n3:=mC (t.getD m 0).toNat
  have n4:=eZ (fV (t.getD m 0).toNat)
  refine aK func70 ntmps70 ?_
  repeat' (first|refine aU ?_|refine eF fun hbi=>?_|refine bP ?_|refine aW fun r=>?_|refine bT fun b=>?_|refine bV fun hc=>?_|refine bW fun hc=>?_|refine aS (fun hc=>?_) fun hc=>?_|fail)
  ·refine⟨(),congrArg Value.string ?_,aH⟩
   rw[aF4 hpl (by omega),aAp,mG];rfl
  ·have h0:0<=t.getD m 0:=by omega
   have hn3:=(pR hok hpl).1
   have hla:=nS a t m (hC a t m)
   refine fC r ?_
   rw[show({ data:=#[102] }:ByteArray)++S (fV (t.getD m 0).toNat)=S (102::fV (t.getD m 0).toNat++KX a t m 0) by rw[aAp,mG,wL,cF];rfl]
   refine lc_ [7,9] [32,33,34,35,38,39,40,41,42,43,44,45,46,47,48,49,50,51,52,36,37] (Z:=Nat) (fun i=>[.string (S (102::fV (t.getD m 0).toNat++KX a t m i)),.int .i64 i]) (fun i=>i<=hC a t m) (fun i=>hC a t m-i) 0 (aI _) ?_
   intro i u l' hl' hi
   simp only[bM,List.map,List.set] at hl'
   subst hl'
   have hkl:=aM2 hok hpl i hi
   have hsz:=eZ (102::fV (t.getD m 0).toNat++KX a t m i)
   rw[aD,aF] at hsz
   by_cases hil:i<hC a t m
   ·have hga:=vN (a:=a) (t:=t) (k:=m) hil
    have hk:=kQ hok hpl hil
    have hG':TxC a t ((lL a t m (hC a t m)).getD i 0) ((lL a t m (hC a t m)).getD i 0).toNat N:=by
     rw[hga,bH]
     exact⟨hok,by omega,by omega⟩
    have htx:=(qO hok _ _ hk.2 (aM _)).2
    have hts:=aX (gL hok hk.2)
    have htz:(S (TX a t ((lL a t m (hC a t m)).getD i 0).toNat)).size<=480:=by rw[eZ,hga,bH];omega
    have hap:∀ x y:ByteArray,(x++y).size=x.size+y.size:=fun x y=>by simp [ByteArray.size_append]
    have ha1:=hap (S (102::fV (t.getD m 0).toNat++KX a t m i)) { data:=#[40] }
    have ha2:=hap (S (102::fV (t.getD m 0).toNat++KX a t m i)) { data:=#[44] }
    have hks:=wE a t m i
    repeat' (first|refine aU ?_|refine bP ?_|refine bV fun hc=>?_|refine bW fun hc=>?_|refine aS (fun hc=>?_) fun hc=>?_|refine aW fun r=>?_|refine wb 11 [] ?_|refine xf fun hbi=>?_|refine xp ?_|refine xy ?_|refine bI ?_|fail)
    ·rw[show S (102::fV (t.getD m 0).toNat++KX a t m i)++{ data:=#[40] }++S (TX a t ((lL a t m (hC a t m)).getD i 0).toNat)=S (102::fV (t.getD m 0).toNat++KX a t m (i+1)) by
      rw[hga,bH,hks,if_pos (by omega),aAp,mG,mG];simp]
     exact eB (i+1) (by omega)
    ·rw[show S (102::fV (t.getD m 0).toNat++KX a t m i)++{ data:=#[44] }++S (TX a t ((lL a t m (hC a t m)).getD i 0).toNat)=S (102::fV (t.getD m 0).toNat++KX a t m (i+1)) by
      rw[hga,bH,hks,if_neg (by omega),aAp,mG,mG];simp]
     exact eB (i+1) (by omega)
   ·obtain rfl:i=hC a t m:=by omega
    have hall:=aIc hok hpl h0
    repeat' (first|refine aU ?_|refine bP ?_|refine bV fun hc=>?_|refine bW fun hc=>?_|refine aS (fun hc=>?_) fun hc=>?_|fail)
    ·refine⟨(),congrArg Value.string ?_,aH⟩
     rw[hall,if_neg (by omega),aAp,mG]
    ·refine⟨(),congrArg Value.string ?_,aH⟩
     rw[hall,if_pos (by omega),cF]
theorem aFe{w0:World}{I:List Atom}{v vt:Value}{a t:List Int}{p:Int}{m:Nat}[hm:fJ p m][h:bK Int I v a][h1:bK Int I vt t](hG:bB a t=true)(hp:0<=p/\p<t.length) :
  CJ prog 70 [.agg #[v],vt,.int .i64 p] w0 I (fun _:Unit=>.string (S (TX a t m))) (fun _=>I):=by
 exact aIw t.length ⟨hG,hp,by omega⟩
instance bGb{I:List Atom}{v vt:Value}{a t:List Int}{p:Int}{m:Nat}[hm:fJ p m][h:bK Int I v a][h1:bK Int I vt t] :
  bQ prog 70 [.agg #[v],vt,.int .i64 p] I ((bB a t=true)/\(0<=p/\p<t.length)) (Unit) (fun _:Unit=>.string (S (TX a t m))) (fun _=>I):=⟨fun s w0=>aFe s.1 s.2⟩
def TT(a t:List Int):List UInt8:=if bB a t=true then TX a t 0 else []
theorem aHj(a t:List Int):(TT a t).length<=480:=by
 unfold TT
 split
 ·rename_i h
  have hl:=aX h
  have h1:=(qO h _ 0 (by omega) (aM _)).2
  have h2:=aX (gL h (k:=0) (by omega))
  omega
 ·simp
instance aQb{I:List Atom}{v vt:Value}{a t:List Int}[h:bK Int I v a][h1:bK Int I vt t] :
  bQ prog 39 [.agg #[v],vt] I True Unit (fun _:Unit=>.string (S (TT a t))) (fun _=>I):=⟨fun _ w0=>by
 refine jV (fun w1=>?_) (aE h (aE h1 fI))
 refine aK func39 ntmps39 ?_
 repeat' (first|refine aU ?_|refine aW fun r=>?_|refine bT fun b=>?_|refine bV fun hc=>?_|refine bW fun hc=>?_|refine aS (fun hc=>?_) fun hc=>?_|fail)
 ·rw[show TT a t=[] from if_neg (by rw[hc];simp)]
  exact⟨(),rfl,aH⟩
 ·have hl:=aX hc
  repeat' (first|refine aU ?_|refine aW fun r=>?_|fail)
  rw[show TT a t=TX a t 0 from if_pos hc]
  exact⟨(),rfl,aH⟩⟩
structure TxD(a t:List Int)(p:Int)(m N:Nat)(bs:List UInt8)(pv:Value)(b:Nat):Prop where
 ok:bB a t=true
 hp:0<=p/\p<t.length
 hN:t.length<=m+N
 hb:bs.length+2000*N<=1000000000
 hv:pv=.pointer none∨pv=.pointer (some ⟨b,0,none⟩)
theorem aGw(N:Nat):∀ {w0:World} {I Δ1 Y:List Atom} {b:Nat} {pv bv v vt:Value} {a t:List Int} {p:Int} {m:Nat} {bs:List UInt8} [hm:fJ p m] [h0:iV I b tB [pv,bv] Δ1] [h2:cQ (gP t8) eY Δ1 [bv] (gP.mk bs) Y] [h:bK Int Y v a] [h1:bK Int Y vt t] (hG:TxD a t p m N bs pv b),
  CJ prog 65 [.pointer (some ⟨b,0,none⟩),.agg #[v],vt,.int .i64 p] w0 I (fun q:Value=>.int .i64 ((m+(eX a t m).length:Nat):Int)) (fun q=>@Atom.ow (TB tB) jJ [.pointer (some ⟨b,0,none⟩)] (TB.mk [.pointer (some ⟨b,0,none⟩),q])::@Atom.ow (gP t8) eY [q] (gP.mk (bs++TX a t m))::Y):=by
 induction N with
 | zero=>
  intro w0 I Δ1 Y b pv bv v vt a t p m bs hm h0 h2 h h1 hG
  have:=hG.hN
  have:=hG.hp
  have:=hm.eq
  omega
 | succ N ih=>
  intro w0 I Δ1 Y bb pv bv v vt a t p m bs hm h0 h2 h h1 hG
  haveI hI:∀ (I Δ1 Y:List Atom) (b:Nat) (pv bv v vt:Value) (a t:List Int) (p:Int) (m:Nat) (bs:List UInt8) [fJ p m] [iV I b tB [pv,bv] Δ1] [cQ (gP t8) eY Δ1 [bv] (gP.mk bs) Y] [bK Int Y v a] [bK Int Y vt t],bQ prog 65 [.pointer (some ⟨b,0,none⟩),.agg #[v],vt,.int .i64 p] I (TxD a t p m N bs pv b) Value (fun q=>.int .i64 ((m+(eX a t m).length:Nat):Int)) (fun q=>@Atom.ow (TB tB) jJ [.pointer (some ⟨b,0,none⟩)] (TB.mk [.pointer (some ⟨b,0,none⟩),q])::@Atom.ow (gP t8) eY [q] (gP.mk (bs++TX a t m))::Y):=fun I Δ1 Y b pv bv v vt a t p m bs _ _ _ _ _=>⟨fun hG w0=>ih hG⟩
  refine eN (h0.perm.trans (h2.perm.cons _)) ?_
  obtain ⟨hok,hp,hN,hb,hv⟩:=hG
  obtain rfl:p=(m:Int):=by have:=hm.eq;omega
  have hpl:m<t.length:=by omega
  have htl:=aX hok
  have htm:=dY hok hpl
  have hsg:=eC (eI hok)
  have c1:({ data:=#[120] }:ByteArray).size=1:=rfl
  have c2:({ data:=#[102] }:ByteArray).size=1:=rfl
  have n1:=mC (-1-t.getD m 0).toNat
  have n2:=eZ (fV (-1-t.getD m 0).toNat)
  have n3:=mC (t.getD m 0).toNat
  have n4:=eZ (fV (t.getD m 0).toNat)
  have hap:∀ x y:ByteArray,(x++y).size=x.size+y.size:=fun x y=>by simp [ByteArray.size_append]
  have ha1:=hap { data:=#[120] } (S (fV (-1-t.getD m 0).toNat))
  have ha2:=hap { data:=#[102] } (S (fV (t.getD m 0).toNat))
  have hself:(Value.pointer (some ⟨bb,0,none⟩)=.pointer none∨Value.pointer (some ⟨bb,0,none⟩)=.pointer (some ⟨bb,0,none⟩)):=.inr rfl
  refine aK func65 ntmps65 ?_
  have hend:=aYo hok hpl
  have har:0<=t.getD m 0->a.getD (t.getD m 0).toNat 0=((hC a t m:Nat):Int):=fun h=>by
   have:=(pR hok hpl).2.1
   unfold ar at this
   rw[if_neg (by omega)] at this
   exact this
  repeat' (first|refine aU ?_|refine eF fun hbi=>?_|refine bP ?_|refine aW fun r=>?_|refine bT fun b=>?_|refine bV fun hc=>?_|refine bW fun hc=>?_|refine aS (fun hc=>?_) fun hc=>?_|fail)
  ·have hz:hC a t m=0:=by unfold hC;rw[xR (by omega)];rfl
   have hs1:(eX a t m).length=1:=by
    rw[hz] at hend
    have:fO a t (m+1) 0=m+1:=rfl
    omega
   rw[aAp,mG,aXn,hs1,aF4 hpl (by omega),show[120]++fV (-1-t.getD m 0).toNat=120::fV (-1-t.getD m 0).toNat from rfl]
   exact⟨r,rfl,aH⟩
  ·have h0:0<=t.getD m 0:=by omega
   have hn3:=(pR hok hpl).1
   rw[aAp,mG,aXn,har h0]
   refine bD [3,37] [38,39,10,40,41,42,43,44,45,46,47,48,49,50,51] (Z:=Nat×Value) (fun i=>[.int .i64 ((fO a t (m+1) i.1:Nat):Int),.int .i64 i.1]) (fun i=>[@Atom.ow (TB tB) jJ [.pointer (some ⟨bb,0,none⟩)] (TB.mk [.pointer (some ⟨bb,0,none⟩),i.2]),@Atom.ow (gP t8) eY [i.2] (gP.mk (bs++(102::fV (t.getD m 0).toNat++KX a t m i.1)))]) (fun i=>i.1<=hC a t m) (fun i=>hC a t m-i.1) (0,r) [@Atom.ow (TB tB) jJ [.pointer (some ⟨bb,0,none⟩)] (TB.mk [.pointer (some ⟨bb,0,none⟩),r]),@Atom.ow (gP t8) eY [r] (gP.mk (bs++([102]++fV (t.getD m 0).toNat)))] (by kernel_rfl) (aI _) (by simp [wL]) ?_
   intro ⟨i,q⟩ u l' hl' hi
   simp only[bM,List.map,List.set] at hl'
   subst hl'
   simp only[aA,aB] at hi ⊢
   have hkl:=aM2 hok hpl i hi
   have hlen:(bs++102::(fV (t.getD m 0).toNat++KX a t m i)).length=bs.length+((fV (t.getD m 0).toNat).length+1+(KX a t m i).length):=by simp only[aD,aF];omega
   by_cases hil:i<hC a t m
   ·have hk:=kQ hok hpl hil
    have hks:=wE a t m i
    have hsz:=mD hok hk.2
    have hG40:TxD a t ((fO a t (m+1) i:Nat):Int) (fO a t (m+1) i) N (bs++102::(fV (t.getD m 0).toNat++KX a t m i)++[UInt8.ofNat (40:Int).toNat]) (.pointer (some ⟨bb,0,none⟩)) bb:=⟨hok,by omega,by omega,by rw[aD,hlen,aJ];omega,.inr rfl⟩
    have hG44:TxD a t ((fO a t (m+1) i:Nat):Int) (fO a t (m+1) i) N (bs++102::(fV (t.getD m 0).toNat++KX a t m i)++[UInt8.ofNat (44:Int).toNat]) (.pointer (some ⟨bb,0,none⟩)) bb:=⟨hok,by omega,by omega,by rw[aD,hlen,aJ];omega,.inr rfl⟩
    repeat' (first|refine aU ?_|refine bP ?_|refine aW fun r=>?_|refine bV fun hc=>?_|refine bW fun hc=>?_|refine aS (fun hc=>?_) fun hc=>?_|fail)
    ·rw[show bs++102::(fV (t.getD m 0).toNat++KX a t m i)++[UInt8.ofNat (Int.toNat 40)]++TX a t (fO a t (m+1) i)=bs++102::(fV (t.getD m 0).toNat++KX a t m (i+1)) by
      rw[hks,if_pos (by omega),show UInt8.ofNat (Int.toNat 40)=40 from rfl];simp,hsz]
     exact eB (i+1,r) (by show i+1<=hC a t m;omega) (by show hC a t m-(i+1)<hC a t m-i;omega)
    ·rw[show bs++102::(fV (t.getD m 0).toNat++KX a t m i)++[UInt8.ofNat (Int.toNat 44)]++TX a t (fO a t (m+1) i)=bs++102::(fV (t.getD m 0).toNat++KX a t m (i+1)) by
      rw[hks,if_neg (by omega),show UInt8.ofNat (Int.toNat 44)=44 from rfl];simp,hsz]
     exact eB (i+1,r) (by show i+1<=hC a t m;omega) (by show hC a t m-(i+1)<hC a t m-i;omega)
   ·obtain rfl:i=hC a t m:=by omega
    have hall:=aIc hok hpl h0
    have har0:=har h0
    repeat' (first|refine aU ?_|refine eF fun hbi=>?_|refine bP ?_|refine aW fun r=>?_|refine bV fun hc=>?_|refine bW fun hc=>?_|refine aS (fun hc=>?_) fun hc=>?_|fail)
    ·rw[hend,show bs++102::(fV (t.getD m 0).toNat++KX a t m (hC a t m))++[UInt8.ofNat (Int.toNat 41)]=bs++TX a t m by
      rw[hall,if_neg (by omega),show UInt8.ofNat (Int.toNat 41)=41 from rfl];simp]
     exact⟨r,rfl,aH⟩
    ·rw[hend,show bs++102::(fV (t.getD m 0).toNat++KX a t m (hC a t m))=bs++TX a t m by
      rw[hall,if_pos (by omega)];simp]
     exact⟨q,rfl,aH⟩
instance bC9{I Δ1 Y:List Atom}{b:Nat}{pv bv v vt:Value}{a t:List Int}{p:Int}{m:Nat}{bs:List UInt8}[hm:fJ p m][h0:iV I b tB [pv,bv] Δ1][h2:cQ (gP t8) eY Δ1 [bv] (gP.mk bs) Y][h:bK Int Y v a][h1:bK Int Y vt t] :
  bQ prog 65 [.pointer (some ⟨b,0,none⟩),.agg #[v],vt,.int .i64 p] I (TxD a t p m t.length bs pv b) (Value) (fun q:Value=>.int .i64 ((m+(eX a t m).length:Nat):Int)) (fun q=>@Atom.ow (TB tB) jJ [.pointer (some ⟨b,0,none⟩)] (TB.mk [.pointer (some ⟨b,0,none⟩),q])::@Atom.ow (gP t8) eY [q] (gP.mk (bs++TX a t m))::Y):=⟨fun hG w0=>by
 exact aGw t.length hG⟩
theorem aQ3{P:Program}{ops:Array Oper}{Q:Exit->Act->World->Prop}{w0:World}{rest:List Oper}{l:List Value}{I:List Atom}(h:WL P ops Q w0 rest l (@Atom.ow (gP t8) eY [.slice none 0 0] (gP.mk [])::I)):WL P ops Q w0 rest l I:=fun w hs=>by
 obtain ⟨hb,F,hnd,hl,hsep⟩:=hs
 exact h w ⟨hb,F,hnd,hl,[],F,rfl,.inl ⟨rfl,rfl,rfl⟩,hsep⟩
theorem aD7{w0:World}{I:List Atom}{v vt:Value}{a t:List Int}[h:bK Int I v a][h1:bK Int I vt t](hok:bB a t=true) :
  CJ prog 35 [.agg #[v],vt] w0 I (fun _:Unit=>.string (S (TX a t 0))) (fun _=>I):=by
 refine jV (fun w1=>?_) (aE h (aE h1 fI))
 have htl:=aX hok
 have hlen:=qO hok _ 0 (by omega) (aM _)
 have hG:∀ b,TxD a t 0 0 t.length [] (.pointer none) b:=fun b=>⟨hok,by omega,by omega,by show 0+2000*t.length<=_;omega,.inl rfl⟩
 refine aK func35 ntmps35 ?_
 repeat' (first|refine aU ?_|refine bT fun b=>?_|fail)
 rename_i b
 have hG':=hG b
 refine aQ3 ?_
 repeat' (first|refine aU ?_|refine aW fun r=>?_|fail)
 exact⟨(),rfl,aH⟩
instance bOz{I:List Atom}{v vt:Value}{a t:List Int}[h:bK Int I v a][h1:bK Int I vt t] :
  bQ prog 35 [.agg #[v],vt] I (bB a t=true) (Unit) (fun _:Unit=>.string (S (TX a t 0))) (fun _=>I):=⟨fun s w0=>aD7 s⟩
instance aP3{I:List Atom}{v vt:Value}{a t:List Int}[h:bK Int I v a][h1:bK Int I vt t] :
  bQ prog 38 [.agg #[v],vt] I True Unit (fun _:Unit=>.string (S (TT a t))) (fun _=>I):=⟨fun _ w0=>by
 refine jV (fun w1=>?_) (aE h (aE h1 fI))
 refine aK func38 ntmps38 ?_
 repeat' (first|refine aU ?_|refine aW fun r=>?_|refine bT fun b=>?_|refine bV fun hc=>?_|refine bW fun hc=>?_|refine aS (fun hc=>?_) fun hc=>?_|fail)
 ·rw[show TT a t=[] from if_neg (by rw[hc];simp)]
  exact⟨(),rfl,aH⟩
 ·rw[show TT a t=TX a t 0 from if_pos hc]
  exact⟨(),rfl,aH⟩⟩
def aRh(k:Int)(A B:ByteArray):ByteArray:=
 if k=3 then ({ data:=#[101,97,99,104,32,119,97,108,107,32,101,110,100,115] }:ByteArray) else if k=5 then ({ data:=#[111,110,101,32,111,117,116,99,111,109,101] }:ByteArray) else
 if A={ data:=#[] } then { data:=#[] } else
 if k=4 then ({ data:=#[102,114,111,109,32] }:ByteArray)++A++({ data:=#[32,97,32,119,97,108,107,32,103,111,101,115,32,111,110] }:ByteArray) else if k=6 then ({ data:=#[102,114,111,109,32] }:ByteArray)++A++({ data:=#[32,116,119,111,32,111,117,116,99,111,109,101,115] }:ByteArray) else
 if B={ data:=#[] } then { data:=#[] } else
 if k=1 then A++({ data:=#[32,119,97,108,107,115,32,116,111,32] }:ByteArray)++B++({ data:=#[44,32,110,111,114,109,97,108] }:ByteArray) else if k=2 then A++({ data:=#[32,97,110,100,32] }:ByteArray)++B++({ data:=#[32,106,111,105,110] }:ByteArray) else if k=7 then A++({ data:=#[32,97,110,100,32] }:ByteArray)++B++({ data:=#[32,97,114,101,32,117,110,101,113,117,97,108] }:ByteArray) else if k=8 then A++({ data:=#[32,97,110,100,32] }:ByteArray)++B++({ data:=#[32,97,114,101,32,101,113,117,97,108] }:ByteArray) else { data:=#[] }
instance aMi{I:List Atom}{v vt vs:Value}{a t s:List Int}{k:Int}[h:bK Int I v a][h1:bK Int I vt t][h2:bK Int I vs s] :
  bQ prog 13 [.agg #[v],.agg #[.int .i64 k,vt,vs]] I (-9223372036854775808<=k/\k<=9223372036854775807) (Unit) (fun _:Unit=>.string (aRh k (S (TT a t)) (S (TT a s)))) (fun _=>I):=⟨fun hk w0=>by
 refine jV (fun w1=>?_) (aE h (aE h1 (aE h2 fI)))
 have ha:=aHj a t
 have hb:=aHj a s
 have sa:=eZ (TT a t)
 have sb:=eZ (TT a s)
 have c0:({ data:=#[32,119,97,108,107,115,32,116,111,32] }:ByteArray).size=10:=rfl
 have c1:({ data:=#[44,32,110,111,114,109,97,108] }:ByteArray).size=8:=rfl
 have c2:({ data:=#[32,97,110,100,32] }:ByteArray).size=5:=rfl
 have c3:({ data:=#[32,106,111,105,110] }:ByteArray).size=5:=rfl
 have c4:({ data:=#[101,97,99,104,32,119,97,108,107,32,101,110,100,115] }:ByteArray).size=14:=rfl
 have c5:({ data:=#[102,114,111,109,32] }:ByteArray).size=5:=rfl
 have c6:({ data:=#[32,97,32,119,97,108,107,32,103,111,101,115,32,111,110] }:ByteArray).size=15:=rfl
 have c7:({ data:=#[111,110,101,32,111,117,116,99,111,109,101] }:ByteArray).size=11:=rfl
 have c8:({ data:=#[32,116,119,111,32,111,117,116,99,111,109,101,115] }:ByteArray).size=13:=rfl
 have c9:({ data:=#[32,97,114,101,32,117,110,101,113,117,97,108] }:ByteArray).size=12:=rfl
 have c10:({ data:=#[32,97,114,101,32,101,113,117,97,108] }:ByteArray).size=10:=rfl
 have hap:∀ x y:ByteArray,(x++y).size=x.size+y.size:=fun x y=>by simp [ByteArray.size_append]
 have ap1:=hap (S (TT a t)) ({ data:=#[32,119,97,108,107,115,32,116,111,32] }:ByteArray)
 have ap2:=hap (S (TT a t)) ({ data:=#[32,97,110,100,32] }:ByteArray)
 have ap3:=hap ({ data:=#[102,114,111,109,32] }:ByteArray) (S (TT a t))
 have ap4:=hap (S (TT a t)++({ data:=#[32,119,97,108,107,115,32,116,111,32] }:ByteArray)) (S (TT a s))
 have ap5:=hap (S (TT a t)++({ data:=#[32,97,110,100,32] }:ByteArray)) (S (TT a s))
 clear hap
 refine aK func13 ntmps13 ?_
 repeat' (first|refine aU ?_|refine bP ?_|refine aW fun r=>?_|refine bT fun b=>?_|refine bV fun hc=>?_|refine bW fun hc=>?_|refine aS (fun hc=>?_) fun hc=>?_|fail)
 all_goals refine⟨(),congrArg Value.string ?_,aH⟩
 all_goals unfold aRh
 all_goals (repeat' split)<;>first|with_reducible rfl|contradiction|(exfalso;omega)⟩
instance aMb{I:List Atom}{v vt vs:Value}{a t s:List Int}{k:Int}[h:bK Int I v a][h1:bK Int I vt t][h2:bK Int I vs s] :
  bQ prog 12 [.agg #[v],.agg #[.int .i64 k,vt,vs]] I (-9223372036854775808<=k/\k<=9223372036854775807) (Unit) (fun _:Unit=>.string (aRh k (S (TT a t)) (S (TT a s)))) (fun _=>I):=⟨fun hk w0=>by
 refine jV (fun w1=>?_) (aE h (aE h1 (aE h2 fI)))
 have ha:=aHj a t
 have hb:=aHj a s
 have sa:=eZ (TT a t)
 have sb:=eZ (TT a s)
 have c0:({ data:=#[32,119,97,108,107,115,32,116,111,32] }:ByteArray).size=10:=rfl
 have c1:({ data:=#[44,32,110,111,114,109,97,108] }:ByteArray).size=8:=rfl
 have c2:({ data:=#[32,97,110,100,32] }:ByteArray).size=5:=rfl
 have c3:({ data:=#[32,106,111,105,110] }:ByteArray).size=5:=rfl
 have c4:({ data:=#[101,97,99,104,32,119,97,108,107,32,101,110,100,115] }:ByteArray).size=14:=rfl
 have c5:({ data:=#[102,114,111,109,32] }:ByteArray).size=5:=rfl
 have c6:({ data:=#[32,97,32,119,97,108,107,32,103,111,101,115,32,111,110] }:ByteArray).size=15:=rfl
 have c7:({ data:=#[111,110,101,32,111,117,116,99,111,109,101] }:ByteArray).size=11:=rfl
 have c8:({ data:=#[32,116,119,111,32,111,117,116,99,111,109,101,115] }:ByteArray).size=13:=rfl
 have c9:({ data:=#[32,97,114,101,32,117,110,101,113,117,97,108] }:ByteArray).size=12:=rfl
 have c10:({ data:=#[32,97,114,101,32,101,113,117,97,108] }:ByteArray).size=10:=rfl
 have hap:∀ x y:ByteArray,(x++y).size=x.size+y.size:=fun x y=>by simp [ByteArray.size_append]
 have ap1:=hap (S (TT a t)) ({ data:=#[32,119,97,108,107,115,32,116,111,32] }:ByteArray)
 have ap2:=hap (S (TT a t)) ({ data:=#[32,97,110,100,32] }:ByteArray)
 have ap3:=hap ({ data:=#[102,114,111,109,32] }:ByteArray) (S (TT a t))
 have ap4:=hap (S (TT a t)++({ data:=#[32,119,97,108,107,115,32,116,111,32] }:ByteArray)) (S (TT a s))
 have ap5:=hap (S (TT a t)++({ data:=#[32,97,110,100,32] }:ByteArray)) (S (TT a s))
 clear hap
 refine aK func12 ntmps12 ?_
 repeat' (first|refine aU ?_|refine bP ?_|refine bT fun b=>?_|refine bV fun hc=>?_|refine bW fun hc=>?_|refine aS (fun hc=>?_) fun hc=>?_|refine aW fun r=>?_|refine wb 1 [] ?_|refine xp ?_|refine xy ?_|refine bI ?_|fail)
 all_goals refine⟨(),congrArg Value.string ?_,aH⟩
 all_goals unfold aRh
 all_goals (repeat' split)<;>first|with_reducible rfl|contradiction|(exfalso;omega)⟩
end Go.Proofs.YtajdgkpjbpindaaGreatDoor
