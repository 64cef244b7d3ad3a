/- Texts of the proof of FnNames. -/
import Derived.Test.YtajdgkpjbpindaaGreatDoorTbl
import Derived.Test.YtajdgkpjbpindaaGreatDoorTbi
set_option linter.unusedVariables false
set_option linter.unusedSimpArgs false
set_option linter.unusedSectionVars false
namespace Go.Proofs.YtajdgkpjbpindaaGreatDoor
open Go Go.Eng Tryz
set_option synthInstance.maxHeartbeats 400000
set_option synthInstance.maxSize 1000
set_option maxHeartbeats 2000000
set_option maxRecDepth 20000
def gN(c:UInt8):Prop:=48<=c.toNat/\c.toNat<=57
instance {c:UInt8}:Decidable (gN c):=by unfold gN;infer_instance
def pnV(l:List UInt8):Nat->Nat
 | 0=>0
 | k+1=>10*pnV l k+((l.getD k 0).toNat-48)
def aE0(l:List UInt8)(k:Nat):Prop:=∀ i,i<k->gN (l.getD i 0)
instance {l:List UInt8}{k:Nat}:Decidable (aE0 l k):=by unfold aE0;infer_instance
def PnP(l:List UInt8):Prop:=(1<=l.length/\l.length<=9/\¬ (1<l.length/\(l.getD 0 0).toNat=48))/\aE0 l l.length
instance {l:List UInt8}:Decidable (PnP l):=by unfold PnP;infer_instance
def nO(l:List UInt8):Int:=if PnP l then (pnV l l.length:Int) else 0
theorem aF0(l:List UInt8):∀ k,aE0 l k->pnV l k<10 ^ k
 | 0,_=>by simp [pnV]
 | k+1,h=>by
  have h1:=aF0 l k (fun i hi=>h i (by omega))
  have h2:=h k (by omega)
  unfold gN at h2
  show 10*pnV l k+((l.getD k 0).toNat-48)<10 ^ (k+1)
  rw[Nat.pow_succ];omega
instance bDp{I:List Atom}{s:ByteArray} :
  bQ prog 85 [.string s] I True Unit (fun _:Unit=>.tuple #[.int .i64 (nO s.data.toList),.bool (decide (PnP s.data.toList))]) (fun _=>I):=⟨fun _ w0=>by
 have hll:s.data.toList.length=s.size:=bZ
 have hno:¬ (1<=s.data.toList.length/\s.data.toList.length<=9/\¬ (1<s.data.toList.length/\(s.data.toList.getD 0 0).toNat=48))->¬ PnP s.data.toList:=fun h h2=>h h2.1
 refine aK func85 ntmps85 ?_
 repeat' (first|refine aU ?_|refine bP ?_|refine bV fun hc=>?_|refine bW fun hc=>?_|refine aS (fun hc=>?_) fun hc=>?_|fail)
 all_goals first
  | (
    refine⟨(),?_,aH⟩
    have hn:¬ PnP s.data.toList:=hno (by omega)
    rw[nO,if_neg hn,decide_eq_false hn])
  | skip
 all_goals
  have hgd:1<=s.data.toList.length/\s.data.toList.length<=9/\¬ (1<s.data.toList.length/\(s.data.toList.getD 0 0).toNat=48):=by omega
  refine lc_ [4,26] [27,28,5,29,30,31,32,33,34,35,36,37,38,2,3,39,40,41,42,43,44,45,46,47] (Z:=Nat) (fun k=>[.int .i64 (pnV s.data.toList k),.int .i64 k]) (fun k=>k<=s.size/\aE0 s.data.toList k) (fun k=>s.size-k) 0 ⟨aI _,fun i hi=>by omega⟩ ?_
  intro k u l' hl' ⟨hk,hd⟩
  simp only[bM,List.map,List.set] at hl'
  subst hl'
  have hv:=aF0 s.data.toList k hd
  have hp:10 ^ k<=10 ^ 9:=Nat.pow_le_pow_right (by decide) (by omega)
  have hv2:pnV s.data.toList k<1000000000:=Nat.lt_of_lt_of_le hv hp
  have h48:(UInt8.ofNat (48:Int).toNat)=48:=rfl
  have hsb:k<s.size->gN (s.data.toList.getD k 0)->((s.data.toList.getD k 0-UInt8.ofNat (48:Int).toNat).toNat:Int)=(s.data.toList.getD k 0).toNat-48:=fun _ h=>wY ⟨by decide,by unfold gN at h;omega⟩
  have hc256:(s.data.toList.getD k 0-UInt8.ofNat (48:Int).toNat).toNat<256:=UInt8.toNat_lt _
  repeat' (first|refine aU ?_|refine bP ?_|refine bV fun hc=>?_|refine bW fun hc=>?_|refine aS (fun hc=>?_) fun hc=>?_|fail)
  ·have hn:¬ PnP s.data.toList:=fun h=>by have:=h.2 k (by omega);unfold gN at this;omega
   exact⟨(),by rw[nO,if_neg hn,decide_eq_false hn],aH⟩
  ·have hn:¬ PnP s.data.toList:=fun h=>by have:=h.2 k (by omega);unfold gN at this;omega
   exact⟨(),by rw[nO,if_neg hn,decide_eq_false hn],aH⟩
  ·have hdk:gN (s.data.toList.getD k 0):=by unfold gN;omega
   have hsk:=hsb (by omega) hdk
   have hpk:((10:Int)*(pnV s.data.toList k:Int)+((s.data.toList.getD k 0-UInt8.ofNat (48:Int).toNat).toNat:Int))=((pnV s.data.toList (k+1):Nat):Int):=by
    rw[hsk]
    show _=((10*pnV s.data.toList k+((s.data.toList.getD k 0).toNat-48):Nat):Int)
    omega
   rw[hpk]
   exact dH (k+1) ⟨by omega,fun i hi=>by
    by_cases he:i=k
    ·rw[he];exact hdk
    ·exact hd i (by omega)⟩ (by omega) (by kernel_rfl) aH
  ·have hy:PnP s.data.toList:=⟨hgd,by rw[hll,show s.size=k by omega];exact hd⟩
   exact⟨(),by rw[nO,if_pos hy,decide_eq_true hy,hll,show s.size=k by omega],aH⟩⟩
theorem aG0(l:List UInt8):0<=nO l/\nO l<1000000000:=by
 unfold nO
 split
 ·rename_i h
  have h1:=aF0 l l.length h.2
  have hp:10 ^ l.length<=10 ^ 9:=Nat.pow_le_pow_right (by decide) h.1.2.1
  omega
 ·omega
def aGb(l:List UInt8):Nat->Nat->Nat
 | 0,j=>j
 | f+1,j=>if j<l.length/\gN (l.getD j 0) then aGb l f (j+1) else j
theorem oK(l:List UInt8):∀ f j,j<=aGb l f j
 | 0,j=>aM _
 | f+1,j=>by
  unfold aGb
  split
  ·have:=oK l f (j+1);omega
  ·exact aM _
theorem rX{l:List UInt8}{j:Nat}(h:j<l.length)(hd:gN (l.getD j 0)):aGb l (l.length-j) j=aGb l (l.length-(j+1)) (j+1):=by
 rw[show l.length-j=(l.length-(j+1))+1 by omega]
 rw[aGb,if_pos ⟨h,hd⟩]
theorem sF{l:List UInt8}{j:Nat}(h:¬ (j<l.length/\gN (l.getD j 0))):aGb l (l.length-j) j=j:=by
 by_cases h2:l.length-j=0
 ·rw[h2];rfl
 ·rw[show l.length-j=(l.length-(j+1))+1 by omega,aGb,if_neg h]
abbrev qL(l:List UInt8)(j:Nat):Nat:=aGb l (l.length-j) j
def mY(c:UInt8):Prop:=c.toNat=40∨c.toNat=44∨c.toNat=41
instance {c:UInt8}:Decidable (mY c):=by unfold mY;infer_instance
def psW(l:List UInt8)(i:Nat):List UInt8:=(l.drop (i+1)).take (qL l (i+1)-(i+1))
def psO(l:List UInt8)(i:Nat):Prop:=PnP (psW l i)/\((l.getD i 0).toNat=120∨(l.getD i 0).toNat=102)
instance {l:List UInt8}{i:Nat}:Decidable (psO l i):=by unfold psO;infer_instance
def psN(l:List UInt8)(i:Nat):Int:=if (l.getD i 0).toNat=120 then -1-nO (psW l i) else nO (psW l i)
def psT(l:List UInt8):Nat->Nat->List Int->Option (List Int)
 | 0,_,t=>some t
 | f+1,i,t=>if i<l.length then (if mY (l.getD i 0) then psT l f (i+1) t else if psO l i then psT l f (qL l (i+1)) (t++[psN l i]) else none) else some t
theorem aAd(l:List UInt8):∀ (f g i:Nat) (t:List Int),l.length-i<=f->l.length-i<=g->psT l f i t=psT l g i t
 | 0,0,i,t,_,_=>rfl
 | 0,g+1,i,t,h,_=>by
  rw[psT,psT,if_neg (by omega)]
 | f+1,0,i,t,_,h=>by
  rw[psT,psT,if_neg (by omega)]
 | f+1,g+1,i,t,hf,hg=>by
  have hge:i+1<=qL l (i+1):=oK l (l.length-(i+1)) (i+1)
  unfold psT
  split
  ·split
   ·exact aAd l f g (i+1) t (by omega) (by omega)
   ·split
    ·exact aAd l f g _ _ (by omega) (by omega)
    ·rfl
  ·rfl
abbrev ps0(l:List UInt8)(i:Nat)(t:List Int):Option (List Int):=psT l (l.length-i) i t
theorem bIb{l:List UInt8}{i:Nat}{t:List Int}(h:i<l.length)(hp:mY (l.getD i 0)):ps0 l i t=ps0 l (i+1) t:=by
 unfold ps0
 rw[show l.length-i=(l.length-(i+1))+1 by omega,psT,if_pos h,if_pos hp]
theorem aL5{l:List UInt8}{i:Nat}{t:List Int}(h:i<l.length)(hp:¬ mY (l.getD i 0))(ho:psO l i):ps0 l i t=ps0 l (qL l (i+1)) (t++[psN l i]):=by
 have hge:i+1<=qL l (i+1):=oK l (l.length-(i+1)) (i+1)
 unfold ps0
 rw[show l.length-i=(l.length-(i+1))+1 by omega,psT,if_pos h,if_neg hp,if_pos ho]
 exact aAd _ _ _ _ _ (by omega) (by omega)
theorem bN8{l:List UInt8}{i:Nat}{t:List Int}(h:i<l.length)(hp:¬ mY (l.getD i 0))(ho:¬ psO l i):ps0 l i t=none:=by
 unfold ps0
 rw[show l.length-i=(l.length-(i+1))+1 by omega,psT,if_pos h,if_neg hp,if_neg ho]
theorem aYs{l:List UInt8}{i:Nat}{t:List Int}(h:l.length<=i):ps0 l i t=some t:=by
 unfold ps0
 rw[show l.length-i=0 by omega];rfl
def wO(l:List UInt8):List Int:=(ps0 l 0 []).getD []
def ptB(a:List Int)(s:ByteArray):Prop:=(ps0 s.data.toList 0 []).isSome=true/\bB a (wO s.data.toList)=true/\S (TX a (wO s.data.toList) 0)=s
instance {a:List Int}{s:ByteArray}:Decidable (ptB a s):=by unfold ptB;infer_instance
instance bAo{I:List Atom}{v:Value}{a:List Int}{s:ByteArray}[h:bK Int I v a] :
  bQ prog 53 [.agg #[v],.string s] I (s.size<=1000000) (Value) (fun q:Value=>.tuple #[q,.bool (decide (ptB a s))]) (fun q=>.ow [q] (wO s.data.toList)::I):=⟨fun hs w0=>by
 have hll:s.data.toList.length=s.size:=bZ
 refine cL (A:=fun q:Value=>[.ow [q] (wO s.data.toList)]) (fun w1=>?_) (aE h fI) fun _=>inferInstance
 simp only[aA,aB]
 refine aK func53 ntmps53 ?_
 repeat' (first|refine aU ?_|refine bT fun b=>?_|fail)
 refine xI (V:=Int) (iα:=xD) ?_
 refine lp_ [6,7] [12,13,14,15,16,17,18,8,19,20,21,22,23,24,25,26,27,28,29,30,31,32,9,33,34,35,36,37,38,39,40,41,42,43,44,45,46,47,48,49,50,52,53,54,55,56,57,51,58,59,10,11,60,61,62,63,64,65,66,67,68,69,4,5,70,71,72,73,74,75,76,77,78] (Z:=Nat×List Int×Value) (fun k=>[k.2.2,.int .i64 k.1]) (fun k=>[.ow [k.2.2] k.2.1]) (fun k=>k.1<=s.size/\k.2.1.length<=k.1/\ps0 s.data.toList 0 []=ps0 s.data.toList k.1 k.2.1) (fun k=>s.size-k.1) (0,[],.slice none 0 0) [.ow [.slice none 0 0] ([]:List Int)] ⟨aI _,aM _,rfl⟩ ?_
 intro ⟨i,t,tv⟩ u l' hl' ⟨hi,htl,hps⟩
 simp only[bM,List.map,List.set] at hl'
 subst hl'
 simp only[aA,aB] at hi htl hps ⊢
 repeat' (first|refine aU ?_|refine bP ?_|refine aW fun r=>?_|refine bV fun hc=>?_|refine bW fun hc=>?_|refine aS (fun hc=>?_) fun hc=>?_|fail)
 iterate 3
  ·exact eB (i+1,t,tv) ⟨by simp only;omega,by simp only;omega,by simp only;rw[hps];exact bIb (by omega) (by unfold mY;omega)⟩
 ·have hnp:¬ mY (s.data.toList.getD i 0):=by unfold mY;omega
  have hil:i<s.size:=by omega
  have hge:i+1<=qL s.data.toList (i+1):=oK _ _ _
  refine lc_ [9] [33,34,35,36,37,38,39,40,41,42,43,44,45,46,47,48,49,50] (Z:=Nat) (fun e=>[.int .i64 e]) (fun e=>i+1<=e/\e<=s.size/\qL s.data.toList (i+1)=qL s.data.toList e) (fun e=>s.size-e) (i+1) ⟨aM _,hil,rfl⟩ ?_
  intro e u l' hl' ⟨he1,he2,hee⟩
  simp only[bM,List.map,List.set] at hl'
  subst hl'
  have hpl:=aG0 (s.extract ((i:Int)+1).toNat (e:Int).toNat).data.toList
  have hst:¬ (e<s.size/\gN (s.data.toList.getD e 0))->qL s.data.toList (i+1)=e:=fun h=>hee.trans (sF (by rw[hll];exact h))
  have hxw:qL s.data.toList (i+1)=e->psW s.data.toList i=(s.extract ((i:Int)+1).toNat (e:Int).toNat).data.toList:=fun h=>by
   rw[psW,h,show((i:Int)+1).toNat=i+1 by omega,bH,ByteArray.data_extract,Array.toList_extract]
  have hnone:∀ h:qL s.data.toList (i+1)=e,¬ psO s.data.toList i->wO s.data.toList=[]/\¬ ptB a s:=fun h ho=>by
   have hn:ps0 s.data.toList 0 []=none:=by rw[hps];exact bN8 (by omega) hnp ho
   exact⟨by rw[wO,hn];rfl,fun h2=>by rw[ptB,hn] at h2;exact absurd h2.1 (by simp)⟩
  have hnext:qL s.data.toList (i+1)=e->psO s.data.toList i->ps0 s.data.toList 0 []=ps0 s.data.toList e (t++[psN s.data.toList i]):=fun h ho=>by
   rw[hps,aL5 (by omega) hnp ho,h]
  repeat' (first|refine aU ?_|refine bP ?_|refine aW fun r=>?_|refine bG fun sv=>?_|refine bV fun hc=>?_|refine bW fun hc=>?_|refine aS (fun hc=>?_) fun hc=>?_|fail)
  all_goals first
   | exact eB (e+1) ⟨by omega,by omega,by rw[hee];exact rX (by omega) ⟨by omega,by omega⟩⟩
   | skip
  all_goals
   have hend:qL s.data.toList (i+1)=e:=hst (fun h=>by unfold gN at h;omega)
   first
   | (
     have ho:¬ psO s.data.toList i:=fun h=>by
      first
      | (
        have h1:=h.1
        rw[hxw hend] at h1
        exact absurd h1 ‹_›)
      | (have h1:=h.2;omega)
     rw[(hnone hend ho).1,decide_eq_false (hnone hend ho).2]
     exact⟨_,rfl,aH⟩)
   | (
     have ho:psO s.data.toList i:=⟨by rw[hxw hend];assumption,by omega⟩
     have hN:=hnext hend ho
     have hNN:psN s.data.toList i=if (s.data.toList.getD i 0).toNat=120 then -1-nO (s.extract ((i:Int)+1).toNat (e:Int).toNat).data.toList else nO (s.extract ((i:Int)+1).toNat (e:Int).toNat).data.toList:=by rw[psN,hxw hend]
     first
     | (
       rw[if_pos (by omega)] at hNN
       rw[← hNN]
       exact eB (e,t++[psN s.data.toList i],sv) ⟨by simp only;omega,by simp only[aD,aJ];omega,hN⟩)
     | (
       rw[if_neg (by omega)] at hNN
       rw[← hNN]
       exact eB (e,t++[psN s.data.toList i],sv) ⟨by simp only;omega,by simp only[aD,aJ];omega,hN⟩))
   | skip
 all_goals
  have hend:ps0 s.data.toList 0 []=some t:=by rw[hps];exact aYs (by omega)
  have hpt:wO s.data.toList=t:=by rw[wO,hend];rfl
  rw[hpt]
 ·exact⟨tv,by rw[show decide (ptB a s)=decide (S (TX a t 0)=s) from decide_eq_decide.2 ⟨fun h=>by rw[ptB,hpt] at h;exact h.2.2,fun h=>⟨by rw[hend];rfl,by rw[hpt];assumption,by rw[hpt];exact h⟩⟩],aH⟩
 ·exact⟨tv,by rw[decide_eq_false (fun h:ptB a s=>by rw[ptB,hpt] at h;rw[h.2.1] at hc;exact absurd hc (by decide))],aH⟩⟩
end Go.Proofs.YtajdgkpjbpindaaGreatDoor
