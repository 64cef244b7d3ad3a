/- Texts of the proof of FnNames. -/
import Derived.Test.YtajdgkpjbpindaaGreatDoorTbr
import Derived.Test.YtajdgkpjbpindaaGreatDoorTbs
set_option linter.unusedVariables false
set_option linter.unusedSimpArgs false
set_option linter.unusedSectionVars false
namespace Go.Proofs.YtajdgkpjbpindaaGreatDoor
open Go Go.Eng Tryz
set_option synthInstance.maxHeartbeats 400000
set_option synthInstance.maxSize 1000
set_option maxHeartbeats 2000000
set_option maxRecDepth 20000
def jD(s:ByteArray):Nat->List ByteArray->Int
 | _,[]=>-1
 | k,t::l=>if t=s then k else jD s (k+1) l
def yA(s:ByteArray)(l:List ByteArray):Int:=jD s 0 l
theorem mV{s:ByteArray}{l:List ByteArray}:∀ {k:Nat},k<l.length->jD s k (l.drop k)=if l.getD k ByteArray.empty=s then (k:Int) else jD s (k+1) (l.drop (k+1)):=by
 intro k hk
 rw[List.drop_eq_getElem_cons hk]
 simp [jD,aG hk]
theorem oT{s:ByteArray}:∀ (l:List ByteArray) (k:Nat),-1<=jD s k l/\jD s k l<(k+l.length:Nat)
 | [],k=>by simp [jD];omega
 | t::l,k=>by
  have:=oT (s:=s) l (k+1)
  unfold jD
  split
  ·simp;omega
  ·simp at this ⊢;omega
theorem aB8{s:ByteArray}:∀ (l:List ByteArray) (k:Nat),0<=jD s k l->∃ j:Nat,jD s k l=((k+j:Nat):Int)/\l.getD j ByteArray.empty=s
 | [],k,h=>by simp [jD] at h
 | t::l,k,h=>by
  unfold jD at h ⊢
  split
  ·rename_i e
   exact⟨0,rfl,e⟩
  ·rename_i e
   rw[if_neg e] at h
   obtain ⟨j,h1,h2⟩:=aB8 l (k+1) h
   exact⟨j+1,by rw[h1];congr 1;omega,h2⟩
def yO(s:ByteArray):Int:=yA s fG+1
theorem sI(s:ByteArray):0<=yO s/\yO s<=12:=by
 have hr:=oT (s:=s) fG 0
 have hl:fG.length=12:=rfl
 unfold yO yA
 omega
theorem bFz{s:ByteArray}(h:1<=yO s):knT (yO s)=s:=by
 have hr:=sI s
 unfold knT
 rw[if_pos ⟨h,hr.2⟩]
 unfold yO yA at *
 obtain ⟨j,h1,h2⟩:=aB8 (s:=s) fG 0 (by omega)
 rw[h1,show(((0+j:Nat):Int)+1-1).toNat=j by omega]
 exact h2
instance spec_NameKind_ctr{I:List Atom}{s:ByteArray} :
  bQ prog 29 [.string s] I True Unit (fun _:Unit=>.int .i64 (yO s)) (fun _=>I):=⟨fun _ w0=>by
 have hl:fG.length=12:=rfl
 refine aK func29 ntmps29 ?_
 repeat' (first|refine aU ?_|fail)
 refine lc_ [3] [4,5,8,9,10,11,12,13,14,15,2,6,7] (Z:=Nat) (fun k=>[.int .i64 k]) (fun k=>k<=12/\yA s fG=jD s k (fG.drop k)) (fun k=>12-k) 0 ⟨aI _,rfl⟩ ?_
 intro k u l' hl' ⟨hk,hkk⟩
 simp only[bM,List.map,List.set] at hl'
 subst hl'
 repeat' (first|refine aU ?_|refine bP ?_|refine cV fun r hr=>?_|refine aW fun r=>?_|refine bV fun hc=>?_|refine bW fun hc=>?_|refine aS (fun hc=>?_) fun hc=>?_|fail)
 ·refine⟨(),?_,aH⟩
  unfold yO
  rw[hkk,mV (by omega),if_pos (by simpa using hc)]
 ·exact eB (k+1) ⟨by omega,by rw[hkk,mV (by omega),if_neg (by intro h;exact hc (by simpa using h))]⟩
 ·refine⟨(),?_,aH⟩
  unfold yO
  rw[hkk,cI (by omega)];rfl⟩
theorem aFw{w0:World}{I:List Atom}{s:ByteArray}{n:Int}{m:Nat}[hm:fJ n m](hn:0<=n/\n<256)(hs:s.size<=1000000):CJ prog 26 [.string s,.int .u8 n] w0 I (fun q:Value=>q) (fun q=>.ow [q] ((gG (UInt8.ofNat m) s.data.toList).map S)::I):=by
 have hll:s.data.toList.length=s.size:=bZ
 have hnm:=hm.eq
 have hcn:(UInt8.ofNat m).toNat=m:=by rw[dR];omega
 generalize hc0:UInt8.ofNat m=c at *
 refine aK func26 ntmps26 ?_
 repeat' (first|refine aU ?_|refine bG fun sv=>?_|fail)
 refine lp_ [5,6,7] [9,10,11,12,15,16,17,18,19,20,21,22,23,24,25,26,27,28,29,30,31,32,33,34,13,14] (Z:=Value×List (List UInt8)×Nat×Nat) (fun k=>[k.1,.int .i64 k.2.2.1,.int .i64 k.2.2.2]) (fun k=>[.ow [k.1] (k.2.1.map S)]) (fun k=>k.2.2.2<=s.size+1/\k.2.1.length<=k.2.2.2/\(k.2.2.2<=s.size->k.2.2.1<=k.2.2.2/\gG c s.data.toList=k.2.1++aB2 ((s.data.toList.drop k.2.2.1).take (k.2.2.2-k.2.2.1)) (gG c (s.data.toList.drop k.2.2.2)))/\(k.2.2.2=s.size+1->gG c s.data.toList=k.2.1)) (fun k=>s.size+1-k.2.2.2) (sv,[],0,0) [.ow [sv] ([]:List ByteArray)] ⟨aI _,aM _,fun _=>⟨aM _,by simp [aLf]⟩,fun h=>by simp at h⟩ ?_
 intro ⟨ov,O,fr,i⟩ u l' hl' ⟨hi,hO,hin,hend⟩
 simp only[bM,List.map,List.set] at hl'
 subst hl'
 simp only[aA,aB] at hi hO hin hend ⊢
 have hxs:(s.extract (fr:Int).toNat (i:Int).toNat).size<=1000000:=by
  rw[ByteArray.size_extract];omega
 have hxe:(s.extract (fr:Int).toNat (i:Int).toNat)=S ((s.data.toList.drop fr).take (i-fr)):=by
  apply ByteArray.ext
  apply Array.ext'
  rw[ByteArray.data_extract,Array.toList_extract,bH,bH]
  rfl
 have hfr:i<=s.size->fr<=i:=fun h=>(hin h).1
 have hml:(O.map S).length<=i:=by rw[aY];exact hO
 repeat' (first|refine aU ?_|refine bP ?_|refine bG fun sv=>?_|refine bV fun hc=>?_|refine bW fun hc=>?_|refine aS (fun hc=>?_) fun hc=>?_|fail)
 ·have hi':i=s.size:=by omega
  obtain ⟨_,h2⟩:=hin (by omega)
  rw[show s.data.toList.drop i=[] from cI (by omega),bEp] at h2
  rw[hxe,show O.map S++[S ((s.data.toList.drop fr).take (i-fr))]=(O++[(s.data.toList.drop fr).take (i-fr)]).map S by simp]
  exact eB (sv,O++[(s.data.toList.drop fr).take (i-fr)],i+1,i+1) ⟨by simp only;omega,by simp only[aD,aJ];omega,fun h=>by simp only at h;omega,fun _=>h2⟩
 ·have hil:i<s.size:=by omega
  obtain ⟨_,h2⟩:=hin (by omega)
  have hget:s.data.toList.drop i=c::s.data.toList.drop (i+1):=by
   rw[List.drop_eq_getElem_cons (by omega)]
   congr 1
   have:(s.data.toList.getD i 0).toNat=c.toNat:=by omega
   rw[aC,aG (by omega),aZ] at this
   exact UInt8.toNat_inj.1 this
  rw[hget,bCs] at h2
  rw[hxe,show O.map S++[S ((s.data.toList.drop fr).take (i-fr))]=(O++[(s.data.toList.drop fr).take (i-fr)]).map S by simp]
  exact eB (sv,O++[(s.data.toList.drop fr).take (i-fr)],i+1,i+1) ⟨by simp only;omega,by simp only[aD,aJ];omega,fun _=>⟨aM _,by simp only[Nat.sub_self,List.take_zero,aLf];rw[h2,aT];rfl⟩,fun h=>by simp only at h;omega⟩
 ·have hil:i<s.size:=by omega
  obtain ⟨h1,h2⟩:=hin (by omega)
  have hne:s.data.toList[i]'(by omega)≠c:=fun e=>by
   apply hc
   rw[aC,aG (by omega),aZ,e]
   omega
  rw[show s.data.toList.drop i=s.data.toList[i]'(by omega)::s.data.toList.drop (i+1) from List.drop_eq_getElem_cons (by omega),aVm _ hne] at h2
  have htk:(s.data.toList.drop fr).take (i-fr)++[s.data.toList[i]'(by omega)]=(s.data.toList.drop fr).take (i+1-fr):=by
   rw[show i+1-fr=(i-fr)+1 by omega,bC (by rw[aR];omega)]
   congr 2
   rw[List.getElem_drop]
   congr 1
   omega
  rw[htk] at h2
  exact eB (ov,O,fr,i+1) ⟨by simp only;omega,by simp only;omega,fun _=>⟨by simp only;omega,h2⟩,fun h=>by simp only at h;omega⟩
 ·rw[hend (by omega)]
  exact⟨_,rfl,aH⟩
instance bGu{I:List Atom}{s:ByteArray}{n:Int}{m:Nat}[hm:fJ n m] :
  bQ prog 26 [.string s,.int .u8 n] I ((0<=n/\n<256)/\(s.size<=1000000)) (Value) (fun q:Value=>q) (fun q=>.ow [q] ((gG (UInt8.ofNat m) s.data.toList).map S)::I):=⟨fun s w0=>aFw s.1 s.2⟩
instance bJi{I:List Atom}{s:ByteArray} :
  bQ prog 122 [.string s] I True Unit (fun _:Unit=>.tuple #[.int .i64 (nO s.data.toList),.bool (decide (PnP s.data.toList))]) (fun _=>I):=⟨fun _ w0=>by
 have hll:s.data.toList.length=s.size:=bZ
 have hno:¬ (1<=s.data.toList.length/\s.data.toList.length<=9/\¬ (1<s.data.toList.length/\(s.data.toList.getD 0 0).toNat=48))->¬ PnP s.data.toList:=fun h h2=>h h2.1
 refine aK func122 ntmps122 ?_
 repeat' (first|refine aU ?_|refine bP ?_|refine bV fun hc=>?_|refine bW fun hc=>?_|refine aS (fun hc=>?_) fun hc=>?_|fail)
 all_goals first
  | (
    refine⟨(),?_,aH⟩
    have hn:¬ PnP s.data.toList:=hno (by omega)
    rw[nO,if_neg hn,decide_eq_false hn])
  | skip
 all_goals
  have hgd:1<=s.data.toList.length/\s.data.toList.length<=9/\¬ (1<s.data.toList.length/\(s.data.toList.getD 0 0).toNat=48):=by omega
  refine lc_ [4,5] [24,25,26,27,30,31,32,33,34,35,36,37,38,39,2,3,40,41,42,43,44,45,46,47,28,29] (Z:=Nat) (fun k=>[.int .i64 (pnV s.data.toList k),.int .i64 k]) (fun k=>k<=s.size/\aE0 s.data.toList k) (fun k=>s.size-k) 0 ⟨aI _,fun i hi=>by omega⟩ ?_
  intro k u l' hl' ⟨hk,hd⟩
  simp only[bM,List.map,List.set] at hl'
  subst hl'
  have hv:=aF0 s.data.toList k hd
  have hp:10 ^ k<=10 ^ 9:=Nat.pow_le_pow_right (by decide) (by omega)
  have hv2:pnV s.data.toList k<1000000000:=Nat.lt_of_lt_of_le hv hp
  have h48:(UInt8.ofNat (48:Int).toNat)=48:=rfl
  have hsb:k<s.size->gN (s.data.toList.getD k 0)->((s.data.toList.getD k 0-UInt8.ofNat (48:Int).toNat).toNat:Int)=(s.data.toList.getD k 0).toNat-48:=fun _ h=>wY ⟨by decide,by unfold gN at h;omega⟩
  have hc256:(s.data.toList.getD k 0-UInt8.ofNat (48:Int).toNat).toNat<256:=UInt8.toNat_lt _
  repeat' (first|refine aU ?_|refine bP ?_|refine bV fun hc=>?_|refine bW fun hc=>?_|refine aS (fun hc=>?_) fun hc=>?_|fail)
  ·have hn:¬ PnP s.data.toList:=fun h=>by have:=h.2 k (by omega);unfold gN at this;omega
   exact⟨(),by rw[nO,if_neg hn,decide_eq_false hn],aH⟩
  ·have hn:¬ PnP s.data.toList:=fun h=>by have:=h.2 k (by omega);unfold gN at this;omega
   exact⟨(),by rw[nO,if_neg hn,decide_eq_false hn],aH⟩
  ·have hdk:gN (s.data.toList.getD k 0):=by unfold gN;omega
   have hsk:=hsb (by omega) hdk
   have hpk:((pnV s.data.toList k:Int)*10+((s.data.toList.getD k 0-UInt8.ofNat (48:Int).toNat).toNat:Int))=((pnV s.data.toList (k+1):Nat):Int):=by
    rw[hsk]
    show _=((10*pnV s.data.toList k+((s.data.toList.getD k 0).toNat-48):Nat):Int)
    omega
   rw[hpk]
   exact dH (k+1) ⟨by omega,fun i hi=>by
    by_cases he:i=k
    ·rw[he];exact hdk
    ·exact hd i (by omega)⟩ (by omega) (by kernel_rfl) aH
  ·have hy:PnP s.data.toList:=⟨hgd,by rw[hll,show s.size=k by omega];exact hd⟩
   exact⟨(),by rw[nO,if_pos hy,decide_eq_true hy,hll,show s.size=k by omega],aH⟩⟩
section w64
variable {P:Program} {w0:World} {l:List Value} {I:List Atom} {ty:TypeId} {T U:TypeId} {x y:Operand} {a b:Int}
theorem aXu[hx:Ev l x (.int .i64 a)][hy:Ev l y (.int .i64 b)]:Pu P w0 l I (.binOp .sub T x y U) ty (.int .i64 (wr (a-b))):=
 fZ eR (fun w=>by simp only[binOp,Op.intArith,ne_eq,not_true_eq_false,if_false];unfold wr;rfl)
theorem bN9[hx:Ev l x (.int .i64 a)][hy:Ev l y (.int .i64 b)]:mI P l I (.binOp .sub T x y U) ty (.int .i64 (wr (a-b))) True:=⟨fun _ _=>aXu⟩
theorem aYi[h:Ev l x (.int .i64 a)]:Pu P w0 l I (.unOp .neg T x) ty (.int .i64 (wr (-a))):=
 fT (s:=Op.unary .neg (.int .i64 a)) (fun o ho _=>by unfold execOp;rw[ho];simp only[h.eq]) (fun w _=>by
  unfold wr
  simp only[Op.unary,Op.intArith,ne_eq,not_true_eq_false,if_false]
  rw[Int.zero_sub];rfl)
theorem bQq[h:Ev l x (.int .i64 a)]:mI P l I (.unOp .neg T x) ty (.int .i64 (wr (-a))) True:=⟨fun _ _=>aYi⟩
end w64
theorem qP(n:Int):In6 (wr n):=by
 unfold wr In6
 exact⟨by unfold IntKind.wrap;simp [IntKind.bits,IntKind.signed];omega,by unfold IntKind.wrap;simp [IntKind.bits,IntKind.signed];omega⟩
def fR:List UInt8->Int->Int
 | [],n=>n
 | c::r,n=>fR r (wr (wr (n*10)-((c.toNat:Int)-48)))
theorem aHm:∀ (l:List UInt8) (c:UInt8) (n:Int),fR (l++[c]) n=wr (wr (fR l n*10)-((c.toNat:Int)-48))
 | [],c,n=>rfl
 | d::l,c,n=>aHm l c _
theorem aVt:∀ u:Nat,u<=9223372036854775808->fR (Lib.decDigits u) 0=-(u:Int):=by
 intro u
 induction u using Nat.strongRecOn with
 | _ u ih=>
  intro hu
  rw[Lib.decDigits]
  split
  ·rename_i h
   have h1:(UInt8.ofNat (48+u)).toNat=48+u:=by rw[dR];omega
   show wr (wr (0*10)-(((UInt8.ofNat (48+u)).toNat:Int)-48))=_
   rw[h1,oY (n:=0*10) (by omega),oY (by omega)]
   omega
  ·rename_i h
   have h1:(UInt8.ofNat (48+u % 10)).toNat=48+u % 10:=by rw[dR];omega
   rw[aHm,ih (u / 10) (by omega) (by omega),h1,oY (n:=-((u / 10:Nat):Int)*10) (by omega),oY (by omega)]
   omega
theorem aOb(u:Nat):1<=(Lib.decDigits u).length/\(u<10000000000000000000->(Lib.decDigits u).length<=19):=by
 have key:∀ (k u:Nat),u<10 ^ (k+1)->(Lib.decDigits u).length<=k+1:=fun k=>by
  induction k with
  | zero=>intro u hu;rw[Lib.decDigits,dif_pos (by simpa using hu)];simp
  | succ k ih=>
   intro u hu
   rw[Lib.decDigits]
   split
   ·simp
   ·rw[aD,aJ]
    have:=ih (u / 10) (by rw[Nat.pow_succ] at hu;omega)
    omega
 refine⟨?_,fun h=>key 18 u (by simpa using h)⟩
 obtain ⟨d,r,h,_⟩:=wF u
 rw[h];simp
theorem aXw(u:Nat):∀ c∈Lib.decDigits u,gN c:=by
 induction u using Nat.strongRecOn with
 | _ u ih=>
  rw[Lib.decDigits]
  split
  ·rename_i h
   intro c hc
   rw[aO] at hc
   rw[hc];unfold gN;rw[dR];omega
  ·intro c hc
   rcases aP.1 hc with hc|hc
   ·exact ih (u / 10) (by omega) c hc
   ·rw[aO] at hc
    rw[hc];unfold gN;rw[dR];omega
theorem aLg(u:Nat)(hu:1<=u):∃ d r,Lib.decDigits u=d::r/\49<=d.toNat/\d.toNat<=57:=by
 induction u using Nat.strongRecOn with
 | _ u ih=>
  rw[Lib.decDigits]
  split
  ·rename_i h
   exact⟨_,[],rfl,by rw[dR];omega,by rw[dR];omega⟩
  ·obtain ⟨d,r,h1,h2⟩:=ih (u / 10) (by omega) (by omega)
   exact⟨d,r++[UInt8.ofNat (48+u % 10)],by rw[h1];rfl,h2⟩
def sgN(l:List UInt8):Nat:=if 0<l.length/\(l.getD 0 0).toNat=45 then 1 else 0
theorem kH{l:List UInt8}(h:vA l):1<=l.length-sgN l/\sgN l<=l.length/\l.length-sgN l<=19/\¬ ((l.getD (sgN l) 0).toNat=48/\1<l.length)/\(∀ i,sgN l<=i->i<l.length->gN (l.getD i 0))/\nX l=wr (if sgN l=0 then wr (-(fR (l.drop (sgN l)) 0)) else fR (l.drop (sgN l)) 0):=by
 obtain ⟨n,hn,rfl⟩:=h
 rw[aE5 hn]
 unfold In6 at hn
 unfold Lib.itoa
 split
 ·rename_i h0
  have hs:sgN (45::Lib.decDigits n.natAbs)=1:=by unfold sgN;rw[if_pos ⟨by simp,by rfl⟩]
  obtain ⟨d,r,h1,h2,h3⟩:=aLg n.natAbs (by omega)
  have hl:=aOb n.natAbs
  rw[hs]
  simp only[aF,List.drop_succ_cons,List.drop_zero]
  refine⟨by omega,by omega,by have:=hl.2 (by omega);omega,?_,fun i hi hi2=>?_,?_⟩
  ·rw[h1];show ¬ (d.toNat=48/\_);omega
  ·obtain ⟨j,rfl⟩:∃ j,i=j+1:=⟨i-1,by omega⟩
   have hj:j<(Lib.decDigits n.natAbs).length:=by omega
   rw[List.getD_cons_succ,aC,aG hj]
   exact aXw _ _ (cS hj)
  ·rw[if_neg (by decide),aVt _ (by omega),oY (by omega)]
   omega
 ·rename_i h0
  obtain ⟨d,r,h1,h2,h3⟩:=wF n.toNat
  have hs:sgN (Lib.decDigits n.toNat)=0:=by
   unfold sgN
   rw[h1,if_neg]
   rintro ⟨_,h⟩
   have:d.toNat=45:=h
   omega
  have hl:=aOb n.toNat
  rw[hs]
  simp only[Nat.sub_zero,List.drop_zero]
  refine⟨by omega,by omega,by have:=hl.2 (by omega);omega,?_,fun i hi hi2=>?_,?_⟩
  ·by_cases hz:n.toNat=0
   ·rw[hz]
    have:Lib.decDigits 0=[48]:=by rw[Lib.decDigits];rfl
    rw[this]
    simp
   ·obtain ⟨d',r',h4,h5,h6⟩:=aLg n.toNat (by omega)
    rw[h4]
    show ¬ (d'.toNat=48/\_)
    omega
  ·rw[aC,aG hi2]
   exact aXw _ _ (cS hi2)
  ·rw[aVt _ (by omega)]
   simp only[if_true]
   rw[oY (n:=- -((n.toNat:Nat):Int)) (by omega),oY (by omega)]
   omega
section w
attribute [local instance 2000] Go.Eng.mulW bN9 bQq
theorem uO:∀ (l:List UInt8) {n:Int},In6 n->In6 (fR l n)
 | [],n,h=>h
 | c::l,n,h=>uO l (qP _)
theorem aFj{l:List UInt8}{i k:Nat}(hik:i<=k)(hk:k<l.length):fR ((l.drop i).take (k+1-i)) 0=wr (wr (fR ((l.drop i).take (k-i)) 0*10)-(((l.getD k 0).toNat:Int)-48)):=by
 rw[← aHm]
 congr 1
 rw[show k+1-i=(k-i)+1 by omega,bC (by rw[aR];omega)]
 congr 2
 rw[List.getElem_drop,aC,aG hk,aZ]
 congr 1
 omega
theorem pQ{s:ByteArray}{m:Int}(hm:In6 m)(h:vA s.data.toList->nX s.data.toList=m):decide (vA s.data.toList)=decide (S (Lib.itoa m)=s):=by
 congr 1
 rw[eq_iff_iff]
 constructor
 ·intro h1
  have h2:=(aOv h1).2
  rw[h h1] at h2
  apply ByteArray.ext
  apply Array.ext'
  exact h2
 ·intro h1
  exact⟨m,hm,congrArg (fun b:ByteArray=>b.data.toList) h1⟩
theorem nF{l:List UInt8}(h:sgN l=1)(hr:In6 (fR (l.drop 1) 0))(hk:vA l):nX l=fR (l.drop 1) 0:=by
 have:=(kH hk).2.2.2.2.2
 rw[h,if_neg (by decide),oY hr] at this
 exact this
theorem nE{l:List UInt8}(h:sgN l=0)(hk:vA l):nX l=wr (-(fR (l.drop 0) 0)):=by
 have:=(kH hk).2.2.2.2.2
 rw[h,if_pos rfl,oY (n:=wr (-(fR (l.drop 0) 0))) (qP _)] at this
 exact this
instance bIo{I:List Atom}{s:ByteArray} :
  bQ prog 57 [.string s] I (s.size<=1000000) ({ q:Int // (-9223372036854775808<=q/\q<=9223372036854775807)/\(vA s.data.toList->q=nX s.data.toList) }) (fun q:{ q:Int // (-9223372036854775808<=q/\q<=9223372036854775807)/\(vA s.data.toList->q=nX s.data.toList) }=>.tuple #[.int .i64 q.1,.bool (decide (vA s.data.toList))]) (fun _=>I):=⟨fun hs w0=>by
 have hll:s.data.toList.length=s.size:=bZ
 have hw1:wr ((s.size:Int)-1)=s.size-1:=oY (by omega)
 have hw0:wr ((s.size:Int)-0)=s.size:=(oY (by omega)).trans (by omega)
 have hcase:(0<s.size/\(s.data.toList.getD 0 0).toNat=45/\sgN s.data.toList=1)∨(¬ (0<s.size/\(s.data.toList.getD 0 0).toNat=45)/\sgN s.data.toList=0):=by
  unfold sgN
  rw[hll]
  by_cases h:0<s.size/\(s.data.toList.getD 0 0).toNat=45
  ·exact .inl ⟨h.1,h.2,if_pos h⟩
  ·exact .inr ⟨h,if_neg h⟩
 refine aK func57 ntmps57 ?_
 repeat' (first|refine aU ?_|refine bP ?_|refine bV fun hc=>?_|refine bW fun hc=>?_|refine aS (fun hc=>?_) fun hc=>?_|fail)
 all_goals first
  | (
    have hn:¬ vA s.data.toList:=fun h=>by
     obtain ⟨a1,a2,a3,a4,_⟩:=kH h
     rcases hcase with⟨b1,b2,b3⟩|⟨b1,b3⟩
     ·rw[b3] at a1 a2 a3 a4;omega
     ·rw[b3] at a1 a2 a3 a4;omega
    exact⟨⟨0,by decide,fun h=>absurd h hn⟩,by rw[decide_eq_false hn],aH⟩)
  | skip
 ·refine lc_ [5,6] [39,40,41,42,45,46,47,48,49,50,51,52,53,54,2,3,55,56,57,58,59,60,61,62,43,44] (Z:=Nat) (fun k=>[.int .i64 (fR ((s.data.toList.drop 1).take (k-1)) 0),.int .i64 k]) (fun k=>1<=k/\k<=s.size/\∀ j,1<=j->j<k->gN (s.data.toList.getD j 0)) (fun k=>s.size-k) 1 ⟨aM _,by omega,fun j h1 h2=>by omega⟩ ?_
  intro k u l' hl' ⟨hk1,hk2,hk3⟩
  simp only[bM,List.map,List.set] at hl'
  subst hl'
  have hfr:=uO ((s.data.toList.drop 1).take (k-1)) (n:=0) (by decide)
  have hwr:=qP (-(fR ((s.data.toList.drop 1).take (k-1)) 0))
  unfold In6 at hfr hwr
  have hsb:k<s.size->gN (s.data.toList.getD k 0)->((s.data.toList.getD k 0-UInt8.ofNat (48:Int).toNat).toNat:Int)=(s.data.toList.getD k 0).toNat-48:=fun _ h=>wY ⟨by decide,by unfold gN at h;omega⟩
  have hc256:(s.data.toList.getD k 0-UInt8.ofNat (48:Int).toNat).toNat<256:=UInt8.toNat_lt _
  repeat' (first|refine aU ?_|refine bP ?_|refine cV fun r hr=>?_|refine aW fun r=>?_|refine bV fun hc=>?_|refine bW fun hc=>?_|refine aS (fun hc=>?_) fun hc=>?_|fail)
  ·have hn:¬ vA s.data.toList:=fun h=>by
    have h5:=(kH h).2.2.2.2.1 k (by omega) (by omega)
    unfold gN at h5;omega
   exact⟨⟨0,by decide,fun h=>absurd h hn⟩,by rw[decide_eq_false hn],aH⟩
  ·have hn:¬ vA s.data.toList:=fun h=>by
    have h5:=(kH h).2.2.2.2.1 k (by omega) (by omega)
    unfold gN at h5;omega
   exact⟨⟨0,by decide,fun h=>absurd h hn⟩,by rw[decide_eq_false hn],aH⟩
  ·have hdk:gN (s.data.toList.getD k 0):=by unfold gN;omega
   rw[hsb (by omega) hdk,← aFj hk1 (by omega)]
   exact dH (k+1) ⟨by omega,by omega,fun j h1 h2=>by
    by_cases he:j=k
    ·rw[he];exact hdk
    ·exact hk3 j h1 (by omega)⟩ (by omega) (by kernel_rfl) aH
  ·have hks:k=s.size:=by omega
   have hfull:(s.data.toList.drop 1).take (k-1)=s.data.toList.drop 1:=bE (by rw[aR];omega)
   rw[hfull] at hfr hwr ⊢
   have hsgn:sgN s.data.toList=1:=by rcases hcase with⟨b1,b2,b3⟩|⟨b1,b3⟩<;>omega
   first
   | exact⟨⟨_,hfr,fun h=>(nF hsgn hfr h).symm⟩,by rw[pQ hfr (nF hsgn hfr)],aH⟩
   | exact⟨⟨_,hwr,fun h=>(nE hsgn h).symm⟩,by rw[pQ hwr (nE hsgn)],aH⟩
 ·refine lc_ [5,6] [39,40,41,42,45,46,47,48,49,50,51,52,53,54,2,3,55,56,57,58,59,60,61,62,43,44] (Z:=Nat) (fun k=>[.int .i64 (fR ((s.data.toList.drop 0).take (k-0)) 0),.int .i64 k]) (fun k=>0<=k/\k<=s.size/\∀ j,0<=j->j<k->gN (s.data.toList.getD j 0)) (fun k=>s.size-k) 0 ⟨aM _,by omega,fun j h1 h2=>by omega⟩ ?_
  intro k u l' hl' ⟨hk1,hk2,hk3⟩
  simp only[bM,List.map,List.set] at hl'
  subst hl'
  have hfr:=uO ((s.data.toList.drop 0).take (k-0)) (n:=0) (by decide)
  have hwr:=qP (-(fR ((s.data.toList.drop 0).take (k-0)) 0))
  unfold In6 at hfr hwr
  have hsb:k<s.size->gN (s.data.toList.getD k 0)->((s.data.toList.getD k 0-UInt8.ofNat (48:Int).toNat).toNat:Int)=(s.data.toList.getD k 0).toNat-48:=fun _ h=>wY ⟨by decide,by unfold gN at h;omega⟩
  have hc256:(s.data.toList.getD k 0-UInt8.ofNat (48:Int).toNat).toNat<256:=UInt8.toNat_lt _
  repeat' (first|refine aU ?_|refine bP ?_|refine cV fun r hr=>?_|refine aW fun r=>?_|refine bV fun hc=>?_|refine bW fun hc=>?_|refine aS (fun hc=>?_) fun hc=>?_|fail)
  ·have hn:¬ vA s.data.toList:=fun h=>by
    have h5:=(kH h).2.2.2.2.1 k (by omega) (by omega)
    unfold gN at h5;omega
   exact⟨⟨0,by decide,fun h=>absurd h hn⟩,by rw[decide_eq_false hn],aH⟩
  ·have hn:¬ vA s.data.toList:=fun h=>by
    have h5:=(kH h).2.2.2.2.1 k (by omega) (by omega)
    unfold gN at h5;omega
   exact⟨⟨0,by decide,fun h=>absurd h hn⟩,by rw[decide_eq_false hn],aH⟩
  ·have hdk:gN (s.data.toList.getD k 0):=by unfold gN;omega
   rw[hsb (by omega) hdk,← aFj hk1 (by omega)]
   exact dH (k+1) ⟨by omega,by omega,fun j h1 h2=>by
    by_cases he:j=k
    ·rw[he];exact hdk
    ·exact hk3 j h1 (by omega)⟩ (by omega) (by kernel_rfl) aH
  ·have hks:k=s.size:=by omega
   have hfull:(s.data.toList.drop 0).take (k-0)=s.data.toList.drop 0:=bE (by rw[aR];omega)
   rw[hfull] at hfr hwr ⊢
   have hsgn:sgN s.data.toList=0:=by rcases hcase with⟨b1,b2,b3⟩|⟨b1,b3⟩<;>omega
   first
   | exact⟨⟨_,hfr,fun h=>(nF hsgn hfr h).symm⟩,by rw[pQ hfr (nF hsgn hfr)],aH⟩
   | exact⟨⟨_,hwr,fun h=>(nE hsgn h).symm⟩,by rw[pQ hwr (nE hsgn)],aH⟩
 ·refine lc_ [5,6] [39,40,41,42,45,46,47,48,49,50,51,52,53,54,2,3,55,56,57,58,59,60,61,62,43,44] (Z:=Nat) (fun k=>[.int .i64 (fR ((s.data.toList.drop 0).take (k-0)) 0),.int .i64 k]) (fun k=>0<=k/\k<=s.size/\∀ j,0<=j->j<k->gN (s.data.toList.getD j 0)) (fun k=>s.size-k) 0 ⟨aM _,by omega,fun j h1 h2=>by omega⟩ ?_
  intro k u l' hl' ⟨hk1,hk2,hk3⟩
  simp only[bM,List.map,List.set] at hl'
  subst hl'
  have hfr:=uO ((s.data.toList.drop 0).take (k-0)) (n:=0) (by decide)
  have hwr:=qP (-(fR ((s.data.toList.drop 0).take (k-0)) 0))
  unfold In6 at hfr hwr
  have hsb:k<s.size->gN (s.data.toList.getD k 0)->((s.data.toList.getD k 0-UInt8.ofNat (48:Int).toNat).toNat:Int)=(s.data.toList.getD k 0).toNat-48:=fun _ h=>wY ⟨by decide,by unfold gN at h;omega⟩
  have hc256:(s.data.toList.getD k 0-UInt8.ofNat (48:Int).toNat).toNat<256:=UInt8.toNat_lt _
  repeat' (first|refine aU ?_|refine bP ?_|refine cV fun r hr=>?_|refine aW fun r=>?_|refine bV fun hc=>?_|refine bW fun hc=>?_|refine aS (fun hc=>?_) fun hc=>?_|fail)
  ·have hn:¬ vA s.data.toList:=fun h=>by
    have h5:=(kH h).2.2.2.2.1 k (by omega) (by omega)
    unfold gN at h5;omega
   exact⟨⟨0,by decide,fun h=>absurd h hn⟩,by rw[decide_eq_false hn],aH⟩
  ·have hn:¬ vA s.data.toList:=fun h=>by
    have h5:=(kH h).2.2.2.2.1 k (by omega) (by omega)
    unfold gN at h5;omega
   exact⟨⟨0,by decide,fun h=>absurd h hn⟩,by rw[decide_eq_false hn],aH⟩
  ·have hdk:gN (s.data.toList.getD k 0):=by unfold gN;omega
   rw[hsb (by omega) hdk,← aFj hk1 (by omega)]
   exact dH (k+1) ⟨by omega,by omega,fun j h1 h2=>by
    by_cases he:j=k
    ·rw[he];exact hdk
    ·exact hk3 j h1 (by omega)⟩ (by omega) (by kernel_rfl) aH
  ·have hks:k=s.size:=by omega
   have hfull:(s.data.toList.drop 0).take (k-0)=s.data.toList.drop 0:=bE (by rw[aR];omega)
   rw[hfull] at hfr hwr ⊢
   have hsgn:sgN s.data.toList=0:=by rcases hcase with⟨b1,b2,b3⟩|⟨b1,b3⟩<;>omega
   first
   | exact⟨⟨_,hfr,fun h=>(nF hsgn hfr h).symm⟩,by rw[pQ hfr (nF hsgn hfr)],aH⟩
   | exact⟨⟨_,hwr,fun h=>(nE hsgn h).symm⟩,by rw[pQ hwr (nE hsgn)],aH⟩⟩
end w
end Go.Proofs.YtajdgkpjbpindaaGreatDoor
namespace Go.Proofs.YtajdgkpjbpindaaGreatDoor
open Go Go.Eng Tryz
set_option synthInstance.maxHeartbeats 400000
set_option synthInstance.maxSize 1000
set_option maxHeartbeats 2000000
set_option maxRecDepth 20000
theorem aTu{b:UInt8}{n:Nat}:∀ {ws:List (List UInt8)},(∀ w∈ws,w.length<=n)->∀ w∈rD b ws,w.length<=n+1
 | [],_,w,hw=>by
  rw[show rD b []=[[b]] from rfl,aO] at hw
  rw[hw];simp
 | x::t,h,w,hw=>by
  rcases cH.1 hw with rfl|hw
  ·have:=h x List.mem_cons_self
   simp only[aF];omega
  ·have:=h w (List.mem_cons_of_mem _ hw);omega
theorem oO(c:UInt8):∀ l:List UInt8,(gG c l).length<=l.length+1/\∀ w∈gG c l,w.length<=l.length
 | []=>by simp [gG]
 | b::l=>by
  obtain ⟨h1,h2⟩:=oO c l
  unfold gG
  split
  ·refine⟨by simp only[aF];omega,fun w hw=>?_⟩
   rcases cH.1 hw with rfl|hw
   ·simp
   ·have:=h2 w hw;simp only[aF];omega
  ·refine⟨?_,fun w hw=>by have:=aTu h2 w hw;simp only[aF];omega⟩
   have:(rD b (gG c l)).length<=(gG c l).length+1:=by cases gG c l<;>simp [rD]
   have h3:(rD b (gG c l)).length=(gG c l).length:=by
    cases h:gG c l with
    | nil=>exact absurd h (xE c l)
    | cons x t=>rfl
   simp only[aF];omega
theorem rF{ws:List (List UInt8)}{i:Nat}(h:i<ws.length):(ws.map S).getD i ByteArray.empty=S (ws.getD i []):=by
 rw[aC,List.getElem?_map,aG h,aC,aG h]
 rfl
theorem sK{ws:List (List UInt8)}{i:Nat}(h:i<ws.length):ws.getD i []∈ws:=by
 rw[aC,aG h]
 exact cS h
noncomputable def aI1(p:Prop):Bool:=@decide p (Classical.propDecidable p)
theorem aX1{p:Prop}(h:p):aI1 p=true:=by unfold aI1;exact @decide_eq_true p (Classical.propDecidable p) h
theorem aWk{p:Prop}(h:¬ p):aI1 p=false:=by unfold aI1;exact @decide_eq_false p (Classical.propDecidable p) h
theorem aK0{p:Prop}:aI1 p=true↔p:=by unfold aI1;exact @decide_eq_true_iff p (Classical.propDecidable p)
def aG9(p:List UInt8->Prop)(ws:List (List UInt8))(k:Nat):Prop:=∀ j,j<k->p (ws.getD j [])
theorem aEw{p:List UInt8->Prop}{ws:List (List UInt8)}{k:Nat}(h:aG9 p ws k)(hk:p (ws.getD k [])):aG9 p ws (k+1):=fun j hj=>by
 by_cases he:j=k
 ·rw[he];exact hk
 ·exact h j (by omega)
noncomputable def mT(s:ByteArray):Option (List Int):=if s={ data:=#[45] } then some [] else if aI1 (aG9 vA (gG 44 s.data.toList) (gG 44 s.data.toList).length)=true then some ((gG 44 s.data.toList).map nX) else none
theorem aWm{s:ByteArray}{k:Nat}(h:s≠{ data:=#[45] })(hk:k<(gG 44 s.data.toList).length)(h2:¬ vA ((gG 44 s.data.toList).getD k [])):mT s=none:=by
 unfold mT
 rw[if_neg h,if_neg]
 rw[aWk (fun h3=>h2 (h3 k hk))]
 decide
theorem aQn{s:ByteArray}(h:s≠{ data:=#[45] })(h2:aG9 vA (gG 44 s.data.toList) (gG 44 s.data.toList).length):mT s=some ((gG 44 s.data.toList).map nX):=by
 unfold mT
 rw[if_neg h,if_pos (aX1 h2)]
instance aUz{I:List Atom}{s:ByteArray} :
  bQ prog 27 [.string s] I (s.size<=1000000) (Value) (fun q:Value=>.tuple #[q,.bool (mT s).isSome]) (fun q=>.ow [q] ((mT s).getD [])::I):=⟨fun hs w0=>by
 have hll:s.data.toList.length=s.size:=bZ
 obtain ⟨hwl1,hwl2⟩:=oO 44 s.data.toList
 have hc44:UInt8.ofNat (Int.toNat 44)=44:=rfl
 refine aK func27 ntmps27 ?_
 repeat' (first|refine aU ?_|refine cV fun r hr=>?_|refine aW fun r=>?_|refine bG fun sv=>?_|refine bV fun hc=>?_|refine bW fun hc=>?_|refine aS (fun hc=>?_) fun hc=>?_|fail)
 ·rw[show mT s=some [] from if_pos hc]
  simp only[aZ,dL]
  exact⟨_,rfl,aH⟩
 rw[hc44]
 generalize hwse:gG 44 s.data.toList=ws at *
 have hml:(ws.map S).length=ws.length:=aY _
 refine lp_ [4,6] [15,16,17,18,22,23,24,25,26,21,27,28,7,8,29,30,31,2,3,32,33,34,35,19,20] (Z:=Value×Nat) (fun k=>[k.1,.int .i64 k.2]) (fun k=>[.ow [k.1] ((ws.take k.2).map nX)]) (fun k=>k.2<=ws.length/\aG9 vA ws k.2) (fun k=>ws.length-k.2) (sv,0) [.ow [sv] ([]:List Int)] ⟨aI _,fun j hj=>by omega⟩ ?_
 intro ⟨ov,i⟩ u l' hl' ⟨hi,hall⟩
 simp only[bM,List.map,List.set] at hl'
 subst hl'
 simp only[aA,aB] at hi hall ⊢
 have hol:((ws.take i).map nX).length=i:=by rw[aY,aN];omega
 have hsz:i<ws.length->((ws.map S).getD (i:Int).toNat ByteArray.empty).size<=1000000:=fun h=>by
  rw[bH,rF h,eZ]
  have:=hwl2 _ (sK h)
  omega
 repeat' (first|refine aU ?_|refine bP ?_|refine cV fun r hr=>?_|refine aW fun r=>?_|refine bG fun sv=>?_|refine bV fun hc=>?_|refine bW fun hc=>?_|refine aS (fun hc=>?_) fun hc=>?_|fail)
 ·have hil:i<ws.length:=by omega
  rw[bH,rF hil] at hc
  rw[aWm ‹_› (k:=i) (by rw[hwse];exact hil) (by rw[hwse];exact hc)]
  simp only[cK,cC]
  exact⟨_,rfl,aH⟩
 ·have hil:i<ws.length:=by omega
  obtain ⟨rv,h1,h2⟩:=r
  have hrv:=h2 hc
  rw[bH,rF hil] at hc hrv
  simp only
  rw[hrv,show(ws.take i).map nX++[nX (S (ws.getD i [])).data.toList]=(ws.take (i+1)).map nX by
   rw[bC hil,cG,aC,aG hil];rfl]
  exact eB (sv,i+1) ⟨by simp only;omega,aEw hall hc⟩
 ·rw[aQn ‹_› (by rw[hwse,show ws.length=i by omega];exact hall),hwse,show i=ws.length by omega,cZ]
  simp only[aZ,dL]
  exact⟨_,rfl,aH⟩⟩
def aFx(a:List Int)(l:List UInt8):Bool:=decide (ptB a (S l))
theorem uW{a:List Int}{l:List UInt8}:aFx a l=true↔okT a l:=by
 unfold aFx
 rw[decide_eq_true_iff,aGa]
 rfl
instance aZr{I:List Atom}{s:ByteArray} :
  bQ prog 87 [.string s] I (s.size<=1000000) (Value) (fun q:Value=>.tuple #[q,.bool (zS s.data.toList 0 []).isSome]) (fun q=>.ow [q] ((zS s.data.toList 0 []).getD [])::I):=⟨fun hs w0=>by
 have hll:s.data.toList.length=s.size:=bZ
 refine aK func87 ntmps87 ?_
 repeat' (first|refine aU ?_|refine bG fun sv=>?_|fail)
 refine lp_ [4,5] [11,12,13,14,15,16,17,6,18,19,20,21,22,23,24,25,26,7,27,28,29,30,31,32,33,34,35,36,37,38,39,40,41,42,43,44,46,47,48,49,50,45,51,52,8,9,53,54,55,56,57,58,59,60,2,3,61,62,63,64,65,66,67,68] (Z:=Nat×List Int×Value) (fun k=>[k.2.2,.int .i64 k.1]) (fun k=>[.ow [k.2.2] k.2.1]) (fun k=>k.1<=s.size/\k.2.1.length<=k.1/\zS s.data.toList 0 []=zS s.data.toList k.1 k.2.1) (fun k=>s.size-k.1) (0,[],sv) [.ow [sv] ([]:List Int)] ⟨aI _,aM _,rfl⟩ ?_
 intro ⟨i,t,tv⟩ u l' hl' ⟨hi,htl,hps⟩
 simp only[bM,List.map,List.set] at hl'
 subst hl'
 simp only[aA,aB] at hi htl hps ⊢
 repeat' (first|refine aU ?_|refine bP ?_|refine bV fun hc=>?_|refine bW fun hc=>?_|refine aS (fun hc=>?_) fun hc=>?_|fail)
 ·exact eB (i+1,t,tv) ⟨by simp only;omega,by simp only;omega,by simp only;rw[hps];exact bG1 (by omega) (by unfold zN;omega)⟩
 ·have hil:i<s.size:=by omega
  have hxf:zN (s.data.toList.getD i 0):=by unfold zN;omega
  have hge:i+1<=qL s.data.toList (i+1):=oK _ _ _
  refine lc_ [5] [27,28,29,30,31,32,33,34,35,36,37,38,39,40,41,42,43,44] (Z:=Nat) (fun e=>[.int .i64 e]) (fun e=>i+1<=e/\e<=s.size/\qL s.data.toList (i+1)=qL s.data.toList e) (fun e=>s.size-e) (i+1) ⟨aM _,hil,rfl⟩ ?_
  intro e u l' hl' ⟨he1,he2,hee⟩
  simp only[bM,List.map,List.set] at hl'
  subst hl'
  have hpl:=aG0 (s.extract ((i:Int)+1).toNat (e:Int).toNat).data.toList
  have hst:¬ (e<s.size/\gN (s.data.toList.getD e 0))->qL s.data.toList (i+1)=e:=fun h=>hee.trans (sF (by rw[hll];exact h))
  have hxw:qL s.data.toList (i+1)=e->psW s.data.toList i=(s.extract ((i:Int)+1).toNat (e:Int).toNat).data.toList:=fun h=>by
   rw[psW,h,show((i:Int)+1).toNat=i+1 by omega,bH,ByteArray.data_extract,Array.toList_extract]
  repeat' (first|refine aU ?_|refine bP ?_|refine cV fun r hr=>?_|refine aW fun r=>?_|refine bG fun sv=>?_|refine bV fun hc=>?_|refine bW fun hc=>?_|refine aS (fun hc=>?_) fun hc=>?_|fail)
  all_goals first
   | exact eB (e+1) ⟨by omega,by omega,by rw[hee];exact rX (by omega) ⟨by omega,by omega⟩⟩
   | skip
  all_goals
   have hend:qL s.data.toList (i+1)=e:=hst (fun h=>by unfold gN at h;omega)
   first
   | (
     have ho:¬ nsO s.data.toList i t:=fun h=>by
      first
      | (
        have h1:=h.1
        rw[hxw hend] at h1
        exact absurd h1 ‹_›)
      | (have h2:=h.2;omega)
     have hn:zS s.data.toList 0 []=none:=by rw[hps];exact bIl (by omega) hxf ho
     rw[hn]
     simp only[cK,cC]
     exact⟨_,rfl,aH⟩)
   | (
     have ho:nsO s.data.toList i t:=⟨by rw[hxw hend];assumption,by omega⟩
     have hN:zS s.data.toList 0 []=zS s.data.toList e (t++[psN s.data.toList i]):=by rw[hps,aHd (by omega) hxf ho,hend]
     have hNN:psN s.data.toList i=if (s.data.toList.getD i 0).toNat=120 then -1-nO (s.extract ((i:Int)+1).toNat (e:Int).toNat).data.toList else nO (s.extract ((i:Int)+1).toNat (e:Int).toNat).data.toList:=by rw[psN,hxw hend]
     first
     | rw[if_pos (by omega)] at hNN
     | rw[if_neg (by omega)] at hNN
     rw[hNN] at hN
     exact eB (e,_,sv) ⟨by simp only;omega,by simp only[aD,aJ];omega,hN⟩)
 ·have hil:i<s.size:=by omega
  have hxf:zN (s.data.toList.getD i 0):=by unfold zN;omega
  have hge:i+1<=qL s.data.toList (i+1):=oK _ _ _
  refine lc_ [5] [27,28,29,30,31,32,33,34,35,36,37,38,39,40,41,42,43,44] (Z:=Nat) (fun e=>[.int .i64 e]) (fun e=>i+1<=e/\e<=s.size/\qL s.data.toList (i+1)=qL s.data.toList e) (fun e=>s.size-e) (i+1) ⟨aM _,hil,rfl⟩ ?_
  intro e u l' hl' ⟨he1,he2,hee⟩
  simp only[bM,List.map,List.set] at hl'
  subst hl'
  have hpl:=aG0 (s.extract ((i:Int)+1).toNat (e:Int).toNat).data.toList
  have hst:¬ (e<s.size/\gN (s.data.toList.getD e 0))->qL s.data.toList (i+1)=e:=fun h=>hee.trans (sF (by rw[hll];exact h))
  have hxw:qL s.data.toList (i+1)=e->psW s.data.toList i=(s.extract ((i:Int)+1).toNat (e:Int).toNat).data.toList:=fun h=>by
   rw[psW,h,show((i:Int)+1).toNat=i+1 by omega,bH,ByteArray.data_extract,Array.toList_extract]
  repeat' (first|refine aU ?_|refine bP ?_|refine cV fun r hr=>?_|refine aW fun r=>?_|refine bG fun sv=>?_|refine bV fun hc=>?_|refine bW fun hc=>?_|refine aS (fun hc=>?_) fun hc=>?_|fail)
  all_goals first
   | exact eB (e+1) ⟨by omega,by omega,by rw[hee];exact rX (by omega) ⟨by omega,by omega⟩⟩
   | skip
  all_goals
   have hend:qL s.data.toList (i+1)=e:=hst (fun h=>by unfold gN at h;omega)
   first
   | (
     have ho:¬ nsO s.data.toList i t:=fun h=>by
      first
      | (
        have h1:=h.1
        rw[hxw hend] at h1
        exact absurd h1 ‹_›)
      | (have h2:=h.2;omega)
     have hn:zS s.data.toList 0 []=none:=by rw[hps];exact bIl (by omega) hxf ho
     rw[hn]
     simp only[cK,cC]
     exact⟨_,rfl,aH⟩)
   | (
     have ho:nsO s.data.toList i t:=⟨by rw[hxw hend];assumption,by omega⟩
     have hN:zS s.data.toList 0 []=zS s.data.toList e (t++[psN s.data.toList i]):=by rw[hps,aHd (by omega) hxf ho,hend]
     have hNN:psN s.data.toList i=if (s.data.toList.getD i 0).toNat=120 then -1-nO (s.extract ((i:Int)+1).toNat (e:Int).toNat).data.toList else nO (s.extract ((i:Int)+1).toNat (e:Int).toNat).data.toList:=by rw[psN,hxw hend]
     first
     | rw[if_pos (by omega)] at hNN
     | rw[if_neg (by omega)] at hNN
     rw[hNN] at hN
     exact eB (e,_,sv) ⟨by simp only;omega,by simp only[aD,aJ];omega,hN⟩)
 ·have hn:zS s.data.toList 0 []=some t:=by rw[hps];exact aWq (by omega)
  rw[hn]
  simp only[aZ,dL]
  exact⟨_,rfl,aH⟩⟩
theorem aK1{a t:List Int}{s:ByteArray}(ht:bB a t=true):S (TT a t)=s↔TX a t 0=s.data.toList:=by
 rw[show TT a t=TX a t 0 from if_pos ht]
 constructor
 ·intro h;exact congrArg (fun b:ByteArray=>b.data.toList) h
 ·intro h
  apply ByteArray.ext
  apply Array.ext'
  exact h
noncomputable def trL(a:List Int)(l:List UInt8):List Int:=if aFx a l=true then wO l else []
instance bH9{I:List Atom}{v:Value}{a:List Int}{s:ByteArray}[h:bK Int I v a] :
  bQ prog 58 [.agg #[v],.string s] I (s.size<=1000000) (Value) (fun q:Value=>.tuple #[q,.bool (aFx a s.data.toList)]) (fun q=>.ow [q] (trL a s.data.toList)::I):=⟨fun hs w0=>by
 have hno:¬ okT a s.data.toList->aFx a s.data.toList=false/\trL a s.data.toList=[]:=fun h=>by
  have h1:aFx a s.data.toList=false:=by
   cases hb:aFx a s.data.toList with
   | false=>rfl
   | true=>exact absurd (uW.1 hb) h
  exact⟨h1,by unfold trL;rw[h1];rfl⟩
 have hyes:okT a s.data.toList->aFx a s.data.toList=true/\trL a s.data.toList=wO s.data.toList:=fun h=>by
  have h1:=uW.2 h
  exact⟨h1,by unfold trL;rw[h1];rfl⟩
 refine cL (A:=fun q:Value=>[.ow [q] (trL a s.data.toList)]) (fun w1=>?_) (aE h fI) fun _=>inferInstance
 simp only[aA,aB]
 refine aK func58 ntmps58 ?_
 repeat' (first|refine aU ?_|refine cV fun r hr=>?_|refine aW fun r=>?_|refine bG fun sv=>?_|refine bT fun b=>?_|refine bV fun hc=>?_|refine bW fun hc=>?_|refine aS (fun hc=>?_) fun hc=>?_|fail)
 ·have hn:¬ okT a s.data.toList:=fun h=>by rw[(mX h).2.2] at hc;cases hc
  rw[(hno hn).1,(hno hn).2]
  exact⟨_,rfl,aH⟩
 ·have hn:¬ okT a s.data.toList:=fun h=>by
   rw[(mX h).2.2,aZ,(mX h).1] at hc;cases hc
  rw[(hno hn).1,(hno hn).2]
  exact⟨_,rfl,aH⟩
 ·have hn:¬ okT a s.data.toList:=fun h=>by
   rw[(mX h).2.2,aZ] at hc
   exact hc ((aK1 (mX h).1).2 (mX h).2.1)
  rw[(hno hn).1,(hno hn).2]
  exact⟨_,rfl,aH⟩
 ·have hy:okT a s.data.toList:=⟨_,‹_›,(aK1 ‹_›).1 hc⟩
  rw[(hyes hy).1,(hyes hy).2,(mX hy).2.2]
  simp only[aZ]
  exact⟨_,rfl,aH⟩⟩
noncomputable def sX(a:List Int)(s:ByteArray):Option (List (List Int)):=if s={ data:=#[45] } then some [] else if aI1 (aG9 (okT a) (gG 59 s.data.toList) (gG 59 s.data.toList).length)=true then some ((gG 59 s.data.toList).map wO) else none
theorem aYj{a:List Int}{s:ByteArray}{k:Nat}(h:s≠{ data:=#[45] })(hk:k<(gG 59 s.data.toList).length)(h2:¬ okT a ((gG 59 s.data.toList).getD k [])):sX a s=none:=by
 unfold sX
 rw[if_neg h,if_neg]
 rw[aWk (fun h3=>h2 (h3 k hk))]
 decide
theorem aP4{a:List Int}{s:ByteArray}(h:s≠{ data:=#[45] })(h2:aG9 (okT a) (gG 59 s.data.toList) (gG 59 s.data.toList).length):sX a s=some ((gG 59 s.data.toList).map wO):=by
 unfold sX
 rw[if_neg h,if_pos (aX1 h2)]
theorem bLs{a:List Int}{l:List UInt8}(h:aFx a l=false):¬ okT a l:=fun h2=>by rw[uW.2 h2] at h;cases h
instance aSo{I:List Atom}{v:Value}{a:List Int}{s:ByteArray}[h:bK Int I v a] :
  bQ prog 28 [.agg #[v],.string s] I (s.size<=1000000) (Value) (fun q:Value=>.tuple #[q,.bool (sX a s).isSome]) (fun q=>.ow [q] ((sX a s).getD [])::I):=⟨fun hs w0=>by
 have hll:s.data.toList.length=s.size:=bZ
 obtain ⟨hwl1,hwl2⟩:=oO 59 s.data.toList
 have hc44:UInt8.ofNat (Int.toNat 59)=59:=rfl
 refine cL (A:=fun q:Value=>[.ow [q] ((sX a s).getD [])]) (fun w1=>?_) (aE h fI) fun _=>inferInstance
 simp only[aA,aB]
 refine aK func28 ntmps28 ?_
 repeat' (first|refine aU ?_|refine cV fun r hr=>?_|refine aW fun r=>?_|refine bG fun sv=>?_|refine bT fun b=>?_|refine bV fun hc=>?_|refine bW fun hc=>?_|refine aS (fun hc=>?_) fun hc=>?_|fail)
 ·rw[show sX a s=some [] from if_pos hc]
  simp only[aZ,dL]
  exact⟨_,rfl,aH⟩
 rw[hc44]
 generalize hwse:gG 59 s.data.toList=ws at *
 have hml:(ws.map S).length=ws.length:=aY _
 refine lp_ [6,8] [17,18,19,20,24,25,26,27,28,29,23,30,31,9,10,32,33,34,4,5,35,36,37,38,21,22] (Z:=Value×Nat) (fun k=>[k.1,.int .i64 k.2]) (fun k=>[.ow [k.1] ((ws.take k.2).map wO)]) (fun k=>k.2<=ws.length/\aG9 (okT a) ws k.2) (fun k=>ws.length-k.2) (sv,0) [.ow [sv] ([]:List (List Int))] ⟨aI _,fun j hj=>by omega⟩ ?_
 intro ⟨ov,i⟩ u l' hl' ⟨hi,hall⟩
 simp only[bM,List.map,List.set] at hl'
 subst hl'
 simp only[aA,aB] at hi hall ⊢
 have hol:((ws.take i).map wO).length=i:=by rw[aY,aN];omega
 by_cases hil:i<ws.length
 ·have hsz:((ws.map S).getD (i:Int).toNat ByteArray.empty).size<=1000000:=by
   rw[bH,rF hil,eZ]
   have:=hwl2 _ (sK hil)
   omega
  have hsz2:((ws.map S).getD i ByteArray.empty).size<=1000000:=hsz
  have hgw:=rF hil
  repeat' (first|refine aU ?_|refine bP ?_|refine bG fun sv=>?_|refine bV fun hc=>?_|refine bW fun hc=>?_|refine aS (fun hc=>?_) fun hc=>?_|refine cV fun r hr=>?_|refine aW fun r=>?_|refine wb 8 [] ?_|refine xp ?_|refine xy ?_|refine bI ?_|fail)
  ·rw[hgw] at hc
   rw[aYj ‹_› (k:=i) (by rw[hwse];exact hil) (by rw[hwse];exact bLs hc)]
   simp only[cK,cC]
   exact⟨_,rfl,aH⟩
  ·rw[hgw] at hc ⊢
   have hok:=uW.1 hc
   rw[show trL a (S (ws.getD i [])).data.toList=wO (ws.getD i []) from if_pos hc,show(ws.take i).map wO++[wO (ws.getD i [])]=(ws.take (i+1)).map wO by
    rw[bC hil,cG,aC,aG hil];rfl]
   exact eB (sv,i+1) ⟨by simp only;omega,aEw hall hok⟩
 ·repeat' (first|refine aU ?_|refine bV fun hc=>?_|refine bW fun hc=>?_|refine aS (fun hc=>?_) fun hc=>?_|fail)
  rw[aP4 ‹_› (by rw[hwse,show ws.length=i by omega];exact hall),hwse,show i=ws.length by omega,cZ]
  simp only[aZ,dL]
  exact⟨_,rfl,aH⟩⟩
end Go.Proofs.YtajdgkpjbpindaaGreatDoor
namespace Go.Proofs.YtajdgkpjbpindaaGreatDoor
open Go Go.Eng
theorem aJt(c:UInt8)(w:List UInt8):∀ ws:List (List UInt8),jnB c (ws++[w])=jnB c ws++((if ws.length=0 then [] else [c])++w)
 | []=>rfl
 | [x]=>rfl
 | x::y::t=>by
  have ih:=aJt c w (y::t)
  rw[aA,aA,jnB,← aA,ih,jnB,if_neg (by simp),if_neg (by simp),aT]
  rfl
theorem aOt(c:UInt8)(ss:List ByteArray):∀ k,k<=ss.length->qD c ss k=jnB c ((ss.take k).map fun b=>b.data.toList)
 | 0,_=>rfl
 | k+1,h=>by
  rw[qD,aOt c ss k (by omega),bC (by omega),cG,List.map_cons,List.map_nil,aJt]
  congr 2
  ·rw[aY,aN,Nat.min_eq_left (by omega)]
  ·rw[aC,aG (by omega),aZ]
theorem aOa(c:UInt8)(ss:List ByteArray):qD c ss ss.length=jnB c (ss.map fun b=>b.data.toList):=by
 rw[aOt c ss _ (aM _),cZ]
theorem aI2{p:List UInt8->Prop}{ws:List (List UInt8)}(h:aG9 p ws ws.length):∀ w∈ws,p w:=fun w hw=>by
 obtain ⟨i,hi,rfl⟩:=cO hw
 have:=h i hi
 rwa [aC,aG hi] at this
theorem aEh{ws:List (List UInt8)}{f:List UInt8->List UInt8}(h:∀ w∈ws,f w=w):ws.map f=ws:=by
 rw[List.map_congr_left h]
 exact List.map_id _
theorem aO0{s:ByteArray}{p:List Int}(h:mT s=some p):lsT p=s:=by
 unfold mT at h
 split at h
 ·rename_i hs
  injection h with h
  rw[← h,hs];rfl
 ·split at h
  ·rename_i hs ha
   injection h with h
   have hall:=aI2 (aK0.1 ha)
   have hl:p.length≠0:=by
    rw[← h,aY]
    have:=xE 44 s.data.toList
    cases hx:gG 44 s.data.toList with
    | nil=>exact absurd hx this
    | cons _ _=>simp
   rw[lsT,if_neg hl,show p.length=(nT p).length from(aBj p).symm,aOa]
   have hm:((nT p).map fun b=>b.data.toList)=gG 44 s.data.toList:=by
    rw[← h,nT,List.map_map,List.map_map]
    exact aEh fun w hw=>(aOv (hall w hw)).2
   rw[hm,aJ2]
   rfl
  ·cases h
theorem bE9{a:List Int}{s:ByteArray}{q:List (List Int)}(h:sX a s=some q):trT a q=s/\aJd a q q.length:=by
 unfold sX at h
 split at h
 ·rename_i hs
  injection h with h
  rw[← h,hs]
  exact⟨rfl,fun i hi=>by simp at hi⟩
 ·split at h
  ·rename_i hs ha
   injection h with h
   have hall:=aI2 (aK0.1 ha)
   have hl:q.length≠0:=by
    rw[← h,aY]
    have:=xE 59 s.data.toList
    cases hx:gG 59 s.data.toList with
    | nil=>exact absurd hx this
    | cons _ _=>simp
   refine⟨?_,fun i hi=>?_⟩
   ·rw[trT,if_neg hl,show q.length=(tT a q).length from(aMv a q).symm,aOa]
    have hm:((tT a q).map fun b=>b.data.toList)=gG 59 s.data.toList:=by
     rw[← h,tT,List.map_map,List.map_map]
     exact aEh fun w hw=>(mX (hall w hw)).2.1
    rw[hm,aJ2]
    rfl
   ·rw[aC,aG hi,aZ]
    have key:∀ t∈q,bB a t=true:=fun t ht=>by
     rw[← h] at ht
     obtain ⟨w,hw,he⟩:=dT.1 ht
     rw[← he]
     exact(mX (hall w hw)).1
    exact key _ (cS hi)
  ·cases h
theorem bI2{a:List Int}{s:ByteArray}{x y z u:List UInt8}{p:List Int}{q:List (List Int)}{r:List Int}(h4:gG 32 s.data.toList=[x,y,z,u])(hp:mT (S y)=some p)(hq:sX a (S z)=some q)(hr:mT (S u)=some r) :
  ndT a (yO (S x),p,q,r)=s↔eA a=true/\jN (yO (S x),p,q,r) 64=true:=by
 constructor
 ·intro h
  by_cases hn:NdP a (yO (S x),p,q,r)
  ·exact⟨hn.1,hn.2.1⟩
  ·rw[ndT,if_neg hn] at h
   rw[← h] at h4
   have:gG 32 ByteArray.empty.data.toList=[[]]:=rfl
   rw[this] at h4
   cases h4
 ·rintro ⟨h1,h2⟩
  obtain ⟨ht,hts⟩:=bE9 hq
  have hnp:nJ (yO (S x),p,q,r) 64:=of_decide_eq_true h2
  rw[ndT,if_pos ⟨h1,h2,hts⟩]
  simp only
  rw[bFz hnp.1.2.1,aO0 hp,ht,aO0 hr]
  apply ByteArray.ext
  apply Array.ext'
  have hj:=aJ2 32 s.data.toList
  rw[h4] at hj
  rw[← hj]
  simp [jnB,S,ByteArray.data_append]
end Go.Proofs.YtajdgkpjbpindaaGreatDoor
