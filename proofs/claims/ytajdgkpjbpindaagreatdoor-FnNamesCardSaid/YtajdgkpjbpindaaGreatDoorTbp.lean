/- Texts of the proof of FnNames. -/
import Derived.Test.YtajdgkpjbpindaaGreatDoorTbn
import Derived.Test.YtajdgkpjbpindaaGreatDoorTbo
import Derived.Lib.LaidTab
import Derived.Lib.ItoaLen
set_option linter.unusedVariables false
set_option linter.unusedSimpArgs false
set_option linter.unusedSectionVars false
namespace Go.Proofs.YtajdgkpjbpindaaGreatDoor
open Go Go.Eng Go.RowKit Go.Sort Tryz
set_option synthInstance.maxHeartbeats 400000
set_option synthInstance.maxSize 1000
set_option maxRecDepth 20000
structure Tab where
 zs:List Int
instance repTab:cB Tab where
 sz:=1
 rd ok w cells x:=∃ g e fz,cells=[.pointer (some ⟨g,0,none⟩)]/\ok g/\w.heap[g]?=some (.cells (x.zs.map (Value.int .u64)).toArray e fz)
 ow ok w F cells x:=F=[]/\∃ g e fz,cells=[.pointer (some ⟨g,0,none⟩)]/\ok g/\w.heap[g]?=some (.cells (x.zs.map (Value.int .u64)).toArray e fz)
 pos:=by decide
 rd_len:=by rintro _ _ _ _ ⟨g,e,fz,rfl,_⟩;rfl
 rd_one:=by rintro _ _ _ _ ⟨g,e,fz,rfl,_⟩ x hx;simp at hx;subst hx;rfl
 rd_mono:=by
  rintro _ _ _ _ _ _ ⟨g,e,fz,h1,h2,h3⟩ hm
  have:=hm g h2 (bL.1 h3).1
  exact⟨g,e,fz,h1,this.1,this.2.trans h3⟩
 ow_mono:=by
  rintro _ _ _ _ _ _ _ ⟨hF,g,e,fz,h1,h2,h3⟩ _ hm
  have:=hm g h2 (bL.1 h3).1
  exact⟨hF,g,e,fz,h1,this.1,this.2.trans h3⟩
 ow_rd:=by
  rintro _ _ _ _ _ _ ⟨hF,g,e,fz,h1,h2,h3⟩ ho _
  exact⟨g,e,fz,h1,ho g h2,h3⟩
 ow_lt:=by rintro _ _ _ _ _ ⟨rfl,_⟩ b hb;cases hb
abbrev tabV:Value:=.pointer (some ⟨5,0,none⟩)
theorem aS8:prog.globalNamed "internal/strconv.uint64pow10"=some 5:=by kernel_rfl
theorem bJ4{w0 w:World}{I:List Atom}[h:dZ Tab repTab I [tabV] (Tab.mk Lib.pow10Tab)](hs:Sat w0 w I):Lib.TabIs prog w "internal/strconv.uint64pow10" .u64 Lib.pow10Tab:=by
 obtain ⟨g,e,fz,h1,_,h3⟩:=hs.rd (hr:=h)
 simp only[bR,Value.pointer.injEq,Option.some.injEq,Addr.mk.injEq,and_true] at h1
 subst h1
 unfold Lib.TabIs World.var?
 rw[aS8]
 simp only[Option.bind_some,h3]
theorem aNy(w:World)(k:Nat)(os:Array Obj):Below w.heap.size w (grow (w.drewN k) os):=by
 have h1:∀ k,Below w.heap.size w (w.drewN k):=fun k=>⟨rfl,rfl,rfl,aM _,fun _ _=>rfl⟩
 refine(h1 k).trans ⟨rfl,rfl,rfl,?_,fun b hb=>?_⟩
 ·show _<=(w.heap++os).size
  rw[Array.size_append];exact cW _ _
 ·show(w.heap++os)[b]?=w.heap[b]?
  rw[Array.getElem?_append_left hb]
instance aUk{I:List Atom}{i:Int}[h:dZ Tab repTab I [tabV] (Tab.mk Lib.pow10Tab)] :
  bQ prog 169 [.int .i64 i,.int .i64 10] I (-9223372036854775808<=i/\i<=9223372036854775807) (Unit) (fun _:Unit=>.string (S (Lib.itoa i))) (fun _=>I):=⟨fun hi w0=>by
 exact fun w hs=>
  (internal_strconv_FormatInt_10 i hi.1 hi.2 w (bJ4 hs)).mono fun e w' ⟨he,k,os,hw⟩=>⟨(),he,by rw[hw];exact hs.ext (.of (aNy w k os) trivial)⟩⟩
instance aW5{I:List Atom}{i:Int}[h:dZ Tab repTab I [tabV] (Tab.mk Lib.pow10Tab)] :
  bQ prog 121 [.int .i64 i,.int .i64 10] I (-9223372036854775808<=i/\i<=9223372036854775807) (Unit) (fun _:Unit=>.string (S (Lib.itoa i))) (fun _=>I):=⟨fun hi w0=>by
 refine aK func121 ntmps121 ?_
 repeat' (first|refine aU ?_|refine aW fun r=>?_|fail)
 all_goals exact⟨(),rfl,aH⟩⟩
instance bO0{I:List Atom}{i:Int}[h:dZ Tab repTab I [tabV] (Tab.mk Lib.pow10Tab)] :
  bQ prog 84 [.int .i64 i] I (-9223372036854775808<=i/\i<=9223372036854775807) (Unit) (fun _:Unit=>.string (S (Lib.itoa i))) (fun _=>I):=⟨fun hi w0=>by
 refine aK func84 ntmps84 ?_
 repeat' (first|refine aU ?_|refine aW fun r=>?_|fail)
 all_goals exact⟨(),rfl,aH⟩⟩
theorem aYa(m:Nat)(h:10<=m):Lib.decDigits m=Lib.decDigits (m / 10)++[UInt8.ofNat (48+m % 10)]:=by
 rw[Lib.decDigits,dif_neg (by omega)]
theorem aYe(m:Nat)(h:m<10):Lib.decDigits m=[UInt8.ofNat (48+m % 10)]:=by
 rw[Lib.decDigits_one h,Nat.mod_eq_of_lt h]
theorem bKs(m:Nat):0<(Lib.decDigits m).length:=by
 rw[Lib.decDigits_length]
 by_cases h:m<10
 ·rw[Lib.nDigits_small h];decide
 ·rw[Lib.nDigits_big h];omega
theorem bQs{l:List UInt8}(hl:0<l.length):¬ S l={ data:=#[] }:=fun e=>by
 have:=congrArg ByteArray.size e
 rw[eZ] at this
 have h3:({ data:=#[] }:ByteArray).size=0:=rfl
 omega
theorem bO3:S []={ data:=#[] }:=rfl
theorem aU8(d:Nat)(s:List UInt8):(({ data:=#[UInt8.ofNat d] }:ByteArray)++S s)=S (UInt8.ofNat d::s):=by
 rw[show({ data:=#[UInt8.ofNat d] }:ByteArray)=S [UInt8.ofNat d] from rfl,mG];rfl
end Go.Proofs.YtajdgkpjbpindaaGreatDoor
namespace Go.Proofs.YtajdgkpjbpindaaGreatDoor
open Go Go.Eng Tryz
set_option synthInstance.maxHeartbeats 400000
set_option synthInstance.maxSize 1000
set_option maxRecDepth 20000
def DgI(D:List UInt8)(m:Nat)(s:List UInt8):Prop:=(0<m/\Lib.decDigits m++s=D)∨(m=0/\s=D)
theorem DgI.next{D:List UInt8}{m:Nat}{s:List UInt8}(h:DgI D m s)(hm:0<m):DgI D (m / 10) (UInt8.ofNat (48+m % 10)::s):=by
 rcases h with⟨_,h⟩|⟨h,_⟩
 ·by_cases h10:m<10
  ·refine .inr ⟨by omega,?_⟩
   rw[← h,aYe m h10];rfl
  ·refine .inl ⟨by omega,?_⟩
   rw[← h,aYa m (by omega),aT];rfl
 ·omega
theorem DgI.len{D:List UInt8}{m:Nat}{s:List UInt8}(h:DgI D m s):s.length<=D.length:=by
 rcases h with⟨_,h⟩|⟨_,h⟩
 ·rw[← h,aD];omega
 ·rw[h];exact aM _
theorem aN7{n:Nat}(h:n<=9223372036854775808):(Lib.decDigits n).length<=20:=by
 have h1:=Lib.itoa_length_le (-(n:Int)) (by omega) (by omega)
 by_cases hn:n=0
 ·subst hn;decide +kernel
 ·rw[Lib.itoa_neg n (by omega)] at h1
  simp only[aF] at h1
  omega
instance bA6{I:List Atom}{i:Int} :
  bQ prog 113 [.int .i64 i] I (-9223372036854775808<=i/\i<0) (Unit) (fun _:Unit=>.string (S (Lib.decDigits i.natAbs))) (fun _=>I):=⟨fun hi w0=>by
 obtain ⟨n,rfl⟩:∃ n:Nat,i=-(n:Int):=⟨i.natAbs,by omega⟩
 rw[show(-(n:Int)).natAbs=n by omega]
 have hD:(Lib.decDigits n).length<=20:=aN7 (by omega)
 refine aK func113 ntmps113 ?_
 repeat' (first|refine aU ?_|fail)
 refine lc_ [0,3] [4,5,6,7,8,9,10,11,12,13,14,15] (Z:=Nat×List UInt8) (fun k=>[.int .i64 (-(k.1:Int)),.string (S k.2)]) (fun k=>k.1<=9223372036854775808/\DgI (Lib.decDigits n) k.1 k.2) (fun k=>k.1) (n,[]) ⟨by simp only;omega,.inl ⟨by simp only;omega,cF _⟩⟩ ?_
 intro ⟨m,s⟩ u l' hl' ⟨hm,hd⟩
 simp only[bM,List.map,List.set] at hl'
 subst hl'
 simp only at hm hd ⊢
 have hln:=hd.len
 have hmod:(-(m:Int)).tmod 10=-((m % 10:Nat):Int):=by rw[Int.neg_tmod,Int.tmod_eq_emod_of_nonneg (by omega)];rfl
 have hdiv:(-(m:Int)).tdiv 10=-((m / 10:Nat):Int):=by rw[Int.neg_tdiv,Int.tdiv_eq_ediv_of_nonneg (by omega)];rfl
 have hSs:=eZ s
 have hs1:({ data:=#[UInt8.ofNat (48-(-(m:Int)).tmod 10).toNat] }:ByteArray).size=1:=rfl
 repeat' (first|refine aU ?_|refine bP ?_|refine bG fun sv=>?_|refine bV fun hc=>?_|refine bW fun hc=>?_|refine aS (fun hc=>?_) fun hc=>?_|fail)
 ·rw[hmod,hdiv,show(48 - -((m % 10:Nat):Int)).toNat=48+m % 10 by omega,aU8]
  exact eB (m / 10,UInt8.ofNat (48+m % 10)::s) ⟨by simp only;omega,hd.next (by omega)⟩
 ·rcases hd with⟨h,_⟩|⟨_,h⟩
  ·omega
  ·exact⟨(),by rw[h],aH⟩⟩
instance aMg{I:List Atom}{i:Int} :
  bQ prog 98 [.int .i64 i] I (0<=i/\i<=9223372036854775807) (Unit) (fun _:Unit=>.string (S (Lib.decDigits i.natAbs))) (fun _=>I):=⟨fun hi w0=>by
 obtain ⟨n,rfl⟩:∃ n:Nat,i=(n:Int):=⟨i.natAbs,by omega⟩
 rw[show(n:Int).natAbs=n by omega]
 have hD:(Lib.decDigits n).length<=20:=aN7 (by omega)
 have hn0:=bKs n
 refine aK func98 ntmps98 ?_
 repeat' (first|refine aU ?_|fail)
 refine lc_ [0,3] [8,9,10,11,12,13,14,15,5,16,17,18,19,20,21,22,23,24,25,26,27,28] (Z:=Nat×List UInt8) (fun k=>[.int .i64 (k.1:Int),.string (S k.2)]) (fun k=>k.1<=9223372036854775807/\((k.2=[]/\k.1=n)∨(0<k.2.length/\DgI (Lib.decDigits n) k.1 k.2))) (fun k=>if k.2.length=0 then k.1+1 else k.1) (n,[]) ⟨by simp only;omega,.inl ⟨rfl,rfl⟩⟩ ?_
 intro ⟨m,s⟩ u l' hl' ⟨hm,hd⟩
 simp only[bM,List.map,List.set] at hl'
 subst hl'
 simp only at hm hd ⊢
 have hln:s.length<=(Lib.decDigits n).length:=by
  rcases hd with⟨h,_⟩|⟨_,h⟩
  ·rw[h];exact aI _
  ·exact h.len
 have hmod:(m:Int).tmod 10=((m % 10:Nat):Int):=by rw[Int.tmod_eq_emod_of_nonneg (by omega)];rfl
 have hdiv:(m:Int).tdiv 10=((m / 10:Nat):Int):=by rw[Int.tdiv_eq_ediv_of_nonneg (by omega)];rfl
 have hSs:=eZ s
 have hs1:({ data:=#[UInt8.ofNat (48+(m:Int).tmod 10).toNat] }:ByteArray).size=1:=rfl
 have hnx:(s=[]/\m=n)∨(0<s.length/\0<m)->DgI (Lib.decDigits n) (m / 10) (UInt8.ofNat (48+m % 10)::s):=fun h=>by
  rcases hd with⟨h1,rfl⟩|⟨h1,h2⟩
  ·rw[h1]
   by_cases h10:m<10
   ·exact .inr ⟨by omega,by rw[aYe m h10]⟩
   ·exact .inl ⟨by omega,by rw[aYa m (by omega)]⟩
  ·refine h2.next ?_
   rcases h with⟨h,_⟩|⟨_,h⟩
   ·rw[h] at h1;simp at h1
   ·exact h
 have hsn:¬ S s={ data:=#[] }->0<s.length:=fun h=>by
  rcases hd with⟨h1,_⟩|⟨h1,_⟩
  ·rw[h1] at h;exact absurd bO3 h
  ·exact h1
 have hst:(s=[]/\m=n)∨(0<s.length/\0<m)->((if s.length=0 then m+1 else m)>m / 10):=fun h=>by
  rcases h with⟨h,_⟩|⟨h,h2⟩
  ·rw[h,aL,if_pos rfl];omega
  ·rw[if_neg (by omega)];omega
 repeat' (first|refine aU ?_|refine bP ?_|refine bG fun sv=>?_|refine bV fun hc=>?_|refine bW fun hc=>?_|refine aS (fun hc=>?_) fun hc=>?_|fail)
 ·have hq:(s=[]/\m=n)∨(0<s.length/\0<m):=by
   rcases hd with h|h
   ·exact .inl h
   ·exact absurd ‹S s={ data:=#[] }› (bQs h.1)
  have hst1:=hst hq
  rw[hmod,hdiv,show(48+((m % 10:Nat):Int)).toNat=48+m % 10 by omega,aU8]
  exact eB (m / 10,UInt8.ofNat (48+m % 10)::s) ⟨by simp only;omega,.inr ⟨Nat.succ_pos _,hnx hq⟩⟩ (by simp only[aF,Nat.succ_ne_zero,if_false,Nat.add_eq_zero_iff,and_false];exact hst1)
 ·have hq:(s=[]/\m=n)∨(0<s.length/\0<m):=.inr ⟨hsn ‹_›,by omega⟩
  have hst1:=hst hq
  rw[hmod,hdiv,show(48+((m % 10:Nat):Int)).toNat=48+m % 10 by omega,aU8]
  exact eB (m / 10,UInt8.ofNat (48+m % 10)::s) ⟨by simp only;omega,.inr ⟨Nat.succ_pos _,hnx hq⟩⟩ (by simp only[aF,Nat.succ_ne_zero,if_false,Nat.add_eq_zero_iff,and_false];exact hst1)
 ·have h0:=hsn ‹_›
  refine⟨(),?_,aH⟩
  rcases hd with⟨h,_⟩|⟨_,⟨h,_⟩|⟨_,h⟩⟩
  ·rw[h] at h0;simp at h0
  ·omega
  ·rw[h]⟩
attribute [local instance 2000] aMg
instance bA5{I:List Atom}{i:Int} :
  bQ prog 78 [.int .i64 i] I (-9223372036854775808<=i/\i<=9223372036854775807) (Unit) (fun _:Unit=>.string (S (Lib.itoa i))) (fun _=>I):=⟨fun hi w0=>by
 have hs1:({ data:=#[45] }:ByteArray).size=1:=rfl
 have hl:(Lib.decDigits i.natAbs).length<=20:=aN7 (by omega)
 have hSs:=eZ (Lib.decDigits i.natAbs)
 refine aK func78 ntmps78 ?_
 repeat' (first|refine aU ?_|refine bP ?_|refine aW fun r=>?_|refine bV fun hc=>?_|refine bW fun hc=>?_|refine aS (fun hc=>?_) fun hc=>?_|fail)
 ·refine⟨(),congrArg Value.string ?_,aH⟩
  rw[show({ data:=#[45] }:ByteArray)=S [45] from rfl,mG,Lib.itoa,if_pos (by omega)];rfl
 ·refine⟨(),congrArg Value.string ?_,aH⟩
  rw[Lib.itoa,if_neg (by omega),show i.natAbs=i.toNat by omega]⟩
def nT(xs:List Int):List ByteArray:=xs.map fun n=>S (Lib.itoa n)
theorem aBj(xs:List Int):(nT xs).length=xs.length:=aY _
theorem aPa(xs:List Int){k:Nat}(h:k<xs.length):nT (xs.take k)++[S (Lib.itoa (xs.getD k 0))]=nT (xs.take (k+1)):=by
 unfold nT
 rw[bC h,cG,aC,aG h];rfl
theorem aF5(ss:List ByteArray)(b:Nat)(h:∀ s∈ss,s.size<=b):∀ k,rB ss k<=k*b
 | 0=>aI _
 | k+1=>by
  have h1:=aF5 ss b h k
  have h2:(ss.getD k ByteArray.empty).size<=b:=by
   by_cases hk:k<ss.length
   ·rw[aC,aG hk];exact h _ (cS hk)
   ·rw[aC,dA (by omega)];exact aI _
  unfold rB
  rw[Nat.succ_mul];omega
def lsT(xs:List Int):ByteArray:=if xs.length=0 then S [45] else S (qD 44 (nT xs) xs.length)
instance bHv{I:List Atom}{v:Value}{ss:List ByteArray}{c:UInt8}[h:bK ByteArray I v ss] :
  bQ prog 47 [v,.string { data:=#[c] }] I (rB ss ss.length+ss.length<=1000000000) (Unit) (fun _:Unit=>.string (S (qD c ss ss.length))) (fun _=>I):=⟨fun hB w0=>by
 refine dQ v fun hlen=>?_
 have hcs:({ data:=#[c] }:ByteArray).size=1:=rfl
 refine aK func47 ntmps47 ?_
 repeat' (first|refine aU ?_|fail)
 refine lc_ [5,6] [7,8,9,10,13,14,15,16,17,18,19,20,21,22,23,11,12] (Z:=Nat) (fun k=>[.string (S (qD c ss k)),.int .i64 k]) (fun k=>k<=ss.length) (fun k=>ss.length-k) 0 (aI _) ?_
 intro k u l' hl' hk
 simp only[bM,List.map,List.set] at hl'
 subst hl'
 have hjl:=pV c ss k
 have hmono:=mF ss k (ss.length-k)
 rw[show k+(ss.length-k)=ss.length by omega] at hmono
 have hSs:=eZ (qD c ss k)
 have hap:(S (qD c ss k)++({ data:=#[c] }:ByteArray)).size=(qD c ss k).length+1:=by
  rw[show({ data:=#[c] }:ByteArray)=S [c] from rfl,mG,eZ,aD];rfl
 have hm1:k<ss.length->rB ss k+(ss.getD ((k:Nat):Int).toNat ByteArray.empty).size<=rB ss ss.length:=fun hkl=>by
  have:=mF ss (k+1) (ss.length-(k+1))
  rw[show k+1+(ss.length-(k+1))=ss.length by omega] at this
  exact this
 have hgt:ss.getD ((k:Nat):Int).toNat ByteArray.empty=S (ss.getD k ByteArray.empty).data.toList:=by
  rw[bH];exact ByteArray.ext (by simp [S])
 repeat' (first|refine aU ?_|refine bP ?_|refine bV fun hc=>?_|refine bW fun hc=>?_|refine aS (fun hc=>?_) fun hc=>?_|fail)
 ·rw[hgt,show({ data:=#[c] }:ByteArray)=S [c] from rfl,mG,mG,show qD c ss k++[c]++(ss.getD k ByteArray.empty).data.toList=qD c ss (k+1) by
   rw[qD,if_neg (by omega),aT]]
  exact eB (k+1) (by omega)
 ·rw[hgt,mG,show qD c ss k++(ss.getD k ByteArray.empty).data.toList=qD c ss (k+1) by
   rw[qD,if_pos (by omega)];rfl]
  exact eB (k+1) (by omega)
 ·rw[show k=ss.length by omega]
  exact⟨(),rfl,aH⟩⟩
theorem aPv(xs:List Int)(h:∀ n∈xs,aCf n):rB (nT xs) xs.length<=xs.length*21:=by
 refine aF5 _ 21 (fun s hs=>?_) _
 obtain ⟨n,hn,rfl⟩:=dT.1 hs
 rw[eZ]
 exact Lib.itoa_length_le n (h n hn).1 (h n hn).2
theorem aE6{xs:List Int}(h:∀ n∈xs,aCf n){k:Nat}(hk:k<xs.length):-9223372036854775808<=xs.getD k 0/\xs.getD k 0<=9223372036854775807:=by
 rw[aC,aG hk]
 exact h _ (cS hk)
instance bHq{I:List Atom}{v:Value}{xs:List Int}[h:bK Int I v xs] :
  bQ prog 49 [v] I (xs.length<=1048576) (Unit) (fun _:Unit=>.string (lsT xs)) (fun _=>I):=⟨fun hx w0=>by
 refine oP v fun h64=>?_
 refine jV (fun w1=>?_) (aE h fI)
 have hsz:=aPv xs h64
 refine aK func49 ntmps49 ?_
 repeat' (first|refine aU ?_|refine bG fun sv=>?_|refine bV fun hc=>?_|refine bW fun hc=>?_|refine aS (fun hc=>?_) fun hc=>?_|fail)
 ·exact⟨(),congrArg Value.string (by rw[lsT,if_pos (by omega)];rfl),aH⟩
 refine lp_ [3,4] [9,10,11,12,15,16,17,18,19,20,21,22,13,14] (Z:=Nat×Value) (fun k=>[k.2,.int .i64 k.1]) (fun k=>[.ow [k.2] (nT (xs.take k.1))]) (fun k=>k.1<=xs.length) (fun k=>xs.length-k.1) (0,sv) [.ow [sv] ([]:List ByteArray)] (aI _) ?_
 intro ⟨k,sv⟩ u l' hl' hk
 simp only[bM,List.map,List.set] at hl'
 subst hl'
 simp only[aA,aB] at hk ⊢
 have hkl:(nT (xs.take k)).length=k:=by rw[aBj,aN];omega
 have hg:k<xs.length->-9223372036854775808<=xs.getD ((k:Nat):Int).toNat 0/\xs.getD ((k:Nat):Int).toNat 0<=9223372036854775807:=fun hk=>aE6 h64 hk
 have hrs:k<xs.length->(S (Lib.itoa (xs.getD k 0))).size<=21:=fun hk=>by
  rw[eZ];exact Lib.itoa_length_le _ (hg hk).1 (hg hk).2
 have hsk:rB (nT (xs.take k)) (nT (xs.take k)).length<=k*21:=by
  have:=aPv (xs.take k) (fun n hn=>h64 n (List.mem_of_mem_take hn))
  rw[aN,show min k xs.length=k by omega] at this
  rw[hkl];exact this
 repeat' (first|refine aU ?_|refine eF fun hbi=>?_|refine bP ?_|refine aW fun r=>?_|refine bG fun sv=>?_|refine bV fun hc=>?_|refine bW fun hc=>?_|refine aS (fun hc=>?_) fun hc=>?_|fail)
 ·rw[aPa xs (by omega)]
  exact eB (k+1,sv) (by simp only;omega)
 ·refine⟨(),congrArg Value.string ?_,aH⟩
  rw[lsT,if_neg (by omega),show k=xs.length by omega,cZ,aBj]⟩
theorem bKb(xs:List Int){k:Nat}(h:k<xs.length):(nT (xs.take k)++List.replicate (xs.length-k) ByteArray.empty).set k (S (Lib.itoa (xs.getD k 0)))=nT (xs.take (k+1))++List.replicate (xs.length-(k+1)) ByteArray.empty:=by
 have hkl:(nT (xs.take k)).length=k:=by rw[aBj,aN];omega
 rw[List.set_append_right _ _ (by omega),hkl,Nat.sub_self,show xs.length-k=(xs.length-(k+1))+1 by omega,List.replicate_succ,List.set_cons_zero,← aPa xs h,aT];rfl
instance bFo{I:List Atom}{v:Value}{xs:List Int}{c:UInt8}[h:bK Int I v xs][ht:dZ (Tab) repTab I [tabV] (Tab.mk Lib.pow10Tab)] :
  bQ prog 69 [v,.string { data:=#[c] }] I (xs.length<=1048576) (Unit) (fun _:Unit=>.string (S (qD c (nT xs) xs.length))) (fun _=>I):=⟨fun hx w0=>by
 refine oP v fun h64=>?_
 refine jV (fun w1=>?_) (aE h (aE ht fI))
 have hsz:=aPv xs h64
 refine aK func69 ntmps69 ?_
 repeat' (first|refine aU ?_|refine bG fun sv=>?_|fail)
 refine lp_ [13] [14,15,16,17,6,7,18,19,20,21,22,23] (Z:=Nat) (fun k=>[.int .i64 k]) (fun k=>[.ow [sv] (nT (xs.take k)++List.replicate (xs.length-k) ByteArray.empty)]) (fun k=>k<=xs.length) (fun k=>xs.length-k) 0 [.ow [sv] (List.replicate xs.length ByteArray.empty)] (aI _) ?_
 intro k u l' hl' hk
 simp only[bM,List.map,List.set] at hl'
 subst hl'
 simp only[aA,aB] at hk ⊢
 have hkl:(nT (xs.take k)++List.replicate (xs.length-k) ByteArray.empty).length=xs.length:=by rw[aD,aBj,aN,cA];omega
 have hg:k<xs.length->-9223372036854775808<=xs.getD ((k:Nat):Int).toNat 0/\xs.getD ((k:Nat):Int).toNat 0<=9223372036854775807:=fun hk=>aE6 h64 hk
 have hrs:k<xs.length->(S (Lib.itoa (xs.getD k 0))).size<=21:=fun hk=>by
  rw[eZ];exact Lib.itoa_length_le _ (hg hk).1 (hg hk).2
 have hsk:k=xs.length->rB (nT (xs.take k)++List.replicate (xs.length-k) ByteArray.empty) (nT (xs.take k)++List.replicate (xs.length-k) ByteArray.empty).length<=xs.length*21:=fun hk=>by
  rw[hkl,hk,Nat.sub_self,List.replicate_zero,cF,cZ];exact hsz
 repeat' (first|refine aU ?_|refine eF fun hbi=>?_|refine bP ?_|refine aW fun r=>?_|refine bV fun hc=>?_|refine bW fun hc=>?_|refine aS (fun hc=>?_) fun hc=>?_|fail)
 ·rw[bKb xs (by omega)]
  exact eB (k+1) (by omega)
 ·refine⟨(),congrArg Value.string ?_,aH⟩
  rw[hkl,show xs.length-k=0 by omega,show k=xs.length by omega,List.replicate_zero,cF,cZ];rfl⟩
instance bD3{I:List Atom}{v:Value}{xs:List Int}[h:bK Int I v xs][ht:dZ (Tab) repTab I [tabV] (Tab.mk Lib.pow10Tab)] :
  bQ prog 37 [v] I (xs.length<=1048576) (Unit) (fun _:Unit=>.string (lsT xs)) (fun _=>I):=⟨fun hx w0=>by
 refine aK func37 ntmps37 ?_
 repeat' (first|refine aU ?_|refine aW fun r=>?_|refine bV fun hc=>?_|refine bW fun hc=>?_|refine aS (fun hc=>?_) fun hc=>?_|fail)
 ·exact⟨(),congrArg Value.string (by rw[lsT,if_pos (by omega)];rfl),aH⟩
 ·exact⟨(),congrArg Value.string (by rw[lsT,if_neg (by omega)]),aH⟩⟩
end Go.Proofs.YtajdgkpjbpindaaGreatDoor
