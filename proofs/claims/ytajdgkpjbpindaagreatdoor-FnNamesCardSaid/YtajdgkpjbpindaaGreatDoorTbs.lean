/- Texts of the proof of FnNames. -/
import Derived.Test.YtajdgkpjbpindaaGreatDoorTbp
import Derived.Test.YtajdgkpjbpindaaGreatDoorTak
import Derived.Test.YtajdgkpjbpindaaGreatDoorTbl
set_option linter.unusedVariables false
set_option linter.unusedSimpArgs false
set_option linter.unusedSectionVars false
namespace Go.Proofs.YtajdgkpjbpindaaGreatDoor
open Go Go.Eng Tryz
set_option synthInstance.maxHeartbeats 400000
set_option synthInstance.maxSize 1000
set_option maxHeartbeats 2000000
set_option maxRecDepth 20000
theorem aU9(x y:ByteArray):(x++y).size=x.size+y.size:=ByteArray.size_append
def tT(a:List Int)(ts:List (List Int)):List ByteArray:=ts.map fun t=>S (TX a t 0)
theorem aMv(a:List Int)(ts:List (List Int)):(tT a ts).length=ts.length:=aY _
theorem aP8(a:List Int)(ts:List (List Int)){k:Nat}(h:k<ts.length):tT a (ts.take k)++[S (TX a (ts.getD k default) 0)]=tT a (ts.take (k+1)):=by
 unfold tT
 rw[bC h,cG,aC,aG h];rfl
def aJd(a:List Int)(ts:List (List Int))(k:Nat):Prop:=∀ i,i<k->bB a (ts.getD i default)=true
theorem aE2{a:List Int}{ts:List (List Int)}{k:Nat}(h:aJd a ts k)(hk:bB a (ts.getD k default)=true):aJd a ts (k+1):=fun i hi=>by
 by_cases he:i=k
 ·rw[he];exact hk
 ·exact h i (by omega)
instance {a:List Int}{ts:List (List Int)}{k:Nat}:Decidable (aJd a ts k):=decidable_of_iff (∀ i,∀ _:i<k,bB a (ts.getD i default)=true) Iff.rfl
def trT(a:List Int)(ts:List (List Int)):ByteArray:=if ts.length=0 then S [45] else S (qD 59 (tT a ts) ts.length)
def NdP(a:List Int)(n:dK):Prop:=eA a=true/\jN n 64=true/\aJd a n.2.2.1 n.2.2.1.length
instance {a:List Int}{n:dK}:Decidable (NdP a n):=by unfold NdP;infer_instance
def ndT(a:List Int)(n:dK):ByteArray:=if NdP a n then knT n.1++S [32]++lsT n.2.1++S [32]++trT a n.2.2.1++S [32]++lsT n.2.2.2 else ByteArray.empty
theorem aYm(a:List Int)(ts:List (List Int))(k:Nat)(hk:k<=ts.length)(hl:ts.length<=61)(h:aJd a ts k)(h60:∀ i,i<ts.length->(ts.getD i default).length<=60):rB (tT a (ts.take k)) k<=k*200000:=by
 refine aF5 _ 200000 (fun s hs=>?_) k
 obtain ⟨t,ht,rfl⟩:=dT.1 hs
 rw[eZ]
 obtain ⟨i,hi,rfl⟩:=List.mem_iff_getElem.1 ht
 rw[aN] at hi
 have hg:(ts.take k)[i]=ts.getD i default:=by
  rw[List.getElem_take,aC,aG (by omega)];rfl
 rw[hg]
 have hok:=h i (by omega)
 have h6:=h60 i (by omega)
 have hpos:=aX hok
 have:=qO hok _ 0 (by omega) (aM _)
 have hsl:(eX a (ts.getD i default) 0).length<=(ts.getD i default).length:=by
  unfold eX;rw[aN,aR];omega
 omega
theorem bGd{a t:List Int}(h:t.length<=60):(S (TT a t)).size<=1000:=by
 rw[eZ]
 by_cases hok:bB a t=true
 ·rw[show TT a t=TX a t 0 from if_pos hok]
  have hpos:=aX hok
  have:=qO hok _ 0 (by omega) (aM _)
  have hsl:(eX a t 0).length<=t.length:=by
   unfold eX;rw[aN,aR];omega
  omega
 ·rw[show TT a t=[] from if_neg hok];simp
theorem aWo(K L T L2:ByteArray):({ data:=#[32] }:ByteArray).size=1/\(K++{ data:=#[32] }).size=K.size+1/\(K++{ data:=#[32] }++L).size=K.size+1+L.size/\(K++{ data:=#[32] }++L++{ data:=#[32] }).size=K.size+1+L.size+1/\
  (K++{ data:=#[32] }++L++{ data:=#[32] }++T).size=K.size+1+L.size+1+T.size/\(K++{ data:=#[32] }++L++{ data:=#[32] }++T++{ data:=#[32] }).size=K.size+1+L.size+1+T.size+1:=by
 simp only[aU9]
 exact⟨rfl,rfl,rfl,rfl,rfl,rfl⟩
theorem aIu{n:dK}(h:nJ n 64){i:Nat}(hi:i<n.2.2.1.length):(n.2.2.1.getD i default).length<=60:=by
 have h1:=h.2.2.1
 by_cases h2:1<=(n.2.2.1.getD i default).length/\(n.2.2.1.getD i default).length<=60
 ·exact h2.2
 ·exact absurd ⟨i,hi,h2⟩ h1
theorem wV(xs:List Int)(h:∀ n∈xs,aCf n):(lsT xs).size<=xs.length*22+1:=by
 unfold lsT
 split
 ·rw[eZ];simp
 ·rw[eZ]
  have h1:=(pV 44 (nT xs) xs.length).1
  have h2:=aPv xs h
  omega
theorem nQ{w0:World}{I:List Atom}{v va vb vc:Value}{a:List Int}{n:dK}[h:bK Int I v a][ha:bK Int I va n.2.1][hb:bK (List Int) I vb n.2.2.1][hc':bK Int I vc n.2.2.2](hk:-9223372036854775808<=n.1/\n.1<=9223372036854775807) :
  CJ prog 18 [.agg #[v],.agg #[.int .i64 n.1,va,vb,vc]] w0 I (fun _:Unit=>.string (ndT a n)) (fun _=>I):=by
 refine oP va fun h64a=>?_
 refine oP vc fun h64c=>?_
 refine jV (fun w1=>?_) (aE h (aE ha (aE hb (aE hc' fI))))
 refine aK func18 ntmps18 ?_
 repeat' (first|refine aU ?_|refine aW fun r=>?_|refine bG fun sv=>?_|refine bT fun b=>?_|refine bV fun hc=>?_|refine bW fun hc=>?_|refine aS (fun hc=>?_) fun hc=>?_|fail)
 ·exact⟨(),by rw[ndT,if_neg (fun h=>by rw[h.1] at hc;exact absurd hc (by decide))];rfl,aH⟩
 ·exact⟨(),by rw[ndT,if_neg (fun h=>hc (of_decide_eq_true h.2.1))];rfl,aH⟩
 have hnp:=hc
 have hsig:eA a=true:=‹_›
 have hl:=hnp.2.1
 have hls1:=wV n.2.1 h64a
 have hls2:=wV n.2.2.2 h64c
 have hkn:=aL0 n.1
 refine lp_ [5,6] [17,18,19,20,21,24,25,26,27,28,29,30,31,4,32,33,34,35,36,37,38,39,40,41,22,23] (Z:=Nat×Value) (fun k=>[k.2,.int .i64 k.1]) (fun k=>[.ow [k.2] (tT a (n.2.2.1.take k.1))]) (fun k=>k.1<=n.2.2.1.length/\aJd a n.2.2.1 k.1) (fun k=>n.2.2.1.length-k.1) (0,sv) [.ow [sv] ([]:List ByteArray)] ⟨aI _,fun i hi=>by omega⟩ ?_
 intro ⟨k,sv⟩ u l' hl' ⟨hk,hts⟩
 simp only[bM,List.map,List.set] at hl'
 subst hl'
 simp only[aA,aB] at hk hts ⊢
 have hkl:(tT a (n.2.2.1.take k)).length=k:=by rw[aMv,aN];omega
 have hsz:=aYm a n.2.2.1 k hk (by omega) hts (fun i hi=>aIu hnp hi)
 have hjn:=pV 59 (tT a (n.2.2.1.take k)) k
 have hbt:rB (tT a (n.2.2.1.take k)) (tT a (n.2.2.1.take k)).length+(tT a (n.2.2.1.take k)).length<=1000000000:=by rw[hkl];omega
 have hjs:(S (qD 59 (tT a (n.2.2.1.take k)) (tT a (n.2.2.1.take k)).length)).size<=100000000:=by rw[hkl,eZ];omega
 have h45:({ data:=#[45] }:ByteArray).size=1:=rfl
 have c1:=aWo (knT n.1) (lsT n.2.1) { data:=#[45] } (lsT n.2.2.2)
 have c2:=aWo (knT n.1) (lsT n.2.1) (S (qD 59 (tT a (n.2.2.1.take k)) (tT a (n.2.2.1.take k)).length)) (lsT n.2.2.2)
 have htk:k<n.2.2.1.length->(S (TT a (n.2.2.1.getD k default))).size<=1000:=fun hi=>bGd (aIu hnp hi)
 repeat' (first|refine aU ?_|refine bP ?_|refine aW fun r=>?_|refine bV fun hc=>?_|refine bW fun hc=>?_|refine aS (fun hc=>?_) fun hc=>?_|refine bG fun sv=>?_|refine wb 7 [] ?_|refine wb 9 [9] ?_|refine wb 13 [] ?_|refine xp ?_|refine x0 ?_|(refine xd fun p c d e f g h hf=>?_;simp only[Un.cells,Un.atoms,Un.fact,aA,aB] at f g h hf;subst f g h)|refine xy ?_|refine bI ?_|fail)
 ·exact⟨(),by rw[ndT,if_neg (fun h=>by rw[h.2.2 k (by omega)] at hc;exact absurd hc (by decide))];rfl,aH⟩
 ·rw[show TT a (n.2.2.1.getD k default)=TX a (n.2.2.1.getD k default) 0 from if_pos hc,aP8 a n.2.2.1 (by omega)]
  exact eB (k+1,sv) ⟨by simp only;omega,aE2 hts hc⟩
 ·refine⟨(),congrArg Value.string ?_,aH⟩
  have hkn:k=n.2.2.1.length:=by omega
  rw[ndT,if_pos ⟨hsig,decide_eq_true hnp,hkn▸hts⟩,trT,if_neg (by omega),hkl,hkn,cZ];rfl
 ·refine⟨(),congrArg Value.string ?_,aH⟩
  have hkn:k=n.2.2.1.length:=by omega
  rw[ndT,if_pos ⟨hsig,decide_eq_true hnp,hkn▸hts⟩,trT,if_pos (by omega)];rfl
theorem jn4(A B C D:ByteArray):S (qD 32 [A,B,C,D] 4)=A++S [32]++B++S [32]++C++S [32]++D:=by
 apply ByteArray.ext
 simp [qD,S,ByteArray.data_append]
theorem bLt(A B C D:ByteArray):rB [A,B,C,D] 4=A.size+B.size+C.size+D.size:=by simp [rB]
instance aTb{I:List Atom}{v vt:Value}{a t:List Int}[h:bK Int I v a][h1:bK Int I vt t] :
  bQ prog 35 [.agg #[v],vt] I (bB a t=true) (Unit) (fun _:Unit=>.string (S (TT a t))) (fun _=>I):=⟨fun hok w0=>by
 rw[show TT a t=TX a t 0 from if_pos hok]
 exact aD7 hok⟩
attribute [local instance 2000] aTb
theorem j4(A B C D:ByteArray)(h:A.size+B.size+C.size+D.size<=999999996):rB [A,B,C,D] [A,B,C,D].length+[A,B,C,D].length<=1000000000:=by
 rw[show[A,B,C,D].length=4 from rfl,bLt];omega
instance aP1{I:List Atom}{v va vb vc:Value}{a:List Int}{n:dK}[h:bK Int I v a][ha:bK Int I va n.2.1][hb:bK (List Int) I vb n.2.2.1][hc':bK Int I vc n.2.2.2][ht:dZ (Tab) repTab I [tabV] (Tab.mk Lib.pow10Tab)] :
  bQ prog 11 [.agg #[v],.agg #[.int .i64 n.1,va,vb,vc]] I (-9223372036854775808<=n.1/\n.1<=9223372036854775807) (Unit) (fun _:Unit=>.string (ndT a n)) (fun _=>I):=⟨fun hk w0=>by
 refine oP va fun h64a=>?_
 refine oP vc fun h64c=>?_
 refine jV (fun w1=>?_) (aE h (aE ha (aE hb (aE hc' (aE ht fI)))))
 refine aK func11 ntmps11 ?_
 repeat' (first|refine aU ?_|refine aW fun r=>?_|refine bT fun b=>?_|refine bV fun hc=>?_|refine bW fun hc=>?_|refine aS (fun hc=>?_) fun hc=>?_|fail)
 ·exact⟨(),by rw[ndT,if_neg (fun h=>by rw[h.1] at hc;exact absurd hc (by decide))];rfl,aH⟩
 ·exact⟨(),by rw[ndT,if_neg (fun h=>hc (of_decide_eq_true h.2.1))];rfl,aH⟩
 have hnp:=hc
 have hsig:eA a=true:=‹_›
 have hl:=hnp.2.1
 have hls1:=wV n.2.1 h64a
 have hls2:=wV n.2.2.2 h64c
 have hkn:=aL0 n.1
 refine xI (V:=ByteArray) (iα:=aBs) ?_
 refine lp_ [5,19] [20,21,22,7,23,24,25,26,4,27,28,29,30,31,32,33] (Z:=Nat×Value) (fun k=>[k.2,.int .i64 k.1]) (fun k=>[.ow [k.2] (tT a (n.2.2.1.take k.1))]) (fun k=>k.1<=n.2.2.1.length/\aJd a n.2.2.1 k.1) (fun k=>n.2.2.1.length-k.1) (0,.slice none 0 0) [.ow [.slice none 0 0] ([]:List ByteArray)] ⟨aI _,fun i hi=>by omega⟩ ?_
 intro ⟨k,sv⟩ u l' hl' ⟨hk,hts⟩
 simp only[bM,List.map,List.set] at hl'
 subst hl'
 simp only[aA,aB] at hk hts ⊢
 have hkl:(tT a (n.2.2.1.take k)).length=k:=by rw[aMv,aN];omega
 have hsz:=aYm a n.2.2.1 k hk (by omega) hts (fun i hi=>aIu hnp hi)
 have hjn:=pV 59 (tT a (n.2.2.1.take k)) k
 have hbt:rB (tT a (n.2.2.1.take k)) (tT a (n.2.2.1.take k)).length+(tT a (n.2.2.1.take k)).length<=1000000000:=by rw[hkl];omega
 have hjs:(S (qD 59 (tT a (n.2.2.1.take k)) (tT a (n.2.2.1.take k)).length)).size<=100000000:=by rw[hkl,eZ];omega
 have h45:({ data:=#[45] }:ByteArray).size=1:=rfl
 have htk:k<n.2.2.1.length->(S (TT a (n.2.2.1.getD k default))).size<=1000:=fun hi=>bGd (aIu hnp hi)
 have hb1:rB [({ data:=#[45] }:ByteArray)] [({ data:=#[45] }:ByteArray)].length+[({ data:=#[45] }:ByteArray)].length<=1000000000:=by decide
 have hz1:({ data:=(qD 59 [({ data:=#[45] }:ByteArray)] [({ data:=#[45] }:ByteArray)].length).toArray }:ByteArray).size=1:=rfl
 have hz2:({ data:=(qD 59 (tT a (n.2.2.1.take k)) (tT a (n.2.2.1.take k)).length).toArray }:ByteArray).size<=100000000:=hjs
 have hq1:=j4 (knT n.1) (lsT n.2.1) { data:=(qD 59 [({ data:=#[45] }:ByteArray)] [({ data:=#[45] }:ByteArray)].length).toArray } (lsT n.2.2.2) (by omega)
 have hq2:=j4 (knT n.1) (lsT n.2.1) { data:=(qD 59 (tT a (n.2.2.1.take k)) (tT a (n.2.2.1.take k)).length).toArray } (lsT n.2.2.2) (by omega)
 repeat' (first|refine aU ?_|refine bP ?_|refine aW fun r=>?_|refine bG fun sv=>?_|(refine iH fun p c d f g hf=>?_;simp only[Un.cells,Un.atoms,Un.fact,aA,aB] at f g hf;subst f g)|refine bV fun hc=>?_|refine bW fun hc=>?_|refine aS (fun hc=>?_) fun hc=>?_|refine wb 13 [] ?_|refine xp ?_|refine xy ?_|refine bI ?_|fail)
 ·exact⟨(),by rw[ndT,if_neg (fun h=>by rw[h.2.2 k (by omega)] at hc;exact absurd hc (by decide))];rfl,aH⟩
 ·rw[show TT a (n.2.2.1.getD k default)=TX a (n.2.2.1.getD k default) 0 from if_pos hc,aP8 a n.2.2.1 (by omega)]
  exact eB (k+1,sv) ⟨by simp only;omega,aE2 hts hc⟩
 ·refine⟨(),congrArg Value.string ?_,aH⟩
  have hkn:k=n.2.2.1.length:=by omega
  rw[ndT,if_pos ⟨hsig,decide_eq_true hnp,hkn▸hts⟩,trT,if_pos (by omega)]
  exact(jn4 _ _ _ _).symm
 ·refine⟨(),congrArg Value.string ?_,aH⟩
  have hkn:k=n.2.2.1.length:=by omega
  rw[ndT,if_pos ⟨hsig,decide_eq_true hnp,hkn▸hts⟩,trT,if_neg (by omega),hkl,hkn,cZ]
  exact(jn4 _ _ _ _).symm⟩
end Go.Proofs.YtajdgkpjbpindaaGreatDoor
