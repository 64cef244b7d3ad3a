/- Texts of the proof of FnNames. -/
import Derived.Test.YtajdgkpjbpindaaGreatDoorTac
set_option linter.unusedVariables false
set_option linter.unusedSimpArgs false
set_option linter.unusedSectionVars false
namespace Go.Proofs.YtajdgkpjbpindaaGreatDoor
open Go Go.Eng Tryz
def uB(x y:gK):Prop:=(x.2.length<=60/\1<=x.1.length/\x.1.length<=60)/\(y.2.length<=60/\1<=y.1.length/\y.1.length<=60)/\1+2*x.2.length+2*y.2.length<=200
instance {x y:gK}:Decidable (uB x y):=by unfold uB;infer_instance
def kJ(x y:gK):dK:=if uB x y then (2,[(x.2.length:Int)]++kB x.2++kB y.2,[x.1,y.1],[]) else (0,[],[],[])
theorem bCi{x y:gK}(h:¬ uB x y):kJ x y=(0,[],[],[]):=if_neg h
theorem aW1{x y:gK}(h:uB x y):kJ x y=(2,[(x.2.length:Int)]++kB x.2++kB y.2,[x.1,y.1],[]):=if_pos h
instance aOq{I:List Atom}{x y:gK}{v0 v1 v2 v3:Value}[h:bK Int I v0 x.1][h':bK eW I v1 x.2][h2:bK Int I v2 y.1][h3:bK eW I v3 y.2] :
  bQ prog 138 [.agg #[v0,v1],.agg #[v2,v3]] I (True) (Value×Value×Value) (fun p:Value×Value×Value=>.agg #[.int .i64 (kJ x y).1,p.1,p.2.1,p.2.2]) (fun p=>.ow [p.1] (kJ x y).2.1::.ow [p.2.1] (kJ x y).2.2.1::.ow [p.2.2] (kJ x y).2.2.2::I):=⟨fun _ w0=>by
 refine cL (A:=fun p:Value×Value×Value=>[.ow [p.1] (kJ x y).2.1,.ow [p.2.1] (kJ x y).2.2.1,.ow [p.2.2] (kJ x y).2.2.2]) (fun w1=>?_) (aE h (aE h' (aE h2 (aE h3 fI)))) fun _=>inferInstance
 simp only[aA,aB]
 refine dQ v1 fun hlx=>?_
 refine dQ v3 fun hly=>?_
 refine aK func138 ntmps138 ?_
 have hnx:=lZ x.2
 have hny:=lZ y.2
 repeat' (first|refine aU ?_|refine bP ?_|refine aW fun r=>?_|refine bT fun b=>?_|refine bV fun hc=>?_|refine bW fun hc=>?_|refine aS (fun hc=>?_) fun hc=>?_|refine bG fun sv=>?_|refine wb 3 [6] ?_|refine wb1 4 [12] ?_|refine xp ?_|refine x0 ?_|refine xy ?_|refine x2 ?_ ?_|refine bI ?_|fail)
 all_goals first
  | (rw[bCi (by unfold uB;omega)];exact⟨(_,_,_),rfl,aH⟩)
  | (rw[aW1 (by unfold uB;omega)];exact⟨(_,_,_),rfl,aH⟩)⟩
def pD(l:List Int):List Int:=[(l.length:Int)]++l
theorem lP(l:List Int):(pD l).length=1+l.length:=by simp [pD];omega
instance l29List_ctr{I Y:List Atom}{o v:Value}{out xs:List Int}[ho:cQ (List Int) bA I [o] out Y][h:bK Int Y v xs] :
  bQ prog 246 [o,v] I (out.length<=4194304/\xs.length<=4194304) (Value) (fun sv:Value=>sv) (fun sv=>.ow [sv] (out++pD xs)::Y):=⟨fun hl w0=>by
 refine eN ho.perm ?_
 refine aK func246 ntmps246 ?_
 repeat' (first|refine aU ?_|refine bG fun sv=>?_|fail)
 rw[aT,show[(xs.length:Int)]++xs=pD xs from rfl]
 exact⟨_,rfl,aH⟩⟩
theorem pO{V:Type}(f:V->List Int)[Inhabited V]{xs:List V}{k:Nat}(h:k<xs.length):((xs.take (k+1)).map f).flatten=((xs.take k).map f).flatten++f (xs.getD k default):=by
 rw[bC h,cG,List.flatten_append,aC,aG h]
 simp
theorem aAx{V:Type}(f:V->List Int)(xs:List V)(k:Nat):((xs.take k).map f).flatten.length<=(xs.map f).flatten.length:=by
 conv=>rhs;rw[← dF k xs,cG,List.flatten_append,aD]
 omega
theorem aJj{V:Type}(f:V->List Int)(c:Nat)(hf:∀ x,c<=(f x).length)(xs:List V):c*xs.length<=(xs.map f).flatten.length:=by
 induction xs with
 | nil=>simp
 | cons x xs ih=>
  have:=hf x
  simp only[List.map_cons,List.flatten_cons,aD,aF,Nat.mul_add]
  omega
def qC(p:cJ):List Int:=[p.1]++pD p.2
def gZ(xs:List cJ):List Int:=(xs.map qC).flatten
def jE(s:eG):List Int:=pD s.1++(pD s.2.1++([(s.2.2.1.length:Int)]++(gZ s.2.2.1++pD s.2.2.2)))
def mO(xs:List eG):List Int:=(xs.map jE).flatten
theorem aLj(p:cJ):(qC p).length=2+p.2.length:=by simp [qC,lP];omega
theorem aJx(xs:List cJ):2*xs.length<=(gZ xs).length:=aJj qC 2 (fun x=>by rw[aLj];omega) xs
theorem yU(s:eG):(jE s).length=4+s.1.length+s.2.1.length+(gZ s.2.2.1).length+s.2.2.2.length:=by
 simp only[jE,aD,lP,aF,aL];omega
theorem aAm(s:eG):4+s.1.length+s.2.1.length+2*s.2.2.1.length+s.2.2.2.length<=(jE s).length:=by
 have:=aJx s.2.2.1
 rw[yU];omega
theorem aTe(xs:List eG):4*xs.length<=(mO xs).length:=aJj jE 4 (fun x=>by have:=aAm x;omega) xs
theorem bE8{xs:List eG}{k:Nat}(h:k<xs.length):(xs.getD k default).1.length+(xs.getD k default).2.1.length+(xs.getD k default).2.2.1.length+(xs.getD k default).2.2.2.length<=nA.size xs/\nA.size (xs.getD k default).2.2.1<=nA.size xs:=by
 have h1:=aQf (mM h)
 rw[nM,nM,nM,lE,lE,lE] at h1
 have h2:=iE (xs.getD k default).2.2.1
 rw[iE xs]
 omega
theorem bB5{xs:List cJ}{k:Nat}(h:k<xs.length):(xs.getD k default).2.length<=nA.size xs:=by
 have h1:=aQf (mM h)
 rw[nM,aH0,lE] at h1
 rw[iE xs]
 omega
theorem sV{A:List Int}{xs:List cJ}{j:Nat}(h:j<xs.length):A++gZ (xs.take j)++[(xs.getD j default).1]++pD (xs.getD j default).2=A++gZ (xs.take (j+1)):=by
 unfold gZ
 rw[pO qC h]
 simp [qC]
def iO(xs:List eG):dK:=if (mO xs).length<=200 then (12,mO xs,[],[]) else (0,[],[],[])
theorem rP{xs:List eG}(h:200<(mO xs).length):iO xs=(0,[],[],[]):=if_neg (by omega)
theorem aQ8{xs:List eG}(h:(mO xs).length<=200):iO xs=(12,mO xs,[],[]):=if_pos h
instance aL9{I:List Atom}{xs:List eG}{v:Value}[h:bK eG I v xs] :
  bQ prog 181 [v] I (nA.size xs<=1048576) (Value×Value×Value) (fun p:Value×Value×Value=>.agg #[.int .i64 (iO xs).1,p.1,p.2.1,p.2.2]) (fun p=>.ow [p.1] (iO xs).2.1::.ow [p.2.1] (iO xs).2.2.1::.ow [p.2.2] (iO xs).2.2.2::I):=⟨fun hsz w0=>by
 refine cL (A:=fun p:Value×Value×Value=>[.ow [p.1] (iO xs).2.1,.ow [p.2.1] (iO xs).2.2.1,.ow [p.2.2] (iO xs).2.2.2]) (fun w1=>?_) (aE h fI) fun _=>inferInstance
 simp only[aA,aB]
 refine dQ v fun hlx=>?_
 have hge:=aTe xs
 refine aK func181 ntmps181 ?_
 repeat' (first|refine aU ?_|refine bG fun sv=>?_|refine bT fun b=>?_|refine bV fun hc=>?_|refine bW fun hc=>?_|refine aS (fun hc=>?_) fun hc=>?_|fail)
 ·rw[rP (by omega)]
  exact⟨(_,_,_),rfl,aH⟩
 rename Value=>tv
 refine lp_ [3,4] [12,13,14,15,18,19,20,21,5,22,23,24,25,26,27,28,29,30,31,32,33,34,35,36,37,38,39,40,41,42,43,44,45,46,47,48,49,50,51,52,53,54,55,56,6,57,58,59,60,61,62,63,64,65,66,69,70,71,72,73,74,75,76,77,78,79,80,81,82,83,84,85,67,68,86,87,88,89,16,17] (Z:=Nat×Value×List Int) (fun k=>[k.2.1,.int .i64 k.1]) (fun k=>[.ow [k.2.1] k.2.2]) (fun k=>k.1<=xs.length/\k.2.2.length<=2097152/\(k.2.2=mO (xs.take k.1)∨(200<k.2.2.length/\200<(mO xs).length))) (fun k=>xs.length-k.1) (0,tv,[]) [.ow [tv] ([]:List Int)] ⟨aI _,by simp,.inl rfl⟩ ?_
 intro ⟨k,s,n⟩ u l' hl' ⟨hk,hkn,hkk⟩
 simp only[bM,List.map,List.set] at hl'
 subst hl'
 simp only[aA,aB] at hk hkk hkn ⊢
 have hE:=fun hh:k<xs.length=>bE8 hh
 have hc1:=lP (xs.getD k default).1
 have hc2:=lP (xs.getD k default).2.1
 repeat' (first|refine aU ?_|refine bP ?_|refine aW fun r=>?_|refine bG fun sv=>?_|refine bT fun b=>?_|(refine iH fun p c d f g hf=>?_;simp only[Un.cells,Un.atoms,Un.fact,aA,aB] at f g hf;subst f g)|refine bV fun hc=>?_|refine bW fun hc=>?_|refine aS (fun hc=>?_) fun hc=>?_|fail)
 ·rcases hkk with e|e
  ·have e1:=congrArg List.length (pO jE (xs:=xs) (k:=k) (by omega))
   have e2:=aAx jE xs (k+1)
   have e3:=aAm (xs.getD k default)
   rw[aD] at e1
   have e4:n.length=(((xs.take k).map jE).flatten).length:=by rw[e];rfl
   rw[rP (by show 200<((xs.map jE).flatten).length;omega)]
   exact⟨(_,_,_),rfl,aH⟩
  ·rw[rP e.2]
   exact⟨(_,_,_),rfl,aH⟩
 ·have e:n=mO (xs.take k):=by
   rcases hkk with e|e
   ·exact e
   ·omega
  generalize hA:n++pD (xs.getD k default).1++pD (xs.getD k default).2.1++[((xs.getD k default).2.2.1.length:Int)]=A
  have hAl:A.length<=300:=by
   rw[← hA]
   simp only[aD,aF,aL]
   omega
  refine bD [3,6] [57,58,59,60,61,62,63,64,65,66,69,70,71,72,73,74,75,76,77,78,79,80,81,82,83,84,85,67,68] (Z:=Nat×Value) (fun j=>[j.2,.int .i64 j.1]) (fun j=>[.ow [j.2] (A++gZ ((xs.getD k default).2.2.1.take j.1))]) (fun j=>j.1<=(xs.getD k default).2.2.1.length/\(A++gZ ((xs.getD k default).2.2.1.take j.1)).length<=1049000) (fun j=>(xs.getD k default).2.2.1.length-j.1) (0,sv) [.ow [sv] A] (by kernel_rfl) ⟨aI _,by simp [gZ];omega⟩ (by simp [gZ]) ?_
  intro ⟨j,t⟩ u l' hl' ⟨hj,hjn⟩
  simp only[bM,List.map,List.set] at hl'
  subst hl'
  simp only[aA,aB] at hj hjn ⊢
  have hP:=fun hh:j<(xs.getD k default).2.2.1.length=>bB5 hh
  have hjl:(A++gZ ((xs.getD k default).2.2.1.take j)).length=A.length+(gZ ((xs.getD k default).2.2.1.take j)).length:=aD
  repeat' (first|refine aU ?_|refine bP ?_|refine aW fun r=>?_|refine bG fun sv=>?_|(refine iH fun p c d f g hf=>?_;simp only[Un.cells,Un.atoms,Un.fact,aA,aB] at f g hf;subst f g)|refine bV fun hc=>?_|refine bW fun hc=>?_|refine aS (fun hc=>?_) fun hc=>?_|fail)
  ·rw[sV (by omega)]
   have e5:=congrArg List.length (sV (A:=A) (xs:=(xs.getD k default).2.2.1) (j:=j) (by omega))
   have e6:=lP ((xs.getD k default).2.2.1.getD j default).2
   rw[aD,aD,hjl,e6] at e5
   simp only[aF,aL] at e5
   exact eB (j+1,r) ⟨by simp only;omega,by simp only;omega⟩
  ·refine eB (k+1,r,A++gZ ((xs.getD k default).2.2.1.take j)++pD (xs.getD k default).2.2.2) ⟨by simp only;omega,?_,.inr ⟨?_,?_⟩⟩
   ·simp only
    rw[aD,lP]
    omega
   ·simp only
    rw[aD]
    omega
   ·have e1:=congrArg List.length (pO jE (xs:=xs) (k:=k) (by omega))
    have e2:=aAx jE xs (k+1)
    have e3:=yU (xs.getD k default)
    have e7:(gZ ((xs.getD k default).2.2.1.take j)).length<=(gZ (xs.getD k default).2.2.1).length:=aAx qC (xs.getD k default).2.2.1 j
    rw[aD] at e1
    have e4:n.length=(((xs.take k).map jE).flatten).length:=by rw[e];rfl
    have e8:A.length=n.length+(1+(xs.getD k default).1.length)+(1+(xs.getD k default).2.1.length)+1:=by
     rw[← hA];simp only[aD,hc1,hc2,aF,aL]
    show 200<((xs.map jE).flatten).length
    omega
  ·rw[bE (l:=(xs.getD k default).2.2.1) (by omega)] at hjn hjl ⊢
   have hx:A++gZ (xs.getD k default).2.2.1++pD (xs.getD k default).2.2.2=mO (xs.take (k+1)):=by
    rw[← hA,e]
    unfold mO
    rw[pO jE (by omega)]
    simp [jE]
   rw[hx]
   have e6:=congrArg List.length hx
   rw[aD,lP] at e6
   exact eB (k+1,r,mO (xs.take (k+1))) ⟨by simp only;omega,by simp only;omega,.inl rfl⟩
 ·rcases hkk with e|e
  ·rw[bE (by omega)] at e
   rw[rP (by rw[← e];omega)]
   exact⟨(_,_,_),rfl,aH⟩
  ·rw[rP e.2]
   exact⟨(_,_,_),rfl,aH⟩
 ·rcases hkk with e|e
  ·rw[bE (by omega)] at e
   subst e
   rw[aQ8 (by omega)]
   exact⟨(_,_,_),rfl,aH⟩
  ·omega⟩
end Go.Proofs.YtajdgkpjbpindaaGreatDoor
