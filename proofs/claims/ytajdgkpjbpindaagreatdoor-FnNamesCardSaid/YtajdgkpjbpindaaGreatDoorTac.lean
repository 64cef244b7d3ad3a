/- Texts of the proof of FnNames. -/
import Derived.Test.YtajdgkpjbpindaaGreatDoorTaa
import Derived.Test.YtajdgkpjbpindaaGreatDoorChecked
set_option linter.unusedVariables false
set_option linter.unusedSimpArgs false
set_option linter.unusedSectionVars false
namespace Go.Proofs.YtajdgkpjbpindaaGreatDoor
open Go Go.Eng
def eA(a:List Int):Bool:=decide (1<=a.length/\a.length<=8)&&a.all fun n=>decide (0<=n/\n<=3)
def ar(a:List Int)(n:Int):Int:=if n<0 then 0 else a.getD n.toNat 0
def nV(a:List Int)(x:Int):Bool:=decide ((a.length:Int)<=x)
def dS(a:List Int)(x:Int):Bool:=decide (x < -24∨(a.length:Int)<=x)
def eQ(a:List Int)(bad:Int->Bool):List Int->Nat->Bool×Nat
 | _,0=>(true,0)
 | [],_+1=>(false,0)
 | x::xs,m+1=>if bad x then (false,0) else ((eQ a bad xs (m+(ar a x).toNat)).1,(eQ a bad xs (m+(ar a x).toNat)).2+1)
def jR(a:List Int)(bad:Int->Bool)(t:List Int)(at_:Nat):Int:=if (eQ a bad (t.drop at_) 1).1 then (at_+(eQ a bad (t.drop at_) 1).2:Nat) else -1
def bB(a t:List Int):Bool:=eA a&&decide (1<=t.length/\t.length<=60)&&decide (jR a (dS a) t 0=t.length)
theorem eC{a:List Int}(h:eA a=true):1<=a.length/\a.length<=8:=by
 simp only[eA,cN,decide_eq_true_eq] at h;exact h.1
theorem fM{a:List Int}(h:eA a=true){k:Nat}(hk:k<a.length):0<=a.getD k 0/\a.getD k 0<=3:=by
 simp only[eA,cN,List.all_eq_true,decide_eq_true_eq] at h
 rw[aC,aG hk]
 exact h.2 _ (cS hk)
theorem iK{a:List Int}(h:eA a=true){x:Int}(hx:x<a.length):0<=ar a x/\ar a x<=3:=by
 unfold ar
 split
 ·omega
 ·exact fM h (by omega)
theorem wZ(a:List Int)(bad:Int->Bool):∀ (l:List Int) (m:Nat),(eQ a bad l m).2<=l.length
 | l,0=>by simp [eQ]
 | [],m+1=>by simp [eQ]
 | x::xs,m+1=>by
  simp only[eQ]
  split
  ·simp
  ·have:=wZ a bad xs (m+(ar a x).toNat)
   simp only[aF];omega
theorem rU(a:List Int)(bad:Int->Bool)(l:List Int)(m:Nat)(h:(eQ a bad l (m+1)).1=true):1<=(eQ a bad l (m+1)).2:=by
 cases l with
 | nil=>simp [eQ] at h
 | cons x xs=>
  simp only[eQ] at h ⊢
  split at h
  ·simp at h
  ·rename_i hb
   rw[if_neg hb]
   simp
theorem iL(a:List Int)(bad:Int->Bool):∀ (l:List Int) (m n:Nat),eQ a bad l (m+n) =
  if (eQ a bad l m).1 then ((eQ a bad (l.drop (eQ a bad l m).2) n).1,(eQ a bad l m).2+(eQ a bad (l.drop (eQ a bad l m).2) n).2) else eQ a bad l m
 | l,0,n=>by simp [eQ]
 | [],m+1,n=>by rw[Nat.add_right_comm];simp [eQ]
 | x::xs,m+1,n=>by
  rw[Nat.add_right_comm]
  simp only[eQ]
  by_cases hb:bad x=true
  ·simp [hb]
  ·simp only[hb,dB,if_false]
   have ih:=iL a bad xs (m+(ar a x).toNat) n
   rw[show m+n+(ar a x).toNat=m+(ar a x).toNat+n by omega,ih]
   by_cases h1:(eQ a bad xs (m+(ar a x).toNat)).1=true
   ·simp only[h1,if_true,List.drop_succ_cons]
    ext<;>simp<;>omega
   ·simp only[h1,dB,if_false]
theorem zR(a:List Int)(bad:Int->Bool):∀ (l:List Int) (m i:Nat),(eQ a bad l m).1=true->i<(eQ a bad l m).2->∃ m',(eQ a bad (l.drop i) (m'+1)).1=true/\i+(eQ a bad (l.drop i) (m'+1)).2=(eQ a bad l m).2
 | l,0,i,_,hi=>by simp [eQ] at hi
 | [],m+1,i,h,_=>by simp [eQ] at h
 | x::xs,m+1,0,h,_=>⟨m,by simpa using h,by simp⟩
 | x::xs,m+1,i+1,h,hi=>by
  simp only[eQ] at h hi ⊢
  by_cases hb:bad x=true
  ·simp [hb] at h
  ·simp only[hb,dB,if_false] at h hi ⊢
   obtain ⟨m',h1,h2⟩:=zR a bad xs _ i h (by omega)
   exact⟨m',by simpa using h1,by simp only[List.drop_succ_cons];omega⟩
theorem vF(a:List Int)(bad:Int->Bool)(l:List Int)(m:Nat)(h:(eQ a bad l (m+1)).1=true):(eQ a bad l 1).1=true/\(eQ a bad l 1).2<=(eQ a bad l (m+1)).2:=by
 have:=iL a bad l 1 m
 rw[Nat.add_comm 1 m] at this
 rw[this] at h ⊢
 by_cases h1:(eQ a bad l 1).1=true
 ·simp [h1]
 ·simp [h1] at h
theorem aKj{a:List Int}{bad bad':Int->Bool}(hb:∀ x,bad' x=true->bad x=true):∀ (l:List Int) (m:Nat),(eQ a bad l m).1=true->eQ a bad' l m=eQ a bad l m
 | l,0,_=>by simp [eQ]
 | [],m+1,h=>by simp [eQ] at h
 | x::xs,m+1,h=>by
  simp only[eQ] at h ⊢
  by_cases h1:bad x=true
  ·simp [h1] at h
  ·have h2:¬ bad' x=true:=fun h=>h1 (hb x h)
   simp only[h1,h2,dB,if_false] at h ⊢
   rw[aKj hb xs _ h]
theorem aIb{a:List Int}{bad:Int->Bool}:∀ (l:List Int) (m:Nat),(eQ a bad l m).1=true->∀ x∈l.take (eQ a bad l m).2,bad x=false
 | l,0,_=>by simp [eQ]
 | [],m+1,h=>by simp [eQ] at h
 | x::xs,m+1,h=>by
  simp only[eQ] at h ⊢
  by_cases h1:bad x=true
  ·simp [h1] at h
  ·simp only[h1,dB,if_false] at h ⊢
   intro y hy
   rw[List.take_succ_cons] at hy
   rcases cH.1 hy with rfl|hy
   ·simpa using h1
   ·exact aIb xs _ h y hy
theorem aJu{a:List Int}{bad bad':Int->Bool}:∀ (l:List Int) (m:Nat),(∀ x∈l,bad x=bad' x)->eQ a bad l m=eQ a bad' l m
 | l,0,_=>by simp [eQ]
 | [],m+1,h=>by simp [eQ]
 | x::xs,m+1,h=>by
  simp only[eQ]
  rw[h x (by simp),aJu xs _ (fun y hy=>h y (by simp [hy]))]
theorem fE{a t:List Int}:bB a t=true↔eA a=true/\1<=t.length/\t.length<=60/\eQ a (dS a) t 1=(true,t.length):=by
 simp only[bB,cN,decide_eq_true_eq,jR,List.drop_zero,cR]
 constructor
 ·rintro ⟨⟨h1,h2⟩,h3⟩
  refine⟨h1,h2.1,h2.2,?_⟩
  split at h3
  ·rename_i h;ext
   ·rw[h]
   ·simp only at h3 ⊢;omega
  ·omega
 ·rintro ⟨h1,h2,h3,h4⟩
  rw[h4]
  exact⟨⟨h1,h2,h3⟩,by simp⟩
theorem eI{a t:List Int}(h:bB a t=true):eA a=true:=(fE.1 h).1
theorem aX{a t:List Int}(h:bB a t=true):1<=t.length/\t.length<=60:=⟨(fE.1 h).2.1,(fE.1 h).2.2.1⟩
theorem jG{a t:List Int}(h:bB a t=true){x:Int}(hx:x∈t):-24<=x/\x<a.length:=by
 have h4:=(fE.1 h).2.2.2
 have:=aIb t 1 (by rw[h4]) x (by rw[h4];simpa using hx)
 simp only[dS,decide_eq_false_iff_not,not_or] at this
 omega
theorem eD{t:List Int}{k:Nat}(hk:k<t.length):t.getD k 0∈t:=by
 rw[aC,aG hk];exact cS hk
theorem dY{a t:List Int}(h:bB a t=true){k:Nat}(hk:k<t.length):-24<=t.getD k 0/\t.getD k 0<a.length:=jG h (eD hk)
def sz(a t:List Int)(k:Nat):Nat:=(eQ a (dS a) (t.drop k) 1).2
def eX(a t:List Int)(k:Nat):List Int:=(t.drop k).take (sz a t k)
theorem bKa{a:List Int}(x:Int)(h:nV a x=true):dS a x=true:=by
 simp only[nV,dS,decide_eq_true_eq] at h ⊢;exact .inr h
theorem fN{a t:List Int}(h:bB a t=true){k:Nat}(hk:k<t.length):(eQ a (dS a) (t.drop k) 1).1=true/\1<=sz a t k/\k+sz a t k<=t.length:=by
 have h4:=(fE.1 h).2.2.2
 obtain ⟨m,h1,h2⟩:=zR a (dS a) t 1 k (by rw[h4]) (by rw[h4];exact hk)
 obtain ⟨h5,h6⟩:=vF _ _ _ m h1
 rw[h4] at h2
 exact⟨h5,rU _ _ _ 0 h5,by unfold sz;simp only at h2;omega⟩
theorem aKv{a t:List Int}(h:bB a t=true){k:Nat}(hk:k<t.length):jR a (dS a) t k=(k+sz a t k:Nat):=by
 unfold jR;rw[if_pos (fN h hk).1];rfl
theorem bOj{a t:List Int}(h:bB a t=true){k:Nat}(hk:k<t.length):jR a (nV a) t k=(k+sz a t k:Nat):=by
 unfold jR;rw[aKj bKa _ _ (fN h hk).1,if_pos (fN h hk).1];rfl
theorem mD{a t:List Int}(h:bB a t=true){k:Nat}(hk:k<t.length):(eX a t k).length=sz a t k:=by
 unfold eX;rw[aN,aR];have:=(fN h hk).2.2;omega
theorem aAa{a:List Int}{bad:Int->Bool}:∀ (l:List Int) (m k:Nat),(eQ a bad l m).2<=k->(eQ a bad l m).1=true->eQ a bad (l.take k) m=eQ a bad l m
 | l,0,k,_,_=>by simp [eQ]
 | [],m+1,k,_,h=>by simp [eQ] at h
 | x::xs,m+1,0,h,h'=>by
  have:=rU a bad (x::xs) m h'
  omega
 | x::xs,m+1,k+1,h,h'=>by
  rw[List.take_succ_cons]
  simp only[eQ] at h h' ⊢
  by_cases h1:bad x=true
  ·simp [h1]
  ·simp only[h1,dB,if_false] at h h' ⊢
   rw[aAa xs _ k (by omega) h']
theorem gL{a t:List Int}(h:bB a t=true){k:Nat}(hk:k<t.length):bB a (eX a t k)=true:=by
 obtain ⟨h1,h2,h3⟩:=fN h hk
 have hl:=mD h hk
 have h60:=aX h
 refine fE.2 ⟨eI h,by omega,by omega,?_⟩
 rw[hl]
 show eQ a (dS a) ((t.drop k).take (eQ a (dS a) (t.drop k) 1).2) 1=_
 rw[aAa _ _ _ (aM _) h1]
 ext
 ·rw[h1]
 ·rfl
theorem aAc{a t:List Int}:bB a t=(eA a&&decide (0<t.length)&&decide (t.length<=60)&&decide (∀ x∈t,-24<=x)&&decide (jR a (nV a) t 0=t.length)):=by
 rw[Bool.eq_iff_iff]
 constructor
 ·intro h
  have h2:=aX h
  have h3:jR a (nV a) t 0=t.length:=by
   rw[bOj h (by omega)]
   have h4:=(fE.1 h).2.2.2
   unfold sz;rw[List.drop_zero,h4];omega
  simp only[cN,decide_eq_true_eq]
  exact⟨⟨⟨⟨eI h,by omega⟩,by omega⟩,fun x hx=>(jG h hx).1⟩,h3⟩
 ·simp only[cN,decide_eq_true_eq]
  rintro ⟨⟨⟨⟨h1,h2⟩,h3⟩,h4⟩,h5⟩
  have e:eQ a (nV a) t 1=eQ a (dS a) t 1:=aJu t 1 (fun x hx=>by
   have:=h4 x hx
   simp only[nV,dS]
   congr 1
   exact propext ⟨fun h=>.inr h,fun h=>by omega⟩)
  refine fE.2 ⟨h1,by omega,h3,?_⟩
  unfold jR at h5
  rw[List.drop_zero,e] at h5
  split at h5
  ·rename_i h;ext
   ·rw[h]
   ·simp only at h5 ⊢;omega
  ·omega
def eU(a:List Int):List Int->List Int->List (List Int)->Option (List (List Int))
 | [],_,b=>some b
 | _::_,[],_=>none
 | n::p,x::ts,b=>
  if 0<=n then (if x=n then eU a p ts b else none)
  else if b.getD (-1-n).toNat []=[] then eU a p ((x::ts).drop (eQ a (dS a) (x::ts) 1).2) (b.set (-1-n).toNat ((x::ts).take (eQ a (dS a) (x::ts) 1).2))
  else if b.getD (-1-n).toNat []=(x::ts).take (eQ a (dS a) (x::ts) 1).2 then eU a p ((x::ts).drop (eQ a (dS a) (x::ts) 1).2) b else none
theorem fA{t:List Int}{k:Nat}(hk:k<t.length):t.drop k=t.getD k 0::t.drop (k+1):=by
 rw[List.drop_eq_getElem_cons hk,aC,aG hk];rfl
theorem aTh{a p t:List Int}{b:List (List Int)}{i k:Nat}(hi:p.length<=i):eU a (p.drop i) (t.drop k) b=some b:=by
 rw[cI hi];simp [eU]
theorem aSt{a p t:List Int}{b:List (List Int)}{i k:Nat}(hi:i<p.length)(hk:t.length<=k):eU a (p.drop i) (t.drop k) b=none:=by
 rw[fA hi,cI hk];simp [eU]
theorem aTx{a p t:List Int}{b:List (List Int)}{i k:Nat}(hi:i<p.length)(hk:k<t.length)(hn:0<=p.getD i 0)(he:t.getD k 0=p.getD i 0) :
  eU a (p.drop i) (t.drop k) b=eU a (p.drop (i+1)) (t.drop (k+1)) b:=by
 rw[fA hi,fA hk];simp only[eU];rw[if_pos hn,if_pos he]
theorem aGf{a p t:List Int}{b:List (List Int)}{i k:Nat}(hi:i<p.length)(hk:k<t.length)(hn:0<=p.getD i 0)(he:¬ t.getD k 0=p.getD i 0) :
  eU a (p.drop i) (t.drop k) b=none:=by
 rw[fA hi,fA hk];simp only[eU];rw[if_pos hn,if_neg he]
theorem aTt{a p t:List Int}{b:List (List Int)}{i k:Nat}(hi:i<p.length)(hk:k<t.length)(hn:p.getD i 0<0)(he:b.getD (-1-p.getD i 0).toNat []=[]) :
  eU a (p.drop i) (t.drop k) b=eU a (p.drop (i+1)) (t.drop (k+sz a t k)) (b.set (-1-p.getD i 0).toNat (eX a t k)):=by
 have e:t.drop (k+sz a t k)=(t.drop k).drop (sz a t k):=by rw[List.drop_drop]
 rw[e]
 unfold eX sz
 rw[fA hi,fA hk]
 simp only[eU]
 rw[if_neg (by omega),if_pos he]
theorem aTl{a p t:List Int}{b:List (List Int)}{i k:Nat}(hi:i<p.length)(hk:k<t.length)(hn:p.getD i 0<0)(he:¬ b.getD (-1-p.getD i 0).toNat []=[])(hs:b.getD (-1-p.getD i 0).toNat []=eX a t k) :
  eU a (p.drop i) (t.drop k) b=eU a (p.drop (i+1)) (t.drop (k+sz a t k)) b:=by
 have e:t.drop (k+sz a t k)=(t.drop k).drop (sz a t k):=by rw[List.drop_drop]
 rw[e]
 unfold eX sz at *
 rw[fA hi,fA hk] at *
 simp only[eU]
 rw[if_neg (by omega),if_neg he,if_pos hs]
theorem aHk{a p t:List Int}{b:List (List Int)}{i k:Nat}(hi:i<p.length)(hk:k<t.length)(hn:p.getD i 0<0)(he:¬ b.getD (-1-p.getD i 0).toNat []=[])(hs:¬ b.getD (-1-p.getD i 0).toNat []=eX a t k) :
  eU a (p.drop i) (t.drop k) b=none:=by
 unfold eX sz at hs
 rw[fA hi,fA hk] at *
 simp only[eU]
 rw[if_neg (by omega),if_neg he,if_neg hs]
def zF(i:Nat)(t:List Int):List Int:=if t=[]∨t=[-1-(i:Int)] then [] else t
def eT:Nat->List (List Int)->List (List Int)
 | _,[]=>[]
 | i,t::ts=>zF i t::eT (i+1) ts
def gE:List (List Int)->List (List Int)
 | []=>[]
 | x::xs=>if gE xs=[]/\x=[] then [] else x::gE xs
def eH(ts:List (List Int)):List (List Int):=gE (eT 0 ts)
theorem sA:∀ (i:Nat) (ts:List (List Int)),(eT i ts).length=ts.length
 | _,[]=>rfl
 | i,t::ts=>by simp [eT,sA (i+1) ts]
theorem aBu:∀ (i:Nat) (ts:List (List Int)) (t:List Int),eT i (ts++[t])=eT i ts++[zF (i+ts.length) t]
 | i,[],t=>by simp [eT]
 | i,s::ts,t=>by simp [eT,aBu (i+1) ts t,Nat.add_assoc,Nat.add_comm 1]
theorem lT{ts:List (List Int)}{k:Nat}{t:List Int}(h:ts[k]?=some t):eT 0 (ts.take (k+1))=eT 0 (ts.take k)++[zF k t]:=by
 obtain ⟨hk,he⟩:=dC.1 h
 rw[bC hk,aBu,he,aN,Nat.min_eq_left (by omega),cR]
theorem qT:∀ (l:List (List Int)),gE (l++[[]])=gE l
 | []=>by simp [gE]
 | x::xs=>by simp only[aA,gE,qT xs]
theorem aCg:∀ (l:List (List Int)) (x:List Int),x≠[]->gE (l++[x])=l++[x]
 | [],x,h=>by simp [gE,h]
 | y::ys,x,h=>by
  simp only[aA,gE,aCg ys x h]
  rw[if_neg (by simp)]
theorem aD9:∀ (l:List (List Int)),gE l++List.replicate (l.length-(gE l).length) []=l
 | []=>by simp [gE]
 | x::xs=>by
  have ih:=aD9 xs
  simp only[gE]
  split
  ·rename_i h
   rw[h.1] at ih
   simp only[aB,aL,Nat.sub_zero,aF] at ih ⊢
   rw[List.replicate_succ,ih,h.2]
  ·simp only[aA,aF,Nat.add_sub_add_right,ih]
theorem uP:∀ (l:List (List Int)),(gE l).length<=l.length
 | []=>by simp [gE]
 | x::xs=>by
  have:=uP xs
  simp only[gE]
  split<;>simp<;>omega
theorem qF{l:List (List Int)}{j:Nat}(hj:j<l.length)(h:l.getD j []=[]):gE (l.take (j+1))=gE (l.take j):=by
 have:l.take (j+1)=l.take j++[[]]:=by
  rw[bC hj]
  rw[aC,aG hj] at h
  simp only[aZ] at h
  rw[h]
 rw[this,qT]
theorem qJ{l:List (List Int)}{j:Nat}(hj:j<l.length)(h:l.getD j []≠[]):gE (l.take (j+1))=l.take (j+1):=by
 rw[bC hj]
 apply aCg
 rw[aC,aG hj] at h
 simpa using h
def fD(a p t:List Int):Option (List (List Int)):=(eU a p t (List.replicate 24 [])).map eH
theorem aE8:∀ {l:List (List Int)} {x:List Int},x∈gE l->x∈l
 | [],x,h=>by simp [gE] at h
 | y::ys,x,h=>by
  simp only[gE] at h
  split at h
  ·simp at h
  ·rcases cH.1 h with rfl|h
   ·simp
   ·simp [aE8 h]
theorem aE1:∀ {i:Nat} {l:List (List Int)} {x:List Int},x∈eT i l->x=[]∨x∈l
 | _,[],x,h=>by simp [eT] at h
 | i,y::ys,x,h=>by
  simp only[eT] at h
  rcases cH.1 h with rfl|h
  ·unfold zF
   split
   ·exact .inl rfl
   ·simp
  ·rcases aE1 h with h|h
   ·exact .inl h
   ·simp [h]
theorem sL{l:List (List Int)}{x:List Int}(h:x∈eH l):x=[]∨x∈l:=aE1 (aE8 h)
theorem aD8(l:List (List Int)):(eH l).length<=l.length:=by
 have:=uP (eT 0 l)
 rw[sA] at this
 exact this
def jU(bs:List (List Int))(n:Int):List Int:=bs.getD (-1-n).toNat []
structure Ex(bs:List (List Int))(E:Int->List Int)(ρ:Int->Nat):Prop where
 len:bs.length=48
 sym:∀ c,0<=c->E c=[c]
 fr:∀ x,-48<=x->x<0->jU bs x=[]->E x=[x]
 bo:∀ x,-48<=x->x<0->jU bs x≠[]->E x=(jU bs x).flatMap E
 rk:∀ x,-48<=x->x<0->jU bs x≠[]->∀ y∈jU bs x,-48<=y/\ρ y<ρ x
theorem zO{bs:List (List Int)}{x z:Int}{v:List Int}(hl:bs.length=48)(hx:-48<=x/\x<0)(hz:-48<=z/\z<0):jU (bs.set (-1-x).toNat v) z=if z=x then v else jU bs z:=by
 unfold jU
 simp only[aC,List.getElem?_set]
 by_cases h:z=x
 ·subst h
  rw[if_pos rfl,if_pos rfl,if_pos (by omega)];rfl
 ·rw[if_neg h,if_neg (by omega)]
theorem bCz:Ex (List.replicate 48 []) (fun c=>[c]) (fun _=>0):=by
 have hz:∀ n:Int,jU (List.replicate 48 []) n=[]:=fun n=>by
  unfold jU
  rw[aC,List.getElem?_replicate]
  split<;>rfl
 exact⟨by simp,fun _ _=>rfl,fun _ _ _ _=>rfl,fun x _ _ h=>absurd (hz x) h,fun x _ _ h=>absurd (hz x) h⟩
def exB(E:Int->List Int)(x:Int)(b:List Int)(z:Int):List Int:=(E z).flatMap fun c=>if c=x then b else [c]
theorem aBk{b:List Int}{x:Int}:∀ {l:List Int},x∉l->(l.flatMap fun c=>if c=x then b else [c])=l
 | [],_=>rfl
 | c::l,h=>by
  rw[List.flatMap_cons,if_neg (fun e=>h (by rw[e];exact List.mem_cons_self ..)),aBk fun hm=>h (List.mem_cons_of_mem _ hm)]
  rfl
theorem aN8{E:Int->List Int}{x z:Int}{b:List Int}(h:x∉E z):exB E x b z=E z:=aBk h
theorem aB3{E:Int->List Int}{x:Int}{b:List Int}(t:List Int):t.flatMap (exB E x b)=(t.flatMap E).flatMap fun c=>if c=x then b else [c]:=by
 rw[List.flatMap_assoc];rfl
theorem aYx{E:Int->List Int}{x:Int}{b t:List Int}(h:x∉t.flatMap E):t.flatMap (exB E x b)=t.flatMap E:=by
 rw[aB3,aBk h]
def exR(E:Int->List Int)(ρ:Int->Nat)(x:Int)(m:Nat)(z:Int):Nat:=if x∈E z then ρ z+m+1 else ρ z
theorem aLt{ρ:Int->Nat}:∀ {l:List Int} {y:Int},y∈l->ρ y<=(l.map ρ).sum
 | c::l,y,h=>by
  rw[List.map_cons,List.sum_cons]
  rcases cH.1 h with e|e
  ·rw[e];omega
  ·have:=aLt (ρ:=ρ) e;omega
theorem bEi{bs:List (List Int)}{E:Int->List Int}{ρ:Int->Nat}{x:Int}{v:List Int}(h:Ex bs E ρ)(hx:-48<=x/\x<0)(h0:jU bs x=[])(hv:v≠[])(hr:∀ y∈v,-48<=y)(hn:x∉v.flatMap E) :
  Ex (bs.set (-1-x).toNat v) (exB E x (v.flatMap E)) (exR E ρ x (v.map ρ).sum):=by
 have hEx:=h.fr x hx.1 hx.2 h0
 refine⟨by rw[aV];exact h.len,fun c hc=>?_,fun z h1 h2 h3=>?_,fun z h1 h2 h3=>?_,fun z h1 h2 h3 y hy=>?_⟩
 ·rw[aN8 (by rw[h.sym c hc,aO];omega),h.sym c hc]
 ·rw[zO h.len hx ⟨h1,h2⟩] at h3
  by_cases e:z=x
  ·rw[if_pos e] at h3;exact absurd h3 hv
  ·rw[if_neg e] at h3
   have:=h.fr z h1 h2 h3
   rw[aN8 (by rw[this,aO];exact fun e'=>e e'.symm),this]
 ·rw[zO h.len hx ⟨h1,h2⟩] at h3 ⊢
  by_cases e:z=x
  ·subst e
   rw[if_pos rfl,aYx hn]
   unfold exB
   rw[hEx,List.flatMap_cons,if_pos rfl,List.flatMap_nil,cF]
  ·rw[if_neg e] at h3 ⊢
   rw[aB3,← h.bo z h1 h2 h3]
   rfl
 ·rw[zO h.len hx ⟨h1,h2⟩] at h3 hy
  by_cases e:z=x
  ·subst e
   rw[if_pos rfl] at hy
   refine⟨hr y hy,?_⟩
   unfold exR
   rw[if_neg (fun hm=>hn (List.mem_flatMap.2 ⟨y,hy,hm⟩)),if_pos (by rw[hEx];exact aO.2 rfl)]
   have:=aLt (ρ:=ρ) hy
   omega
  ·rw[if_neg e] at h3 hy
   have hk:=h.rk z h1 h2 h3 y hy
   refine⟨hk.1,?_⟩
   unfold exR
   by_cases hm:x∈E y
   ·rw[if_pos hm,if_pos (by rw[h.bo z h1 h2 h3];exact List.mem_flatMap.2 ⟨y,hy,hm⟩)]
    omega
   ·rw[if_neg hm]
    split<;>omega
theorem aV0{bs:List (List Int)}{E:Int->List Int}{ρ:Int->Nat}(h:Ex bs E ρ):∀ (n:Nat) (c:Int),-48<=c->ρ c<n->1<=(E c).length
 | 0,c,_,h1=>by omega
 | n+1,c,h0,h1=>by
  by_cases hc:0<=c
  ·rw[h.sym c hc];simp
  ·by_cases hb:jU bs c=[]
   ·rw[h.fr c h0 (by omega) hb];simp
   ·rw[h.bo c h0 (by omega) hb]
    obtain ⟨y,l,hy⟩:=List.exists_cons_of_ne_nil hb
    have hk:=h.rk c h0 (by omega) hb y (by rw[hy];exact List.mem_cons_self ..)
    have:=aV0 h n y hk.1 (by omega)
    rw[hy,List.flatMap_cons,aD]
    omega
theorem rL{bs:List (List Int)}{E:Int->List Int}{ρ:Int->Nat}(h:Ex bs E ρ){t:List Int}(ht:t≠[])(hr:∀ y∈t,-48<=y):1<=(t.flatMap E).length:=by
 obtain ⟨y,l,hy⟩:=List.exists_cons_of_ne_nil ht
 have:=aV0 h (ρ y+1) y (hr y (by rw[hy];exact List.mem_cons_self ..)) (by omega)
 rw[hy,List.flatMap_cons,aD]
 omega
def ubW(bs:List (List Int)):Nat:=(bs.filter fun b=>b.isEmpty).length
theorem aOi:∀ {bs:List (List Int)} {k:Nat} {v:List Int},k<bs.length->bs.getD k []=[]->v≠[]->ubW (bs.set k v)+1=ubW bs
 | b::bs,0,v,_,h,hv=>by
  have hb:b=[]:=h
  subst hb
  unfold ubW
  rw[List.set_cons_zero,cY (by simpa using hv),cT (by rfl),aF]
 | b::bs,k+1,v,hk,h,hv=>by
  have ih:=aOi (bs:=bs) (k:=k) (v:=v) (by simpa using hk) h hv
  unfold ubW at ih ⊢
  rw[List.set_cons_succ]
  by_cases hb:b.isEmpty=true
  ·rw[cT hb,cT hb,aF,aF,← ih]
  ·rw[cY hb,cY hb,ih]
def msF:Nat->Nat->Nat
 | 0,s=>s
 | u+1,s=>msF u (s*s)+s+1
theorem aAq:∀ (u:Nat) {s t:Nat},s<=t->msF u s<=msF u t
 | 0,_,_,h=>h
 | u+1,s,t,h=>by
  have:=aAq u (Nat.mul_le_mul h h)
  unfold msF
  omega
theorem aYh:∀ (u:Nat) {s t:Nat},s<t->msF u s<msF u t
 | 0,_,_,h=>h
 | u+1,s,t,h=>by
  have:=aAq u (Nat.mul_le_mul (Nat.le_of_lt h) (Nat.le_of_lt h))
  unfold msF
  omega
theorem aZx{u s t:Nat}(h:t<=s*s):msF u t<msF (u+1) s:=by
 have:=aAq u h
 show msF u t<msF u (s*s)+s+1
 omega
def vW(E:Int->List Int)(ts:List (List Int)):Nat:=(ts.map fun t=>(t.flatMap E).length).sum
theorem jI(E:Int->List Int)(a b:List (List Int)):vW E (a++b)=vW E a+vW E b:=by
 unfold vW;rw[cG,List.sum_append]
theorem bEm(E:Int->List Int)(t:List Int):vW E [t]=(t.flatMap E).length:=by
 unfold vW;simp
theorem aCa{b:List Int}{x:Int}(hb:1<=b.length):∀ l:List Int,(l.flatMap fun c=>if c=x then b else [c]).length<=l.length*b.length
 | []=>by simp
 | c::l=>by
  have:=aCa hb l (x:=x)
  rw[List.flatMap_cons,aD,aF,dE,Nat.one_mul]
  split
  ·omega
  ·rw[aJ];omega
theorem aKl{E:Int->List Int}{x:Int}{b:List Int}(hb:1<=b.length):∀ ts:List (List Int),vW (exB E x b) ts<=vW E ts*b.length
 | []=>by simp [vW]
 | t::ts=>by
  have ih:=aKl (E:=E) (x:=x) hb ts
  have h1:=aCa hb (x:=x) (t.flatMap E)
  rw[← aB3] at h1
  have e1:vW (exB E x b) (t::ts)=(t.flatMap (exB E x b)).length+vW (exB E x b) ts:=by unfold vW;simp
  have e2:vW E (t::ts)=(t.flatMap E).length+vW E ts:=by unfold vW;simp
  rw[e1,e2,dE]
  omega
def iA(a t:List Int):Nat:=(ar a (t.getD 0 0)).toNat
def pC(a t:List Int):Nat->Nat
 | 0=>1
 | i+1=>pC a t i+sz a t (pC a t i)
theorem wK{a t:List Int}(h:bB a t=true):∀ i,i<=iA a t->pC a t i<=t.length/\eQ a (dS a) (t.drop (pC a t i)) (iA a t-i)=(true,t.length-pC a t i)
 | 0,_=>by
  have hl:=aX h
  have hs:=(fE.1 h).2.2.2
  have hd:=fA (t:=t) (k:=0) (by omega)
  rw[List.drop_zero] at hd
  refine⟨hl.1,?_⟩
  show eQ a (dS a) (t.drop 1) (iA a t-0)=(true,t.length-1)
  rw[hd] at hs
  simp only[eQ,cR] at hs
  split at hs
  ·simp at hs
  ·have e1:=congrArg Prod.fst hs
   have e2:=congrArg Prod.snd hs
   simp only[aF] at e1 e2
   rw[aR] at e2
   have:eQ a (dS a) (t.drop 1) (iA a t)=(true,t.length-1):=Prod.ext e1 (by
    show(eQ a (dS a) (t.drop 1) (ar a (t.getD 0 0)).toNat).2=t.length-1
    omega)
   simpa using this
 | i+1,hi=>by
  obtain ⟨h1,h2⟩:=wK h i (by omega)
  rw[show iA a t-i=1+(iA a t-(i+1)) by omega,iL] at h2
  split at h2
  ·rename_i hone
   have e1:=congrArg Prod.fst h2
   have e2:=congrArg Prod.snd h2
   simp only[List.drop_drop] at e1 e2
   have hle:=wZ a (dS a) (t.drop (pC a t i)) 1
   rw[aR] at hle
   refine⟨by show pC a t i+(eQ a (dS a) (t.drop (pC a t i)) 1).2<=_;omega,?_⟩
   show eQ a (dS a) (t.drop (pC a t i+(eQ a (dS a) (t.drop (pC a t i)) 1).2)) _=(true,t.length-(pC a t i+(eQ a (dS a) (t.drop (pC a t i)) 1).2))
   exact Prod.ext e1 (by show(eQ _ _ _ _).2=t.length-_;omega)
  ·rename_i hone
   rw[h2] at hone
   exact absurd rfl hone
theorem aHo{a t:List Int}(h:bB a t=true){i:Nat}(hi:i<iA a t):pC a t i<t.length/\1<=pC a t i:=by
 have h1:=(wK h i (by omega)).2
 have h2:1<=(eQ a (dS a) (t.drop (pC a t i)) ((iA a t-i-1)+1)).2:=rU _ _ _ _ (by rw[show iA a t-i-1+1=iA a t-i by omega,h1])
 rw[show iA a t-i-1+1=iA a t-i by omega,h1] at h2
 simp only at h2
 refine⟨by omega,?_⟩
 have:∀ j,1<=pC a t j:=fun j=>by
  induction j with
  | zero=>exact aM _
  | succ j ih=>show 1<=pC a t j+_;omega
 exact this i
theorem uH{a t:List Int}(h:bB a t=true):(ar a (t.getD 0 0):Int)=iA a t/\iA a t<=3:=by
 have hl:=aX h
 have hg:=dY h (k:=0) (by omega)
 have hb:=iK (eI h) hg.2
 unfold iA
 omega
def xW(x:Int):Int:=if x<0 then -1 else x
def iZ(t:List Int):List Int:=t.map xW
theorem gA(t:List Int):(iZ t).length=t.length:=by unfold iZ;rw[aY]
theorem mS{t:List Int}{k:Nat}(h:k<t.length):(iZ t).getD k 0=xW (t.getD k 0):=by
 unfold iZ
 rw[aC,List.getElem?_map,aG h,aC,aG h];rfl
theorem aIr(x:Int):xW x<0↔x<0:=by unfold xW;split<;>omega
theorem lA{x:Int}(h:0<=x):xW x=x:=by unfold xW;rw[if_neg (by omega)]
theorem aCe(t:List Int)(k:Nat):(iZ t).drop k=iZ (t.drop k):=by unfold iZ;rw[List.map_drop]
theorem aLi(t:List Int)(k:Nat):(iZ t).take k=iZ (t.take k):=by unfold iZ;rw[List.map_take]
structure jO(a t:List Int):Prop where
 ok:bB a (iZ t)=true
 lo:∀ x∈t,-48<=x
theorem jO.len{a t:List Int}(h:jO a t):1<=t.length/\t.length<=60:=by
 have:=aX h.ok
 rw[gA] at this
 exact this
theorem jO.ne{a t:List Int}(h:jO a t):t≠[]:=fun e=>by have:=h.len;rw[e] at this;simp at this
theorem jO.get{a t:List Int}(h:jO a t){k:Nat}(hk:k<t.length):-48<=t.getD k 0/\t.getD k 0<a.length:=by
 refine⟨h.lo _ (eD hk),?_⟩
 have h1:=dY h.ok (k:=k) (by rw[gA];exact hk)
 rw[mS hk] at h1
 by_cases h0:0<=t.getD k 0
 ·rw[lA h0] at h1;exact h1.2
 ·have:=eC (eI h.ok);omega
def szW(a t:List Int)(k:Nat):Nat:=sz a (iZ t) k
def mK(a t:List Int)(k:Nat):List Int:=(t.drop k).take (szW a t k)
theorem aOw(a t:List Int)(k:Nat):iZ (mK a t k)=eX a (iZ t) k:=by
 unfold mK eX
 rw[← aLi,← aCe];rfl
theorem aIk{a t:List Int}(h:jO a t){k:Nat}(hk:k<t.length):(mK a t k).length=szW a t k:=by
 have:=mD h.ok (k:=k) (by rw[gA];exact hk)
 rw[← aOw,gA] at this
 exact this
theorem jO.sub{a t:List Int}(h:jO a t){k:Nat}(hk:k<t.length):jO a (mK a t k):=⟨by rw[aOw];exact gL h.ok (by rw[gA];exact hk),fun x hx=>h.lo x (List.mem_of_mem_drop (List.mem_of_mem_take hx))⟩
theorem jO.at{a t:List Int}(h:jO a t){k:Nat}(hk:k<t.length):1<=szW a t k/\k+szW a t k<=t.length:=by
 have:=(fN h.ok (k:=k) (by rw[gA];exact hk)).2
 rw[gA] at this
 exact this
theorem bCm{a t:List Int}(h:jO a t){k:Nat}(hk:k<t.length):(mK a t k).getD 0 0=t.getD k 0:=by
 have:=(h.at hk).1
 unfold mK
 rw[aC,List.getElem?_take_of_lt (by omega),List.getElem?_drop,aC]
 rfl
theorem jO.var{a t:List Int}(h:jO a t)(h0:t.getD 0 0<0):t=[t.getD 0 0]:=by
 have hl:=h.len
 have h1:=(fE.1 h.ok).2.2.2
 cases t with
 | nil=>simp at hl
 | cons x xs=>
  have hx:x<0:=h0
  have e:iZ (x::xs)=-1::iZ xs:=by
   show xW x::iZ xs=_
   unfold xW;rw[if_pos hx]
  rw[e] at h1
  unfold eQ at h1
  have hb:dS a (-1)=false:=by
   have:=eC (eI h.ok)
   unfold dS;exact decide_eq_false (by omega)
  rw[hb,if_neg (by decide)] at h1
  have ha:ar a (-1)=0:=if_pos (by decide)
  rw[ha] at h1
  simp only[Int.toNat_zero,Nat.add_zero,eQ,aF,gA] at h1
  have:xs.length=0:=by
   have:=(Prod.mk.inj h1).2
   omega
  rw[List.length_eq_zero_iff.1 this];rfl
theorem aLz{a:List Int}:∀ (l:List Int) (m:Nat),(∀ x∈l,dS a (xW x)=dS a x)->eQ a (dS a) (iZ l) m=eQ a (dS a) l m
 | l,0,_=>by simp [eQ]
 | [],m+1,_=>rfl
 | x::xs,m+1,h=>by
  have e:iZ (x::xs)=xW x::iZ xs:=rfl
  have ha:ar a (xW x)=ar a x:=by
   unfold ar xW
   by_cases hx:x<0
   ·rw[if_pos hx,if_pos (by decide),if_pos hx]
   ·rw[if_neg hx]
  rw[e]
  simp only[eQ]
  rw[h x (by simp),ha,aLz xs _ fun y hy=>h y (by simp [hy])]
theorem aWr{a t:List Int}(h:bB a t=true):∀ x∈t,dS a (xW x)=dS a x:=fun x hx=>by
 have h1:=jG h hx
 have h2:=eC (eI h)
 unfold dS xW
 split<;>rw[decide_eq_decide]<;>omega
theorem aU5{a t:List Int}(h:bB a t=true)(k:Nat):szW a t k=sz a t k:=by
 unfold szW sz
 rw[aCe,aLz _ _ fun x hx=>aWr h x (List.mem_of_mem_drop hx)]
theorem nG{a t:List Int}(h:bB a t=true)(k:Nat):mK a t k=eX a t k:=by
 unfold mK eX
 rw[aU5 h]
theorem lB{a t:List Int}(h:bB a t=true):jO a t:=by
 obtain ⟨h1,h2,h3,h4⟩:=fE.1 h
 refine⟨fE.2 ⟨h1,by rw[gA];exact h2,by rw[gA];exact h3,?_⟩,fun x hx=>by have:=jG h hx;omega⟩
 rw[gA,aLz _ _ (aWr h),h4]
theorem aPj{a t u:List Int}(h:jO a t)(e:iZ u=iZ t)(hl:∀ x∈u,-48<=x):jO a u:=⟨by rw[e];exact h.ok,hl⟩
def lO(t:List Int)(k:Int):List Int:=t.map fun x=>if x<0 then x-k else x
theorem aEl(t:List Int)(k:Int):(lO t k).length=t.length:=by unfold lO;rw[aY]
theorem aVr(t:List Int):iZ (lO t 24)=iZ t:=by
 unfold iZ lO
 rw[List.map_map]
 refine List.map_congr_left fun x _=>?_
 show xW (if x<0 then x-24 else x)=xW x
 unfold xW
 by_cases h:x<0
 ·rw[if_pos h,if_pos h,if_pos (by omega)]
 ·rw[if_neg h,if_neg h]
theorem aA1{a t:List Int}(h:bB a t=true):jO a (lO t 24):=aPj (lB h) (aVr t) fun x hx=>by
 obtain ⟨y,hy,e⟩:=dT.1 hx
 have:=jG h hy
 split at e<;>omega
def fF(a t:List Int):Nat->List (Sh (List Int))
 | 0=>[]
 | i+1=>fF a t i++[⟨mK a t (pC a (iZ t) i)⟩]
theorem fS(a t:List Int):∀ i,(fF a t i).length=i
 | 0=>rfl
 | i+1=>by simp [fF,fS a t i]
theorem nH{a t:List Int}{s:Sh (List Int)}:∀ {n},s∈fF a t n->∃ i,i<n/\s=⟨mK a t (pC a (iZ t) i)⟩
 | 0,h=>by cases h
 | n+1,h=>by
  rcases aP.1 h with h|h
  ·obtain ⟨i,hi,e⟩:=nH h
   exact⟨i,by omega,e⟩
  ·rw[aO] at h
   exact⟨n,by omega,h⟩
end Go.Proofs.YtajdgkpjbpindaaGreatDoor
namespace Go.Proofs
open Go Go.Eng Tryz
set_option maxRecDepth 20000
instance:qG prog:=⟨by kernel_rfl⟩
instance:Sc prog 2:=⟨isAgg2,sizeOf2⟩
instance:aM6 prog 2:=⟨underlying2⟩
instance:Sc prog 3:=⟨isAgg3,sizeOf3⟩
instance:Sc prog 4:=⟨isAgg4,sizeOf4⟩
instance:Zr prog 4 [(.bool false)]:=⟨_,zeroValue4,rfl⟩
instance:aAg prog 4:=⟨underlying4⟩
instance:Sc prog 5:=⟨isAgg5,sizeOf5⟩
instance:Sc prog 9:=⟨isAgg9,sizeOf9⟩
instance:kX prog 9:=⟨underlying9⟩
instance:Sc prog 22:=⟨isAgg22,sizeOf22⟩
instance:Sl prog 22 1 1:=⟨5,t5,_,underlying22,by kernel_rfl,rfl,rfl,rfl,rfl,by decide⟩
instance:Sc prog 26:=⟨isAgg26,sizeOf26⟩
instance:Zr prog 26 [(.slice none 0 0)]:=⟨_,zeroValue26,rfl⟩
instance:Sl prog 26 1 8:=⟨2,t2,_,underlying26,by kernel_rfl,rfl,rfl,rfl,rfl,by decide⟩
instance:SlZ prog 26 [(.int .i64 (0))]:=⟨fun {e i z} h1 h2 h3=>by
 rw[underlying26] at h1;cases h1
 rw[show prog.info? 2=some t2 by kernel_rfl] at h2;cases h2;cases h3;rfl⟩
instance:Ag prog 28 1:=⟨isAgg28,sizeOf28⟩
instance:Zr prog 28 [(.slice none 0 0)]:=⟨_,zeroValue28,rfl⟩
instance:Fo prog 28 0 0:=⟨fun w a=>by simp [Instr.fieldAt,Instr.sureAddr,fieldPlace]⟩
instance:wI prog 28 [(0,1)] [(.slice none 0 0)]:=⟨_,t28,_,underlying28,by kernel_rfl,by kernel_rfl,rfl,rfl⟩
instance:Sc prog 31:=⟨isAgg31,sizeOf31⟩
instance:Zr prog 31 [(.slice none 0 0)]:=⟨_,zeroValue31,rfl⟩
instance:Sl prog 31 1 24:=⟨26,t26,_,underlying31,by kernel_rfl,rfl,rfl,rfl,rfl,by decide⟩
instance:SlZ prog 31 [(.slice none 0 0)]:=⟨fun {e i z} h1 h2 h3=>by
 rw[underlying31] at h1;cases h1
 rw[show prog.info? 26=some t26 by kernel_rfl] at h2;cases h2;cases h3;rfl⟩
instance:Ag prog 33 4:=⟨isAgg33,sizeOf33⟩
instance:Zr prog 33 [(.int .i64 (0)),(.slice none 0 0),(.slice none 0 0),(.slice none 0 0)]:=⟨_,zeroValue33,rfl⟩
instance:Fo prog 33 0 0:=⟨fun w a=>by simp [Instr.fieldAt,Instr.sureAddr,fieldPlace]⟩
instance:Fo prog 33 1 1:=⟨fun w a=>by simp [Instr.fieldAt,Instr.sureAddr,fieldPlace]⟩
instance:Fo prog 33 2 2:=⟨fun w a=>by simp [Instr.fieldAt,Instr.sureAddr,fieldPlace]⟩
instance:Fo prog 33 3 3:=⟨fun w a=>by simp [Instr.fieldAt,Instr.sureAddr,fieldPlace]⟩
instance:wI prog 33 [(0,1),(1,1),(2,1),(3,1)] [(.int .i64 (0)),(.slice none 0 0),(.slice none 0 0),(.slice none 0 0)]:=⟨_,t33,_,underlying33,by kernel_rfl,by kernel_rfl,rfl,rfl⟩
instance:Ag prog 37 3:=⟨isAgg37,sizeOf37⟩
instance:Zr prog 37 [(.int .i64 (0)),(.slice none 0 0),(.slice none 0 0)]:=⟨_,zeroValue37,rfl⟩
instance:Fo prog 37 0 0:=⟨fun w a=>by simp [Instr.fieldAt,Instr.sureAddr,fieldPlace]⟩
instance:Fo prog 37 1 1:=⟨fun w a=>by simp [Instr.fieldAt,Instr.sureAddr,fieldPlace]⟩
instance:Fo prog 37 2 2:=⟨fun w a=>by simp [Instr.fieldAt,Instr.sureAddr,fieldPlace]⟩
instance:wI prog 37 [(0,1),(1,1),(2,1)] [(.int .i64 (0)),(.slice none 0 0),(.slice none 0 0)]:=⟨_,t37,_,underlying37,by kernel_rfl,by kernel_rfl,rfl,rfl⟩
instance:Sl prog 43 1 16:=⟨9,t9,_,underlying43,by kernel_rfl,rfl,rfl,rfl,rfl,by decide⟩
instance:SlZ prog 43 [(.string ByteArray.empty)]:=⟨fun {e i z} h1 h2 h3=>by
 rw[underlying43] at h1;cases h1
 rw[show prog.info? 9=some t9 by kernel_rfl] at h2;cases h2;cases h3;rfl⟩
instance:Sc prog 59:=⟨isAgg59,sizeOf59⟩
instance:Sl prog 59 2 48:=⟨108,t108,_,underlying59,by kernel_rfl,rfl,rfl,rfl,rfl,by decide⟩
instance:Ag prog 61 2:=⟨isAgg61,sizeOf61⟩
instance:Zr prog 61 [(.slice none 0 0),(.slice none 0 0)]:=⟨_,zeroValue61,rfl⟩
instance:Fo prog 61 0 0:=⟨fun w a=>by simp [Instr.fieldAt,Instr.sureAddr,fieldPlace]⟩
instance:Fo prog 61 1 1:=⟨fun w a=>by simp [Instr.fieldAt,Instr.sureAddr,fieldPlace]⟩
instance:wI prog 61 [(0,1),(1,1)] [(.slice none 0 0),(.slice none 0 0)]:=⟨_,t61,_,underlying61,by kernel_rfl,by kernel_rfl,rfl,rfl⟩
instance:Sc prog 62:=⟨isAgg62,sizeOf62⟩
instance:Sl prog 62 4 80:=⟨33,t33,_,underlying62,by kernel_rfl,rfl,rfl,rfl,rfl,by decide⟩
instance:SlZ prog 62 [(.int .i64 (0)),(.slice none 0 0),(.slice none 0 0),(.slice none 0 0)]:=⟨fun {e i z} h1 h2 h3=>by
 rw[underlying62] at h1;cases h1
 rw[show prog.info? 33=some t33 by kernel_rfl] at h2;cases h2;cases h3;rfl⟩
instance:Ag prog 64 1:=⟨isAgg64,sizeOf64⟩
instance:Zr prog 64 [(.slice none 0 0)]:=⟨_,zeroValue64,rfl⟩
instance:Fo prog 64 0 0:=⟨fun w a=>by simp [Instr.fieldAt,Instr.sureAddr,fieldPlace]⟩
instance:wI prog 64 [(0,1)] [(.slice none 0 0)]:=⟨_,t64,_,underlying64,by kernel_rfl,by kernel_rfl,rfl,rfl⟩
instance:Fo prog 76 0 0:=⟨fun w a=>by simp [Instr.fieldAt,Instr.sureAddr,fieldPlace]⟩
instance:Fo prog 76 1 1:=⟨fun w a=>by simp [Instr.fieldAt,Instr.sureAddr,fieldPlace]⟩
instance:Fo prog 76 2 2:=⟨fun w a=>by simp [Instr.fieldAt,Instr.sureAddr,fieldPlace]⟩
instance:wI prog 76 [(0,1),(1,1),(2,1)] [(.slice none 0 0),(.int .i64 (0)),(.int .i64 (0))]:=⟨_,t76,_,underlying76,by kernel_rfl,by kernel_rfl,rfl,rfl⟩
instance:Sc prog 95:=⟨isAgg95,sizeOf95⟩
instance:Zr prog 97 [(.pointer none),(.slice none 0 0)]:=⟨_,zeroValue97,rfl⟩
instance:Fo prog 97 0 0:=⟨fun w a=>by simp [Instr.fieldAt,Instr.sureAddr,fieldPlace]⟩
instance:Fo prog 97 1 1:=⟨fun w a=>by simp [Instr.fieldAt,Instr.sureAddr,fieldPlace]⟩
instance:Ag prog 108 2:=⟨isAgg108,sizeOf108⟩
instance:Zr prog 108 [(.slice none 0 0),(.slice none 0 0)]:=⟨_,zeroValue108,rfl⟩
instance:Fo prog 108 0 0:=⟨fun w a=>by simp [Instr.fieldAt,Instr.sureAddr,fieldPlace]⟩
instance:Fo prog 108 1 1:=⟨fun w a=>by simp [Instr.fieldAt,Instr.sureAddr,fieldPlace]⟩
instance:wI prog 108 [(0,1),(1,1)] [(.slice none 0 0),(.slice none 0 0)]:=⟨_,t108,_,underlying108,by kernel_rfl,by kernel_rfl,rfl,rfl⟩
instance:Sl prog 123 3 56:=⟨37,t37,_,underlying123,by kernel_rfl,rfl,rfl,rfl,rfl,by decide⟩
instance:Ag prog 126 3:=⟨isAgg126,sizeOf126⟩
instance:Zr prog 126 [(.slice none 0 0),(.slice none 0 0),(.int .i64 (0))]:=⟨_,zeroValue126,rfl⟩
instance:Fo prog 126 0 0:=⟨fun w a=>by simp [Instr.fieldAt,Instr.sureAddr,fieldPlace]⟩
instance:Fo prog 126 1 1:=⟨fun w a=>by simp [Instr.fieldAt,Instr.sureAddr,fieldPlace]⟩
instance:Fo prog 126 2 2:=⟨fun w a=>by simp [Instr.fieldAt,Instr.sureAddr,fieldPlace]⟩
instance:wI prog 126 [(0,1),(1,1),(2,1)] [(.slice none 0 0),(.slice none 0 0),(.int .i64 (0))]:=⟨_,t126,_,underlying126,by kernel_rfl,by kernel_rfl,rfl,rfl⟩
instance:Sc prog 134:=⟨isAgg134,sizeOf134⟩
instance:Sl prog 134 3 40:=⟨190,t190,_,underlying134,by kernel_rfl,rfl,rfl,rfl,rfl,by decide⟩
instance:Ag prog 136 2:=⟨isAgg136,sizeOf136⟩
instance:Zr prog 136 [(.slice none 0 0),(.slice none 0 0)]:=⟨_,zeroValue136,rfl⟩
instance:Fo prog 136 0 0:=⟨fun w a=>by simp [Instr.fieldAt,Instr.sureAddr,fieldPlace]⟩
instance:Fo prog 136 1 1:=⟨fun w a=>by simp [Instr.fieldAt,Instr.sureAddr,fieldPlace]⟩
instance:wI prog 136 [(0,1),(1,1)] [(.slice none 0 0),(.slice none 0 0)]:=⟨_,t136,_,underlying136,by kernel_rfl,by kernel_rfl,rfl,rfl⟩
instance:Sl prog 165 6 96:=⟨171,t171,_,underlying165,by kernel_rfl,rfl,rfl,rfl,rfl,by decide⟩
instance:Ag prog 171 6:=⟨isAgg171,sizeOf171⟩
instance:Zr prog 171 [(.slice none 0 0),(.slice none 0 0),(.slice none 0 0),(.int .i64 (0)),(.int .i64 (0)),(.int .i64 (0))]:=⟨_,zeroValue171,rfl⟩
instance:Fo prog 171 0 0:=⟨fun w a=>by simp [Instr.fieldAt,Instr.sureAddr,fieldPlace]⟩
instance:Fo prog 171 1 1:=⟨fun w a=>by simp [Instr.fieldAt,Instr.sureAddr,fieldPlace]⟩
instance:Fo prog 171 2 2:=⟨fun w a=>by simp [Instr.fieldAt,Instr.sureAddr,fieldPlace]⟩
instance:Fo prog 171 3 3:=⟨fun w a=>by simp [Instr.fieldAt,Instr.sureAddr,fieldPlace]⟩
instance:Fo prog 171 4 4:=⟨fun w a=>by simp [Instr.fieldAt,Instr.sureAddr,fieldPlace]⟩
instance:Fo prog 171 5 5:=⟨fun w a=>by simp [Instr.fieldAt,Instr.sureAddr,fieldPlace]⟩
instance:wI prog 171 [(0,1),(1,1),(2,1),(3,1),(4,1),(5,1)] [(.slice none 0 0),(.slice none 0 0),(.slice none 0 0),(.int .i64 (0)),(.int .i64 (0)),(.int .i64 (0))]:=⟨_,t171,_,underlying171,by kernel_rfl,by kernel_rfl,rfl,rfl⟩
instance:Ag prog 179 1:=⟨isAgg179,sizeOf179⟩
instance:Zr prog 179 [(.slice none 0 0)]:=⟨_,zeroValue179,rfl⟩
instance:Fo prog 179 0 0:=⟨fun w a=>by simp [Instr.fieldAt,Instr.sureAddr,fieldPlace]⟩
instance:wI prog 179 [(0,1)] [(.slice none 0 0)]:=⟨_,t179,_,underlying179,by kernel_rfl,by kernel_rfl,rfl,rfl⟩
instance:Ag prog 181 4:=⟨isAgg181,sizeOf181⟩
instance:Zr prog 181 [(.slice none 0 0),(.slice none 0 0),(.int .i64 (0)),(.slice none 0 0)]:=⟨_,zeroValue181,rfl⟩
instance:Fo prog 181 0 0:=⟨fun w a=>by simp [Instr.fieldAt,Instr.sureAddr,fieldPlace]⟩
instance:Fo prog 181 1 2:=⟨fun w a=>by simp [Instr.fieldAt,Instr.sureAddr,fieldPlace]⟩
instance:Fo prog 181 2 3:=⟨fun w a=>by simp [Instr.fieldAt,Instr.sureAddr,fieldPlace]⟩
instance:wI prog 181 [(0,2),(2,1),(3,1)] [(.slice none 0 0),(.slice none 0 0),(.int .i64 (0)),(.slice none 0 0)]:=⟨_,t181,_,underlying181,by kernel_rfl,by kernel_rfl,rfl,rfl⟩
instance:Ag prog 190 3:=⟨isAgg190,sizeOf190⟩
instance:Zr prog 190 [(.int .i64 (0)),(.int .i64 (0)),(.slice none 0 0)]:=⟨_,zeroValue190,rfl⟩
instance:Fo prog 190 0 0:=⟨fun w a=>by simp [Instr.fieldAt,Instr.sureAddr,fieldPlace]⟩
instance:Fo prog 190 1 1:=⟨fun w a=>by simp [Instr.fieldAt,Instr.sureAddr,fieldPlace]⟩
instance:Fo prog 190 2 2:=⟨fun w a=>by simp [Instr.fieldAt,Instr.sureAddr,fieldPlace]⟩
instance:wI prog 190 [(0,1),(1,1),(2,1)] [(.int .i64 (0)),(.int .i64 (0)),(.slice none 0 0)]:=⟨_,t190,_,underlying190,by kernel_rfl,by kernel_rfl,rfl,rfl⟩
instance:Sc prog 198:=⟨isAgg198,sizeOf198⟩
instance:Sl prog 198 4 48:=⟨249,t249,_,underlying198,by kernel_rfl,rfl,rfl,rfl,rfl,by decide⟩
instance:Ag prog 200 2:=⟨isAgg200,sizeOf200⟩
instance:Zr prog 200 [(.slice none 0 0),(.slice none 0 0)]:=⟨_,zeroValue200,rfl⟩
instance:Fo prog 200 0 0:=⟨fun w a=>by simp [Instr.fieldAt,Instr.sureAddr,fieldPlace]⟩
instance:Fo prog 200 1 1:=⟨fun w a=>by simp [Instr.fieldAt,Instr.sureAddr,fieldPlace]⟩
instance:wI prog 200 [(0,1),(1,1)] [(.slice none 0 0),(.slice none 0 0)]:=⟨_,t200,_,underlying200,by kernel_rfl,by kernel_rfl,rfl,rfl⟩
instance:Ag prog 216 3:=⟨isAgg216,sizeOf216⟩
instance:Zr prog 216 [(.int .i64 (0)),(.slice none 0 0),(.slice none 0 0)]:=⟨_,zeroValue216,rfl⟩
instance:Fo prog 216 0 0:=⟨fun w a=>by simp [Instr.fieldAt,Instr.sureAddr,fieldPlace]⟩
instance:Fo prog 216 1 1:=⟨fun w a=>by simp [Instr.fieldAt,Instr.sureAddr,fieldPlace]⟩
instance:Fo prog 216 2 2:=⟨fun w a=>by simp [Instr.fieldAt,Instr.sureAddr,fieldPlace]⟩
instance:wI prog 216 [(0,1),(1,1),(2,1)] [(.int .i64 (0)),(.slice none 0 0),(.slice none 0 0)]:=⟨_,t216,_,underlying216,by kernel_rfl,by kernel_rfl,rfl,rfl⟩
instance:Sc prog 219:=⟨isAgg219,sizeOf219⟩
instance:Sl prog 219 2 32:=⟨227,t227,_,underlying219,by kernel_rfl,rfl,rfl,rfl,rfl,by decide⟩
instance:Sl prog 222 4 96:=⟨297,t297,_,underlying222,by kernel_rfl,rfl,rfl,rfl,rfl,by decide⟩
instance:Ag prog 227 2:=⟨isAgg227,sizeOf227⟩
instance:Zr prog 227 [(.int .i64 (0)),(.slice none 0 0)]:=⟨_,zeroValue227,rfl⟩
instance:Fo prog 227 0 0:=⟨fun w a=>by simp [Instr.fieldAt,Instr.sureAddr,fieldPlace]⟩
instance:Fo prog 227 1 1:=⟨fun w a=>by simp [Instr.fieldAt,Instr.sureAddr,fieldPlace]⟩
instance:wI prog 227 [(0,1),(1,1)] [(.int .i64 (0)),(.slice none 0 0)]:=⟨_,t227,_,underlying227,by kernel_rfl,by kernel_rfl,rfl,rfl⟩
instance:Ag prog 249 4:=⟨isAgg249,sizeOf249⟩
instance:Zr prog 249 [(.int .i64 (0)),(.int .i64 (0)),(.bool false),(.slice none 0 0)]:=⟨_,zeroValue249,rfl⟩
instance:Fo prog 249 0 0:=⟨fun w a=>by simp [Instr.fieldAt,Instr.sureAddr,fieldPlace]⟩
instance:Fo prog 249 1 1:=⟨fun w a=>by simp [Instr.fieldAt,Instr.sureAddr,fieldPlace]⟩
instance:Fo prog 249 2 2:=⟨fun w a=>by simp [Instr.fieldAt,Instr.sureAddr,fieldPlace]⟩
instance:Fo prog 249 3 3:=⟨fun w a=>by simp [Instr.fieldAt,Instr.sureAddr,fieldPlace]⟩
instance:wI prog 249 [(0,1),(1,1),(2,1),(3,1)] [(.int .i64 (0)),(.int .i64 (0)),(.bool false),(.slice none 0 0)]:=⟨_,t249,_,underlying249,by kernel_rfl,by kernel_rfl,rfl,rfl⟩
instance:Sl prog 280 2 48:=⟨343,t343,_,underlying280,by kernel_rfl,rfl,rfl,rfl,rfl,by decide⟩
instance:Sl prog 290 4 64:=⟨347,t347,_,underlying290,by kernel_rfl,rfl,rfl,rfl,rfl,by decide⟩
instance:Ag prog 297 4:=⟨isAgg297,sizeOf297⟩
instance:Zr prog 297 [(.slice none 0 0),(.slice none 0 0),(.slice none 0 0),(.slice none 0 0)]:=⟨_,zeroValue297,rfl⟩
instance:Fo prog 297 0 0:=⟨fun w a=>by simp [Instr.fieldAt,Instr.sureAddr,fieldPlace]⟩
instance:Fo prog 297 1 1:=⟨fun w a=>by simp [Instr.fieldAt,Instr.sureAddr,fieldPlace]⟩
instance:Fo prog 297 2 2:=⟨fun w a=>by simp [Instr.fieldAt,Instr.sureAddr,fieldPlace]⟩
instance:Fo prog 297 3 3:=⟨fun w a=>by simp [Instr.fieldAt,Instr.sureAddr,fieldPlace]⟩
instance:wI prog 297 [(0,1),(1,1),(2,1),(3,1)] [(.slice none 0 0),(.slice none 0 0),(.slice none 0 0),(.slice none 0 0)]:=⟨_,t297,_,underlying297,by kernel_rfl,by kernel_rfl,rfl,rfl⟩
instance:Ag prog 307 5:=⟨isAgg307,sizeOf307⟩
instance:Zr prog 307 [(.slice none 0 0),(.slice none 0 0),(.slice none 0 0),(.slice none 0 0),(.bool false)]:=⟨_,zeroValue307,rfl⟩
instance:Fo prog 307 0 0:=⟨fun w a=>by simp [Instr.fieldAt,Instr.sureAddr,fieldPlace]⟩
instance:Fo prog 307 1 1:=⟨fun w a=>by simp [Instr.fieldAt,Instr.sureAddr,fieldPlace]⟩
instance:Fo prog 307 2 2:=⟨fun w a=>by simp [Instr.fieldAt,Instr.sureAddr,fieldPlace]⟩
instance:Fo prog 307 3 3:=⟨fun w a=>by simp [Instr.fieldAt,Instr.sureAddr,fieldPlace]⟩
instance:Fo prog 307 4 4:=⟨fun w a=>by simp [Instr.fieldAt,Instr.sureAddr,fieldPlace]⟩
instance:wI prog 307 [(0,1),(1,1),(2,1),(3,1),(4,1)] [(.slice none 0 0),(.slice none 0 0),(.slice none 0 0),(.slice none 0 0),(.bool false)]:=⟨_,t307,_,underlying307,by kernel_rfl,by kernel_rfl,rfl,rfl⟩
instance:Ag prog 343 2:=⟨isAgg343,sizeOf343⟩
instance:Fo prog 343 0 0:=⟨fun w a=>by simp [Instr.fieldAt,Instr.sureAddr,fieldPlace]⟩
instance:Fo prog 343 1 1:=⟨fun w a=>by simp [Instr.fieldAt,Instr.sureAddr,fieldPlace]⟩
instance:wI prog 343 [(0,1),(1,1)] [(.slice none 0 0),(.slice none 0 0)]:=⟨_,t343,_,underlying343,by kernel_rfl,by kernel_rfl,rfl,rfl⟩
instance:Ag prog 347 4:=⟨isAgg347,sizeOf347⟩
instance:Zr prog 347 [(.slice none 0 0),(.slice none 0 0),(.int .i64 (0)),(.int .i64 (0))]:=⟨_,zeroValue347,rfl⟩
instance:Fo prog 347 0 0:=⟨fun w a=>by simp [Instr.fieldAt,Instr.sureAddr,fieldPlace]⟩
instance:Fo prog 347 1 1:=⟨fun w a=>by simp [Instr.fieldAt,Instr.sureAddr,fieldPlace]⟩
instance:wI prog 347 [(0,1),(1,1),(2,1),(3,1)] [(.slice none 0 0),(.slice none 0 0),(.int .i64 (0)),(.int .i64 (0))]:=⟨_,t347,_,underlying347,by kernel_rfl,by kernel_rfl,rfl,rfl⟩
instance:Sc prog 373:=⟨isAgg373,sizeOf373⟩
instance:Sl prog 373 1 24:=⟨393,t393,_,underlying373,by kernel_rfl,rfl,rfl,rfl,rfl,by decide⟩
instance:Fo prog 375 0 0:=⟨fun w a=>by simp [Instr.fieldAt,Instr.sureAddr,fieldPlace]⟩
instance:Fo prog 375 1 1:=⟨fun w a=>by simp [Instr.fieldAt,Instr.sureAddr,fieldPlace]⟩
instance:Fo prog 375 2 2:=⟨fun w a=>by simp [Instr.fieldAt,Instr.sureAddr,fieldPlace]⟩
instance:Fo prog 375 3 3:=⟨fun w a=>by simp [Instr.fieldAt,Instr.sureAddr,fieldPlace]⟩
instance:Fo prog 375 4 4:=⟨fun w a=>by simp [Instr.fieldAt,Instr.sureAddr,fieldPlace]⟩
instance:Fo prog 375 5 5:=⟨fun w a=>by simp [Instr.fieldAt,Instr.sureAddr,fieldPlace]⟩
instance:Fo prog 375 6 6:=⟨fun w a=>by simp [Instr.fieldAt,Instr.sureAddr,fieldPlace]⟩
instance:wI prog 375 [(0,1),(1,1),(2,1),(3,1),(4,1),(5,1),(6,1)] [(.slice none 0 0),(.slice none 0 0),(.slice none 0 0),(.slice none 0 0),(.slice none 0 0),(.slice none 0 0),(.slice none 0 0)]:=⟨_,t375,_,underlying375,by kernel_rfl,by kernel_rfl,rfl,rfl⟩
instance:Fo prog 379 0 0:=⟨fun w a=>by simp [Instr.fieldAt,Instr.sureAddr,fieldPlace]⟩
instance:wI prog 379 [(0,1)] [(.slice none 0 0)]:=⟨_,t379,_,underlying379,by kernel_rfl,by kernel_rfl,rfl,rfl⟩
instance:Sc prog 393:=⟨isAgg393,sizeOf393⟩
instance:Sl prog 393 1 8:=⟨3,t3,_,underlying393,by kernel_rfl,rfl,rfl,rfl,rfl,by decide⟩
instance:Sl prog 399 1 1:=⟨4,t4,_,underlying399,by kernel_rfl,rfl,rfl,rfl,rfl,by decide⟩
instance:SlZ prog 399 [(.bool false)]:=⟨fun {e i z} h1 h2 h3=>by
 rw[underlying399] at h1;cases h1
 rw[show prog.info? 4=some t4 by kernel_rfl] at h2;cases h2;cases h3;rfl⟩
instance:Op_ prog 2 Int xD:=aN6 underlying2 (by kernel_rfl)
instance:Op_ prog 3 Int xD:=aN6 underlying3 (by kernel_rfl)
instance:Op_ prog 4 Bool aGx:=bB0 underlying4 (by kernel_rfl)
instance:Op_ prog 9 ByteArray aBs:=bK9 underlying9 (by kernel_rfl)
instance:Op_ prog 26 (List Int) bA:=gC underlying26 (by kernel_rfl) inferInstance
instance:Op_ prog 27 (List Int) bA:=dM underlying27 (by kernel_rfl) (eJ rfl inferInstance)
instance:Op_ prog 28 (List Int) bA:=dM underlying28 (by kernel_rfl) (eJ rfl inferInstance)
instance:Op_ prog 31 (List (List Int)) bA:=gC underlying31 (by kernel_rfl) inferInstance
instance:Op_ prog 32 (Int×List Int×List (List Int)×List Int) eS:=dM underlying32 (by kernel_rfl) (cE rfl inferInstance rfl (cE rfl inferInstance rfl (cE rfl inferInstance rfl (eJ rfl inferInstance))))
instance:Op_ prog 33 (Int×List Int×List (List Int)×List Int) eS:=dM underlying33 (by kernel_rfl) (cE rfl inferInstance rfl (cE rfl inferInstance rfl (cE rfl inferInstance rfl (eJ rfl inferInstance))))
instance:Op_ prog 36 (Int×List Int×List Int) eS:=dM underlying36 (by kernel_rfl) (cE rfl inferInstance rfl (cE rfl inferInstance rfl (eJ rfl inferInstance)))
instance:Op_ prog 37 (Int×List Int×List Int) eS:=dM underlying37 (by kernel_rfl) (cE rfl inferInstance rfl (cE rfl inferInstance rfl (eJ rfl inferInstance)))
instance:Op_ prog 43 (List ByteArray) bA:=gC underlying43 (by kernel_rfl) inferInstance
instance:Op_ prog 108 (List Int×List Int) eS:=dM underlying108 (by kernel_rfl) (cE rfl inferInstance rfl (eJ rfl inferInstance))
instance:Op_ prog 59 (List (List Int×List Int)) bA:=gC underlying59 (by kernel_rfl) inferInstance
instance:Op_ prog 60 (List Int×List (List Int×List Int)) eS:=dM underlying60 (by kernel_rfl) (cE rfl inferInstance rfl (eJ rfl inferInstance))
instance:Op_ prog 61 (List Int×List (List Int×List Int)) eS:=dM underlying61 (by kernel_rfl) (cE rfl inferInstance rfl (eJ rfl inferInstance))
instance:Op_ prog 62 (List (Int×List Int×List (List Int)×List Int)) bA:=gC underlying62 (by kernel_rfl) inferInstance
instance:Op_ prog 63 (List (Int×List Int×List (List Int)×List Int)) bA:=dM underlying63 (by kernel_rfl) (eJ rfl inferInstance)
instance:Op_ prog 64 (List (Int×List Int×List (List Int)×List Int)) bA:=dM underlying64 (by kernel_rfl) (eJ rfl inferInstance)
instance:Op_ prog 107 (List Int×List Int) eS:=dM underlying107 (by kernel_rfl) (cE rfl inferInstance rfl (eJ rfl inferInstance))
instance:Op_ prog 123 (List (Int×List Int×List Int)) bA:=gC underlying123 (by kernel_rfl) inferInstance
instance:Op_ prog 125 (List Int×List Int×Int) eS:=dM underlying125 (by kernel_rfl) (cE rfl inferInstance rfl (cE rfl inferInstance rfl (eJ rfl inferInstance)))
instance:Op_ prog 126 (List Int×List Int×Int) eS:=dM underlying126 (by kernel_rfl) (cE rfl inferInstance rfl (cE rfl inferInstance rfl (eJ rfl inferInstance)))
instance:Op_ prog 190 (Int×Int×List Int) eS:=dM underlying190 (by kernel_rfl) (cE rfl inferInstance rfl (cE rfl inferInstance rfl (eJ rfl inferInstance)))
instance:Op_ prog 134 (List (Int×Int×List Int)) bA:=gC underlying134 (by kernel_rfl) inferInstance
instance:Op_ prog 135 (List Int×List (Int×Int×List Int)) eS:=dM underlying135 (by kernel_rfl) (cE rfl inferInstance rfl (eJ rfl inferInstance))
instance:Op_ prog 136 (List Int×List (Int×Int×List Int)) eS:=dM underlying136 (by kernel_rfl) (cE rfl inferInstance rfl (eJ rfl inferInstance))
instance:Op_ prog 171 (List Int×List Int×List Int×Int×Int×Int) eS:=dM underlying171 (by kernel_rfl) (cE rfl inferInstance rfl (cE rfl inferInstance rfl (cE rfl inferInstance rfl (cE rfl inferInstance rfl (cE rfl inferInstance rfl (eJ rfl inferInstance))))))
instance:Op_ prog 165 (List (List Int×List Int×List Int×Int×Int×Int)) bA:=gC underlying165 (by kernel_rfl) inferInstance
instance:Op_ prog 170 (List Int×List Int×List Int×Int×Int×Int) eS:=dM underlying170 (by kernel_rfl) (cE rfl inferInstance rfl (cE rfl inferInstance rfl (cE rfl inferInstance rfl (cE rfl inferInstance rfl (cE rfl inferInstance rfl (eJ rfl inferInstance))))))
instance:Op_ prog 178 (List (List Int)) bA:=dM underlying178 (by kernel_rfl) (eJ rfl inferInstance)
instance:Op_ prog 179 (List (List Int)) bA:=dM underlying179 (by kernel_rfl) (eJ rfl inferInstance)
instance:Op_ prog 180 ((List Int×List (Int×Int×List Int))×Int×List (List Int)) eS:=dM underlying180 (by kernel_rfl) (cE rfl inferInstance rfl (cE rfl inferInstance rfl (eJ rfl inferInstance)))
instance:Op_ prog 181 ((List Int×List (Int×Int×List Int))×Int×List (List Int)) eS:=dM underlying181 (by kernel_rfl) (cE rfl inferInstance rfl (cE rfl inferInstance rfl (eJ rfl inferInstance)))
instance:Op_ prog 189 (Int×Int×List Int) eS:=dM underlying189 (by kernel_rfl) (cE rfl inferInstance rfl (cE rfl inferInstance rfl (eJ rfl inferInstance)))
instance:Op_ prog 249 (Int×Int×Bool×List Int) eS:=dM underlying249 (by kernel_rfl) (cE rfl inferInstance rfl (cE rfl inferInstance rfl (cE rfl inferInstance rfl (eJ rfl inferInstance))))
instance:Op_ prog 198 (List (Int×Int×Bool×List Int)) bA:=gC underlying198 (by kernel_rfl) inferInstance
instance:Op_ prog 199 (List Int×List (Int×Int×Bool×List Int)) eS:=dM underlying199 (by kernel_rfl) (cE rfl inferInstance rfl (eJ rfl inferInstance))
instance:Op_ prog 200 (List Int×List (Int×Int×Bool×List Int)) eS:=dM underlying200 (by kernel_rfl) (cE rfl inferInstance rfl (eJ rfl inferInstance))
instance:Op_ prog 205 Int xD:=aN6 underlying205 (by kernel_rfl)
instance:Op_ prog 215 (Int×List Int×List Int) eS:=dM underlying215 (by kernel_rfl) (cE rfl inferInstance rfl (cE rfl inferInstance rfl (eJ rfl inferInstance)))
instance:Op_ prog 216 (Int×List Int×List Int) eS:=dM underlying216 (by kernel_rfl) (cE rfl inferInstance rfl (cE rfl inferInstance rfl (eJ rfl inferInstance)))
instance:Op_ prog 227 (Int×List Int) eS:=dM underlying227 (by kernel_rfl) (cE rfl inferInstance rfl (eJ rfl inferInstance))
instance:Op_ prog 219 (List (Int×List Int)) bA:=gC underlying219 (by kernel_rfl) inferInstance
instance:Op_ prog 297 (List Int×List Int×List (Int×List Int)×List Int) eS:=dM underlying297 (by kernel_rfl) (cE rfl inferInstance rfl (cE rfl inferInstance rfl (cE rfl inferInstance rfl (eJ rfl inferInstance))))
instance:Op_ prog 222 (List (List Int×List Int×List (Int×List Int)×List Int)) bA:=gC underlying222 (by kernel_rfl) inferInstance
instance:Op_ prog 226 (Int×List Int) eS:=dM underlying226 (by kernel_rfl) (cE rfl inferInstance rfl (eJ rfl inferInstance))
instance:Op_ prog 248 (Int×Int×Bool×List Int) eS:=dM underlying248 (by kernel_rfl) (cE rfl inferInstance rfl (cE rfl inferInstance rfl (cE rfl inferInstance rfl (eJ rfl inferInstance))))
instance:Op_ prog 343 (List Int×List Int) eS:=dM underlying343 (by kernel_rfl) (cE rfl inferInstance rfl (eJ rfl inferInstance))
instance:Op_ prog 280 (List (List Int×List Int)) bA:=gC underlying280 (by kernel_rfl) inferInstance
instance:Op_ prog 347 (List Int×List Int×Int×Int) eS:=dM underlying347 (by kernel_rfl) (cE rfl inferInstance rfl (cE rfl inferInstance rfl (cE rfl inferInstance rfl (eJ rfl inferInstance))))
instance:Op_ prog 290 (List (List Int×List Int×Int×Int)) bA:=gC underlying290 (by kernel_rfl) inferInstance
instance:Op_ prog 296 (List Int×List Int×List (Int×List Int)×List Int) eS:=dM underlying296 (by kernel_rfl) (cE rfl inferInstance rfl (cE rfl inferInstance rfl (cE rfl inferInstance rfl (eJ rfl inferInstance))))
instance:Op_ prog 306 (List (List Int)×List Int×List (Int×Int×List Int)×List Int×Bool) eS:=dM underlying306 (by kernel_rfl) (cE rfl inferInstance rfl (cE rfl inferInstance rfl (cE rfl inferInstance rfl (cE rfl inferInstance rfl (eJ rfl inferInstance)))))
instance:Op_ prog 307 (List (List Int)×List Int×List (Int×Int×List Int)×List Int×Bool) eS:=dM underlying307 (by kernel_rfl) (cE rfl inferInstance rfl (cE rfl inferInstance rfl (cE rfl inferInstance rfl (cE rfl inferInstance rfl (eJ rfl inferInstance)))))
instance:Op_ prog 324 ByteArray aBs:=dM underlying324 (by kernel_rfl) (eJ rfl inferInstance)
instance:Op_ prog 325 ByteArray aBs:=dM underlying325 (by kernel_rfl) (eJ rfl inferInstance)
instance:Op_ prog 346 (List Int×List Int×Int×Int) eS:=dM underlying346 (by kernel_rfl) (cE rfl inferInstance rfl (cE rfl inferInstance rfl (cE rfl inferInstance rfl (eJ rfl inferInstance))))
instance:Op_ prog 393 (List Int) bA:=gC underlying393 (by kernel_rfl) inferInstance
instance:Op_ prog 373 (List (List Int)) bA:=gC underlying373 (by kernel_rfl) inferInstance
instance:Op_ prog 374 (List Int×List Int×List Int×List Int×List (List Int)×List (List Int)×List (List Int)) eS:=dM underlying374 (by kernel_rfl) (cE rfl inferInstance rfl (cE rfl inferInstance rfl (cE rfl inferInstance rfl (cE rfl inferInstance rfl (cE rfl inferInstance rfl (cE rfl inferInstance rfl (eJ rfl inferInstance)))))))
instance:Op_ prog 375 (List Int×List Int×List Int×List Int×List (List Int)×List (List Int)×List (List Int)) eS:=dM underlying375 (by kernel_rfl) (cE rfl inferInstance rfl (cE rfl inferInstance rfl (cE rfl inferInstance rfl (cE rfl inferInstance rfl (cE rfl inferInstance rfl (cE rfl inferInstance rfl (eJ rfl inferInstance)))))))
instance:Op_ prog 378 (List (List Int)) bA:=dM underlying378 (by kernel_rfl) (eJ rfl inferInstance)
instance:Op_ prog 379 (List (List Int)) bA:=dM underlying379 (by kernel_rfl) (eJ rfl inferInstance)
instance:Op_ prog 399 (List Bool) bA:=gC underlying399 (by kernel_rfl) inferInstance
instance:bS prog 4:=dN func4
instance:bS prog 5:=dN func5
instance:bS prog 6:=dN func6
instance:bS prog 7:=dN func7
instance:bS prog 8:=dN func8
instance:bS prog 9:=dN func9
instance:bS prog 10:=dN func10
instance:bS prog 11:=dN func11
instance:bS prog 12:=dN func12
instance:bS prog 13:=dN func13
instance:bS prog 14:=dN func14
instance:bS prog 15:=dN func15
instance:bS prog 16:=dN func16
instance:bS prog 17:=dN func17
instance:bS prog 18:=dN func18
instance:bS prog 19:=dN func19
instance:bS prog 20:=dN func20
instance:bS prog 21:=dN func21
instance:bS prog 22:=dN func22
instance:bS prog 23:=dN func23
instance:bS prog 24:=dN func24
instance:bS prog 25:=dN func25
instance:bS prog 26:=dN func26
instance:bS prog 27:=dN func27
instance:bS prog 28:=dN func28
instance:bS prog 29:=dN func29
instance:bS prog 30:=dN func30
instance:bS prog 31:=dN func31
instance:bS prog 32:=dN func32
instance:bS prog 33:=dN func33
instance:bS prog 34:=dN func34
instance:bS prog 35:=dN func35
instance:bS prog 36:=dN func36
instance:bS prog 37:=dN func37
instance:bS prog 38:=dN func38
instance:bS prog 39:=dN func39
instance:bS prog 40:=dN func40
instance:bS prog 41:=dN func41
instance:bS prog 42:=dN func42
instance:bS prog 43:=dN func43
instance:bS prog 44:=dN func44
instance:bS prog 45:=dN func45
instance:bS prog 46:=dN func46
instance:bS prog 47:=dN func47
instance:bS prog 48:=dN func48
instance:bS prog 49:=dN func49
instance:bS prog 51:=dN func51
instance:bS prog 52:=dN func52
instance:bS prog 53:=dN func53
instance:bS prog 54:=dN func54
instance:bS prog 55:=dN func55
instance:bS prog 56:=dN func56
instance:bS prog 57:=dN func57
instance:bS prog 58:=dN func58
instance:bS prog 59:=dN func59
instance:bS prog 60:=dN func60
instance:bS prog 61:=dN func61
instance:bS prog 62:=dN func62
instance:bS prog 63:=dN func63
instance:bS prog 64:=dN func64
instance:bS prog 65:=dN func65
instance:bS prog 66:=dN func66
instance:bS prog 67:=dN func67
instance:bS prog 68:=dN func68
instance:bS prog 69:=dN func69
instance:bS prog 70:=dN func70
instance:bS prog 71:=dN func71
instance:bS prog 72:=dN func72
instance:bS prog 73:=dN func73
instance:bS prog 74:=dN func74
instance:bS prog 75:=dN func75
instance:bS prog 76:=dN func76
instance:bS prog 77:=dN func77
instance:bS prog 78:=dN func78
instance:bS prog 81:=dN func81
instance:bS prog 82:=dN func82
instance:bS prog 83:=dN func83
instance:bS prog 84:=dN func84
instance:bS prog 85:=dN func85
instance:bS prog 86:=dN func86
instance:bS prog 87:=dN func87
instance:bS prog 88:=dN func88
instance:bS prog 89:=dN func89
instance:bS prog 90:=dN func90
instance:bS prog 91:=dN func91
instance:bS prog 92:=dN func92
instance:bS prog 93:=dN func93
instance:bS prog 94:=dN func94
instance:bS prog 95:=dN func95
instance:bS prog 96:=dN func96
instance:bS prog 97:=dN func97
instance:bS prog 98:=dN func98
instance:bS prog 99:=dN func99
instance:bS prog 100:=dN func100
instance:bS prog 101:=dN func101
instance:bS prog 102:=dN func102
instance:bS prog 103:=dN func103
instance:bS prog 104:=dN func104
instance:bS prog 105:=dN func105
instance:bS prog 106:=dN func106
instance:bS prog 107:=dN func107
instance:bS prog 108:=dN func108
instance:bS prog 109:=dN func109
instance:bS prog 110:=dN func110
instance:bS prog 111:=dN func111
instance:bS prog 112:=dN func112
instance:bS prog 113:=dN func113
instance:bS prog 118:=dN func118
instance:bS prog 121:=dN func121
instance:bS prog 122:=dN func122
instance:bS prog 123:=dN func123
instance:bS prog 124:=dN func124
instance:bS prog 125:=dN func125
instance:bS prog 126:=dN func126
instance:bS prog 127:=dN func127
instance:bS prog 128:=dN func128
instance:bS prog 129:=dN func129
instance:bS prog 132:=dN func132
instance:bS prog 133:=dN func133
instance:bS prog 134:=dN func134
instance:bS prog 135:=dN func135
instance:bS prog 136:=dN func136
instance:bS prog 137:=dN func137
instance:bS prog 138:=dN func138
instance:bS prog 139:=dN func139
instance:bS prog 140:=dN func140
instance:bS prog 141:=dN func141
instance:bS prog 142:=dN func142
instance:bS prog 143:=dN func143
instance:bS prog 144:=dN func144
instance:bS prog 145:=dN func145
instance:bS prog 146:=dN func146
instance:bS prog 147:=dN func147
instance:bS prog 148:=dN func148
instance:bS prog 149:=dN func149
instance:bS prog 150:=dN func150
instance:bS prog 151:=dN func151
instance:bS prog 152:=dN func152
instance:bS prog 153:=dN func153
instance:bS prog 154:=dN func154
instance:bS prog 155:=dN func155
instance:bS prog 156:=dN func156
instance:bS prog 157:=dN func157
instance:bS prog 158:=dN func158
instance:bS prog 169:=dN func169
instance:bS prog 170:=dN func170
instance:bS prog 171:=dN func171
instance:bS prog 172:=dN func172
instance:bS prog 173:=dN func173
instance:bS prog 174:=dN func174
instance:bS prog 175:=dN func175
instance:bS prog 176:=dN func176
instance:bS prog 177:=dN func177
instance:bS prog 178:=dN func178
instance:bS prog 179:=dN func179
instance:bS prog 180:=dN func180
instance:bS prog 181:=dN func181
instance:bS prog 182:=dN func182
instance:bS prog 183:=dN func183
instance:bS prog 184:=dN func184
instance:bS prog 185:=dN func185
instance:bS prog 186:=dN func186
instance:bS prog 187:=dN func187
instance:bS prog 188:=dN func188
instance:bS prog 189:=dN func189
instance:bS prog 190:=dN func190
instance:bS prog 191:=dN func191
instance:bS prog 192:=dN func192
instance:bS prog 193:=dN func193
instance:bS prog 194:=dN func194
instance:bS prog 195:=dN func195
instance:bS prog 196:=dN func196
instance:bS prog 197:=dN func197
instance:bS prog 198:=dN func198
instance:bS prog 199:=dN func199
instance:bS prog 200:=dN func200
instance:bS prog 201:=dN func201
instance:bS prog 202:=dN func202
instance:bS prog 203:=dN func203
instance:bS prog 204:=dN func204
instance:bS prog 205:=dN func205
instance:bS prog 213:=dN func213
instance:bS prog 217:=dN func217
instance:bS prog 218:=dN func218
instance:bS prog 219:=dN func219
instance:bS prog 220:=dN func220
instance:bS prog 221:=dN func221
instance:bS prog 222:=dN func222
instance:bS prog 223:=dN func223
instance:bS prog 224:=dN func224
instance:bS prog 225:=dN func225
instance:bS prog 226:=dN func226
instance:bS prog 227:=dN func227
instance:bS prog 228:=dN func228
instance:bS prog 229:=dN func229
instance:bS prog 230:=dN func230
instance:bS prog 231:=dN func231
instance:bS prog 232:=dN func232
instance:bS prog 233:=dN func233
instance:bS prog 234:=dN func234
instance:bS prog 235:=dN func235
instance:bS prog 236:=dN func236
instance:bS prog 237:=dN func237
instance:bS prog 238:=dN func238
instance:bS prog 239:=dN func239
instance:bS prog 240:=dN func240
instance:bS prog 241:=dN func241
instance:bS prog 242:=dN func242
instance:bS prog 243:=dN func243
instance:bS prog 244:=dN func244
instance:bS prog 245:=dN func245
instance:bS prog 246:=dN func246
instance:bS prog 247:=dN func247
instance:bS prog 248:=dN func248
instance:bS prog 249:=dN func249
instance:bS prog 250:=dN func250
instance:bS prog 251:=dN func251
instance:bS prog 252:=dN func252
instance:bS prog 253:=dN func253
instance:bS prog 254:=dN func254
instance:bS prog 255:=dN func255
instance:bS prog 256:=dN func256
instance:bS prog 257:=dN func257
instance:bS prog 258:=dN func258
instance:bS prog 259:=dN func259
instance:bS prog 260:=dN func260
instance:bS prog 261:=dN func261
instance:bS prog 262:=dN func262
instance:bS prog 263:=dN func263
instance:bS prog 264:=dN func264
instance:bS prog 265:=dN func265
instance:bS prog 266:=dN func266
instance:bS prog 267:=dN func267
instance:bS prog 268:=dN func268
instance:bS prog 269:=dN func269
instance:bS prog 270:=dN func270
instance:bS prog 271:=dN func271
instance:bS prog 272:=dN func272
instance:bS prog 279:=dN func279
instance:bS prog 280:=dN func280
instance:bS prog 281:=dN func281
instance:bS prog 282:=dN func282
instance:bS prog 283:=dN func283
instance:bS prog 284:=dN func284
instance:bS prog 285:=dN func285
instance:bS prog 286:=dN func286
instance:bS prog 287:=dN func287
instance:bS prog 288:=dN func288
instance:bS prog 289:=dN func289
instance:bS prog 290:=dN func290
instance:bS prog 291:=dN func291
instance:bS prog 292:=dN func292
instance:bS prog 293:=dN func293
instance:bS prog 294:=dN func294
instance:bS prog 295:=dN func295
instance:bS prog 296:=dN func296
instance:bS prog 297:=dN func297
instance:bS prog 298:=dN func298
instance:bS prog 299:=dN func299
instance:bS prog 300:=dN func300
instance:bS prog 301:=dN func301
instance:bS prog 302:=dN func302
instance:bS prog 303:=dN func303
instance:bS prog 304:=dN func304
instance:bS prog 305:=dN func305
instance:bS prog 306:=dN func306
instance:bS prog 307:=dN func307
instance:bS prog 308:=dN func308
instance:bS prog 309:=dN func309
instance:bS prog 310:=dN func310
instance:bS prog 311:=dN func311
instance:bS prog 312:=dN func312
instance:bS prog 315:=dN func315
instance:bS prog 316:=dN func316
instance:bS prog 317:=dN func317
instance:bS prog 318:=dN func318
instance:bS prog 319:=dN func319
instance:bS prog 320:=dN func320
instance:bS prog 321:=dN func321
instance:bS prog 322:=dN func322
instance:bS prog 323:=dN func323
instance:bS prog 324:=dN func324
instance:bS prog 325:=dN func325
instance:bS prog 326:=dN func326
instance:bS prog 327:=dN func327
instance:bS prog 328:=dN func328
instance:bS prog 329:=dN func329
instance:bS prog 330:=dN func330
instance:bS prog 331:=dN func331
instance:bS prog 332:=dN func332
instance:bS prog 333:=dN func333
instance:bS prog 334:=dN func334
instance:bS prog 335:=dN func335
instance:bS prog 336:=dN func336
instance:bS prog 337:=dN func337
instance:bS prog 338:=dN func338
instance:bS prog 339:=dN func339
instance:bS prog 340:=dN func340
instance:bS prog 341:=dN func341
instance:bS prog 342:=dN func342
instance:bS prog 343:=dN func343
instance:bS prog 344:=dN func344
instance:bS prog 345:=dN func345
instance:bS prog 346:=dN func346
instance:bS prog 347:=dN func347
instance:bS prog 348:=dN func348
instance:bS prog 349:=dN func349
instance:bS prog 350:=dN func350
instance:bS prog 351:=dN func351
instance:bS prog 352:=dN func352
instance:bS prog 353:=dN func353
instance:bS prog 354:=dN func354
instance:bS prog 355:=dN func355
instance:bS prog 356:=dN func356
instance:bS prog 357:=dN func357
instance:bS prog 358:=dN func358
instance:bS prog 359:=dN func359
instance:bS prog 360:=dN func360
instance:bU f3 [.tmp 2]:=⟨rfl⟩
instance:bU f4 [.tmp 2]:=⟨rfl⟩
instance:bU f5 [.tmp 2]:=⟨rfl⟩
instance:bU f6 [.tmp 2]:=⟨rfl⟩
instance:bU f7 [.cell 2 28,.tmp 3]:=⟨rfl⟩
instance:bU f8 [.cell 4 33,.tmp 5]:=⟨rfl⟩
instance:bU f9 [.cell 4 33,.tmp 5]:=⟨rfl⟩
instance:bU f10 [.cell 2 28,.cell 3 37]:=⟨rfl⟩
instance:bU f11 [.tmp 4]:=⟨rfl⟩
instance:bU f12 [.tmp 4]:=⟨rfl⟩
instance:bU f13 [.tmp 4]:=⟨rfl⟩
instance:bU f14 [.tmp 4]:=⟨rfl⟩
instance:bU f15 [.tmp 0]:=⟨rfl⟩
instance:bU f16 [.tmp 2]:=⟨rfl⟩
instance:bU f17 [.cell 2 28,.cell 3 33]:=⟨rfl⟩
instance:bU f18 [.tmp 4]:=⟨rfl⟩
instance:bU f19 [.tmp 4]:=⟨rfl⟩
instance:bU f20 [.tmp 6]:=⟨rfl⟩
instance:bU f22 [.tmp 2]:=⟨rfl⟩
instance:bU f23 [.cell 2 26,.cell 3 4]:=⟨rfl⟩
instance:bU f24 [.cell 4 31,.cell 5 4]:=⟨rfl⟩
instance:bU f25 [.tmp 4]:=⟨rfl⟩
instance:bU f26 [.tmp 4]:=⟨rfl⟩
instance:bU f27 [.tmp 2,.tmp 3]:=⟨rfl⟩
instance:bU f28 [.tmp 4,.tmp 5]:=⟨rfl⟩
instance:bU f29 [.tmp 2]:=⟨rfl⟩
instance:bU f30 [.cell 2 61,.cell 3 64]:=⟨rfl⟩
instance:bU f31 [.cell 4 37,.tmp 5]:=⟨rfl⟩
instance:bU f32 [.tmp 6]:=⟨rfl⟩
instance:bU f33 [.tmp 4]:=⟨rfl⟩
instance:bU f34 [.tmp 4]:=⟨rfl⟩
instance:bU f35 [.tmp 4]:=⟨rfl⟩
instance:bU f36 [.tmp 4]:=⟨rfl⟩
instance:bU f37 [.tmp 2]:=⟨rfl⟩
instance:bU f38 [.tmp 4]:=⟨rfl⟩
instance:bU f39 [.tmp 4]:=⟨rfl⟩
instance:bU f40 [.cell 2 61]:=⟨rfl⟩
instance:bU f41 [.cell 4 64]:=⟨rfl⟩
instance:bU f42 [.tmp 2]:=⟨rfl⟩
instance:bU f43 [.tmp 4]:=⟨rfl⟩
instance:bU f44 [.tmp 2]:=⟨rfl⟩
instance:bU f45 [.tmp 4]:=⟨rfl⟩
instance:bU f46 [.tmp 4]:=⟨rfl⟩
instance:bU f47 [.tmp 4]:=⟨rfl⟩
instance:bU f48 [.tmp 2]:=⟨rfl⟩
instance:bU f49 [.tmp 2]:=⟨rfl⟩
instance:bU f51 [.tmp 4]:=⟨rfl⟩
instance:bU f52 [.tmp 2,.tmp 3]:=⟨rfl⟩
instance:bU f53 [.tmp 4,.tmp 5]:=⟨rfl⟩
instance:bU f54 [.tmp 2]:=⟨rfl⟩
instance:bU f55 [.tmp 4]:=⟨rfl⟩
instance:bU f56 [.tmp 3]:=⟨rfl⟩
instance:bU f57 [.tmp 2,.tmp 3]:=⟨rfl⟩
instance:bU f58 [.tmp 4,.tmp 5]:=⟨rfl⟩
instance:bU f59 [.tmp 0]:=⟨rfl⟩
instance:bU f60 [.cell 2 61]:=⟨rfl⟩
instance:bU f61 [.cell 6 37,.tmp 7]:=⟨rfl⟩
instance:bU f62 [.tmp 8]:=⟨rfl⟩
instance:bU f63 [.tmp 2]:=⟨rfl⟩
instance:bU f64 [.tmp 6]:=⟨rfl⟩
instance:bU f65 [.tmp 8]:=⟨rfl⟩
instance:bU f66 [.tmp 2]:=⟨rfl⟩
instance:bU f67 []:=⟨rfl⟩
instance:bU f68 [.tmp 4,.tmp 5]:=⟨rfl⟩
instance:bU f69 [.tmp 4]:=⟨rfl⟩
instance:bU f70 [.tmp 6]:=⟨rfl⟩
instance:bU f71 [.cell 2 28]:=⟨rfl⟩
instance:bU f72 [.cell 4 64]:=⟨rfl⟩
instance:bU f73 [.cell 4 64]:=⟨rfl⟩
instance:bU f74 [.tmp 2]:=⟨rfl⟩
instance:bU f75 [.tmp 6]:=⟨rfl⟩
instance:bU f76 [.tmp 2]:=⟨rfl⟩
instance:bU f77 [.tmp 6]:=⟨rfl⟩
instance:bU f78 [.tmp 2]:=⟨rfl⟩
instance:bU f82 [.tmp 6]:=⟨rfl⟩
instance:bU f84 [.tmp 2]:=⟨rfl⟩
instance:bU f85 [.tmp 2,.tmp 3]:=⟨rfl⟩
instance:bU f86 [.tmp 4]:=⟨rfl⟩
instance:bU f87 [.tmp 2,.tmp 3]:=⟨rfl⟩
instance:bU f88 [.cell 2 61]:=⟨rfl⟩
instance:bU f89 [.cell 2 28]:=⟨rfl⟩
instance:bU f90 [.cell 4 108]:=⟨rfl⟩
instance:bU f91 [.tmp 2]:=⟨rfl⟩
instance:bU f92 [.tmp 2]:=⟨rfl⟩
instance:bU f93 [.tmp 4]:=⟨rfl⟩
instance:bU f94 [.tmp 2]:=⟨rfl⟩
instance:bU f95 [.tmp 4]:=⟨rfl⟩
instance:bU f96 []:=⟨rfl⟩
instance:bU f97 []:=⟨rfl⟩
instance:bU f98 [.tmp 2]:=⟨rfl⟩
instance:bU f99 [.tmp 6]:=⟨rfl⟩
instance:bU f100 [.cell 4 64,.tmp 5]:=⟨rfl⟩
instance:bU f101 [.cell 6 64,.tmp 7]:=⟨rfl⟩
instance:bU f102 [.cell 4 64,.tmp 5]:=⟨rfl⟩
instance:bU f103 [.cell 4 64,.tmp 5]:=⟨rfl⟩
instance:bU f104 [.cell 8 136,.tmp 9]:=⟨rfl⟩
instance:bU f105 [.tmp 4]:=⟨rfl⟩
instance:bU f106 [.tmp 2]:=⟨rfl⟩
instance:bU f107 [.cell 4 64,.tmp 5]:=⟨rfl⟩
instance:bU f108 [.cell 2 33]:=⟨rfl⟩
instance:bU f109 [.cell 8 64,.tmp 9]:=⟨rfl⟩
instance:bU f110 [.tmp 4]:=⟨rfl⟩
instance:bU f111 [.cell 2 64]:=⟨rfl⟩
instance:bU f112 [.tmp 4]:=⟨rfl⟩
instance:bU f113 [.tmp 2]:=⟨rfl⟩
instance:bU f118 []:=⟨rfl⟩
instance:bU f121 [.tmp 4]:=⟨rfl⟩
instance:bU f122 [.tmp 2,.tmp 3]:=⟨rfl⟩
instance:bU f123 [.tmp 4]:=⟨rfl⟩
instance:bU f124 [.tmp 2]:=⟨rfl⟩
instance:bU f125 [.tmp 6]:=⟨rfl⟩
instance:bU f126 [.tmp 4]:=⟨rfl⟩
instance:bU f127 [.tmp 2]:=⟨rfl⟩
instance:bU f128 [.cell 6 37,.tmp 7]:=⟨rfl⟩
instance:bU f129 [.tmp 2]:=⟨rfl⟩
instance:bU f132 [.cell 4 33,.tmp 5]:=⟨rfl⟩
instance:bU f133 [.cell 2 64,.tmp 3]:=⟨rfl⟩
instance:bU f134 [.tmp 2]:=⟨rfl⟩
instance:bU f135 [.tmp 2]:=⟨rfl⟩
instance:bU f136 [.tmp 2,.tmp 3]:=⟨rfl⟩
instance:bU f137 [.cell 6 136,.cell 7 136,.tmp 8]:=⟨rfl⟩
instance:bU f138 [.cell 4 33]:=⟨rfl⟩
instance:bU f139 [.cell 2 64,.tmp 3]:=⟨rfl⟩
instance:bU f140 [.cell 4 171,.tmp 5,.tmp 6,.tmp 7]:=⟨rfl⟩
instance:bU f141 [.tmp 6]:=⟨rfl⟩
instance:bU f142 [.tmp 6]:=⟨rfl⟩
instance:bU f143 [.cell 12 136,.tmp 13]:=⟨rfl⟩
instance:bU f144 [.cell 4 181,.tmp 5]:=⟨rfl⟩
instance:bU f145 [.cell 2 33]:=⟨rfl⟩
instance:bU f146 [.tmp 6]:=⟨rfl⟩
instance:bU f147 [.tmp 2]:=⟨rfl⟩
instance:bU f148 [.tmp 6,.tmp 7,.tmp 8]:=⟨rfl⟩
instance:bU f149 [.tmp 8,.tmp 9]:=⟨rfl⟩
instance:bU f150 [.tmp 4]:=⟨rfl⟩
instance:bU f151 [.tmp 4,.tmp 5]:=⟨rfl⟩
instance:bU f152 [.cell 4 179]:=⟨rfl⟩
instance:bU f153 [.tmp 8,.tmp 9]:=⟨rfl⟩
instance:bU f154 [.cell 2 33]:=⟨rfl⟩
instance:bU f155 [.tmp 2]:=⟨rfl⟩
instance:bU f156 [.tmp 2]:=⟨rfl⟩
instance:bU f157 [.cell 8 200,.tmp 9]:=⟨rfl⟩
instance:bU f158 [.cell 2 33]:=⟨rfl⟩
instance:bU f169 [.tmp 4]:=⟨rfl⟩
instance:bU f170 [.cell 4 37,.tmp 5]:=⟨rfl⟩
instance:bU f171 [.cell 4 37,.tmp 5]:=⟨rfl⟩
instance:bU f172 [.cell 4 37,.tmp 5]:=⟨rfl⟩
instance:bU f173 [.cell 4 37,.tmp 5]:=⟨rfl⟩
instance:bU f174 [.cell 4 37,.tmp 5]:=⟨rfl⟩
instance:bU f175 [.cell 6 37,.tmp 7]:=⟨rfl⟩
instance:bU f176 [.tmp 4]:=⟨rfl⟩
instance:bU f177 [.tmp 2,.tmp 3]:=⟨rfl⟩
instance:bU f178 [.cell 4 216,.tmp 5]:=⟨rfl⟩
instance:bU f179 [.tmp 4,.tmp 5]:=⟨rfl⟩
instance:bU f180 [.tmp 2,.tmp 3]:=⟨rfl⟩
instance:bU f181 [.cell 2 33]:=⟨rfl⟩
instance:bU f182 [.tmp 2]:=⟨rfl⟩
instance:bU f183 [.tmp 6]:=⟨rfl⟩
instance:bU f184 [.tmp 2,.tmp 3]:=⟨rfl⟩
instance:bU f185 [.tmp 4]:=⟨rfl⟩
instance:bU f186 [.cell 8 136,.cell 9 136,.tmp 10]:=⟨rfl⟩
instance:bU f187 [.tmp 4,.tmp 5,.tmp 6]:=⟨rfl⟩
instance:bU f188 [.tmp 6]:=⟨rfl⟩
instance:bU f189 [.tmp 6]:=⟨rfl⟩
instance:bU f190 [.tmp 6]:=⟨rfl⟩
instance:bU f191 [.tmp 8,.tmp 9]:=⟨rfl⟩
instance:bU f192 [.cell 8 136,.tmp 9]:=⟨rfl⟩
instance:bU f193 [.cell 6 136,.tmp 7]:=⟨rfl⟩
instance:bU f194 [.cell 6 181,.tmp 7]:=⟨rfl⟩
instance:bU f195 [.cell 2 179]:=⟨rfl⟩
instance:bU f196 [.tmp 4]:=⟨rfl⟩
instance:bU f197 [.tmp 4]:=⟨rfl⟩
instance:bU f198 [.tmp 6]:=⟨rfl⟩
instance:bU f199 [.tmp 6]:=⟨rfl⟩
instance:bU f200 [.cell 6 179,.tmp 7]:=⟨rfl⟩
instance:bU f201 [.tmp 4]:=⟨rfl⟩
instance:bU f202 [.tmp 2]:=⟨rfl⟩
instance:bU f203 [.tmp 8]:=⟨rfl⟩
instance:bU f204 [.cell 6 200,.tmp 7]:=⟨rfl⟩
instance:bU f205 [.tmp 2]:=⟨rfl⟩
instance:bU f213 [.tmp 2]:=⟨rfl⟩
instance:bU f217 [.tmp 6]:=⟨rfl⟩
instance:bU f218 [.cell 6 136,.tmp 7]:=⟨rfl⟩
instance:bU f219 [.tmp 2]:=⟨rfl⟩
instance:bU f220 [.tmp 4]:=⟨rfl⟩
instance:bU f221 [.tmp 4]:=⟨rfl⟩
instance:bU f222 [.cell 4 216,.tmp 5]:=⟨rfl⟩
instance:bU f223 [.tmp 4]:=⟨rfl⟩
instance:bU f224 [.tmp 2,.tmp 3]:=⟨rfl⟩
instance:bU f225 [.tmp 4]:=⟨rfl⟩
instance:bU f226 [.tmp 4,.tmp 5]:=⟨rfl⟩
instance:bU f227 [.tmp 4]:=⟨rfl⟩
instance:bU f228 [.tmp 4]:=⟨rfl⟩
instance:bU f229 [.tmp 6]:=⟨rfl⟩
instance:bU f230 [.tmp 2]:=⟨rfl⟩
instance:bU f231 [.cell 4 37,.tmp 5]:=⟨rfl⟩
instance:bU f232 [.tmp 2]:=⟨rfl⟩
instance:bU f233 [.tmp 4]:=⟨rfl⟩
instance:bU f234 [.tmp 2,.tmp 3]:=⟨rfl⟩
instance:bU f235 [.tmp 4,.tmp 5]:=⟨rfl⟩
instance:bU f236 [.cell 4 216,.tmp 5]:=⟨rfl⟩
instance:bU f237 [.tmp 6,.tmp 7]:=⟨rfl⟩
instance:bU f238 [.tmp 4]:=⟨rfl⟩
instance:bU f239 [.tmp 4]:=⟨rfl⟩
instance:bU f240 [.tmp 2,.tmp 3]:=⟨rfl⟩
instance:bU f241 [.tmp 4]:=⟨rfl⟩
instance:bU f242 [.tmp 4]:=⟨rfl⟩
instance:bU f243 [.tmp 2]:=⟨rfl⟩
instance:bU f244 [.cell 4 297,.tmp 5]:=⟨rfl⟩
instance:bU f245 [.tmp 4]:=⟨rfl⟩
instance:bU f246 [.tmp 4]:=⟨rfl⟩
instance:bU f247 [.tmp 2]:=⟨rfl⟩
instance:bU f248 [.tmp 6]:=⟨rfl⟩
instance:bU f249 [.tmp 4]:=⟨rfl⟩
instance:bU f250 [.tmp 8]:=⟨rfl⟩
instance:bU f251 [.cell 8 171,.tmp 9]:=⟨rfl⟩
instance:bU f252 [.tmp 4]:=⟨rfl⟩
instance:bU f253 [.tmp 6]:=⟨rfl⟩
instance:bU f254 [.cell 6 307]:=⟨rfl⟩
instance:bU f255 [.tmp 4]:=⟨rfl⟩
instance:bU f256 [.cell 4 136]:=⟨rfl⟩
instance:bU f257 [.tmp 4]:=⟨rfl⟩
instance:bU f258 [.tmp 8]:=⟨rfl⟩
instance:bU f259 [.tmp 4]:=⟨rfl⟩
instance:bU f260 [.tmp 2]:=⟨rfl⟩
instance:bU f261 [.tmp 2]:=⟨rfl⟩
instance:bU f262 [.tmp 6,.tmp 7]:=⟨rfl⟩
instance:bU f263 [.tmp 4]:=⟨rfl⟩
instance:bU f264 [.tmp 6,.cell 7 179]:=⟨rfl⟩
instance:bU f265 [.tmp 4]:=⟨rfl⟩
instance:bU f266 [.tmp 4]:=⟨rfl⟩
instance:bU f267 [.tmp 6]:=⟨rfl⟩
instance:bU f268 [.tmp 8,.tmp 9]:=⟨rfl⟩
instance:bU f269 [.tmp 4]:=⟨rfl⟩
instance:bU f270 [.cell 4 200,.tmp 5]:=⟨rfl⟩
instance:bU f271 [.cell 2 200]:=⟨rfl⟩
instance:bU f272 [.cell 2 200]:=⟨rfl⟩
instance:bU f279 [.tmp 4]:=⟨rfl⟩
instance:bU f280 [.tmp 4]:=⟨rfl⟩
instance:bU f281 [.tmp 4]:=⟨rfl⟩
instance:bU f282 [.tmp 4,.tmp 5]:=⟨rfl⟩
instance:bU f283 [.tmp 4,.tmp 5]:=⟨rfl⟩
instance:bU f284 [.tmp 4,.tmp 5]:=⟨rfl⟩
instance:bU f285 [.tmp 4]:=⟨rfl⟩
instance:bU f286 [.tmp 8]:=⟨rfl⟩
instance:bU f287 [.tmp 4]:=⟨rfl⟩
instance:bU f288 [.tmp 6,.tmp 7]:=⟨rfl⟩
instance:bU f289 [.tmp 6]:=⟨rfl⟩
instance:bU f290 [.tmp 4]:=⟨rfl⟩
instance:bU f291 [.tmp 8]:=⟨rfl⟩
instance:bU f292 [.tmp 4]:=⟨rfl⟩
instance:bU f293 [.tmp 8]:=⟨rfl⟩
instance:bU f294 [.tmp 2]:=⟨rfl⟩
instance:bU f295 [.tmp 4]:=⟨rfl⟩
instance:bU f296 [.cell 6 347,.tmp 7]:=⟨rfl⟩
instance:bU f297 [.tmp 6]:=⟨rfl⟩
instance:bU f298 [.tmp 6]:=⟨rfl⟩
instance:bU f299 [.tmp 4,.tmp 5]:=⟨rfl⟩
instance:bU f300 [.tmp 6,.tmp 7]:=⟨rfl⟩
instance:bU f301 [.tmp 4,.tmp 5]:=⟨rfl⟩
instance:bU f302 [.tmp 6,.tmp 7]:=⟨rfl⟩
instance:bU f303 [.tmp 4]:=⟨rfl⟩
instance:bU f304 [.tmp 6]:=⟨rfl⟩
instance:bU f305 [.tmp 8,.tmp 9]:=⟨rfl⟩
instance:bU f306 [.tmp 4]:=⟨rfl⟩
instance:bU f307 [.tmp 4]:=⟨rfl⟩
instance:bU f308 [.tmp 4]:=⟨rfl⟩
instance:bU f309 [.tmp 4]:=⟨rfl⟩
instance:bU f310 [.cell 6 179,.tmp 7]:=⟨rfl⟩
instance:bU f311 [.cell 2 249]:=⟨rfl⟩
instance:bU f312 [.tmp 2]:=⟨rfl⟩
instance:bU f315 [.tmp 8]:=⟨rfl⟩
instance:bU f316 [.tmp 4]:=⟨rfl⟩
instance:bU f317 [.cell 6 227,.tmp 7]:=⟨rfl⟩
instance:bU f318 [.tmp 4]:=⟨rfl⟩
instance:bU f319 [.tmp 4]:=⟨rfl⟩
instance:bU f320 [.tmp 8,.tmp 9]:=⟨rfl⟩
instance:bU f321 [.tmp 8,.tmp 9]:=⟨rfl⟩
instance:bU f322 [.tmp 8]:=⟨rfl⟩
instance:bU f323 [.tmp 6]:=⟨rfl⟩
instance:bU f324 [.tmp 2]:=⟨rfl⟩
instance:bU f325 [.tmp 6]:=⟨rfl⟩
instance:bU f326 [.tmp 4,.tmp 5]:=⟨rfl⟩
instance:bU f327 [.tmp 8]:=⟨rfl⟩
instance:bU f328 [.tmp 4]:=⟨rfl⟩
instance:bU f329 [.tmp 4]:=⟨rfl⟩
instance:bU f330 [.tmp 4]:=⟨rfl⟩
instance:bU f331 [.tmp 4]:=⟨rfl⟩
instance:bU f332 [.tmp 6]:=⟨rfl⟩
instance:bU f333 [.tmp 4]:=⟨rfl⟩
instance:bU f334 [.tmp 4]:=⟨rfl⟩
instance:bU f335 [.tmp 10,.tmp 11]:=⟨rfl⟩
instance:bU f336 [.tmp 4,.tmp 5]:=⟨rfl⟩
instance:bU f337 [.tmp 4]:=⟨rfl⟩
instance:bU f338 [.tmp 8,.tmp 9]:=⟨rfl⟩
instance:bU f339 [.tmp 4]:=⟨rfl⟩
instance:bU f340 [.tmp 4]:=⟨rfl⟩
instance:bU f341 [.tmp 8]:=⟨rfl⟩
instance:bU f342 [.tmp 4]:=⟨rfl⟩
instance:bU f343 [.cell 6 227,.tmp 7]:=⟨rfl⟩
instance:bU f344 [.tmp 6]:=⟨rfl⟩
instance:bU f345 [.tmp 6]:=⟨rfl⟩
instance:bU f346 [.tmp 6]:=⟨rfl⟩
instance:bU f347 [.tmp 6]:=⟨rfl⟩
instance:bU f348 [.tmp 6]:=⟨rfl⟩
instance:bU f349 [.tmp 4]:=⟨rfl⟩
instance:bU f350 [.tmp 2]:=⟨rfl⟩
instance:bU f351 [.tmp 4]:=⟨rfl⟩
instance:bU f352 [.tmp 6]:=⟨rfl⟩
instance:bU f353 [.tmp 8]:=⟨rfl⟩
instance:bU f354 [.tmp 6]:=⟨rfl⟩
instance:bU f355 [.tmp 6]:=⟨rfl⟩
instance:bU f356 [.tmp 4]:=⟨rfl⟩
instance:bU f357 [.cell 8 227,.tmp 9]:=⟨rfl⟩
instance:bU f358 [.tmp 6]:=⟨rfl⟩
instance:bU f359 [.cell 6 227,.tmp 7]:=⟨rfl⟩
instance:bU f360 [.cell 6 227,.tmp 7]:=⟨rfl⟩
end Go.Proofs
namespace Go.Proofs.YtajdgkpjbpindaaGreatDoor
open Go Go.Eng
abbrev bQl:=List Int
abbrev bI0:=List (List Int)
abbrev cM:=List Int×List Int
abbrev aQ:=bQl×List cM
abbrev eW:=Int×Int×List Int
abbrev gK:=List Int×List eW
abbrev mQ:=List Int×List Int×List Int×Int×Int×Int
abbrev aA9:=Int×List Int×List Int
abbrev cJ:=Int×List Int
abbrev eG:=List Int×List Int×List cJ×List Int
abbrev qH:=gK×Int×bI0
abbrev SEq:=List Int×List Int
abbrev iJ:=Int×Int×Bool×List Int
abbrev jX:=List Int×List iJ
abbrev dK:=Int×List Int×List (List Int)×List Int
abbrev jH:=Int×List Int×List Int
end Go.Proofs.YtajdgkpjbpindaaGreatDoor
namespace Go.Proofs.YtajdgkpjbpindaaGreatDoor
open Go Go.Eng Tryz
instance l1In_ctr{I:List Atom}{x lo hi:Int} :
  bQ prog 75 [.int .i64 x,.int .i64 lo,.int .i64 hi] I True Unit (fun _:Unit=>.bool (decide (lo<=x/\x<=hi))) (fun _=>I):=⟨fun _ w0=>by
 refine aK func75 ntmps75 ?_
 repeat' (first|refine aU ?_|refine bV fun hc=>?_|refine bW fun hc=>?_|refine aS (fun hc=>?_) fun hc=>?_|fail)
 all_goals exact⟨(),bO (by first|(refine decide_eq_decide.2 ?_;omega)|(refine(decide_eq_false ?_).symm;omega)|(simp;omega)),aH⟩⟩
instance bG3{I:List Atom}{av:Value}{xs:List Int}[h:bK Int I av xs] :
  bQ prog 76 [av] I True Unit (fun _:Unit=>.bool (decide (1<=xs.length/\xs.length<=60))) (fun _=>I):=⟨fun _ w0=>by
 refine dQ av fun hlx=>?_
 refine aK func76 ntmps76 ?_
 repeat' (first|refine aU ?_|refine aW fun r=>?_|fail)
 all_goals exact⟨(),bO (decide_eq_decide.2 (by omega)),aH⟩⟩
def aB6(x:gK):Bool:=decide (x.2.length<=60/\1<=x.1.length/\x.1.length<=60)
theorem aM9(x:gK):aB6 x=true↔(x.2.length<=60/\1<=x.1.length/\x.1.length<=60):=decide_eq_true_iff
instance {x:gK}:jB (aB6 x) (x.2.length<=60/\1<=x.1.length/\x.1.length<=60):=⟨aM9 x⟩
instance {x:gK}:jQ (aB6 x) (¬ (x.2.length<=60/\1<=x.1.length/\x.1.length<=60)):=⟨decide_eq_false_iff_not⟩
instance bIu{I:List Atom}{x:gK}{v0 v1:Value}[h:bK Int I v0 x.1][h':bK eW I v1 x.2] :
  bQ prog 155 [.agg #[v0,v1]] I True Unit (fun _:Unit=>.bool (aB6 x)) (fun _=>I):=⟨fun _ w0=>by
 unfold aB6
 refine aK func155 ntmps155 ?_
 repeat' (first|refine aU ?_|refine aW fun r=>?_|refine bT fun b=>?_|refine bV fun hc=>?_|refine bW fun hc=>?_|refine aS (fun hc=>?_) fun hc=>?_|fail)
 all_goals exact⟨(),bO (by first|(refine decide_eq_decide.2 ?_;omega)|(refine decide_eq_false ?_;omega)|(simp;omega)),aH⟩⟩
instance bNd{I:List Atom}{av:Value}{xs:List Int}[h:bK Int I av xs] :
  bQ prog 54 [av] I True Unit (fun _:Unit=>.bool (decide (1<=xs.length/\xs.length<=60))) (fun _=>I):=⟨fun _ w0=>by
 refine dQ av fun hlx=>?_
 refine aK func54 ntmps54 ?_
 repeat' (first|refine aU ?_|refine bV fun hc=>?_|refine bW fun hc=>?_|refine aS (fun hc=>?_) fun hc=>?_|fail)
 all_goals exact⟨(),bO (by first|(refine decide_eq_decide.2 ?_;omega)|(refine decide_eq_false ?_;omega)|(simp;omega)),aH⟩⟩
instance bJm{I:List Atom}{av:Value}{xs:List Int}[h:bK Int I av xs] :
  bQ prog 147 [av] I (xs.length<=1048576) (Value) (fun p:Value=>p) (fun p=>.ow [p] xs::I):=⟨fun hl w0=>by
 refine aK func147 ntmps147 ?_
 repeat' (first|refine aU ?_|refine bG fun sv=>?_|fail)
 exact⟨_,rfl,aH⟩⟩
def kB:List eW->List Int
 | []=>[]
 | s::r=>s.1::s.2.1::kB r
theorem aJ0{xs:List eW}{k:Nat}{y:eW}(h:xs[k]?=some y):kB (xs.take (k+1))=kB (xs.take k)++[y.1,y.2.1]:=by
 induction xs generalizing k with
 | nil=>simp at h
 | cons x xs ih=>
  cases k with
  | zero=>
   simp only[dO,Option.some.injEq] at h
   subst h
   simp [kB]
  | succ k=>
   simp only[List.getElem?_cons_succ] at h
   simp [kB,ih h]
theorem lZ(xs:List eW):(kB xs).length=2*xs.length:=by
 induction xs with
 | nil=>rfl
 | cons x xs ih=>simp only[kB,aF,ih];omega
instance bGf{I:List Atom}{x:gK}{v0 v1:Value}[h:bK Int I v0 x.1][h':bK eW I v1 x.2] :
  bQ prog 156 [.agg #[v0,v1]] I (x.2.length<=1048576) (Value) (fun p:Value=>p) (fun p=>.ow [p] (kB x.2)::I):=⟨fun hl w0=>by
 refine cL (A:=fun p=>[.ow [p] (kB x.2)]) (fun w1=>?_) (aE h (aE h' fI)) fun _=>inferInstance
 simp only[aA,aB]
 refine aK func156 ntmps156 ?_
 repeat' (first|refine aU ?_|refine bG fun sv=>?_|refine bT fun b=>?_|fail)
 refine zQ [3,4] [6,7,8,9,10,13,14,15,16,17,18,19,20,21,22,23,24,25,26,27,11,12] (Z:=Nat×Value) (fun k=>[k.2,.int .i64 k.1]) (fun k=>[.ow [k.2] (kB (x.2.take k.1)),.bk b [v0,v1],.rd [v0] x.1,.rd [v1] x.2]) (fun k=>k.1<=x.2.length) (fun k=>x.2.length-k.1) (0,sv) (by kernel_rfl) (aI _) (by show Ent _ _ [.ow [sv] [],.bk b [v0,v1],.rd [v0] x.1,.rd [v1] x.2];exact aH) ?_
 intro ⟨k,sw⟩ u l' hl' hk
 simp only[bM,List.map,List.set] at hl'
 subst hl'
 simp only at hk ⊢
 have hn:=lZ (x.2.take k)
 have hn2:=aN (i:=k) (l:=x.2)
 repeat' (first|refine aU ?_|refine bP ?_|refine bV fun hc=>?_|refine bW fun hc=>?_|refine aS (fun hc=>?_) fun hc=>?_|refine bG fun sv=>?_|refine wb 5 [14] ?_|refine xp ?_|refine x0 ?_|(refine xd fun p c d e f g h hf=>?_;simp only[Un.cells,Un.atoms,Un.fact,aA,aB] at f g h hf;subst f g h)|refine xy ?_|refine bI ?_|fail)
 ·rw[← aJ0 (mM (by omega))]
  exact eB (k+1,sv) (by simp only;omega)
 ·rw[bE (by omega)]
  exact⟨_,rfl,aH⟩⟩
def fY(x:gK):dK:=if x.2.length<=60/\1<=x.1.length/\x.1.length<=60 then (1,kB x.2,[x.1],[]) else (0,[],[],[])
instance aLn{I:List Atom}{x:gK}{v0 v1:Value}[h:bK Int I v0 x.1][h':bK eW I v1 x.2] :
  bQ prog 108 [.agg #[v0,v1]] I (True) (Value×Value×Value) (fun p:Value×Value×Value=>.agg #[.int .i64 (fY x).1,p.1,p.2.1,p.2.2]) (fun p=>.ow [p.1] (fY x).2.1::.ow [p.2.1] (fY x).2.2.1::.ow [p.2.2] (fY x).2.2.2::I):=⟨fun _ w0=>by
 refine aK func108 ntmps108 ?_
 repeat' (first|refine aU ?_|refine aW fun r=>?_|refine bT fun b=>?_|refine bV fun hc=>?_|refine bW fun hc=>?_|refine aS (fun hc=>?_) fun hc=>?_|refine bG fun sv=>?_|refine wb 3 [7] ?_|refine xp ?_|refine xy ?_|refine bI ?_|fail)
 ·rw[show fY x=_ from if_neg hc]
  exact⟨(_,_,_),rfl,aH⟩
 ·rw[show fY x=_ from if_pos hc]
  exact⟨(_,_,_),rfl,aH⟩⟩
theorem aA6{a:List Int}{k:Nat}(hk:k<a.length)(h:(a.take k).all (fun n=>decide (0<=n/\n<=3))=true)(hn:0<=a.getD k 0/\a.getD k 0<=3):(a.take (k+1)).all (fun n=>decide (0<=n/\n<=3))=true:=by
 rw[bC hk,List.all_append,h]
 rw[aC,aG hk] at hn
 simpa using hn
theorem aBd{a:List Int}{k:Nat}(hk:k<a.length)(hn:¬ (0<=a.getD k 0/\a.getD k 0<=3)):eA a=false:=by
 cases h:eA a with
 | false=>rfl
 | true=>exact absurd (fM h hk) hn
theorem pU{a:List Int}(h:¬ (1<=a.length/\a.length<=8)):eA a=false:=by simp only[eA,h,decide_false,Bool.false_and]
instance spec_SigOk_ctr{I:List Atom}{v:Value}{a:List Int}[h:bK Int I v a] :
  bQ prog 44 [.agg #[v]] I True Unit (fun _:Unit=>.bool (eA a)) (fun _=>I):=⟨fun _ w0=>by
 refine dQ v fun hlx=>?_
 refine aK func44 ntmps44 ?_
 repeat' (first|refine aU ?_|refine aW fun r=>?_|refine bT fun b=>?_|refine bV fun hc=>?_|refine bW fun hc=>?_|refine aS (fun hc=>?_) fun hc=>?_|fail)
 ·exact⟨(),bO (pU (by omega)),aH⟩
 refine lc_ [3] [9,10,11,12,13,16,17,18,19,20,21,22,2,14,15] (Z:=Nat) (fun k=>[.int .i64 k]) (fun k=>k<=a.length/\(a.take k).all (fun n=>decide (0<=n/\n<=3))=true) (fun k=>a.length-k) 0 ⟨aI _,rfl⟩ ?_
 intro k u l' hl' ⟨hk,hkk⟩
 simp only[bM,List.map,List.set] at hl'
 subst hl'
 repeat' (first|refine aU ?_|refine eF fun hbi=>?_|refine bP ?_|refine aW fun r=>?_|refine bV fun hc=>?_|refine bW fun hc=>?_|refine aS (fun hc=>?_) fun hc=>?_|fail)
 ·exact⟨(),bO (aBd (by omega) hc),aH⟩
 ·exact eB (k+1) ⟨by omega,aA6 (by omega) hkk hc⟩
 ·exact⟨(),bO (by rw[bE (by omega)] at hkk;simp only[eA,hkk,Bool.and_true,decide_eq_true_eq];omega),aH⟩⟩
instance aV4{I:List Atom}{v:Value}{a:List Int}[h:bK Int I v a] :
  bQ prog 22 [.agg #[v]] I True Unit (fun _:Unit=>.bool (eA a)) (fun _=>I):=⟨fun _ w0=>by
 refine dQ v fun hlx=>?_
 refine aK func22 ntmps22 ?_
 repeat' (first|refine aU ?_|refine bT fun b=>?_|refine bV fun hc=>?_|refine bW fun hc=>?_|refine aS (fun hc=>?_) fun hc=>?_|fail)
 ·exact⟨(),bO (pU (by omega)),aH⟩
 ·exact⟨(),bO (pU (by omega)),aH⟩
 refine lc_ [18] [19,20,21,4,22,23,24,25,26,27,2,28] (Z:=Nat) (fun k=>[.int .i64 k]) (fun k=>k<=a.length/\(a.take k).all (fun n=>decide (0<=n/\n<=3))=true) (fun k=>a.length-k) 0 ⟨aI _,rfl⟩ ?_
 intro k u l' hl' ⟨hk,hkk⟩
 simp only[bM,List.map,List.set] at hl'
 subst hl'
 repeat' (first|refine aU ?_|refine eF fun hbi=>?_|refine bP ?_|refine bV fun hc=>?_|refine bW fun hc=>?_|refine aS (fun hc=>?_) fun hc=>?_|fail)
 ·exact⟨(),bO (aBd (k:=k) (by omega) (by omega)),aH⟩
 ·exact⟨(),bO (aBd (k:=k) (by omega) (by omega)),aH⟩
 ·exact eB (k+1) ⟨by omega,aA6 (by omega) hkk ⟨by omega,by omega⟩⟩
 ·exact⟨(),bO (by rw[bE (by omega)] at hkk;simp only[eA,hkk,Bool.and_true,decide_eq_true_eq];omega),aH⟩⟩
def ar1(a:List Int)(n:Int):Int:=if dS a n then -1 else ar a n
theorem bEu{a:List Int}(h:eA a=true){n:Int}:ar1 a n<0↔dS a n=true:=by
 unfold ar1
 split
 ·rename_i hb;simp [hb]
 ·rename_i hb
  have:n<a.length:=by simp only[dS,decide_eq_true_eq] at hb;omega
  have:=iK h this
  simp [hb];omega
instance bGj{I:List Atom}{v:Value}{a:List Int}{n:Int}[h:bK Int I v a] :
  bQ prog 112 [.agg #[v],.int .i64 n] I True Unit (fun _:Unit=>.int .i64 (ar1 a n)) (fun _=>I):=⟨fun _ w0=>by
 refine dQ v fun hlx=>?_
 refine aK func112 ntmps112 ?_
 repeat' (first|refine aU ?_|refine eF fun hbi=>?_|refine bP ?_|refine aW fun r=>?_|refine bT fun b=>?_|refine bV fun hc=>?_|refine bW fun hc=>?_|refine aS (fun hc=>?_) fun hc=>?_|fail)
 ·exact⟨(),iG (by unfold ar1 dS ar;rw[if_neg (by simp;omega),if_pos (by omega)]),aH⟩
 ·exact⟨(),iG (by unfold ar1 dS ar;rw[if_neg (by simp;omega),if_neg (by omega)]),aH⟩
 ·exact⟨(),iG (by unfold ar1 dS;rw[if_pos (by simp;omega)]),aH⟩⟩
theorem aN5{w0:World}{I:List Atom}{v v':Value}{a t:List Int}{at_:Int}{k0:Nat}[hm:fJ at_ k0][h:bK Int I v a][h':bK Int I v' t](hs:eA a=true)(hat:0<=at_)(hat':at_<=t.length)(hl:t.length<=1048576) :
  CJ prog 77 [.agg #[v],v',.int .i64 at_] w0 I (fun _:Unit=>.int .i64 (jR a (dS a) t k0)) (fun _=>I):=by
 obtain rfl:at_=(k0:Int):=by have:=hm.eq;omega
 refine aK func77 ntmps77 ?_
 repeat' (first|refine aU ?_|refine bT fun b=>?_|fail)
 refine lc_ [7,8] [11,12,13,14,17,18,19,20,21,22,9,23,24,6,25,26,27,28,29,30,31,32,15,16] (Z:=Nat×Nat) (fun k=>[.int .i64 (k.2+1:Nat),.int .i64 k.1]) (fun k=>k0<=k.1/\k.1<=t.length/\k.2<=3*k.1/\(eQ a (dS a) (t.drop k0) 1).1=(eQ a (dS a) (t.drop k.1) (k.2+1)).1/\k0+(eQ a (dS a) (t.drop k0) 1).2=k.1+(eQ a (dS a) (t.drop k.1) (k.2+1)).2) (fun k=>t.length-k.1) (k0,0) ⟨aM _,by omega,by omega,rfl,rfl⟩ ?_
 intro ⟨k,m⟩ u l' hl' ⟨hk0,hk,hm,h1,h2⟩
 simp only[bM,List.map,List.set] at hl'
 subst hl'
 simp only at hk0 hk hm h1 h2
 by_cases hlt:k<t.length
 ·have hb:=bEu hs (n:=t.getD k 0)
  rw[fA hlt] at h1 h2
  simp only[eQ] at h1 h2
  by_cases hbad:dS a (t.getD k 0)=true
  ·have:ar1 a (t.getD k 0)<0:=hb.2 hbad
   rw[if_pos hbad] at h1 h2
   repeat' (first|refine aU ?_|refine bV fun hc=>?_|refine bW fun hc=>?_|refine aS (fun hc=>?_) fun hc=>?_|refine aW fun r=>?_|refine wb 5 [] ?_|refine xf fun hbi=>?_|refine xp ?_|refine xy ?_|refine bI ?_|fail)
   exact⟨(),iG (by unfold jR;rw[if_neg (by rw[h1];simp)]),aH⟩
  ·have hn:¬ ar1 a (t.getD k 0)<0:=fun h=>hbad (hb.1 h)
   have e:ar1 a (t.getD k 0)=ar a (t.getD k 0):=by unfold ar1;rw[if_neg hbad]
   have hxa:t.getD k 0<a.length:=by simp only[dS,decide_eq_true_eq] at hbad;omega
   have hab:=iK hs hxa
   rw[if_neg hbad] at h1 h2
   repeat' (first|refine aU ?_|refine bP ?_|refine bV fun hc=>?_|refine bW fun hc=>?_|refine aS (fun hc=>?_) fun hc=>?_|refine aW fun r=>?_|refine wb 5 [] ?_|refine xf fun hbi=>?_|refine xp ?_|refine xy ?_|refine bI ?_|fail)
   ·have hz:m+(ar a (t.getD k 0)).toNat=0:=by omega
    rw[hz] at h1 h2
    simp only[eQ] at h1 h2
    exact⟨(),iG (by unfold jR;rw[if_pos h1];omega),aH⟩
   ·have hz:∃ m',m+(ar a (t.getD k 0)).toNat=m'+1:=⟨m+(ar a (t.getD k 0)).toNat-1,by omega⟩
    obtain ⟨m',hm'⟩:=hz
    rw[hm'] at h1 h2
    rw[show(((m+1:Nat):Int)+ar1 a (t.getD k 0)-1)=((m'+1:Nat):Int) by omega]
    exact eB (k+1,m') ⟨by omega,by simp only;omega,by simp only;omega,h1,by simp only;omega⟩
 ·have hk2:t.drop k=[]:=cI (by omega)
  rw[hk2] at h1 h2
  simp only[eQ] at h1 h2
  repeat' (first|refine aU ?_|refine bV fun hc=>?_|refine bW fun hc=>?_|refine aS (fun hc=>?_) fun hc=>?_|fail)
  exact⟨(),iG (by unfold jR;rw[if_neg (by rw[h1];simp)]),aH⟩
instance bMv{I:List Atom}{v v':Value}{a t:List Int}{at_:Int}{k0:Nat}[hm:fJ at_ k0][h:bK Int I v a][h':bK Int I v' t] :
  bQ prog 77 [.agg #[v],v',.int .i64 at_] I ((eA a=true)/\(0<=at_)/\(at_<=t.length)/\(t.length<=1048576)) (Unit) (fun _:Unit=>.int .i64 (jR a (dS a) t k0)) (fun _=>I):=⟨fun s w0=>aN5 s.1 s.2.1 s.2.2.1 s.2.2.2⟩
theorem aDa{a t:List Int}(h:eA a=false):bB a t=false:=by simp [bB,h]
theorem aC0{a t:List Int}(h:¬ (1<=t.length/\t.length<=60)):bB a t=false:=by simp only[bB,h,decide_false,Bool.and_false,Bool.false_and]
theorem aN0{a t:List Int}(h:eA a=true)(h':1<=t.length/\t.length<=60):bB a t=decide (jR a (dS a) t 0=t.length):=by simp only[bB,h,h',decide_true,Bool.true_and,and_self]
instance aUs{I:List Atom}{v v':Value}{a t:List Int}[h:bK Int I v a][h':bK Int I v' t] :
  bQ prog 46 [.agg #[v],v'] I True Unit (fun _:Unit=>.bool (bB a t)) (fun _=>I):=⟨fun _ w0=>by
 refine dQ v' fun hlx=>?_
 refine aK func46 ntmps46 ?_
 repeat' (first|refine aU ?_|refine aW fun r=>?_|refine bT fun b=>?_|refine bV fun hc=>?_|refine bW fun hc=>?_|refine aS (fun hc=>?_) fun hc=>?_|fail)
 ·exact⟨(),bO (aN0 ‹_› (by omega)),aH⟩
 ·exact⟨(),bO (aC0 (by omega)),aH⟩
 ·exact⟨(),bO (aDa ‹_›),aH⟩⟩
instance bBx{I:List Atom}{av bv:Value}{xs ys:List Int}[h:bK Int I av xs][h':bK Int I bv ys] :
  bQ prog 220 [av,bv] I True Unit (fun _:Unit=>.bool (decide (xs=ys))) (fun _=>I):=⟨fun _ w0=>by
 refine dQ av fun hlx=>?_
 refine aK func220 ntmps220 ?_
 repeat' (first|refine aU ?_|refine bV fun hc=>?_|refine bW fun hc=>?_|refine aS (fun hc=>?_) fun hc=>?_|fail)
 ·exact⟨(),bO (by exact decide_eq_false (fun h:xs=ys=>hc (by rw[h]))),aH⟩
 refine lc_ [5] [11,12,13,14,17,18,19,20,21,22,23,24,25,4,15,16] (Z:=Nat) (fun k=>[.int .i64 k]) (fun k=>k<=xs.length/\xs.take k=ys.take k) (fun k=>xs.length-k) 0 ⟨aI _,rfl⟩ ?_
 intro k u l' hl' ⟨hk,hkk⟩
 simp only[bM,List.map,List.set] at hl'
 subst hl'
 repeat' (first|refine aU ?_|refine bP ?_|refine bV fun hc=>?_|refine bW fun hc=>?_|refine aS (fun hc=>?_) fun hc=>?_|refine wb 6 [] ?_|refine xf fun hbi=>?_|refine xp ?_|refine bI ?_|fail)
 ·exact⟨(),bO (by exact decide_eq_false (bCo hc)),aH⟩
 ·exact eB (k+1) ⟨by omega,aRr hkk (by omega) (by omega) hc⟩
 ·exact⟨(),bO (by exact decide_eq_true (aVs hkk (by omega) (by omega))),aH⟩⟩
def sW(xs:List Int):Nat->Int
 | 0=>xs.getD 0 0
 | k+1=>min (sW xs k) (xs.getD k 0)
def aW6(xs:List Int):Int:=sW xs xs.length
theorem aK9(xs:List Int)(c:Int):∀ k,k<=xs.length->(c<=sW xs k↔c<=xs.getD 0 0/\∀ i,i<k->c<=xs.getD i 0)
 | 0,_=>by simp [sW]
 | k+1,hk=>by
  have ih:=aK9 xs c k (by omega)
  simp only[sW]
  rw[show c<=min (sW xs k) (xs.getD k 0)↔c<=sW xs k/\c<=xs.getD k 0 by omega,ih]
  constructor
  ·rintro ⟨⟨h1,h2⟩,h3⟩
   refine⟨h1,fun i hi=>?_⟩
   by_cases h:i=k
   ·subst h;exact h3
   ·exact h2 i (by omega)
  ·rintro ⟨h1,h2⟩
   exact⟨⟨h1,fun i hi=>h2 i (by omega)⟩,h2 k (by omega)⟩
theorem bC6{xs:List Int}(h:1<=xs.length)(c:Int):c<=aW6 xs↔∀ x∈xs,c<=x:=by
 unfold aW6
 rw[aK9 xs c _ (aM _)]
 constructor
 ·rintro ⟨_,h2⟩ x hx
  obtain ⟨i,hi,rfl⟩:=cO hx
  have:=h2 i hi
  rw[aC,aG hi] at this
  exact this
 ·intro h'
  exact⟨h' _ (eD (by omega)),fun i hi=>h' _ (eD hi)⟩
theorem aQq(xs:List Int):sW xs 1=xs.getD 0 0:=by simp only[sW];omega
instance bPp{I:List Atom}{av:Value}{xs:List Int}[h:bK Int I av xs] :
  bQ prog 63 [av] I (1<=xs.length) (Unit) (fun _:Unit=>.int .i64 (aW6 xs)) (fun _=>I):=⟨fun hl w0=>by
 refine dQ av fun hlx=>?_
 refine aK func63 ntmps63 ?_
 repeat' (first|refine aU ?_|refine eF fun hbi=>?_|refine bP ?_|refine bV fun hc=>?_|refine bW fun hc=>?_|refine aS (fun hc=>?_) fun hc=>?_|fail)
 refine bN [3,4] [12,13,14,15,18,19,20,21,22,23,16,17] (Z:=Nat) (fun k=>[.int .i64 (sW xs k),.int .i64 k]) (fun k=>1<=k/\k<=xs.length) (fun k=>xs.length-k) 1 (by rw[aQq];kernel_rfl) ⟨by omega,by omega⟩ ?_
 intro k u l' hl' ⟨hk0,hk⟩
 simp only[bM,List.map,List.set] at hl'
 subst hl'
 repeat' (first|refine aU ?_|refine eF fun hbi=>?_|refine bP ?_|refine bV fun hc=>?_|refine bW fun hc=>?_|refine aS (fun hc=>?_) fun hc=>?_|fail)
 ·exact eB (k+1) ⟨by omega,by omega⟩
 ·exact⟨(),iG (by unfold aW6;rw[show k=xs.length by omega]),aH⟩⟩
instance arityAt_ctr{I:List Atom}{v:Value}{a:List Int}{n:Int}[h:bK Int I v a] :
  bQ prog 176 [.agg #[v],.int .i64 n] I (n<a.length) (Unit) (fun _:Unit=>.int .i64 (ar a n)) (fun _=>I):=⟨fun hn w0=>by
 refine dQ v fun hlx=>?_
 refine aK func176 ntmps176 ?_
 repeat' (first|refine aU ?_|refine eF fun hbi=>?_|refine bP ?_|refine bT fun b=>?_|refine bV fun hc=>?_|refine bW fun hc=>?_|refine aS (fun hc=>?_) fun hc=>?_|fail)
 ·exact⟨(),iG (by unfold ar;rw[if_pos hc]),aH⟩
 ·exact⟨(),iG (by unfold ar;rw[if_neg (by omega)]),aH⟩⟩
def nxV(a t:List Int)(k:Int):Int:=if k<t.length/\t.getD k.toNat 0<a.length then ar a (t.getD k.toNat 0) else -1
def nxK(a t:List Int)(k:Int):Int:=if k<t.length/\t.getD k.toNat 0<a.length then k+1 else k
theorem aRd{w0:World}{I Y:List Atom}{v v':Value}{a t:List Int}{k:Int}{b:Nat}[hb:eO I b [v,v',.int .i64 k] Y][h:bK Int Y v a][h':bK Int Y v' t](hk:0<=k)(hl:t.length<=1048576) :
  CJ prog 129 [.pointer (some ⟨b,0,none⟩)] w0 I (fun _:Unit=>.int .i64 (nxV a t k)) (fun _=>.bk b [v,v',.int .i64 (nxK a t k)]::Y):=by
 refine eN hb.perm ?_
 refine dQ v fun hlx=>?_
 refine dQ v' fun hlx'=>?_
 unfold nxV nxK
 obtain ⟨k,rfl⟩:∃ k0:Nat,k=k0:=⟨k.toNat,by omega⟩
 rw[bH]
 refine aK func129 ntmps129 ?_
 by_cases h1:k<t.length
 ·by_cases h2:t.getD k 0<a.length
  ·rw[if_pos ⟨by omega,h2⟩,if_pos ⟨by omega,h2⟩]
   repeat' (first|refine aU ?_|refine bP ?_|refine bV fun hc=>?_|refine bW fun hc=>?_|refine aS (fun hc=>?_) fun hc=>?_|refine aW fun r=>?_|refine wb 1 [] ?_|refine wb 4 [] ?_|refine xf fun hbi=>?_|refine xp ?_|refine xg ?_|refine xn ?_|refine pM fun hc=>?_|refine pN fun hc=>?_|refine xi (fun hc=>?_) fun hc=>?_|refine xy ?_|refine bI ?_|fail)
   exact⟨(),rfl,aH⟩
  ·rw[if_neg (by omega),if_neg (by omega)]
   repeat' (first|refine aU ?_|refine bV fun hc=>?_|refine bW fun hc=>?_|refine aS (fun hc=>?_) fun hc=>?_|refine wb 1 [] ?_|refine xp ?_|refine xg ?_|refine xn ?_|refine pM fun hc=>?_|refine pN fun hc=>?_|refine xi (fun hc=>?_) fun hc=>?_|refine bI ?_|fail)
   exact⟨(),rfl,aH⟩
 ·rw[if_neg (by omega),if_neg (by omega)]
  repeat' (first|refine aU ?_|refine wb 1 [] ?_|refine xp ?_|refine xg ?_|refine xn ?_|refine pM fun hc=>?_|refine pN fun hc=>?_|refine xi (fun hc=>?_) fun hc=>?_|refine bI ?_|fail)
  exact⟨(),rfl,aH⟩
instance bNk{I Y:List Atom}{v v':Value}{a t:List Int}{k:Int}{b:Nat}[hb:eO I b [v,v',.int .i64 k] Y][h:bK Int Y v a][h':bK Int Y v' t] :
  bQ prog 129 [.pointer (some ⟨b,0,none⟩)] I ((0<=k)/\(t.length<=1048576)) (Unit) (fun _:Unit=>.int .i64 (nxV a t k)) (fun _=>.bk b [v,v',.int .i64 (nxK a t k)]::Y):=⟨fun s w0=>aRd s.1 s.2⟩
theorem aSw{w0:World}{I Y:List Atom}{v v':Value}{a t:List Int}{k00:Int}{k0:Nat}{b:Nat}[hm:fJ k00 k0][hb:eO I b [v,v',.int .i64 k00] Y][h:bK Int Y v a][h':bK Int Y v' t](hs:eA a=true)(hk:0<=k00)(hk':k00<=t.length)(hl:t.length<=1048576) :
  CJ prog 94 [.pointer (some ⟨b,0,none⟩)] w0 I (fun _:Unit=>.bool (eQ a (nV a) (t.drop k0) 1).1) (fun _=>.bk b [v,v',.int .i64 (k00+(eQ a (nV a) (t.drop k0) 1).2)]::Y):=by
 refine eN hb.perm ?_
 obtain rfl:k00=(k0:Int):=by have:=hm.eq;omega
 refine aK func94 ntmps94 ?_
 repeat' (first|refine aU ?_|fail)
 refine lp_ [3] [5,6,9,10,4,11,12,2,13,14,15,7,8] (Z:=Nat×Nat) (fun k=>[.int .i64 k.2]) (fun k=>[.bk b [v,v',.int .i64 k.1]]) (fun k=>k0<=k.1/\k.1<=t.length/\k.2<=3*k.1+1/\(eQ a (nV a) (t.drop k0) 1).1=(eQ a (nV a) (t.drop k.1) k.2).1/\k0+(eQ a (nV a) (t.drop k0) 1).2=k.1+(eQ a (nV a) (t.drop k.1) k.2).2) (fun k=>t.length-k.1+(if k.2=0 then 0 else 1)) (k0,1) [.bk b [v,v',.int .i64 k0]] ⟨aM _,by omega,by omega,rfl,rfl⟩ ?_
 intro ⟨k,m⟩ u l' hl' ⟨hk0,hk,hm,h1,h2⟩
 simp only[bM,List.map,List.set] at hl'
 subst hl'
 simp only[aA,aB] at hk0 hk hm h1 h2 ⊢
 cases m with
 | zero=>
  simp only[eQ] at h1 h2
  repeat' (first|refine aU ?_|refine bV fun hc=>?_|refine bW fun hc=>?_|refine aS (fun hc=>?_) fun hc=>?_|fail)
  exact⟨(),bO h1,by rw[show((k0:Int)+((eQ a (nV a) (t.drop k0) 1).2:Nat))=k by omega];exact aH⟩
 | succ m=>
  by_cases hlt:k<t.length
  ·rw[fA hlt] at h1 h2
   simp only[eQ] at h1 h2
   by_cases hbad:nV a (t.getD k 0)=true
   ·have hx:¬ t.getD k 0<a.length:=by simp only[nV,decide_eq_true_eq] at hbad;omega
    have e1:nxV a t k=-1:=by unfold nxV;rw[bH,if_neg (by omega)]
    have e2:nxK a t k=k:=by unfold nxK;rw[bH,if_neg (by omega)]
    rw[if_pos hbad] at h1 h2
    repeat' (first|refine aU ?_|refine aW fun r=>?_|refine bV fun hc=>?_|refine bW fun hc=>?_|refine aS (fun hc=>?_) fun hc=>?_|fail)
    exact⟨(),bO h1,by rw[e2,show((k0:Int)+((eQ a (nV a) (t.drop k0) 1).2:Nat))=k by omega];exact aH⟩
   ·have hx:t.getD k 0<a.length:=by simp only[nV,decide_eq_true_eq] at hbad;omega
    have hab:=iK hs hx
    have e1:nxV a t k=ar a (t.getD k 0):=by unfold nxV;rw[bH,if_pos (by omega)]
    have e2:nxK a t k=k+1:=by unfold nxK;rw[bH,if_pos (by omega)]
    rw[if_neg hbad] at h1 h2
    repeat' (first|refine aU ?_|refine bP ?_|refine aW fun r=>?_|refine bV fun hc=>?_|refine bW fun hc=>?_|refine aS (fun hc=>?_) fun hc=>?_|fail)
    rw[e2,show(((m+1:Nat):Int)+nxV a t k-1)=((m+(ar a (t.getD k 0)).toNat:Nat):Int) by omega]
    exact dH (k+1,m+(ar a (t.getD k 0)).toNat) ⟨by omega,by simp only;omega,by simp only;omega,h1,by simp only;omega⟩ (by simp only;split<;>simp<;>omega) (by kernel_rfl) (by show Ent _ _ (.bk b [v,v',.int .i64 ((k:Int)+1)]::Y);exact aH)
  ·have hk2:t.drop k=[]:=cI (by omega)
   rw[hk2] at h1 h2
   simp only[eQ] at h1 h2
   have e1:nxV a t k=-1:=by unfold nxV;rw[bH,if_neg (by omega)]
   have e2:nxK a t k=k:=by unfold nxK;rw[bH,if_neg (by omega)]
   repeat' (first|refine aU ?_|refine aW fun r=>?_|refine bV fun hc=>?_|refine bW fun hc=>?_|refine aS (fun hc=>?_) fun hc=>?_|fail)
   exact⟨(),bO h1,by rw[e2,show((k0:Int)+((eQ a (nV a) (t.drop k0) 1).2:Nat))=k by omega];exact aH⟩
instance bNy{I Y:List Atom}{v v':Value}{a t:List Int}{k00:Int}{k0:Nat}{b:Nat}[hm:fJ k00 k0][hb:eO I b [v,v',.int .i64 k00] Y][h:bK Int Y v a][h':bK Int Y v' t] :
  bQ prog 94 [.pointer (some ⟨b,0,none⟩)] I ((eA a=true)/\(0<=k00)/\(k00<=t.length)/\(t.length<=1048576)) (Unit) (fun _:Unit=>.bool (eQ a (nV a) (t.drop k0) 1).1) (fun _=>.bk b [v,v',.int .i64 (k00+(eQ a (nV a) (t.drop k0) 1).2)]::Y):=⟨fun s w0=>aSw s.1 s.2.1 s.2.2.1 s.2.2.2⟩
theorem aNa{w0:World}{I:List Atom}{v v':Value}{a t:List Int}{at_:Int}{k0:Nat}[hm:fJ at_ k0][h:bK Int I v a][h':bK Int I v' t](hs:eA a=true)(hat:0<=at_)(hat':at_<=t.length)(hl:t.length<=1048576) :
  CJ prog 64 [.agg #[v],v',.int .i64 at_] w0 I (fun _:Unit=>.int .i64 (jR a (nV a) t k0)) (fun _=>I):=by
 obtain rfl:at_=(k0:Int):=by have:=hm.eq;omega
 refine aK func64 ntmps64 ?_
 repeat' (first|refine aU ?_|refine aW fun r=>?_|refine bT fun b=>?_|refine bV fun hc=>?_|refine bW fun hc=>?_|refine aS (fun hc=>?_) fun hc=>?_|fail)
 ·exact⟨(),iG (by unfold jR;rw[if_neg (by rw[hc];simp)]),aH⟩
 ·exact⟨(),iG (by unfold jR;rw[if_pos hc];omega),aH⟩
instance bMi{I:List Atom}{v v':Value}{a t:List Int}{at_:Int}{k0:Nat}[hm:fJ at_ k0][h:bK Int I v a][h':bK Int I v' t] :
  bQ prog 64 [.agg #[v],v',.int .i64 at_] I ((eA a=true)/\(0<=at_)/\(at_<=t.length)/\(t.length<=1048576)) (Unit) (fun _:Unit=>.int .i64 (jR a (nV a) t k0)) (fun _=>I):=⟨fun s w0=>aNa s.1 s.2.1 s.2.2.1 s.2.2.2⟩
instance aUl{I:List Atom}{v v':Value}{a t:List Int}[h:bK Int I v a][h':bK Int I v' t] :
  bQ prog 34 [.agg #[v],v'] I True Unit (fun _:Unit=>.bool (bB a t)) (fun _=>I):=⟨fun _ w0=>by
 refine dQ v' fun hlx=>?_
 rw[aAc]
 have hm:0<t.length->(-24<=aW6 t↔∀ x∈t,-24<=x):=fun h=>bC6 h _
 refine aK func34 ntmps34 ?_
 repeat' (first|refine aU ?_|refine aW fun r=>?_|refine bT fun b=>?_|refine bV fun hc=>?_|refine bW fun hc=>?_|refine aS (fun hc=>?_) fun hc=>?_|fail)
 ·have h1:=(hm (by omega)).1 ‹_›
  exact⟨(),bO (by rw[‹eA a=true›,decide_eq_true h1,decide_eq_true (by omega:0<t.length),decide_eq_true (by omega:t.length<=60)];rfl),aH⟩
 ·have h1:¬ ∀ x∈t,-24<=x:=fun h=>by have:=(hm (by omega)).2 h;omega
  exact⟨(),bO (by rw[decide_eq_false h1];simp),aH⟩
 ·exact⟨(),bO (by rw[decide_eq_false (by omega:¬ t.length<=60)];simp),aH⟩
 ·exact⟨(),bO (by rw[decide_eq_false (by omega:¬ 0<t.length)];simp),aH⟩
 ·exact⟨(),bO (by rw[‹eA a=false›];rfl),aH⟩⟩
theorem aNh{w0:World}{I:List Atom}{v v':Value}{a t:List Int}{at_:Int}{k0:Nat}[hm:fJ at_ k0][h:bK Int I v a][h':eK Int I v' t](hs:bB a t=true)(hat:0<=at_)(hat':at_<t.length) :
  CJ prog 125 [.agg #[v],v',.int .i64 at_] w0 I (fun p:Value=>p) (fun p=>.ow [p] (eX a t k0)::I):=by
 obtain rfl:at_=(k0:Int):=by have:=hm.eq;omega
 have h1:=eI hs
 have h2:=aX hs
 have h3:=aKv hs (k:=k0) (by omega)
 have h4:=fN hs (k:=k0) (by omega)
 have e:(t.take (k0+sz a t k0)).drop k0=eX a t k0:=by
  unfold eX;rw[List.drop_take];congr 1;omega
 refine aK func125 ntmps125 ?_
 repeat' (first|refine aU ?_|refine aW fun r=>?_|refine bG fun sv=>?_|refine bT fun b=>?_|fail)
 rw[h3,bH,e]
 exact⟨_,rfl,aH⟩
instance bNb{I:List Atom}{v v':Value}{a t:List Int}{at_:Int}{k0:Nat}[hm:fJ at_ k0][h:bK Int I v a][h':eK Int I v' t] :
  bQ prog 125 [.agg #[v],v',.int .i64 at_] I ((bB a t=true)/\(0<=at_)/\(at_<t.length)) (Value) (fun p:Value=>p) (fun p=>.ow [p] (eX a t k0)::I):=⟨fun s w0=>aNh s.1 s.2.1 s.2.2⟩
instance bG8{I:List Atom}{v:Value}{t:List Int}{at_:Int}[h:bK Int I v t] :
  bQ prog 257 [v,.int .i64 at_] I True Unit (fun _:Unit=>.bool (decide (0<=at_/\at_<t.length))) (fun _=>I):=⟨fun _ w0=>by
 refine dQ v fun hlx=>?_
 refine aK func257 ntmps257 ?_
 repeat' (first|refine aU ?_|refine bP ?_|refine aW fun r=>?_|fail)
 exact⟨(),bO (decide_eq_decide.2 (by omega)),aH⟩⟩
def fX(ts:List (List Int))(i:Nat):List Int:=if i<ts.length/\0<(ts.getD i default).length then ts.getD i default else [-1-(i:Int)]
theorem aE7{ts:List (List Int)}{i:Nat}(hl:∀ t∈ts,t.length<=60):1<=(fX ts i).length/\(fX ts i).length<=60:=by
 unfold fX
 split
 ·rename_i h
  exact⟨h.2,hl _ (by rw[aC,aG h.1];exact cS h.1)⟩
 ·simp
theorem rM{ts:List (List Int)}{i:Nat}(h:i<ts.length):ts.getD i default∈ts:=by
 rw[aC,aG h];exact cS h
theorem aF9{w0:World}{I:List Atom}{v:Value}{ts:List (List Int)}{i:Int}{m:Nat}[hm:fJ i m][h:bK (List Int) I v ts](hi:0<=i/\i<=1048576)(hl:∀ t∈ts,t.length<=60) :
  CJ prog 196 [.agg #[v],.int .i64 i] w0 I (fun p:Value=>p) (fun p=>.ow [p] (fX ts m)::I):=by
 refine cL (A:=fun p=>[.ow [p] (fX ts m)]) (fun w1=>?_) (aE h fI) fun _=>inferInstance
 simp only[aA,aB]
 obtain rfl:i=(m:Int):=by have:=hm.eq;omega
 refine dQ v fun hlx=>?_
 have hle:m<ts.length->(ts.getD m default).length<=60:=fun h=>hl _ (rM h)
 refine aK func196 ntmps196 ?_
 repeat' (first|refine aU ?_|refine bP ?_|refine aW fun r=>?_|refine bG fun sv=>?_|refine bT fun b=>?_|(refine iH fun p c d f g hf=>?_;simp only[Un.cells,Un.atoms,Un.fact,aA,aB] at f g hf;subst f g)|refine bV fun hc=>?_|refine bW fun hc=>?_|refine aS (fun hc=>?_) fun hc=>?_|fail)
 ·rw[show fX ts m=ts.getD m default from if_pos (by omega)]
  exact⟨_,rfl,aH⟩
 ·rw[show fX ts m=[-1-(m:Int)] from if_neg (by omega)]
  exact⟨_,rfl,aH⟩
 ·rw[show fX ts m=[-1-(m:Int)] from if_neg (by omega)]
  exact⟨_,rfl,aH⟩
instance bHr{I:List Atom}{v:Value}{ts:List (List Int)}{i:Int}{m:Nat}[hm:fJ i m][h:bK (List Int) I v ts] :
  bQ prog 196 [.agg #[v],.int .i64 i] I ((0<=i/\i<=1048576)/\(∀ t∈ts,t.length<=60)) (Value) (fun p:Value=>p) (fun p=>.ow [p] (fX ts m)::I):=⟨fun s w0=>aF9 s.1 s.2⟩
theorem lW{ts:List (List Int)}{i:Nat}(h:i<ts.length):zF i (ts.getD i default)=if (fX ts i).length=1/\(fX ts i).getD 0 0=-1-(i:Int) then [] else fX ts i:=by
 unfold zF fX
 generalize ts.getD i default=x
 simp only[h,true_and]
 match x with
 | []=>simp
 | [a]=>by_cases ha:a=-1-(i:Int)<;>simp [ha]
 | a::b::t=>simp
theorem aFi{w0:World}{I:List Atom}{v:Value}{ts:List (List Int)}[h:bK (List Int) I v ts](hn:ts.length<=48)(hl:∀ t∈ts,t.length<=60) :
  CJ prog 195 [.agg #[v]] w0 I (fun p:Value=>.agg #[p]) (fun p=>.ow [p] (eH ts)::I):=by
 refine cL (A:=fun p=>[.ow [p] (eH ts)]) (fun w1=>?_) (aE h fI) fun _=>inferInstance
 simp only[aA,aB]
 refine aK func195 ntmps195 ?_
 repeat' (first|refine aU ?_|refine bT fun b=>?_|fail)
 refine lp_ [4] [7,8,9,10,11,14,15,16,5,17,18,19,20,21,22,23,24,25,26,27,28,29,30,31,32,33,34,12,13] (Z:=Nat×Value) (fun k=>[.int .i64 k.1]) (fun k=>[.bk b [k.2],.ow [k.2] (eT 0 (ts.take k.1))]) (fun k=>k.1<=ts.length) (fun k=>ts.length-k.1) (0,.slice none 0 0) [.bk b [.slice none 0 0],.ow [.slice none 0 0] ([]:List (List Int))] (aI _) ?_
 intro ⟨k,sw⟩ u l' hl' hk
 simp only[bM,List.map,List.set] at hl'
 subst hl'
 simp only[aA,aB] at hk ⊢
 have hg:=aE7 (ts:=ts) (i:=k) hl
 have htl:=sA 0 (ts.take k)
 have htk:=aN (i:=k) (l:=ts)
 repeat' (first|refine aU ?_|refine eF fun hbi=>?_|refine bP ?_|refine aW fun r=>?_|refine bG fun sv=>?_|refine bV fun hc=>?_|refine bW fun hc=>?_|refine aS (fun hc=>?_) fun hc=>?_|fail)
 ·have e:eT 0 (ts.take k)++[[]]=eT 0 (ts.take (k+1)):=by
   rw[lT (mM (by omega)),lW (by omega),if_pos ⟨by omega,hc⟩]
  rw[e]
  exact eB (k+1,sv) (by simp only;omega)
 ·have e:eT 0 (ts.take k)++[fX ts k]=eT 0 (ts.take (k+1)):=by
   rw[lT (mM (by omega)),lW (by omega),if_neg (fun h=>hc h.2)]
  rw[e]
  exact eB (k+1,sv) (by simp only;omega)
 ·have e:eT 0 (ts.take k)++[fX ts k]=eT 0 (ts.take (k+1)):=by
   rw[lT (mM (by omega)),lW (by omega),if_neg (fun h=>by omega)]
  rw[e]
  exact eB (k+1,sv) (by simp only;omega)
 rw[bE (by omega)] at htl ⊢
 refine bD [] [35,36,37,38,39,40,41,42,43,44,45,46,47,48,49,50,51,52,53,54,55,56,57,58] (Z:=Nat×Value) (fun _=>[]) (fun j=>[.bk b [j.2],.ow [j.2] ((eT 0 ts).take j.1)]) (fun j=>j.1<=ts.length/\gE ((eT 0 ts).take j.1)=gE (eT 0 ts)) (fun j=>j.1) (ts.length,sw) [.bk b [sw],.ow [sw] (eT 0 ts)] (by kernel_rfl) ⟨aM _,by rw[bE (by omega)]⟩ (by simp only;rw[bE (by omega)]) ?_
 intro ⟨j,sx⟩ u l' hl' ⟨hj,hst⟩
 simp only[bM,List.map,List.set] at hl'
 subst hl'
 simp only[aA,aB] at hj hst ⊢
 have hjl:((eT 0 ts).take j).length=j:=by rw[aN];omega
 have hlast:0<j->((eT 0 ts).take j).getD (j-1) default=(eT 0 ts).getD (j-1) []:=fun h=>by
  rw[aC,aC,cU,if_pos (by omega)];rfl
 have htake:((eT 0 ts).take j).take (j-1)=(eT 0 ts).take (j-1):=by rw[List.take_take];congr 1;omega
 have hs1:0<j->(eT 0 ts).getD (j-1) []=[]->gE ((eT 0 ts).take (j-1))=gE (eT 0 ts):=fun h h'=>by
  rw[← hst,← qF (by omega) h',show j-1+1=j by omega]
 have hs2:0<j->(eT 0 ts).getD (j-1) []≠[]->gE (eT 0 ts)=(eT 0 ts).take j:=fun h h'=>by
  have:=qJ (j:=j-1) (by omega) h'
  rw[show j-1+1=j by omega,hst] at this
  exact this
 repeat' (first|refine aU ?_|refine bP ?_|refine bNh fun qa qc=>?_|refine bG fun sv=>?_|refine bV fun hc=>?_|refine bW fun hc=>?_|refine aS (fun hc=>?_) fun hc=>?_|fail)
 ·rw[hjl,hlast (by omega)] at hc
  have h1:=hs1 (by omega) (dG (by omega))
  rw[hjl,htake]
  exact eB (j-1,sv) ⟨by simp only;omega,h1⟩
 ·rw[hjl,hlast (by omega)] at hc
  have h1:=hs2 (by omega) (fun h=>hc (by rw[h];rfl))
  unfold eH
  rw[h1]
  exact⟨_,rfl,aH⟩
 ·have h1:(eT 0 ts).take j=eH ts:=by
   unfold eH
   have hz:j=0:=by omega
   rw[← hst,hz];rfl
  rw[h1]
  exact⟨_,rfl,aH⟩
instance bF6{I:List Atom}{v:Value}{ts:List (List Int)}[h:bK (List Int) I v ts] :
  bQ prog 195 [.agg #[v]] I ((ts.length<=48)/\(∀ t∈ts,t.length<=60)) (Value) (fun p:Value=>.agg #[p]) (fun p=>.ow [p] (eH ts)::I):=⟨fun s w0=>aFi s.1 s.2⟩
theorem kY{a:List Int}:∀ (p t:List Int) (b:List (List Int)) (ys:List (List Int)),eU a p t b=some ys->t.length<=60->(∀ x∈b,x.length<=60)->ys.length=b.length/\∀ x∈ys,x.length<=60
 | [],t,b,ys,h,ht,hb=>by simp only[eU,Option.some.injEq] at h;subst h;exact⟨rfl,hb⟩
 | n::p,[],b,ys,h,ht,hb=>by simp [eU] at h
 | n::p,x::ts,b,ys,h,ht,hb=>by
  have htl:ts.length<=60:=by simp only[aF] at ht;omega
  simp only[eU] at h
  split at h
  ·split at h
   ·exact kY p ts b ys h htl hb
   ·cases h
  ·split at h
   ·have:=kY p _ _ ys h (by rw[aR];omega) (fun y hy=>by
     rcases List.mem_or_eq_of_mem_set hy with h|h
     ·exact hb y h
     ·rw[h,aN];omega)
    simpa using this
   ·split at h
    ·exact kY p _ b ys h (by rw[aR];omega) hb
    ·cases h
theorem aNp:∀ x∈List.replicate 24 ([]:List Int),x.length<=60:=fun x hx=>by rw[(List.mem_replicate.1 hx).2];simp
theorem aSz{xs:List (List Int)}{m:Nat}{x:List Int}(h:xs.getD m []=x)(hm:m<xs.length):xs.set m x=xs:=by
 apply List.ext_getElem?
 intro i
 rw[List.getElem?_set]
 split
 ·rename_i e;subst e
  try rw[if_pos hm]
  rw[aC,aG hm] at h
  rw[aG hm]
  simp only[aZ] at h
  rw[h]
 ·rfl
theorem aHc{w0:World}{I:List Atom}{va vp vt:Value}{a p t:List Int}[h:bK Int I va a][h1:bK Int I vp p][h2:bK Int I vt t](hp:bB a p=true)(ht:bB a t=true) :
  CJ prog 200 [.agg #[va],vp,vt] w0 I (fun q:Value=>.tuple #[.agg #[q],.bool (fD a p t).isSome]) (fun q=>.ow [q] ((fD a p t).getD [])::I):=by
 have hpl:=aX hp
 have htl:=aX ht
 have hmo:fD a p t=(eU a p t (List.replicate 24 [])).map eH:=rfl
 refine cL (A:=fun q:Value=>[.ow [q] ((fD a p t).getD [])]) (fun w1=>?_) (aE h (aE h1 (aE h2 fI))) fun _=>inferInstance
 simp only[aA,aB]
 refine aK func200 ntmps200 ?_
 repeat' (first|refine aU ?_|refine bG fun sv=>?_|refine bT fun b=>?_|fail)
 rename Value=>tv
 refine lp_ [9,10] [15,16,17,18,21,22,23,24,25,7,26,27,28,29,30,31,32,33,34,35,36,37,38,39,40,41,42,43,44,45,46,11,47,48,49,50,51,52,53,54,55,12,56,57,58,59,60,61,62,63,64,65,66,67,68,69,70,71,72,73,74,75,76,77,78,19,20] (Z:=Nat×Nat×List (List Int)) (fun k=>[.int .i64 k.2.1,.int .i64 k.1]) (fun k=>[.ow [tv] k.2.2]) (fun k=>k.1<=p.length/\k.2.1<=t.length/\k.2.2.length=24/\eU a p t (List.replicate 24 [])=eU a (p.drop k.1) (t.drop k.2.1) k.2.2) (fun k=>p.length-k.1) (0,0,List.replicate 24 []) [.ow [tv] (List.replicate 24 ([]:List Int))] ⟨aI _,aI _,by simp,rfl⟩ ?_
 intro ⟨i,k,ys⟩ u l' hl' ⟨hi,hk,hy,hgo⟩
 simp only[bM,List.map,List.set] at hl'
 subst hl'
 simp only[aA,aB] at hi hk hy hgo ⊢
 have hpi:i<p.length->-24<=p.getD i 0/\p.getD i 0<a.length:=fun h=>dY hp h
 have hta:k<t.length->1<=sz a t k/\k+sz a t k<=t.length:=fun h=>(fN ht h).2
 have hsl:k<t.length->(eX a t k).length=sz a t k:=fun h=>mD ht h
 repeat' (first|refine aU ?_|refine eF fun hbi=>?_|refine bP ?_|refine aW fun r=>?_|refine bV fun hc=>?_|refine bW fun hc=>?_|refine aS (fun hc=>?_) fun hc=>?_|refine bQk fun sv=>?_|refine wb 9 [] ?_|refine wb 13 [8] ?_|refine wb 16 [9] ?_|refine xf fun hbi=>?_|refine xp ?_|refine x0 ?_|refine xy ?_|refine bI ?_|fail)
 ·have e:fD a p t=none:=by rw[hmo,hgo,aSt (by omega) (by omega)];rfl
  rw[e]
  simp only[cK,cC]
  exact⟨_,rfl,aH⟩
 ·have e:fD a p t=none:=by rw[hmo,hgo,aGf (by omega) (by omega) (by omega) (fun h=>hc h.symm)];rfl
  rw[e]
  simp only[cK,cC]
  exact⟨_,rfl,aH⟩
 ·exact eB (i+1,k+1,ys) ⟨by simp only;omega,by simp only;omega,hy,by rw[hgo];exact aTx (by omega) (by omega) (by omega) hc.symm⟩
 ·have hne:¬ ys.getD (-1-p.getD i 0).toNat []=[]:=fun h=>by
   have:(ys.getD (-1-p.getD i 0).toNat default).length=0:=by rw[show(default:List Int)=[] from rfl,h];rfl
   omega
  have e:fD a p t=none:=by rw[hmo,hgo,aHk (by omega) (by omega) (by omega) hne hc];rfl
  rw[e]
  simp only[cK,cC]
  exact⟨_,rfl,aH⟩
 ·have hne:¬ ys.getD (-1-p.getD i 0).toNat []=[]:=fun h=>by
   have:(ys.getD (-1-p.getD i 0).toNat default).length=0:=by rw[show(default:List Int)=[] from rfl,h];rfl
   omega
  rw[hsl (by omega)]
  refine tY (Ε:=?Ee) tv (eX a t k) ?ho ?_
  case ho=>exact uX
  rw[aSz hc (by omega)]
  exact eB (i+1,k+sz a t k,ys) ⟨by simp only;omega,by simp only;omega,hy,by rw[hgo];exact aTl (by omega) (by omega) (by omega) hne hc⟩
 ·have hnil:ys.getD (-1-p.getD i 0).toNat []=[]:=dG (by show(ys.getD (-1-p.getD i 0).toNat default).length=0;omega)
  rw[hsl (by omega)]
  refine tY (Ε:=?Ee) tv (eX a t k) ?ho ?_
  case ho=>exact uX
  exact eB (i+1,k+sz a t k,ys.set (-1-p.getD i 0).toNat (eX a t k)) ⟨by simp only;omega,by simp only;omega,by simpa using hy,by rw[hgo];exact aTt (by omega) (by omega) (by omega) hnil⟩
 ·have hg:eU a p t (List.replicate 24 [])=some ys:=by rw[hgo];exact aTh (by omega)
  obtain ⟨hyl,hyb⟩:=kY p t _ ys hg (by omega) aNp
  have e:fD a p t=some (eH ys):=by rw[hmo,hg];rfl
  refine aW (fun r2=>?_) ⟨by omega,hyb⟩
  repeat' (first|refine aU ?_|fail)
  rw[e]
  simp only[aZ,dL]
  exact⟨_,rfl,aH⟩
instance bG5{I:List Atom}{va vp vt:Value}{a p t:List Int}[h:bK Int I va a][h1:bK Int I vp p][h2:bK Int I vt t] :
  bQ prog 200 [.agg #[va],vp,vt] I ((bB a p=true)/\(bB a t=true)) (Value) (fun q:Value=>.tuple #[.agg #[q],.bool (fD a p t).isSome]) (fun q=>.ow [q] ((fD a p t).getD [])::I):=⟨fun s w0=>aHc s.1 s.2⟩
def kE(a p t:List Int):Option (List (List Int)):=if bB a p=true/\bB a t=true then fD a p t else none
theorem aJ4{a p t:List Int}(hp:bB a p=true)(ht:bB a t=true):kE a p t=fD a p t:=if_pos ⟨hp,ht⟩
theorem aJ6{a p t:List Int}(hp:bB a p=false):kE a p t=none:=if_neg (fun h=>by rw[hp] at h;exact absurd h.1 (by simp))
theorem aLd{a p t:List Int}(ht:bB a t=false):kE a p t=none:=if_neg (fun h=>by rw[ht] at h;exact absurd h.2 (by simp))
instance aQ0{I:List Atom}{va vp vt:Value}{a p t:List Int}[h:bK Int I va a][h1:bK Int I vp p][h2:bK Int I vt t] :
  bQ prog 310 [.agg #[va],vp,vt] I True Value (fun q:Value=>.tuple #[.agg #[q],.bool (kE a p t).isSome]) (fun q=>.ow [q] ((kE a p t).getD [])::I):=⟨fun _ w0=>by
 refine aK func310 ntmps310 ?_
 repeat' (first|refine aU ?_|refine aW fun r=>?_|refine bT fun b=>?_|refine bV fun hc=>?_|refine bW fun hc=>?_|refine aS (fun hc=>?_) fun hc=>?_|fail)
 ·rw[aJ6 ‹_›]
  simp only[cK,cC]
  exact⟨_,rfl,aH⟩
 ·rw[aLd ‹_›]
  simp only[cK,cC]
  exact⟨_,rfl,aH⟩
 ·rw[aJ4 ‹_› ‹_›]
  exact⟨_,rfl,aH⟩⟩
theorem aDr(a p t:List Int):((kE a p t).getD []).length<=24/\∀ x∈(kE a p t).getD [],x.length<=60:=by
 unfold kE
 split
 ·rename_i h
  unfold fD
  cases hg:eU a p t (List.replicate 24 []) with
  | none=>simp
  | some ys=>
   obtain ⟨h1,h2⟩:=kY p t _ ys hg (aX h.2).2 aNp
   rw[cA] at h1
   simp only[Option.map_some,aZ]
   refine⟨by have:=aD8 ys;omega,fun x hx=>?_⟩
   rcases sL hx with h|h
   ·rw[h];simp
   ·exact h2 x h
 ·simp
def jK(f:Nat->Bool):Nat->List Int
 | 0=>[]
 | k+1=>if f k then jK f k++[(k:Int)] else jK f k
theorem xT(f:Nat->Bool):∀ k,(jK f k).length<=k
 | 0=>by simp [jK]
 | k+1=>by
  have:=xT f k
  simp only[jK]
  split<;>simp<;>omega
theorem rW{f:Nat->Bool}{k:Nat}(h:f k=true):jK f (k+1)=jK f k++[(k:Int)]:=if_pos h
theorem wA{f:Nat->Bool}{k:Nat}(h:f k=false):jK f (k+1)=jK f k:=if_neg (by rw[h];simp)
theorem jM{xs:List Int}{k:Nat}{v:Int}(h:k<xs.length):v∈xs.take (k+1)↔v∈xs.take k∨v=xs.getD k 0:=by
 rw[bC h,aP,aC,aG h]
 simp
instance bMy{I:List Atom}{sv:Value}{xs:List Int}{n:Int}[h:bK Int I sv xs] :
  bQ prog 123 [sv,.int .i64 n] I True Unit (fun _:Unit=>.bool (decide (n∈xs))) (fun _=>I):=⟨fun _ w0=>by
 refine dQ sv fun hlx=>?_
 refine aK func123 ntmps123 ?_
 repeat' (first|refine aU ?_|fail)
 refine lc_ [5] [6,7,8,9,12,13,14,15,16,17,4,10,11] (Z:=Nat) (fun k=>[.int .i64 k]) (fun k=>k<=xs.length/\n∉xs.take k) (fun k=>xs.length-k) 0 ⟨aI _,by simp⟩ ?_
 intro k u l' hl' ⟨hk,hkk⟩
 simp only[bM,List.map,List.set] at hl'
 subst hl'
 repeat' (first|refine aU ?_|refine eF fun hbi=>?_|refine bP ?_|refine bV fun hc=>?_|refine bW fun hc=>?_|refine aS (fun hc=>?_) fun hc=>?_|fail)
 ·exact⟨(),bO (decide_eq_true (by have:=(jM (xs:=xs) (k:=k) (v:=n) (by omega)).2 (.inr hc.symm);exact List.mem_of_mem_take this)),aH⟩
 ·exact eB (k+1) ⟨by omega,fun hm=>by rcases (jM (by omega)).1 hm with h|h;exact hkk h;exact hc h.symm⟩
 ·exact⟨(),bO (decide_eq_false (by rw[bE (by omega)] at hkk;exact hkk)),aH⟩⟩
def aCl(a:List Int)(r:cM):Prop:=(bB a r.1=true/\bB a r.2=true/\0<=r.1.getD 0 0)/\∀ n∈r.2,0<=n∨n∈r.1
instance {a:List Int}{r:cM}:Decidable (aCl a r):=by unfold aCl;infer_instance
def xN(a:List Int)(r:cM):Bool:=decide (aCl a r)
theorem aEk{r:cM}{k:Nat}(hk:k<r.2.length)(h:∀ n∈r.2.take k,0<=n∨n∈r.1)(hn:0<=r.2.getD k 0∨r.2.getD k 0∈r.1):∀ n∈r.2.take (k+1),0<=n∨n∈r.1:=by
 intro n hm
 rcases (jM hk).1 hm with h1|h1
 ·exact h n h1
 ·subst h1;exact hn
theorem bE5{a:List Int}{r:cM}{k:Nat}(hk:k<r.2.length)(h1:r.2.getD k 0<0)(h2:¬ r.2.getD k 0∈r.1):xN a r=false:=decide_eq_false fun ⟨_,h⟩=>by
 rcases h _ (eD hk) with h|h
 ·omega
 ·exact h2 h
instance aUn{I:List Atom}{v v0 v1:Value}{a:List Int}{x:cM}[h:bK Int I v a][h0:bK Int I v0 x.1][h1:bK Int I v1 x.2] :
  bQ prog 126 [.agg #[v],.agg #[v0,v1]] I True Unit (fun _:Unit=>.bool (xN a x)) (fun _=>I):=⟨fun _ w0=>by
 refine jV (fun w1=>?_) (aE h (aE h0 (aE h1 fI)))
 refine dQ v1 fun hlx=>?_
 have hpos:bB a x.1=true->1<=x.1.length:=fun h=>(aX h).1
 refine aK func126 ntmps126 ?_
 repeat' (first|refine aU ?_|refine aW fun r=>?_|refine bT fun b=>?_|refine bV fun hc=>?_|refine bW fun hc=>?_|refine aS (fun hc=>?_) fun hc=>?_|fail)
 ·exact⟨(),bO (decide_eq_false fun h=>by rw[h.1.1] at hc;cases hc),aH⟩
 ·exact⟨(),bO (decide_eq_false fun h=>by rw[h.1.2.1] at hc;cases hc),aH⟩
 rename_i hL _
 have hp1:=hpos ‹bB a x.1=true›
 repeat' (first|refine aU ?_|refine eF fun hbi=>?_|refine bP ?_|refine bV fun hc=>?_|refine bW fun hc=>?_|refine aS (fun hc=>?_) fun hc=>?_|fail)
 ·exact⟨(),bO (decide_eq_false fun h=>by have:=h.1.2.2;omega),aH⟩
 refine lc_ [5] [25,26,27,28,29,32,33,34,35,36,37,38,39,40,41,42,43,44,45,46,47,48,4,30,31] (Z:=Nat) (fun k=>[.int .i64 k]) (fun k=>k<=x.2.length/\∀ n∈x.2.take k,0<=n∨n∈x.1) (fun k=>x.2.length-k) 0 ⟨aI _,by simp⟩ ?_
 intro k u l' hl' ⟨hk,hkk⟩
 simp only[bM,List.map,List.set] at hl'
 subst hl'
 repeat' (first|refine aU ?_|refine bP ?_|refine bV fun hc=>?_|refine bW fun hc=>?_|refine aS (fun hc=>?_) fun hc=>?_|refine aW fun r=>?_|refine wb 6 [] ?_|refine xf fun hbi=>?_|refine xp ?_|refine xg ?_|refine xn ?_|refine pM fun hc=>?_|refine pN fun hc=>?_|refine xi (fun hc=>?_) fun hc=>?_|refine xy ?_|refine bI ?_|fail)
 ·exact⟨(),bO (bE5 (k:=k) (by omega) (by omega) (by assumption)),aH⟩
 ·exact eB (k+1) ⟨by omega,aEk (by omega) hkk (.inr hc)⟩
 ·exact eB (k+1) ⟨by omega,aEk (by omega) hkk (.inl hc)⟩
 ·exact⟨(),bO (decide_eq_true ⟨⟨by assumption,by assumption,by omega⟩,by rw[bE (by omega)] at hkk;exact hkk⟩),aH⟩⟩
theorem aC8{V:Type}[Inhabited V]{xs:List V}{k:Nat}{p:V->Prop}(hk:k<xs.length)(h:∀ r∈xs.take k,p r)(hn:p (xs.getD k default)):∀ r∈xs.take (k+1),p r:=by
 intro r hr
 rw[bC hk,aP] at hr
 rw[aC,aG hk] at hn
 rcases hr with hr|hr
 ·exact h r hr
 ·simp only[aO] at hr
  subst hr;exact hn
theorem dX{V:Type}[Inhabited V]{xs:List V}{k:Nat}(hk:k<xs.length):xs.getD k default∈xs:=by
 rw[aC,aG hk];exact cS hk
def bE3(x:aQ):Prop:=(eA x.1=true/\x.2.length<=12)/\∀ r∈x.2,xN x.1 r=true
instance {x:aQ}:Decidable (bE3 x):=by unfold bE3;infer_instance
def eE(x:aQ):Bool:=decide (bE3 x)
theorem eM{x:aQ}:eE x=true↔bE3 x:=decide_eq_true_iff
theorem bJ6{x:aQ}{k:Nat}(hk:k<x.2.length)(h:xN x.1 (x.2.getD k default)=false):eE x=false:=decide_eq_false fun ⟨_,h'⟩=>by
 rw[h' _ (dX hk)] at h;cases h
instance aPy{I:List Atom}{v0 v1:Value}{x:aQ}[h0:bK Int I v0 x.1][h1:bK cM I v1 x.2] :
  bQ prog 91 [.agg #[v0,v1]] I True Unit (fun _:Unit=>.bool (eE x)) (fun _=>I):=⟨fun _ w0=>by
 refine jV (fun w1=>?_) (aE h0 (aE h1 fI))
 refine dQ v1 fun hlx=>?_
 refine aK func91 ntmps91 ?_
 repeat' (first|refine aU ?_|refine aW fun r=>?_|refine bT fun b=>?_|refine bV fun hc=>?_|refine bW fun hc=>?_|refine aS (fun hc=>?_) fun hc=>?_|fail)
 ·exact⟨(),bO (decide_eq_false fun h=>by rw[h.1.1] at hc;cases hc),aH⟩
 ·exact⟨(),bO (decide_eq_false fun h=>by have:=h.1.2;omega),aH⟩
 refine lc_ [3] [14,15,16,17,18,21,22,23,24,25,26,27,28,29,2,19,20] (Z:=Nat) (fun k=>[.int .i64 k]) (fun k=>k<=x.2.length/\∀ r∈x.2.take k,xN x.1 r=true) (fun k=>x.2.length-k) 0 ⟨aI _,by simp⟩ ?_
 intro k u l' hl' ⟨hk,hkk⟩
 simp only[bM,List.map,List.set] at hl'
 subst hl'
 repeat' (first|refine aU ?_|refine bP ?_|refine bV fun hc=>?_|refine bW fun hc=>?_|refine aS (fun hc=>?_) fun hc=>?_|refine aW fun r=>?_|refine wb 6 [] ?_|refine xp ?_|(refine xd fun p c d e f g h hf=>?_;simp only[Un.cells,Un.atoms,Un.fact,aA,aB] at f g h hf;subst f g h)|refine xy ?_|refine bI ?_|fail)
 ·exact⟨(),bO (bJ6 (k:=k) (by omega) hc),aH⟩
 ·exact eB (k+1) ⟨by omega,aC8 (by omega) hkk hc⟩
 ·exact⟨(),bO (decide_eq_true ⟨⟨by assumption,by omega⟩,by rw[bE (by omega)] at hkk;exact hkk⟩),aH⟩⟩
def zG(b:Bool):Int:=if b then 1 else 0
instance l1Flag_ctr{I:List Atom}{b:Bool} :
  bQ prog 205 [.bool b] I True Unit (fun _:Unit=>.int .i64 (zG b)) (fun _=>I):=⟨fun _ w0=>by
 refine aK func205 ntmps205 ?_
 repeat' (first|refine aU ?_|refine bV fun hc=>?_|refine bW fun hc=>?_|refine aS (fun hc=>?_) fun hc=>?_|fail)
 all_goals exact⟨(),iG (by simp [zG,hc]),aH⟩⟩
theorem bBq(b:Bool):0<=zG b/\zG b<=1:=by cases b<;>decide
def tN(t:List Int):Bool:=decide (1<=t.length/\t.length<=60)
def oX:List iJ->List Int
 | []=>[]
 | m::r=>m.1::m.2.1::zG m.2.2.1::oX r
theorem aIg{xs:List iJ}{k:Nat}{y:iJ}(h:xs[k]?=some y):oX (xs.take (k+1))=oX (xs.take k)++[y.1,y.2.1,zG y.2.2.1]:=by
 induction xs generalizing k with
 | nil=>simp at h
 | cons x xs ih=>
  cases k with
  | zero=>
   simp only[dO,Option.some.injEq] at h
   subst h
   simp [oX]
  | succ k=>
   simp only[List.getElem?_cons_succ] at h
   simp [oX,ih h]
theorem aN4(xs:List iJ):(oX xs).length=3*xs.length:=by
 induction xs with
 | nil=>rfl
 | cons x xs ih=>simp only[oX,aF,ih];omega
def oL(xs:List iJ):List (List Int):=xs.map (·.2.2.2)
theorem aGe{xs:List iJ}{k:Nat}{y:iJ}(h:xs[k]?=some y):oL (xs.take (k+1))=oL (xs.take k)++[y.2.2.2]:=by
 obtain ⟨hk,he⟩:=dC.1 h
 unfold oL
 rw[bC hk,he,cG];rfl
def bEc(x:jX):Bool:=decide (x.2.length<=60/\1<=x.1.length/\x.1.length<=60)&&x.2.all fun m=>tN m.2.2.2
def gR(x:jX):dK:=if bEc x=true then (11,oX x.2,x.1::oL x.2,[]) else (0,[],[],[])
theorem aW7{x:jX}(h:¬ (x.2.length<=60/\1<=x.1.length/\x.1.length<=60)):gR x=(0,[],[],[]):=by
 unfold gR bEc;rw[decide_eq_false h];rfl
theorem bKj{x:jX}{k:Nat}(hk:k<x.2.length)(h:¬ (1<=(x.2.getD k default).2.2.2.length/\(x.2.getD k default).2.2.2.length<=60)):gR x=(0,[],[],[]):=by
 unfold gR
 rw[if_neg]
 intro ho
 simp only[bEc,cN,List.all_eq_true,tN,decide_eq_true_eq] at ho
 exact h (ho.2 _ (by rw[aC,aG hk];exact cS hk))
theorem bB8{xs:List iJ}{k:Nat}(hk:k<xs.length)(h:(xs.take k).all (fun m=>tN m.2.2.2)=true)(hn:1<=(xs.getD k default).2.2.2.length/\(xs.getD k default).2.2.2.length<=60):(xs.take (k+1)).all (fun m=>tN m.2.2.2)=true:=by
 rw[bC hk,List.all_append,h]
 rw[aC,aG hk] at hn
 simpa [tN] using hn
theorem bI6{x:jX}(h:x.2.length<=60/\1<=x.1.length/\x.1.length<=60)(h':x.2.all (fun m=>tN m.2.2.2)=true):gR x=(11,oX x.2,x.1::oL x.2,[]):=by
 unfold gR bEc;rw[decide_eq_true h,h'];rfl
instance aMo{I:List Atom}{x:jX}{v0 v1:Value}[h:bK Int I v0 x.1][h':bK iJ I v1 x.2] :
  bQ prog 158 [.agg #[v0,v1]] I (True) (Value×Value×Value) (fun p:Value×Value×Value=>.agg #[.int .i64 (gR x).1,p.1,p.2.1,p.2.2]) (fun p=>.ow [p.1] (gR x).2.1::.ow [p.2.1] (gR x).2.2.1::.ow [p.2.2] (gR x).2.2.2::I):=⟨fun _ w0=>by
 refine cL (A:=fun p:Value×Value×Value=>[.ow [p.1] (gR x).2.1,.ow [p.2.1] (gR x).2.2.1,.ow [p.2.2] (gR x).2.2.2]) (fun w1=>?_) (aE h (aE h' fI)) fun _=>inferInstance
 simp only[aA,aB]
 refine dQ v1 fun hlx=>?_
 refine aK func158 ntmps158 ?_
 repeat' (first|refine aU ?_|refine aW fun r=>?_|refine bG fun sv=>?_|refine bT fun b=>?_|refine bV fun hc=>?_|refine bW fun hc=>?_|refine aS (fun hc=>?_) fun hc=>?_|fail)
 ·rw[aW7 (by omega)]
  exact⟨(_,_,_),rfl,aH⟩
 ·rw[aW7 (by omega)]
  exact⟨(_,_,_),rfl,aH⟩
 rename Value=>tv
 refine lp_ [4] [22,23,24,25,26,29,30,31,32,33,5,34,35,36,37,38,39,40,41,42,43,44,45,46,47,48,49,50,51,52,53,54,55,56,57,58,27,28] (Z:=Nat×Value×Value) (fun k=>[.int .i64 k.1]) (fun k=>[.bk b [.int .i64 11,k.2.1,k.2.2,.slice none 0 0],.ow [k.2.1] (oX (x.2.take k.1)),.ow [k.2.2] (x.1::oL (x.2.take k.1))]) (fun k=>k.1<=x.2.length/\(x.2.take k.1).all (fun m=>tN m.2.2.2)=true) (fun k=>x.2.length-k.1) (0,.slice none 0 0,tv) [.bk b [.int .i64 11,.slice none 0 0,tv,.slice none 0 0],.ow [.slice none 0 0] ([]:List Int),.ow [tv] [x.1]] ⟨aI _,rfl⟩ ?_
 intro ⟨k,s1,s2⟩ u l' hl' ⟨hk,hkk⟩
 simp only[bM,List.map,List.set] at hl'
 subst hl'
 simp only[aA,aB] at hk hkk ⊢
 have hn:=aN4 (x.2.take k)
 have hn2:=aN (i:=k) (l:=x.2)
 have hn3:(oL (x.2.take k)).length=(x.2.take k).length:=by simp [oL]
 have hfl:=bBq (x.2.getD k default).2.2.1
 repeat' (first|refine aU ?_|refine bP ?_|refine aW fun r=>?_|refine bT fun b=>?_|(refine iH fun p c d f g hf=>?_;simp only[Un.cells,Un.atoms,Un.fact,aA,aB] at f g hf;subst f g)|refine bV fun hc=>?_|refine bW fun hc=>?_|refine aS (fun hc=>?_) fun hc=>?_|refine bG fun sv=>?_|refine wb 10 [10,12] ?_|refine wb 11 [6,8] ?_|refine xp ?_|refine x0 ?_|refine xy ?_|refine bI ?_|fail)
 ·rw[bKj (k:=k) (by omega) hc]
  exact⟨(_,_,_),rfl,aH⟩
 ·rename_i n1 _ n3 _
  rw[← aIg (mM (by omega)),aA,← aGe (mM (by omega))]
  exact eB (k+1,n3,sv) ⟨by simp only;omega,bB8 (by omega) hkk hc⟩
 ·rw[bI6 (by omega) (by rw[bE (by omega)] at hkk;exact hkk),bE (by omega)]
  exact⟨(_,_,_),rfl,aH⟩⟩
instance bIq{I:List Atom}{v0 v1 v:Value}{x:aQ}{t:List Int}[h0:bK Int I v0 x.1][h1:bK cM I v1 x.2][h2:bK Int I v t] :
  bQ prog 197 [.agg #[v0,v1],v] I True Unit (fun _:Unit=>.bool (eE x&&bB x.1 t)) (fun _=>I):=⟨fun _ w0=>by
 refine aK func197 ntmps197 ?_
 repeat' (first|refine aU ?_|refine aW fun r=>?_|refine bT fun b=>?_|refine bV fun hc=>?_|refine bW fun hc=>?_|refine aS (fun hc=>?_) fun hc=>?_|fail)
 all_goals exact⟨(),bO (by simp only[*,Bool.true_and,Bool.false_and,Bool.and_true,Bool.and_false]),aH⟩⟩
def vE(x:aQ)(t:List Int)(at_ rule:Int):Prop:=eE x=true/\(bB x.1 t=true/\0<=at_/\at_<t.length)/\0<=rule/\rule<x.2.length
instance {x:aQ}{t:List Int}{at_ rule:Int}:Decidable (vE x t at_ rule):=by unfold vE;infer_instance
theorem nL{x:aQ}{k:Nat}(h:eE x=true)(hk:k<x.2.length):bB x.1 (x.2.getD k default).1=true:=
 (of_decide_eq_true ((eM.1 h).2 _ (dX hk)):aCl _ _).1.1
def qV(x:aQ)(t:List Int)(k r:Nat):Bool:=(fD x.1 (x.2.getD r default).1 (eX x.1 t k)).isSome
def qI(x:aQ)(t:List Int)(k:Nat):Prop:=∀ i,i<k->∀ r,r<x.2.length->qV x t i r=false
instance {x:aQ}{t:List Int}{k:Nat}:Decidable (qI x t k):=by unfold qI;infer_instance
theorem qI.step{x:aQ}{t:List Int}{k:Nat}:qI x t (k+1)↔qI x t k/\∀ r,r<x.2.length->qV x t k r=false:=by
 constructor
 ·intro h
  exact⟨fun i hi=>h i (by omega),h k (by omega)⟩
 ·rintro ⟨h1,h2⟩ i hi
  by_cases he:i=k
  ·subst he;exact h2
  ·exact h1 i (by omega)
instance bAm{I:List Atom}{v0 v1 v:Value}{x:aQ}{t:List Int}[h0:bK Int I v0 x.1][h1:bK cM I v1 x.2][h2:bK Int I v t] :
  bQ prog 201 [.agg #[v0,v1],v] I (eE x=true/\bB x.1 t=true) ({ n:Nat // n=0↔qI x t t.length }) (fun q:{ n:Nat // n=0↔qI x t t.length }=>.int .i64 q.1) (fun _=>I):=⟨fun hs w0=>by
 refine jV (fun w1=>?_) (aE h0 (aE h1 (aE h2 fI)))
 obtain ⟨hs1,hs2⟩:=hs
 have hl1:=(eM.1 hs1).1.2
 have hl2:=aX hs2
 refine aK func201 ntmps201 ?_
 repeat' (first|refine aU ?_|refine bT fun b=>?_|fail)
 refine lc_ [5,6] [10,11,12,13,7,16,17,18,19,20,24,25,26,27,28,29,30,31,32,33,34,35,36,37,23,38,39,8,9,40,41,42,21,22,14,15] (Z:=Nat×Nat) (fun k=>[.int .i64 k.2,.int .i64 k.1]) (fun k=>k.1<=t.length/\k.2<=12*k.1/\(k.2=0↔qI x t k.1)) (fun k=>t.length-k.1) (0,0) ⟨aI _,by simp,⟨fun _ i hi=>by omega,fun _=>rfl⟩⟩ ?_
 intro ⟨k,c⟩ u l' hl' ⟨hk,hkc,hkk⟩
 simp only[bM,List.map,List.set] at hl'
 subst hl'
 simp only at hk hkc hkk ⊢
 repeat' (first|refine aU ?_|refine bV fun hc=>?_|refine bW fun hc=>?_|refine aS (fun hc=>?_) fun hc=>?_|fail)
 ·refine lc_ [5,7] [16,17,18,19,20,24,25,26,27,28,29,30,31,32,33,34,35,36,37,23,38,39,8,9,40,41,42,21,22] (Z:=Nat×Nat) (fun j=>[.int .i64 j.2,.int .i64 j.1]) (fun j=>j.1<=x.2.length/\j.2<=12*k+j.1/\(j.2=0↔qI x t k/\∀ r,r<j.1->qV x t k r=false)) (fun j=>x.2.length-j.1) (0,c) ⟨aI _,by simpa using hkc,⟨fun h=>⟨hkk.1 h,fun r hr=>by omega⟩,fun h=>hkk.2 h.1⟩⟩ ?_
  intro ⟨j,c'⟩ u l' hl' ⟨hj,hjc,hjj⟩
  simp only[bM,List.map,List.set] at hl'
  subst hl'
  simp only at hj hjc hjj ⊢
  by_cases hlt:j<x.2.length
  ·have hL:=nL hs1 hlt
   have hT:=gL hs2 (k:=k) (by omega)
   repeat' (first|refine aU ?_|refine bP ?_|refine bV fun hc=>?_|refine bW fun hc=>?_|refine aS (fun hc=>?_) fun hc=>?_|refine bT fun b=>?_|refine aW fun r=>?_|refine wb 8 [] ?_|refine xp ?_|(refine xd fun p c d e f g h hf=>?_;simp only[Un.cells,Un.atoms,Un.fact,aA,aB] at f g h hf;subst f g h)|refine xy ?_|refine x2 ?_ ?_|refine bI ?_|fail)
   all_goals first
    | (
      have hh:qV x t k j=true:=hc
      exact eB (j+1,c'+1) ⟨by simp only;omega,by simp only;omega,⟨fun h=>absurd h (by simp only;omega),fun h=>absurd (h.2 j (by simp only;omega)) (by rw[hh];simp)⟩⟩)
    | (
      have hh:qV x t k j=false:=hc
      exact dH (j+1,c') ⟨by simp only;omega,by simp only;omega,⟨fun h=>⟨(hjj.1 h).1,fun r hr=>by
       by_cases he:r=j
       ·rw[he];exact hh
       ·exact(hjj.1 h).2 r (by simp only at hr;omega)⟩,fun h=>hjj.2 ⟨h.1,fun r hr=>h.2 r (by simp only;omega)⟩⟩⟩ (by simp only;omega) (by kernel_rfl) aH)
  ·repeat' (first|refine aU ?_|refine bP ?_|refine bV fun hc=>?_|refine bW fun hc=>?_|refine aS (fun hc=>?_) fun hc=>?_|fail)
   rw[show j=x.2.length by omega] at hjj
   exact eB (k+1,c') ⟨by simp only;omega,by simp only;omega,hjj.trans qI.step.symm⟩
 ·exact⟨⟨c,by rw[hkk,show k=t.length by omega]⟩,rfl,aH⟩⟩
def nI(x:aQ)(t:List Int):Bool:=eE x&&(bB x.1 t&&decide (qI x t t.length))
instance aPd{I:List Atom}{v0 v1 v:Value}{x:aQ}{t:List Int}[h0:bK Int I v0 x.1][h1:bK cM I v1 x.2][h2:bK Int I v t] :
  bQ prog 150 [.agg #[v0,v1],v] I True Unit (fun _:Unit=>.bool (nI x t)) (fun _=>I):=⟨fun _ w0=>by
 refine aK func150 ntmps150 ?_
 repeat' (first|refine aU ?_|refine aW fun r=>?_|refine bT fun b=>?_|refine bV fun hc=>?_|refine bW fun hc=>?_|refine aS (fun hc=>?_) fun hc=>?_|fail)
 ·refine⟨(),bO ?_,aH⟩
  unfold nI
  rw[hc.1,hc.2,Bool.true_and,Bool.true_and]
  refine decide_eq_decide.2 (r.2.symm.trans ⟨fun h=>by omega,fun h=>by omega⟩)
 ·refine⟨(),bO ?_,aH⟩
  unfold nI
  cases h3:eE x with
  | false=>rfl
  | true=>
   cases h4:bB x.1 t with
   | false=>rfl
   | true=>exact absurd ⟨h3,h4⟩ hc⟩
instance bG6{I:List Atom}{v0 v1:Value}{x:aQ}{n:Int}[h0:bK Int I v0 x.1][h1:bK cM I v1 x.2] :
  bQ prog 252 [.agg #[v0,v1],.int .i64 n] I True Unit (fun _:Unit=>.bool (decide (0<=n/\n<x.2.length))) (fun _=>I):=⟨fun _ w0=>by
 refine dQ v1 fun hlx=>?_
 refine aK func252 ntmps252 ?_
 repeat' (first|refine aU ?_|refine bP ?_|refine aW fun r=>?_|refine bT fun b=>?_|fail)
 exact⟨(),bO (decide_eq_decide.2 ⟨fun h=>⟨h.1,by have:=h.2;omega⟩,fun h=>⟨h.1,by have:=h.2;omega⟩⟩),aH⟩⟩
theorem aSy{x:aQ}{k:Nat}(h:eE x=true)(hk:k<x.2.length):bB x.1 (x.2.getD k default).2=true:=
 (of_decide_eq_true ((eM.1 h).2 _ (dX hk)):aCl _ _).1.2.1
end Go.Proofs.YtajdgkpjbpindaaGreatDoor
namespace Go.Proofs.YtajdgkpjbpindaaGreatDoor
open Go Go.Eng
def gI(f:Nat->Nat)(k:Nat):Nat->Int
 | 0=>-1
 | n+1=>if 0<f k then k else gI f (k+1) n
theorem aSu{f:Nat->Nat}{k n:Nat}(hk:k<n)(h:0<f k):gI f k (n-k)=k:=by
 rw[show n-k=(n-(k+1))+1 by omega];simp [gI,h]
theorem aVh{f:Nat->Nat}{k n:Nat}(hk:k<n)(h:¬ 0<f k):gI f k (n-k)=gI f (k+1) (n-(k+1)):=by
 rw[show n-k=(n-(k+1))+1 by omega];simp [gI,h]
end Go.Proofs.YtajdgkpjbpindaaGreatDoor
namespace Go.Proofs.YtajdgkpjbpindaaGreatDoor
open Go Go.Eng Tryz
instance bGl{I:List Atom}{v0 v1 v:Value}{x:aQ}{t:List Int}{at_:Int}[h0:bK Int I v0 x.1][h1:bK cM I v1 x.2][h2:bK Int I v t] :
  bQ prog 199 [.agg #[v0,v1],v,.int .i64 at_] I (eE x=true/\bB x.1 t=true/\0<=at_/\at_<t.length) ({ n:Int // 0<=n↔∃ r,r<x.2.length/\qV x t at_.toNat r=true }) (fun q:{ n:Int // 0<=n↔∃ r,r<x.2.length/\qV x t at_.toNat r=true }=>.int .i64 q.1) (fun _=>I):=⟨fun hs w0=>by
 refine jV (fun w1=>?_) (aE h0 (aE h1 (aE h2 fI)))
 obtain ⟨hs1,hs2,hs3,hs4⟩:=hs
 have hl1:=(eM.1 hs1).1.2
 have hT:=gL hs2 (k:=at_.toNat) (by omega)
 refine aK func199 ntmps199 ?_
 repeat' (first|refine aU ?_|refine aW fun r=>?_|refine bT fun b=>?_|fail)
 refine lc_ [8] [16,17,18,19,20,24,25,26,27,28,29,30,31,32,33,23,34,35,9,10,36,37,6,21,22] (Z:=Nat) (fun k=>[.int .i64 k]) (fun k=>k<=x.2.length/\∀ r,r<k->qV x t at_.toNat r=false) (fun k=>x.2.length-k) 0 ⟨aI _,fun r hr=>by omega⟩ ?_
 intro k u l' hl' ⟨hk,hkk⟩
 simp only[bM,List.map,List.set] at hl'
 subst hl'
 by_cases hlt:k<x.2.length
 ·have hL:=nL hs1 hlt
  repeat' (first|refine aU ?_|refine bP ?_|refine bV fun hc=>?_|refine bW fun hc=>?_|refine aS (fun hc=>?_) fun hc=>?_|refine bT fun b=>?_|refine aW fun r=>?_|refine wb 5 [] ?_|refine xp ?_|(refine xd fun p c d e f g h hf=>?_;simp only[Un.cells,Un.atoms,Un.fact,aA,aB] at f g h hf;subst f g h)|refine xy ?_|refine x2 ?_ ?_|refine bI ?_|fail)
  all_goals first
   | (
     have hh:qV x t at_.toNat k=true:=hc
     exact⟨⟨(k:Int),⟨fun _=>⟨k,hlt,hh⟩,fun _=>by omega⟩⟩,rfl,aH⟩)
   | (
     have hh:qV x t at_.toNat k=false:=hc
     exact dH (k+1) ⟨by omega,fun r hr=>by
      by_cases he:r=k
      ·rw[he];exact hh
      ·exact hkk r (by omega)⟩ (by omega) (by kernel_rfl) aH)
 ·repeat' (first|refine aU ?_|refine bV fun hc=>?_|refine bW fun hc=>?_|refine aS (fun hc=>?_) fun hc=>?_|fail)
  exact⟨⟨-1,⟨fun h=>by omega,fun ⟨r,hr,h⟩=>by rw[hkk r (by omega)] at h;cases h⟩⟩,rfl,aH⟩⟩
def mN(x:aQ)(t:List Int)(k:Nat):Bool:=(List.range x.2.length).any (qV x t k)
theorem tK{x:aQ}{t:List Int}{k:Nat}:mN x t k=true↔∃ r,r<x.2.length/\qV x t k r=true:=by
 unfold mN
 simp only[List.any_eq_true,List.mem_range]
def cD(x:aQ)(t:List Int):List Int:=if eE x=true/\bB x.1 t=true then jK (mN x t) t.length else []
theorem vZ{x:aQ}{t:List Int}(h:¬ (eE x=true/\bB x.1 t=true)):cD x t=[]:=if_neg h
theorem aCt{x:aQ}{t:List Int}(h:eE x=true/\bB x.1 t=true):cD x t=jK (mN x t) t.length:=if_pos h
theorem sY(x:aQ)(t:List Int):(cD x t).length<=60:=by
 unfold cD
 split
 ·rename_i h
  have:=xT (mN x t) t.length
  have:=aX h.2
  omega
 ·simp
instance aNj{I:List Atom}{v0 v1 v:Value}{x:aQ}{t:List Int}[h0:bK Int I v0 x.1][h1:bK cM I v1 x.2][h2:bK Int I v t] :
  bQ prog 266 [.agg #[v0,v1],v] I True Value (fun q:Value=>q) (fun q=>.ow [q] (cD x t)::I):=⟨fun _ w0=>by
 refine cL (A:=fun q:Value=>[.ow [q] (cD x t)]) (fun w1=>?_) (aE h0 (aE h1 (aE h2 fI))) fun _=>inferInstance
 simp only[aA,aB]
 refine dQ v fun hlx=>?_
 refine aK func266 ntmps266 ?_
 repeat' (first|refine aU ?_|refine bG fun sv=>?_|refine bT fun b=>?_|fail)
 rename Value=>tv
 refine lp_ [5,6] [8,9,10,11,12,13,14,15,16,19,20,21,22,23,24,25,26,27,17,18] (Z:=Nat×Value) (fun k=>[k.2,.int .i64 k.1]) (fun k=>[.ow [k.2] (jK (mN x t) k.1)]) (fun k=>k.1<=t.length/\(0<k.1->eE x=true/\bB x.1 t=true)) (fun k=>t.length-k.1) (0,tv) [.ow [tv] ([]:List Int)] ⟨aI _,fun h=>absurd h (by simp)⟩ ?_
 intro ⟨k,sw⟩ u l' hl' ⟨hk,hkk⟩
 simp only[bM,List.map,List.set] at hl'
 subst hl'
 simp only[aA,aB] at hk hkk ⊢
 have hsl:=xT (mN x t) k
 repeat' (first|refine aU ?_|refine aW fun r=>?_|refine bV fun hc=>?_|refine bW fun hc=>?_|refine aS (fun hc=>?_) fun hc=>?_|fail)
 ·have hS:eE x=true/\bB x.1 t=true/\0<=(k:Int)/\(k:Int)<t.length:=⟨hc.1,hc.2,by omega,by omega⟩
  have h60:=aX hc.2
  have hS2:=hc
  repeat' (first|refine aU ?_|refine bP ?_|refine aW fun r=>?_|refine bG fun sv=>?_|refine bV fun hc=>?_|refine bW fun hc=>?_|refine aS (fun hc=>?_) fun hc=>?_|fail)
  ·have hh:mN x t k=true:=tK.2 (r.2.1 hc)
   rw[← rW hh]
   exact eB (k+1,sv) ⟨by simp only;omega,fun _=>hS2⟩
  ·have hh:mN x t k=false:=by
    cases h:mN x t k with
    | false=>rfl
    | true=>exact absurd (r.2.2 (tK.1 h)) (by omega)
   exact dH (k+1,sw) ⟨by simp only;omega,fun _=>hS2⟩ (by simp only;omega) (by kernel_rfl) (by simp only[wA hh];exact aH)
 ·have h0:k=0:=by
   rcases Nat.eq_zero_or_pos k with h|h
   ·exact h
   ·exact absurd (hkk h) hc
  rw[vZ hc,h0]
  simp only[jK]
  exact⟨_,rfl,aH⟩
 ·by_cases hS:eE x=true/\bB x.1 t=true
  ·rw[aCt hS,show k=t.length by omega]
   exact⟨_,rfl,aH⟩
  ·have h0:k=0:=by
    rcases Nat.eq_zero_or_pos k with h|h
    ·exact h
    ·exact absurd (hkk h) hS
   rw[vZ hS,h0]
   simp only[jK]
   exact⟨_,rfl,aH⟩⟩
theorem pE{l:List Int}{x:Int}{i:Nat}:(l++[x]).getD i 0=if i<l.length then l.getD i 0 else if i=l.length then x else 0:=by
 simp only[aC,List.getElem?_append]
 by_cases h:i<l.length
 ·simp [h]
 ·by_cases h2:i=l.length
  ·simp [h2]
  ·have:i-l.length≠0:=by omega
   obtain ⟨m,hm⟩:∃ m,i-l.length=m+1:=⟨i-l.length-1,by omega⟩
   simp [h,h2,hm]
theorem pJ(f:Nat->Bool):∀ n i,i<(jK f n).length->0<=(jK f n).getD i 0/\(jK f n).getD i 0<n
 | 0,i,h=>by simp [jK] at h
 | n+1,i,h=>by
  cases hf:f n with
  | false=>
   rw[wA hf] at h ⊢
   have:=pJ f n i h
   omega
  | true=>
   rw[rW hf] at h ⊢
   rw[pE]
   split
   ·have:=pJ f n i (by assumption)
    omega
   ·rw[aD] at h
    simp only[aF,aL] at h
    rw[if_pos (by omega)]
    omega
theorem aAr(f:Nat->Bool):∀ n i,i+1<(jK f n).length->(jK f n).getD i 0<(jK f n).getD (i+1) 0
 | 0,i,h=>by simp [jK] at h
 | n+1,i,h=>by
  cases hf:f n with
  | false=>
   rw[wA hf] at h ⊢
   exact aAr f n i h
  | true=>
   rw[rW hf] at h ⊢
   rw[aD] at h
   simp only[aF,aL] at h
   rw[pE,pE,if_pos (by omega)]
   split
   ·exact aAr f n i (by assumption)
   ·rw[if_pos (by omega)]
    exact(pJ f n i (by omega)).2
theorem tG{x:aQ}{t:List Int}{i:Nat}(h:i<(cD x t).length):eE x=true/\bB x.1 t=true/\0<=(cD x t).getD i 0/\(cD x t).getD i 0<t.length/\(i+1<(cD x t).length->(cD x t).getD i 0<(cD x t).getD (i+1) 0):=by
 unfold cD at h ⊢
 split at h
 ·rename_i hs
  rw[if_pos hs]
  exact⟨hs.1,hs.2,(pJ _ _ _ h).1,(pJ _ _ _ h).2,aAr _ _ _⟩
 ·simp at h
def bJy(a t l:List Int)(i:Nat):Int:=((l.getD i 0).toNat+sz a t (l.getD i 0).toNat:Nat)
def aJq(a t l:List Int):Nat->List Int×Int
 | 0=>([],0)
 | k+1=>if (aJq a t l k).2<=l.getD k 0 then ((aJq a t l k).1++[l.getD k 0],bJy a t l k) else aJq a t l k
theorem aSs(a t l:List Int):∀ k,(aJq a t l k).1.length<=k
 | 0=>aM _
 | k+1=>by
  have:=aSs a t l k
  unfold aJq
  split
  ·simp only[aD,aF,aL];omega
  ·omega
def inI(a t l:List Int)(i:Nat):Bool:=decide (i+1=l.length∨bJy a t l i<=l.getD (i+1) 0)
def kU(p:Nat->Bool)(l:List Int):Nat->List Int
 | 0=>[]
 | k+1=>if p k=true then kU p l k++[l.getD k 0] else kU p l k
theorem aBe(p:Nat->Bool)(l:List Int):∀ k,(kU p l k).length<=k
 | 0=>aM _
 | k+1=>by
  have:=aBe p l k
  unfold kU
  split
  ·simp only[aD,aF,aL];omega
  ·omega
theorem pY{p:Nat->Bool}{l:List Int}{k:Nat}(h:p k=true):kU p l (k+1)=kU p l k++[l.getD k 0]:=if_pos h
theorem aEu{p:Nat->Bool}{l:List Int}{k:Nat}(h:p k=false):kU p l (k+1)=kU p l k:=if_neg (by rw[h];simp)
def iX(x:aQ)(t:List Int):List Int:=kU (inI x.1 t (cD x t)) (cD x t) (cD x t).length
instance aO3{I:List Atom}{v0 v1 v:Value}{x:aQ}{t:List Int}[h0:bK Int I v0 x.1][h1:bK cM I v1 x.2][h2:bK Int I v t] :
  bQ prog 265 [.agg #[v0,v1],v] I True Value (fun q:Value=>q) (fun q=>.ow [q] (iX x t)::I):=⟨fun _ w0=>by
 refine cL (A:=fun q:Value=>[.ow [q] (iX x t)]) (fun w1=>?_) (aE h0 (aE h1 (aE h2 fI))) fun _=>inferInstance
 simp only[aA,aB]
 have h6:=sY x t
 refine aK func265 ntmps265 ?_
 repeat' (first|refine aU ?_|refine aW fun r=>?_|refine bG fun sv=>?_|refine bT fun b=>?_|fail)
 refine lp_ [5,7] [13,14,15,16,19,20,21,22,23,24,25,26,8,27,28,29,30,31,32,33,34,35,36,37,38,39,40,41,42,43,44,45,46,47,17,18] (Z:=Nat×Value) (fun k=>[k.2,.int .i64 k.1]) (fun k=>[.ow [k.2] (kU (inI x.1 t (cD x t)) (cD x t) k.1)]) (fun k=>k.1<=(cD x t).length) (fun k=>(cD x t).length-k.1) (0,sv) [.ow [sv] ([]:List Int)] (aI _) ?_
 intro ⟨k,sw⟩ u l' hl' hk
 simp only[bM,List.map,List.set] at hl'
 subst hl'
 simp only[aA,aB] at hk ⊢
 have hsl:=aBe (inI x.1 t (cD x t)) (cD x t) k
 by_cases hlt:k<(cD x t).length
 ·have hgk:=tG hlt
  have hsig:=eI hgk.2.1
  have h5:=aX hgk.2.1
  have hee:jR x.1 (dS x.1) t ((cD x t).getD k 0).toNat=bJy x.1 t (cD x t) k:=aKv hgk.2.1 (by omega)
  repeat' (first|refine aU ?_|refine eF fun hbi=>?_|refine bP ?_|refine bG fun sv=>?_|refine bV fun hc=>?_|refine bW fun hc=>?_|refine aS (fun hc=>?_) fun hc=>?_|refine aW fun r=>?_|refine wb 6 [] ?_|refine xf fun hbi=>?_|refine xp ?_|refine xy ?_|refine bI ?_|fail)
  ·have e:=pY (p:=inI x.1 t (cD x t)) (l:=cD x t) (k:=k) (decide_eq_true (.inl (by omega)))
   exact dH (k+1,sv) (by simp only;omega) (by simp only;omega) (by kernel_rfl) (by simp only[e];exact aH)
  ·have e:=pY (p:=inI x.1 t (cD x t)) (l:=cD x t) (k:=k) (decide_eq_true (.inr (by omega)))
   exact dH (k+1,sv) (by simp only;omega) (by simp only;omega) (by kernel_rfl) (by simp only[e];exact aH)
  ·have e:=aEu (p:=inI x.1 t (cD x t)) (l:=cD x t) (k:=k) (decide_eq_false (by omega))
   exact dH (k+1,sw) (by simp only;omega) (by simp only;omega) (by kernel_rfl) (by simp only[e];exact aH)
 ·repeat' (first|refine aU ?_|refine bV fun hc=>?_|refine bW fun hc=>?_|refine aS (fun hc=>?_) fun hc=>?_|fail)
  rw[show iX x t=kU (inI x.1 t (cD x t)) (cD x t) k by unfold iX;rw[show(cD x t).length=k by omega]]
  exact⟨_,rfl,aH⟩⟩
set_option synthInstance.maxHeartbeats 400000
set_option synthInstance.maxSize 1000
def fO(a t:List Int)(p:Nat):Nat->Nat
 | 0=>p
 | i+1=>fO a t p i+sz a t (fO a t p i)
theorem aGr{a t:List Int}{p n:Nat}(h:(eQ a (dS a) (t.drop p) n).1=true):∀ i,i<=n->(eQ a (dS a) (t.drop (fO a t p i)) (n-i)).1=true/\p<=fO a t p i
 | 0,_=>⟨h,aM _⟩
 | i+1,hi=>by
  obtain ⟨h1,h2⟩:=aGr h i (by omega)
  rw[show n-i=(n-(i+1))+1 by omega] at h1
  have h3:=vF _ _ _ _ h1
  have h4:=iL a (dS a) (t.drop (fO a t p i)) 1 (n-(i+1))
  rw[Nat.add_comm 1,if_pos h3.1] at h4
  rw[h4] at h1
  refine⟨?_,?_⟩
  ·show(eQ a (dS a) (t.drop (fO a t p i+sz a t (fO a t p i))) _).1=true
   unfold sz
   rw[← List.drop_drop]
   exact h1
  ·show p<=fO a t p i+sz a t (fO a t p i)
   omega
theorem bLq{a t:List Int}{p n:Nat}(h:(eQ a (dS a) (t.drop p) n).1=true){i:Nat}(hi:i<n):fO a t p i<t.length/\p<=fO a t p i:=by
 obtain ⟨h1,h2⟩:=aGr h i (by omega)
 refine⟨?_,h2⟩
 by_cases hl:fO a t p i<t.length
 ·exact hl
 ·rw[List.drop_eq_nil_of_le (by omega),show n-i=(n-i-1)+1 by omega] at h1
  cases h1
def hC(a t:List Int)(k:Nat):Nat:=(ar a (t.getD k 0)).toNat
theorem aKb{a t:List Int}(h:bB a t=true){k:Nat}(hk:k<t.length):(eQ a (dS a) (t.drop (k+1)) (hC a t k)).1=true:=by
 have h1:=(fN h hk).1
 rw[fA hk,show 1=0+1 from rfl] at h1
 unfold eQ at h1
 split at h1
 ·cases h1
 ·unfold hC
  simp only[cR] at h1
  exact h1
theorem kQ{a t:List Int}(h:bB a t=true){k:Nat}(hk:k<t.length){i:Nat}(hi:i<hC a t k):k<fO a t (k+1) i/\fO a t (k+1) i<t.length:=by
 have:=bLq (aKb h hk) hi
 omega
theorem pR{a t:List Int}(h:bB a t=true){k:Nat}(hk:k<t.length):hC a t k<=3/\ar a (t.getD k 0)=(hC a t k:Int)/\ar1 a (t.getD k 0)=(hC a t k:Int):=by
 have h1:=dY h hk
 have h2:=iK (eI h) h1.2
 unfold hC
 refine⟨by omega,by omega,?_⟩
 unfold ar1
 rw[if_neg (by unfold dS;rw[decide_eq_true_iff];omega)]
 omega
def lL(a t:List Int)(k n:Nat):List Int:=(List.range n).map (fun i=>((fO a t (k+1) i:Nat):Int))
theorem aSx(a t:List Int)(k n:Nat):lL a t k (n+1)=lL a t k n++[((fO a t (k+1) n:Nat):Int)]:=by
 unfold lL;rw[List.range_succ,cG];rfl
theorem nS(a t:List Int)(k n:Nat):(lL a t k n).length=n:=by unfold lL;simp
theorem vN{a t:List Int}{k n i:Nat}(hi:i<n):(lL a t k n).getD i 0=((fO a t (k+1) i:Nat):Int):=by
 unfold lL;simp [aC,hi]
theorem aJk{w0:World}{I:List Atom}{v v1:Value}{a t:List Int}{k:Int}{m:Nat}[hm:fJ k m][h:bK Int I v a][h1:bK Int I v1 t](ht:bB a t=true)(hk:0<=k/\k<t.length):CJ prog 99 [.agg #[v],v1,.int .i64 k] w0 I (fun q:Value=>q) (fun q=>.ow [q] (lL a t m (hC a t m))::I):=by
 refine cL (A:=fun q=>[.ow [q] (lL a t m (hC a t m))]) (fun w1=>?_) (aE h (aE h1 fI)) fun _=>inferInstance
 simp only[aA,aB]
 obtain rfl:k=(m:Int):=by have:=hm.eq;omega
 have hs:=eI ht
 have hl:=aX ht
 obtain ⟨h3,_,har⟩:=pR ht (k:=m) (by omega)
 refine aK func99 ntmps99 ?_
 repeat' (first|refine aU ?_|refine bP ?_|refine bG fun sv=>?_|refine bT fun b=>?_|refine aW fun r=>?_|refine wb 3 [] ?_|refine xf fun hbi=>?_|refine xp ?_|refine xy ?_|refine bI ?_|fail)
 rw[har]
 refine lp_ [7,8,9] [19,20,23,24,25,26,27,28,29,30,21,22] (Z:=Nat×Value) (fun j=>[j.2,.int .i64 (fO a t (m+1) j.1:Nat),.int .i64 ((hC a t m-j.1:Nat):Int)]) (fun j=>[.ow [j.2] (lL a t m j.1)]) (fun j=>j.1<=hC a t m) (fun j=>hC a t m-j.1) (0,sv) [.ow [sv] ([]:List Int)] (aI _) ?_
 intro ⟨j,sw⟩ u l' hl' hj
 simp only[bM,List.map,List.set] at hl'
 subst hl'
 simp only[aA,aB] at hj ⊢
 have hkl:=nS a t m j
 have hks:=aSx a t m j
 have hkn:j<hC a t m->fO a t (m+1) j<t.length:=fun h=>(kQ ht (k:=m) (by omega) h).2
 by_cases hjl:j<hC a t m
 ·have hkn':=hkn hjl
  have he:=aKv ht hkn'
  repeat' (first|refine aU ?_|refine bP ?_|refine aW fun r=>?_|refine bG fun sv=>?_|refine bV fun hc=>?_|refine bW fun hc=>?_|refine aS (fun hc=>?_) fun hc=>?_|fail)
  rw[← hks]
  refine dH (j+1,sv) (by simp only;omega) (by simp only;omega) ?_ aH
  simp only[fO]
  rw[he,show((hC a t m-j:Nat):Int)-1=((hC a t m-(j+1):Nat):Int) by omega]
  kernel_rfl
 ·repeat' (first|refine aU ?_|refine bV fun hc=>?_|refine bW fun hc=>?_|refine aS (fun hc=>?_) fun hc=>?_|fail)
  rw[show j=hC a t m by omega]
  exact⟨_,rfl,aH⟩
instance bK6{I:List Atom}{v v1:Value}{a t:List Int}{k:Int}{m:Nat}[hm:fJ k m][h:bK Int I v a][h1:bK Int I v1 t] :
  bQ prog 99 [.agg #[v],v1,.int .i64 k] I ((bB a t=true)/\(0<=k/\k<t.length)) (Value) (fun q:Value=>q) (fun q=>.ow [q] (lL a t m (hC a t m))::I):=⟨fun s w0=>aJk s.1 s.2⟩
end Go.Proofs.YtajdgkpjbpindaaGreatDoor
namespace Go.Proofs.YtajdgkpjbpindaaGreatDoor
open Go Go.Eng
def fm(f:Int->List Int)(t:List Int):List Int:=(t.map f).flatten
theorem bJz(f:Int->List Int):fm f []=[]:=rfl
theorem oD(f:Int->List Int)(x:Int)(t:List Int):fm f (x::t)=f x++fm f t:=by simp [fm]
theorem bMc(f:Int->List Int)(s t:List Int):fm f (s++t)=fm f s++fm f t:=by simp [fm]
theorem bJq(f:Int->List Int)(x:Int):fm f [x]=f x:=by simp [fm]
theorem bG9(f g:Int->List Int):∀ t:List Int,fm f (fm g t)=fm (fun n=>fm f (g n)) t
 | []=>rfl
 | x::t=>by rw[oD,bMc,bG9 f g t,oD]
theorem aJ5{f g:Int->List Int}:∀ {t:List Int},(∀ n∈t,f n=g n)->fm f t=fm g t
 | [],_=>rfl
 | x::t,h=>by rw[oD,oD,h x (by simp),aJ5 (fun n hn=>h n (List.mem_cons_of_mem _ hn))]
def Tm(a t:List Int):Prop:=eQ a (dS a) t 1=(true,t.length)
theorem yT{a t:List Int}(h:bB a t=true):Tm a t:=(fE.1 h).2.2.2
theorem aZn{a t:List Int}(hs:eA a=true)(h:Tm a t)(hl:t.length<=60):bB a t=true:=by
 refine fE.2 ⟨hs,?_,hl,h⟩
 have:=rU a (dS a) t 0 (by rw[show 0+1=1 from rfl,h])
 rw[show 0+1=1 from rfl,h] at this
 exact this
theorem aNi{a t:List Int}(h:Tm a t):1<=t.length:=by
 have:=rU a (dS a) t 0 (by rw[show 0+1=1 from rfl,h])
 rw[show 0+1=1 from rfl,h] at this
 exact this
theorem bLe{a t:List Int}(h:Tm a t){x:Int}(hx:x∈t):-24<=x/\x<a.length:=by
 have:=aIb t 1 (by rw[h]) x (by rw[h];simpa using hx)
 simp only[dS,decide_eq_false_iff_not,not_or] at this
 omega
theorem xR{a:List Int}{n:Int}(h:n<0):ar a n=0:=by unfold ar;rw[if_pos h]
theorem tW{a:List Int}{n:Int}(h:-24<=n/\n<0):Tm a [n]:=by
 unfold Tm
 rw[show 1=0+1 from rfl]
 unfold eQ
 rw[if_neg (by simp [dS];omega),xR h.2]
 simp [eQ]
theorem pZ(a:List Int)(bad:Int->Bool)(u:List Int):∀ (l:List Int) (m:Nat),(eQ a bad l m).1=true->eQ a bad (l++u) m=eQ a bad l m
 | l,0,_=>by simp [eQ]
 | [],m+1,h=>by simp [eQ] at h
 | x::xs,m+1,h=>by
  rw[aA]
  simp only[eQ] at h ⊢
  by_cases hb:bad x=true
  ·simp [hb] at h
  ·simp only[hb,dB,if_false] at h ⊢
   rw[pZ a bad u xs _ h]
structure Sb(a:List Int)(f:Int->List Int):Prop where
 pos:∀ n,0<=n->f n=[n]
 tm:∀ n,-24<=n->n<0->Tm a (f n)
theorem Sb.len{a:List Int}{f:Int->List Int}(h:Sb a f){n:Int}(hn:-24<=n):1<=(f n).length:=by
 by_cases h0:0<=n
 ·rw[h.pos n h0];simp
 ·exact aNi (h.tm n hn (by omega))
theorem aY6{a:List Int}{f:Int->List Int}(h:Sb a f):∀ (l:List Int) (m:Nat),eQ a (dS a) l m=(true,l.length)->eQ a (dS a) (fm f l) m=(true,(fm f l).length)
 | [],0,_=>by simp [eQ,bJz]
 | x::xs,0,e=>by simp [eQ] at e
 | [],m+1,e=>by simp [eQ] at e
 | x::xs,m+1,e=>by
  rw[oD]
  unfold eQ at e
  by_cases hb:dS a x=true
  ·simp [hb] at e
  ·rw[if_neg hb] at e
   have e1:eQ a (dS a) xs (m+(ar a x).toNat)=(true,xs.length):=by
    injection e with e2 e3
    ext
    ·exact e2
    ·simp only[aF] at e3 ⊢;omega
   have ih:=aY6 h xs _ e1
   by_cases h0:0<=x
   ·rw[h.pos x h0,List.singleton_append]
    unfold eQ
    rw[if_neg hb,ih]
    simp
   ·have hx:-24<=x:=by simp [dS] at hb;omega
    rw[xR (by omega)] at ih
    have ht:=h.tm x hx (by omega)
    rw[show m+1=1+m from Nat.add_comm _ _,iL,pZ a (dS a) _ (f x) 1 (by rw[ht]),ht]
    simp only[if_true,List.drop_left]
    rw[show m+(0:Int).toNat=m from rfl] at ih
    rw[ih]
    simp
theorem Sb.fm{a t:List Int}{f:Int->List Int}(h:Sb a f)(ht:Tm a t):Tm a (fm f t):=aY6 h t 1 ht
theorem aRq{a x:List Int}{k:Nat}(hx:bB a x=true)(hk:k<x.length):∃ r,eX a x k=x.getD k 0::r:=by
 have h1:=(fN hx hk).2.1
 unfold eX
 rw[fA hk]
 obtain ⟨n,hn⟩:∃ n,sz a x k=n+1:=⟨sz a x k-1,by omega⟩
 rw[hn]
 exact⟨_,rfl⟩
def one(i:Int)(t:List Int)(n:Int):List Int:=if n=i then t else [n]
def Gen(a:List Int)(U:(Int->List Int)->Prop)(σ:Int->List Int):Prop:=∀ τ,Sb a τ->U τ->∀ n,-24<=n->n<0->fm τ (σ n)=τ n
theorem Gen.all{a t:List Int}{U:(Int->List Int)->Prop}{σ τ:Int->List Int}(h:Gen a U σ)(hs:Sb a σ)(hτ:Sb a τ)(hU:U τ)(ht:Tm a t):fm τ (fm σ t)=fm τ t:=by
 rw[bG9]
 refine aJ5 (fun n hn=>?_)
 by_cases h0:0<=n
 ·rw[hs.pos n h0,bJq]
 ·exact h τ hτ hU n (bLe ht hn).1 (by omega)
def Fo(a ts:List Int)(m:Nat):Prop:=eQ a (dS a) ts m=(true,ts.length)
theorem vP{a xs:List Int}{x:Int}{m:Nat}(h:Fo a (x::xs) m):∃ m',m=m'+1/\dS a x=false/\Fo a xs (m'+(ar a x).toNat):=by
 cases m with
 | zero=>simp [Fo,eQ] at h
 | succ m'=>
  refine⟨m',rfl,?_⟩
  unfold Fo at h ⊢
  simp only[eQ] at h
  by_cases hb:dS a x=true
  ·simp [hb] at h
  ·simp only[hb,dB,if_false,aF] at h
   injection h with h1 h2
   exact⟨by simpa using hb,Prod.ext h1 (by simpa using h2)⟩
theorem bJ3{a:List Int}{m:Nat}(h:Fo a [] m):m=0:=by
 cases m with
 | zero=>rfl
 | succ m=>simp [Fo,eQ] at h
theorem aIo{a ts:List Int}{m:Nat}(h:Fo a ts (m+1)):Tm a (ts.take (eQ a (dS a) ts 1).2)/\Fo a (ts.drop (eQ a (dS a) ts 1).2) m:=by
 have hs:=iL a (dS a) ts 1 m
 unfold Fo at h
 rw[Nat.add_comm 1 m,h] at hs
 by_cases h1:(eQ a (dS a) ts 1).1=true
 ·rw[if_pos h1] at hs
  injection hs with e1 e2
  have hle:=wZ a (dS a) ts 1
  constructor
  ·unfold Tm
   rw[aAa _ _ _ (aM _) h1,aN,Nat.min_eq_left hle]
   exact Prod.ext h1 rfl
  ·unfold Fo
   refine Prod.ext e1.symm ?_
   rw[aR]
   simp only
   omega
 ·rw[if_neg h1] at hs
  exact absurd (by rw[← hs]) h1
theorem rJ{b:List (List Int)}{i:Nat}{x:List Int}(h:i<b.length):(b.set i x).getD i []=x:=by
 simp [aC,h]
theorem aEx{b:List (List Int)}{i j:Nat}{x:List Int}(h:j≠i):(b.set i x).getD j []=b.getD j []:=by
 rw[aC,aC,List.getElem?_set,if_neg (Ne.symm h)]
def bF(b:List (List Int))(n:Int):List Int:=if n<0/\b.getD (-1-n).toNat []≠[] then b.getD (-1-n).toNat [] else [n]
theorem aVa{b:List (List Int)}{n:Int}(h:0<=n):bF b n=[n]:=if_neg (fun h'=>by omega)
theorem aWp{b:List (List Int)}{n:Int}(h:n<0)(h':b.getD (-1-n).toNat []≠[]):bF b n=b.getD (-1-n).toNat []:=if_pos ⟨h,h'⟩
structure BOk(a:List Int)(b:List (List Int)):Prop where
 len:b.length=24
 tm:∀ i,b.getD i []≠[]->Tm a (b.getD i [])
theorem aW8(a:List Int):BOk a (List.replicate 24 []):=⟨by simp,fun i h=>absurd (by
 rw[aC,List.getElem?_replicate]
 split<;>rfl) h⟩
theorem bKe{a:List Int}{b:List (List Int)}(h:BOk a b):Sb a (bF b):=⟨fun n hn=>aVa hn,fun n h1 h2=>by
 unfold bF
 split
 ·rename_i hc
  exact h.tm _ hc.2
 ·exact tW ⟨h1,h2⟩⟩
theorem aTy{a:List Int}{n:Int}(h:dS a n=false):-24<=n/\n<a.length:=by
 simp only[dS,decide_eq_false_iff_not] at h
 omega
theorem vB{a:List Int}:∀ (p ts:List Int) (m:Nat) (b b':List (List Int)),Fo a p m->Fo a ts m->BOk a b->eU a p ts b=some b'->
  BOk a b'/\(∀ i,b.getD i []≠[]->b'.getD i []=b.getD i [])/\fm (bF b') p=ts/\∀ x∈p,x<0->b'.getD (-1-x).toNat []≠[]
 | [],ts,m,b,b',hp,ht,hb,h=>by
  have hm:=bJ3 hp
  subst hm
  have:ts=[]:=by
   unfold Fo at ht
   cases ts with
   | nil=>rfl
   | cons x xs=>simp [eQ] at ht
  subst this
  simp only[eU,Option.some.injEq] at h
  subst h
  exact⟨hb,fun _ _=>rfl,rfl,fun x hx=>by cases hx⟩
 | _::_,[],m,b,b',hp,ht,hb,h=>by simp [eU] at h
 | n::p,x::ts,m,b,b',hp,ht,hb,h=>by
  obtain ⟨m',rfl,hbn,hp'⟩:=vP hp
  have hnr:=aTy hbn
  simp only[eU] at h
  by_cases h0:0<=n
  ·rw[if_pos h0] at h
   by_cases hx:x=n
   ·rw[if_pos hx] at h
    subst hx
    obtain ⟨m2,hm2,_,ht'⟩:=vP ht
    have:m2=m':=by omega
    subst this
    obtain ⟨a1,a2,a3,a4⟩:=vB p ts _ b b' hp' ht' hb h
    refine⟨a1,a2,?_,?_⟩
    ·rw[oD,a3,aVa h0];rfl
    ·intro y hy h1
     rcases cH.1 hy with e|e
     ·omega
     ·exact a4 y e h1
   ·rw[if_neg hx] at h;cases h
  ·rw[if_neg h0] at h
   have hp2:Fo a p m':=by
    rw[xR (by omega)] at hp'
    simpa using hp'
   obtain ⟨hu,hv⟩:=aIo ht
   generalize hk:(eQ a (dS a) (x::ts) 1).2=k at h hu hv
   have hi:(-1-n).toNat<b.length:=by have:=hb.len;omega
   have hne:(x::ts).take k≠[]:=fun e=>by have:=aNi hu;rw[e] at this;simp at this
   by_cases he:b.getD (-1-n).toNat []=[]
   ·rw[if_pos he] at h
    have hb2:BOk a (b.set (-1-n).toNat ((x::ts).take k)):=⟨by rw[aV,hb.len],fun i hi'=>by
     by_cases e:i=(-1-n).toNat
     ·rw[e,rJ hi];exact hu
     ·rw[aEx e] at hi' ⊢;exact hb.tm i hi'⟩
    obtain ⟨a1,a2,a3,a4⟩:=vB p ((x::ts).drop k) m' _ b' hp2 hv hb2 h
    have hbn':b'.getD (-1-n).toNat []=(x::ts).take k:=by
     have:=a2 (-1-n).toNat (by rw[rJ hi];exact hne)
     rw[this,rJ hi]
    refine⟨a1,?_,?_,?_⟩
    ·intro i hi'
     have hne':i≠(-1-n).toNat:=fun e=>by rw[e] at hi';exact hi' he
     have e:=aEx (b:=b) (x:=(x::ts).take k) hne'
     rw[← e] at hi' ⊢
     exact a2 i hi'
    ·rw[oD,a3,aWp (by omega) (by rw[hbn'];exact hne),hbn',dF]
    ·intro y hy h1
     rcases cH.1 hy with e|e
     ·rw[e,hbn'];exact hne
     ·exact a4 y e h1
   ·rw[if_neg he] at h
    by_cases hs:b.getD (-1-n).toNat []=(x::ts).take k
    ·rw[if_pos hs] at h
     obtain ⟨a1,a2,a3,a4⟩:=vB p ((x::ts).drop k) m' b b' hp2 hv hb h
     have hbn':=a2 _ he
     refine⟨a1,a2,?_,?_⟩
     ·rw[oD,a3,aWp (by omega) (by rw[hbn'];exact he),hbn',hs,dF]
     ·intro y hy h1
      rcases cH.1 hy with e|e
      ·rw[e,hbn'];exact he
      ·exact a4 y e h1
    ·rw[if_neg hs] at h;cases h
theorem bHm{a t:List Int}(h:Tm a t):Fo a t 1:=h
theorem aMn{a p t:List Int}{ts:List (List Int)}(hp:bB a p=true)(ht:bB a t=true)(h:fD a p t=some ts):∃ b,BOk a b/\ts=eH b/\fm (bF b) p=t/\eU a p t (List.replicate 24 [])=some b:=by
 unfold fD at h
 cases hg:eU a p t (List.replicate 24 []) with
 | none=>rw[hg] at h;cases h
 | some b=>
  rw[hg] at h
  obtain ⟨h1,_,h3,_⟩:=vB p t 1 _ b (bHm (yT hp)) (bHm (yT ht)) (aW8 a) hg
  exact⟨b,h1,(Option.some.inj h).symm,h3,rfl⟩
theorem aEp:∀ (l:List (List Int)) (i:Nat),(gE l).getD i []=l.getD i []
 | [],i=>rfl
 | x::xs,i=>by
  have ih:=aEp xs
  unfold gE
  split
  ·rename_i h
   cases i with
   | zero=>simp [h.2]
   | succ i=>
    have:=ih i
    rw[h.1] at this
    simpa using this
  ·cases i with
   | zero=>simp
   | succ i=>simpa using ih i
theorem aEo:∀ (k:Nat) (l:List (List Int)) (i:Nat),(eT k l).getD i []=zF (k+i) (l.getD i [])
 | k,[],i=>by simp [eT,zF]
 | k,x::xs,i=>by
  unfold eT
  cases i with
  | zero=>simp
  | succ i=>
   have:=aEo (k+1) xs i
   simp only[List.getD_cons_succ]
   rw[this,show k+1+i=k+(i+1) by omega]
theorem uL(ts:List (List Int))(i:Nat):fX ts i=if ts.getD i []=[] then [-1-(i:Int)] else ts.getD i []:=by
 unfold fX
 by_cases h:ts.getD i []=[]
 ·rw[if_pos h,if_neg]
  rintro ⟨_,h2⟩
  have:(ts.getD i default).length=0:=by show(ts.getD i []).length=0;rw[h];rfl
  omega
 ·rw[if_neg h,if_pos]
  ·rfl
  ·refine⟨?_,List.length_pos_iff.2 h⟩
   by_cases hl:i<ts.length
   ·exact hl
   ·rw[aC,dA (by omega)] at h
    exact absurd rfl h
theorem aJf(ts:List (List Int))(i:Nat):fX (eH ts) i=fX ts i:=by
 have key:(eH ts).getD i []=zF i (ts.getD i []):=by
  unfold eH
  rw[aEp,aEo,cR]
 rw[uL,uL,key]
 generalize ts.getD i []=x
 unfold zF
 by_cases h1:x=[]
 ·simp [h1]
 ·by_cases h2:x=[-1-(i:Int)]
  ·simp [h2]
  ·simp [h1,h2]
def wJ(a l:List Int)(n:Nat):Prop:=eQ a (dS a) l n=(true,l.length)
theorem bI4{a:List Int}:wJ a [] 0:=by simp [wJ,eQ]
theorem bD7{a xs:List Int}{x:Int}{n:Nat}(h:wJ a (x::xs) (n+1)):dS a x=false/\wJ a xs (n+(ar a x).toNat):=by
 unfold wJ at h ⊢
 unfold eQ at h
 by_cases hb:dS a x=true
 ·simp [hb] at h
 ·rw[if_neg hb] at h
  refine⟨by simpa using hb,?_⟩
  injection h with h1 h2
  simp only[aF] at h2
  exact Prod.ext h1 (by simpa using h2)
theorem bJo{a s s':List Int}{n m:Nat}(h:wJ a s n)(h':wJ a s' m):wJ a (s++s') (n+m):=by
 unfold wJ at h h' ⊢
 have e:=pZ a (dS a) s' s n (by rw[h])
 rw[iL,e,h]
 simp [h']
abbrev PL:Type:=List (List Int×List Int)
def aEt:PL->List Int×List Int->Nat
 | [],_=>0
 | x::xs,p=>if x=p then 0 else aEt xs p+1
def put(L:PL)(p:List Int×List Int):PL:=if aEt L p<L.length then L else L++[p]
def sw(p:List Int×List Int):List Int×List Int:=(p.2,p.1)
end Go.Proofs.YtajdgkpjbpindaaGreatDoor
