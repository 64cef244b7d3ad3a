/- Texts of the proof of FnNames. -/
import Derived.Test.YtajdgkpjbpindaaGreatDoorTbm
import Derived.Test.YtajdgkpjbpindaaGreatDoorTbp
import Derived.Lib.ParseIntB
set_option linter.unusedVariables false
set_option linter.unusedSimpArgs false
set_option linter.unusedSectionVars false
namespace Go.Proofs.YtajdgkpjbpindaaGreatDoor
open Go Go.Eng
def rD(b:UInt8):List (List UInt8)->List (List UInt8)
 | []=>[[b]]
 | h::t=>(b::h)::t
def gG(c:UInt8):List UInt8->List (List UInt8)
 | []=>[[]]
 | b::l=>if b=c then []::gG c l else rD b (gG c l)
def aB2(w:List UInt8):List (List UInt8)->List (List UInt8)
 | []=>[w]
 | h::t=>(w++h)::t
theorem xE(c:UInt8):∀ l,gG c l≠[]
 | []=>by simp [gG]
 | b::l=>by
  unfold gG
  split
  ·simp
  ·cases gG c l<;>simp [rD]
theorem aLf{c:UInt8}{l:List UInt8}:aB2 [] (gG c l)=gG c l:=by
 cases h:gG c l with
 | nil=>exact absurd h (xE c l)
 | cons x t=>rfl
theorem aTk(w:List UInt8)(b:UInt8)(ws:List (List UInt8)):aB2 w (rD b ws)=aB2 (w++[b]) ws:=by
 cases ws<;>simp [aB2,rD]
theorem bCs{c:UInt8}{l:List UInt8}(w:List UInt8):aB2 w (gG c (c::l))=w::gG c l:=by
 rw[gG,if_pos rfl,aB2,cF]
theorem aVm{b c:UInt8}{l:List UInt8}(w:List UInt8)(h:b≠c):aB2 w (gG c (b::l))=aB2 (w++[b]) (gG c l):=by
 rw[gG,if_neg h,aTk]
theorem bEp{c:UInt8}(w:List UInt8):aB2 w (gG c [])=[w]:=by rw[gG,aB2,cF]
def jnB(c:UInt8):List (List UInt8)->List UInt8
 | []=>[]
 | [w]=>w
 | w::x::t=>w++c::jnB c (x::t)
theorem aTm(c b:UInt8):∀ {ws:List (List UInt8)},ws≠[]->jnB c (rD b ws)=b::jnB c ws
 | [],h=>absurd rfl h
 | [w],_=>rfl
 | w::x::t,_=>rfl
theorem aJ2(c:UInt8):∀ l,jnB c (gG c l)=l
 | []=>rfl
 | b::l=>by
  unfold gG
  split
  ·rename_i h
   have ih:=aJ2 c l
   cases hs:gG c l with
   | nil=>exact absurd hs (xE c l)
   | cons x t=>rw[hs] at ih;rw[jnB,ih,h];rfl
  ·rw[aTm c b (xE c l),aJ2 c l]
theorem aKo{c:UInt8}:∀ {l:List UInt8},Lib.indexByte l c=-1->gG c l=[l]
 | [],_=>rfl
 | b::l,h=>by
  unfold Lib.indexByte at h
  split at h
  ·simp at h
  ·split at h
   ·rename_i h1 h2
    have hb:b≠c:=fun e=>h1 (by rw[e];exact beq_self_eq_true c)
    rw[gG,if_neg hb,aKo (by simpa using h2)]
    rfl
   ·rename_i h1 h2
    have:=Lib.indexByte_ge l c
    exfalso
    simp only[beq_iff_eq] at h2
    omega
theorem yH{c:UInt8}:∀ {l:List UInt8} {i:Nat},Lib.indexByte l c=(i:Int)->i<l.length/\gG c l=l.take i::gG c (l.drop (i+1))
 | [],i,h=>by simp [Lib.indexByte] at h
 | b::l,i,h=>by
  unfold Lib.indexByte at h
  split at h
  ·rename_i h1
   obtain rfl:i=0:=by omega
   have hb:b=c:=by simpa using h1
   rw[gG,if_pos hb]
   exact⟨by simp,by simp⟩
  ·rename_i h1
   split at h
   ·omega
   ·rename_i h2
    have hge:=Lib.indexByte_ge l c
    simp only[beq_iff_eq] at h2
    have hb:b≠c:=fun e=>h1 (by rw[e];exact beq_self_eq_true c)
    obtain ⟨j,hj⟩:∃ j:Nat,Lib.indexByte l c=(j:Int):=⟨(Lib.indexByte l c).toNat,by omega⟩
    obtain ⟨h3,h4⟩:=yH hj
    obtain rfl:i=j+1:=by omega
    rw[gG,if_neg hb,h4]
    exact⟨by simp only[aF];omega,rfl⟩
def In6(n:Int):Prop:=-9223372036854775808<=n/\n<=9223372036854775807
instance (n:Int):Decidable (In6 n):=by unfold In6;infer_instance
theorem aTv{M:Nat}(hM:M<=18446744073709551615):∀ (u:Nat) (r:List UInt8),u<=M->Lib.parseUintM M 0 (Lib.decDigits u++r)=Lib.parseUintM M u r:=by
 intro u
 induction u using Nat.strongRecOn with
 | _ u ih=>
  intro r hu
  rw[Lib.decDigits]
  split
  ·rename_i h
   rw[aA,aB,Lib.parseUintM]
   have h1:(UInt8.ofNat (48+u)).toNat=48+u:=by rw[dR];omega
   rw[h1,if_pos (by omega),if_neg (by omega),if_neg (by omega)]
   congr 1
   omega
  ·rename_i h
   rw[aT,ih (u / 10) (by omega) _ (by omega),aA,aB,Lib.parseUintM]
   have h1:(UInt8.ofNat (48+u % 10)).toNat=48+u % 10:=by rw[dR];omega
   rw[h1,if_pos (by omega),if_neg (by omega),if_neg (by omega)]
   congr 1
   omega
theorem wF(u:Nat):∃ d r,Lib.decDigits u=d::r/\48<=d.toNat/\d.toNat<=57:=by
 induction u using Nat.strongRecOn with
 | _ u ih=>
  rw[Lib.decDigits]
  split
  ·rename_i h
   exact⟨_,[],rfl,by rw[dR];omega,by rw[dR];omega⟩
  ·obtain ⟨d,r,h1,h2⟩:=ih (u / 10) (by omega)
   exact⟨d,r++[UInt8.ofNat (48+u % 10)],by rw[h1];rfl,h2⟩
theorem aAz{n:Int}(h:In6 n):Lib.parseIntB 64 (Lib.itoa n)=.ok n:=by
 unfold In6 at h
 have key:∀ u:Nat,u<=9223372036854775808->Lib.parseUintB 64 (Lib.decDigits u)=.ok u:=fun u hu=>by
  obtain ⟨d,r,h1,_⟩:=wF u
  unfold Lib.parseUintB
  rw[if_neg (by rw[h1];simp)]
  have h64:(2:Nat) ^ 64=18446744073709551616:=by decide
  have:=aTv (M:=2 ^ 64-1) (by decide) u [] (by omega)
  rw[cF] at this
  rw[this]
  rfl
 have h63:(2:Nat) ^ (64-1)=9223372036854775808:=by decide
 unfold Lib.itoa
 split
 ·rename_i hn
  unfold Lib.parseIntB
  simp only
  rw[if_pos (by decide),key _ (by omega)]
  simp only
  have h45:(45:UInt8).toNat=45:=by decide
  rw[h45,h63,if_neg (by omega),if_neg (by omega),if_pos rfl]
  congr 1
  omega
 ·rename_i hn
  obtain ⟨d,r,h1,h2,h3⟩:=wF n.toNat
  have hk:=key n.toNat (by omega)
  rw[h1] at hk ⊢
  unfold Lib.parseIntB
  simp only
  rw[if_neg (by omega),hk]
  simp only
  rw[h63,if_neg (by omega),if_neg (by omega),if_neg (by omega)]
  congr 1
  omega
def vA(l:List UInt8):Prop:=∃ n,In6 n/\Lib.itoa n=l
noncomputable instance (l:List UInt8):Decidable (vA l):=Classical.propDecidable _
def nX(l:List UInt8):Int:=match Lib.parseIntB 64 l with | .ok v=>v|_=>0
theorem aE5{n:Int}(h:In6 n):nX (Lib.itoa n)=n:=by unfold nX;rw[aAz h]
theorem aOv{l:List UInt8}(h:vA l):In6 (nX l)/\Lib.itoa (nX l)=l:=by
 obtain ⟨n,h1,h2⟩:=h
 rw[← h2,aE5 h1]
 exact⟨h1,rfl⟩
inductive pW:List Int->List UInt8->Prop
 | nil:pW [] []
 | pn {ns:List Int} {bs:List UInt8} (c:UInt8):mY c->pW ns bs->pW ns (c::bs)
 | var {ns:List Int} {bs:List UInt8} (n:Nat):n<100->(∀ c∈bs.head?,mY c)->pW ns bs->pW ((-1-(n:Int))::ns) (120::(fV n++bs))
 | sym {ns:List Int} {bs:List UInt8} (n:Nat):n<100->(∀ c∈bs.head?,mY c)->pW ns bs->pW ((n:Int)::ns) (102::(fV n++bs))
theorem vS{bs cs:List UInt8}(h1:∀ c∈bs.head?,mY c)(h2:∀ c∈cs.head?,mY c):∀ c∈(bs++cs).head?,mY c:=by
 cases bs with
 | nil=>exact h2
 | cons b bs=>exact h1
theorem pW.app{ns ms:List Int}{bs cs:List UInt8}(h:pW ns bs)(h2:pW ms cs)(hc:∀ c∈cs.head?,mY c):pW (ns++ms) (bs++cs):=by
 induction h with
 | nil=>exact h2
 | pn c hp _ ih=>exact .pn c hp ih
 | var n hn hb _ ih=>
  rw[aA,aA,aT]
  exact .var n hn (vS hb hc) ih
 | sym n hn hb _ ih=>
  rw[aA,aA,aT]
  exact .sym n hn (vS hb hc) ih
theorem aO2{a t:List Int}(h:bB a t=true):∀ (N p:Nat),p<t.length->t.length-p<=N->pW (eX a t p) (TX a t p)
 | 0,p,hp,hN=>by omega
 | N+1,p,hp,hN=>by
  have hg:=dY h hp
  have hsig:=eC (eI h)
  have hall:=aBo h hp
  by_cases h0:t.getD p 0<0
  ·rw[aF4 hp h0]
   have hk:hC a t p=0:=by unfold hC;rw[xR h0];rfl
   rw[hall,hk]
   have:=pW.var (-1-t.getD p 0).toNat (by omega) (by simp) pW.nil
   rw[show(-1-(((-1-t.getD p 0).toNat:Nat):Int))=t.getD p 0 by omega,cF] at this
   have h0':oU a t p 0=[]:=by unfold oU;simp [fO]
   rw[h0']
   exact this
  ·rw[aIc h hp (by omega),hall]
   have hK:∀ i,i<=hC a t p->pW (oU a t p i) (KX a t p i)/\∀ c∈(KX a t p i).head?,mY c:=fun i=>by
    induction i with
    | zero=>
     intro _
     rw[wL]
     have:oU a t p 0=[]:=by unfold oU;simp [fO]
     rw[this]
     exact⟨.nil,by simp⟩
    | succ i ih=>
     intro hi
     have hk:=kQ h hp (i:=i) (by omega)
     obtain ⟨h1,h2⟩:=ih (by omega)
     have hpn:mY (if i=0 then 40 else 44):=by split<;>decide
     have h3:=pW.pn _ hpn (aO2 h N (fO a t (p+1) i) hk.2 (by omega))
     rw[wE,xJ h hp (by omega)]
     have h4:∀ c∈((if i=0 then (40:UInt8) else 44)::TX a t (fO a t (p+1) i)).head?,mY c:=fun c hc=>by
      simp only[List.head?_cons,Option.mem_some_iff] at hc
      rw[← hc];exact hpn
     exact⟨h1.app h3 h4,vS h2 h4⟩
   obtain ⟨h1,h2⟩:=hK _ (aM _)
   have hend:pW [] (if hC a t p=0 then ([]:List UInt8) else [41])/\∀ c∈(if hC a t p=0 then ([]:List UInt8) else [41]).head?,mY c:=by
    split
    ·exact⟨.nil,by simp⟩
    ·exact⟨.pn 41 (by decide) .nil,fun c hc=>by simp only[List.head?_cons,Option.mem_some_iff] at hc;rw[← hc];decide⟩
   have h3:=h1.app hend.1 hend.2
   rw[cF] at h3
   have:=pW.sym (t.getD p 0).toNat (by omega) (vS h2 hend.2) h3
   rw[show(((t.getD p 0).toNat:Nat):Int)=t.getD p 0 by omega] at this
   rw[aA,aA,aT]
   exact this
def nsO(l:List UInt8)(i:Nat)(t:List Int):Prop:=PnP (psW l i)/\t.length<60
instance {l:List UInt8}{i:Nat}{t:List Int}:Decidable (nsO l i t):=by unfold nsO;infer_instance
def zN(c:UInt8):Prop:=c.toNat=120∨c.toNat=102
instance {c:UInt8}:Decidable (zN c):=by unfold zN;infer_instance
def nsT(l:List UInt8):Nat->Nat->List Int->Option (List Int)
 | 0,_,t=>some t
 | f+1,i,t=>if i<l.length then (if ¬ zN (l.getD i 0) then nsT l f (i+1) t else if nsO l i t then nsT l f (qL l (i+1)) (t++[psN l i]) else none) else some t
theorem aAu(l:List UInt8):∀ (f g i:Nat) (t:List Int),l.length-i<=f->l.length-i<=g->nsT l f i t=nsT l g i t
 | 0,0,i,t,_,_=>rfl
 | 0,g+1,i,t,h,_=>by
  rw[nsT,nsT,if_neg (by omega)]
 | f+1,0,i,t,_,h=>by
  rw[nsT,nsT,if_neg (by omega)]
 | f+1,g+1,i,t,hf,hg=>by
  have hge:i+1<=qL l (i+1):=oK l (l.length-(i+1)) (i+1)
  unfold nsT
  split
  ·split
   ·exact aAu l f g (i+1) t (by omega) (by omega)
   ·split
    ·exact aAu l f g _ _ (by omega) (by omega)
    ·rfl
  ·rfl
abbrev zS(l:List UInt8)(i:Nat)(t:List Int):Option (List Int):=nsT l (l.length-i) i t
theorem bG1{l:List UInt8}{i:Nat}{t:List Int}(h:i<l.length)(hp:¬ zN (l.getD i 0)):zS l i t=zS l (i+1) t:=by
 unfold zS
 rw[show l.length-i=(l.length-(i+1))+1 by omega,nsT,if_pos h,if_pos hp]
theorem aHd{l:List UInt8}{i:Nat}{t:List Int}(h:i<l.length)(hp:zN (l.getD i 0))(ho:nsO l i t):zS l i t=zS l (qL l (i+1)) (t++[psN l i]):=by
 have hge:i+1<=qL l (i+1):=oK l (l.length-(i+1)) (i+1)
 unfold zS
 rw[show l.length-i=(l.length-(i+1))+1 by omega,nsT,if_pos h,if_neg (by simpa using hp),if_pos ho]
 exact aAu _ _ _ _ _ (by omega) (by omega)
theorem bIl{l:List UInt8}{i:Nat}{t:List Int}(h:i<l.length)(hp:zN (l.getD i 0))(ho:¬ nsO l i t):zS l i t=none:=by
 unfold zS
 rw[show l.length-i=(l.length-(i+1))+1 by omega,nsT,if_pos h,if_neg (by simpa using hp),if_neg ho]
theorem aWq{l:List UInt8}{i:Nat}{t:List Int}(h:l.length<=i):zS l i t=some t:=by
 unfold zS
 rw[show l.length-i=0 by omega];rfl
theorem mZ{l bs:List UInt8}{i:Nat}{c:UInt8}(h:l.drop i=c::bs):i<l.length/\l.getD i 0=c/\l.drop (i+1)=bs:=by
 have hlt:i<l.length:=by
  rcases Nat.lt_or_ge i l.length with h1|h1
  ·exact h1
  ·rw[cI h1] at h;cases h
 rw[List.drop_eq_getElem_cons hlt] at h
 injection h with h1 h2
 exact⟨hlt,by rw[aC,aG hlt];exact h1,h2⟩
theorem aPk{l:List UInt8}:∀ {ds:List UInt8} {bs:List UInt8} {j:Nat},l.drop j=ds++bs->(∀ d∈ds,gN d)->(∀ c∈bs.head?,mY c)->qL l j=j+ds.length
 | [],bs,j,h,_,hb=>by
  rw[aB] at h
  unfold qL
  rw[sF]
  ·simp
  ·rintro ⟨h1,h2⟩
   cases bs with
   | nil=>
    have:=congrArg List.length h
    rw[aR,aL] at this
    omega
   | cons c bs=>
    obtain ⟨_,h4,_⟩:=mZ h
    have:=hb c (by simp)
    rw[h4] at h2
    unfold mY at this
    unfold gN at h2
    omega
 | d::ds,bs,j,h,hd,hb=>by
  rw[aA] at h
  obtain ⟨h3,h4,h5⟩:=mZ h
  unfold qL
  rw[rX h3 (by rw[h4];exact hd d List.mem_cons_self)]
  have:=aPk (j:=j+1) h5 (fun x hx=>hd x (List.mem_cons_of_mem _ hx)) hb
  unfold qL at this
  rw[this,aF]
  omega
theorem aGz{n:Nat}(h:n<100):(∀ d∈fV n,gN d)/\PnP (fV n)/\nO (fV n)=(n:Int):=by
 revert n
 decide +kernel
theorem aOx{l bs:List UInt8}{i:Nat}{c:UInt8}{n:Nat}(hn:n<100)(h:l.drop i=c::(fV n++bs))(hb:∀ c∈bs.head?,mY c):qL l (i+1)=i+1+(fV n).length/\psW l i=fV n/\l.drop (qL l (i+1))=bs:=by
 obtain ⟨h1,h2,h3⟩:=mZ h
 have h4:=aPk h3 (aGz hn).1 hb
 refine⟨h4,?_,?_⟩
 ·unfold psW
  rw[h4,h3,show i+1+(fV n).length-(i+1)=(fV n).length by omega,List.take_left]
 ·rw[h4,← List.drop_drop,h3,List.drop_left]
theorem aRf{l:List UInt8}{ns:List Int}{bs:List UInt8}(h:pW ns bs):∀ (i:Nat) (t:List Int),l.drop i=bs->ps0 l i t=some (t++ns)/\(t.length+ns.length<=60->zS l i t=some (t++ns)):=by
 induction h with
 | nil=>
  intro i t hd
  have hl:l.length<=i:=by
   have:=congrArg List.length hd
   rw[aR,aL] at this
   omega
  rw[aYs hl,aWq hl,cF]
  exact⟨rfl,fun _=>rfl⟩
 | pn c hp _ ih=>
  intro i t hd
  obtain ⟨h1,h2,h3⟩:=mZ hd
  obtain ⟨h4,h5⟩:=ih (i+1) t h3
  refine⟨by rw[bIb h1 (by rw[h2];exact hp)];exact h4,fun hl=>?_⟩
  rw[bG1 h1 (by rw[h2];unfold zN;unfold mY at hp;omega)]
  exact h5 hl
 | @var ns bs n hn hb _ ih=>
  intro i t hd
  obtain ⟨h1,h2,h3⟩:=mZ hd
  obtain ⟨w1,w2,w3⟩:=aOx hn hd hb
  obtain ⟨_,k2,k3⟩:=aGz hn
  have hps:psN l i=-1-(n:Int):=by unfold psN;rw[h2,if_pos (by decide),w2,k3]
  obtain ⟨h4,h5⟩:=ih (qL l (i+1)) (t++[psN l i]) w3
  refine⟨?_,fun hl=>?_⟩
  ·rw[aL5 h1 (by rw[h2];decide) ⟨by rw[w2];exact k2,by rw[h2];decide⟩,h4,hps,aT];rfl
  ·rw[aF] at hl
   rw[aHd h1 (by rw[h2];decide) ⟨by rw[w2];exact k2,by omega⟩,h5 (by simp only[aD,aJ];omega),hps,aT];rfl
 | @sym ns bs n hn hb _ ih=>
  intro i t hd
  obtain ⟨h1,h2,h3⟩:=mZ hd
  obtain ⟨w1,w2,w3⟩:=aOx hn hd hb
  obtain ⟨_,k2,k3⟩:=aGz hn
  have hps:psN l i=(n:Int):=by unfold psN;rw[h2,if_neg (by decide),w2,k3]
  obtain ⟨h4,h5⟩:=ih (qL l (i+1)) (t++[psN l i]) w3
  refine⟨?_,fun hl=>?_⟩
  ·rw[aL5 h1 (by rw[h2];decide) ⟨by rw[w2];exact k2,by rw[h2];decide⟩,h4,hps,aT];rfl
  ·rw[aF] at hl
   rw[aHd h1 (by rw[h2];decide) ⟨by rw[w2];exact k2,by omega⟩,h5 (by simp only[aD,aJ];omega),hps,aT];rfl
def okT(a:List Int)(l:List UInt8):Prop:=∃ t,bB a t=true/\TX a t 0=l
theorem aEb{a t:List Int}(h:bB a t=true):ps0 (TX a t 0) 0 []=some t/\zS (TX a t 0) 0 []=some t:=by
 have hl:=aX h
 have h1:=aO2 h t.length 0 (by omega) (by omega)
 have h2:eX a t 0=t:=by
  unfold eX sz
  rw[List.drop_zero,(fE.1 h).2.2.2,cZ]
 rw[h2] at h1
 have:=aRf (l:=TX a t 0) h1 0 [] rfl
 exact⟨this.1,this.2 (by simpa using hl.2)⟩
theorem aGa{a:List Int}{s:ByteArray}:ptB a s↔okT a s.data.toList:=by
 constructor
 ·rintro ⟨_,h2,h3⟩
  exact⟨_,h2,congrArg (fun b:ByteArray=>b.data.toList) h3⟩
 ·rintro ⟨t,h1,h2⟩
  have hs:=(aEb h1).1
  rw[h2] at hs
  have hp:wO s.data.toList=t:=by unfold wO;rw[hs];rfl
  refine⟨by rw[hs];rfl,by rw[hp];exact h1,?_⟩
  rw[hp]
  apply ByteArray.ext
  apply Array.ext'
  exact h2
theorem mX{a:List Int}{l:List UInt8}(h:okT a l):bB a (wO l)=true/\TX a (wO l) 0=l/\zS l 0 []=some (wO l):=by
 obtain ⟨t,h1,h2⟩:=h
 obtain ⟨h3,h4⟩:=aEb h1
 rw[h2] at h3 h4
 have hp:wO l=t:=by unfold wO;rw[h3];rfl
 rw[hp]
 exact⟨h1,h2,h4⟩
end Go.Proofs.YtajdgkpjbpindaaGreatDoor
