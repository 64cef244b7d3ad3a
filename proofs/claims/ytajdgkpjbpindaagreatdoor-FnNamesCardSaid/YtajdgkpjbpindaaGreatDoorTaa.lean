/- Texts of the proof of FnNames. -/
import Derived.WalkKit
import Derived.OrdersHeld
import Derived.ProofKit
import Derived.OpenShut
import Derived.ChangeOld
import Derived.Laws.BitsAllLaws
import Derived.Laws.Shifts
import Derived.Laws.Bits128
set_option linter.unusedVariables false
set_option linter.unusedSimpArgs false
set_option linter.unusedSectionVars false
namespace Go.Eng
open Go Go.RowKit
theorem aA{V:Type _}{a:V}{as bs:List V}:(a::as)++bs=a::(as++bs):=rfl
theorem aB{V:Type _}(as:List V):[]++as=as:=rfl
theorem aF{V:Type _}{a:V}{as:List V}:(a::as).length=as.length+1:=rfl
theorem aL{V:Type _}:([]:List V).length=0:=rfl
abbrev aC:=@List.getD_eq_getElem?_getD
abbrev aD:=@List.length_append
abbrev aG:=@List.getElem?_eq_getElem
abbrev aJ:=@List.length_singleton
abbrev aI:=@Nat.zero_le
abbrev aM:=@Nat.le_refl
abbrev aN:=@List.length_take
abbrev aP:=@List.mem_append
abbrev aO:=@List.mem_singleton
abbrev aR:=@List.length_drop
abbrev aT:=@List.append_assoc
abbrev aV:=@List.length_set
abbrev aZ:=@Option.getD_some
abbrev bC:=@List.take_succ_eq_append_getElem
abbrev aY:=@List.length_map
abbrev bE:=@List.take_of_length_le
abbrev bL:=@Array.getElem?_eq_some_iff
abbrev bH:=@Int.toNat_natCast
abbrev bR:=@List.cons.injEq
abbrev bZ:=@Array.length_toList
abbrev cA:=@List.length_replicate
abbrev bJ:=@List.nodup_append
abbrev cC:=@Option.isSome_none
abbrev cF:=@List.append_nil
abbrev cI:=@List.drop_of_length_le
abbrev cG:=@List.map_append
abbrev cK:=@Option.getD_none
abbrev cH:=@List.mem_cons
abbrev cP:=@List.getElem?_append_right
abbrev cO:=@List.getElem_of_mem
abbrev cN:=@Bool.and_eq_true
abbrev cT:=@List.filter_cons_of_pos
abbrev cY:=@List.filter_cons_of_neg
abbrev cS:=@List.getElem_mem
abbrev cR:=@Nat.zero_add
abbrev cU:=@List.getElem?_take
abbrev dC:=@List.getElem?_eq_some_iff
abbrev cW:=@Nat.le_add_right
abbrev cX:=@Nat.not_lt_zero
abbrev dA:=@List.getElem?_eq_none
abbrev cZ:=@List.take_length
abbrev dD:=@List.getElem?_append_left
abbrev dB:=@Bool.false_eq_true
abbrev dG:=@List.eq_nil_of_length_eq_zero
abbrev dF:=@List.take_append_drop
abbrev dL:=@Option.isSome_some
abbrev dO:=@List.getElem?_cons_zero
abbrev dE:=@Nat.add_mul
abbrev dR:=@UInt8.toNat_ofNat'
abbrev dT:=@List.mem_map
abbrev dP:=@List.size_toArray
abbrev dU:=@Bool.false_ne_true
def aCf(n:Int):Prop:=-9223372036854775808<=n/\n<=9223372036854775807
abbrev gH(w w':World)(b:Nat):Prop:=w'.heap[b]?=w.heap[b]?
theorem nB{w w':World}{a:Addr}(h:gH w w' a.block):w'.cell? a=w.cell? a:=World.cell?_of_block (w:=w) h
class cB(V:Type) where
 sz:Nat
 rd:(Nat->Prop)->World->List Value->V->Prop
 ow:(Nat->Prop)->World->List Nat->List Value->V->Prop
 pos:0<sz
 rd_len:∀ {ok w cs x},rd ok w cs x->cs.length=sz
 rd_one:∀ {ok w cs x},rd ok w cs x->∀ c∈cs,c.oneCell'=true
 rd_mono:∀ {ok ok' w w' cs x},rd ok w cs x->(∀ b,ok b->b<w.heap.size->ok' b/\gH w w' b)->rd ok' w' cs x
 ow_mono:∀ {ok ok' w w' F cs x},ow ok w F cs x->(∀ b∈F,gH w w' b)->(∀ b,ok b->b<w.heap.size->ok' b/\gH w w' b)->ow ok' w' F cs x
 ow_rd:∀ {ok ok' w F cs x},ow ok w F cs x->(∀ b,ok b->ok' b)->(∀ b∈F,ok' b)->rd ok' w cs x
 ow_lt:∀ {ok w F cs x},ow ok w F cs x->∀ b∈F,b<w.heap.size
instance xD:cB Int where
 sz:=1
 rd _ _ cs n:=cs=[.int .i64 n]/\aCf n
 ow _ _ F cs n:=F=[]/\cs=[.int .i64 n]/\aCf n
 pos:=by decide
 rd_len:=by rintro _ _ _ _ ⟨rfl,_⟩;rfl
 rd_one:=by rintro _ _ _ _ ⟨rfl,_⟩;simp [Value.oneCell']
 rd_mono:=fun h _=>h
 ow_mono:=fun h _ _=>h
 ow_rd:=fun h _ _=>h.2
 ow_lt:=by rintro _ _ _ _ _ ⟨rfl,_⟩ b hb;cases hb
instance aGx:cB Bool where
 sz:=1
 rd _ _ cs b:=cs=[.bool b]
 ow _ _ F cs b:=F=[]/\cs=[.bool b]
 pos:=by decide
 rd_len:=by rintro _ _ _ _ rfl;rfl
 rd_one:=by rintro _ _ _ _ rfl;simp [Value.oneCell']
 rd_mono:=fun h _=>h
 ow_mono:=fun h _ _=>h
 ow_rd:=fun h _ _=>h.2
 ow_lt:=by rintro _ _ _ _ _ ⟨rfl,_⟩ b hb;cases hb
instance aBs:cB ByteArray where
 sz:=1
 rd _ _ cs s:=cs=[.string s]/\s.size<=9223372036854775807
 ow _ _ F cs s:=F=[]/\cs=[.string s]/\s.size<=9223372036854775807
 pos:=by decide
 rd_len:=by rintro _ _ _ _ ⟨rfl,_⟩;rfl
 rd_one:=by rintro _ _ _ _ ⟨rfl,_⟩;simp [Value.oneCell']
 rd_mono:=fun h _=>h
 ow_mono:=fun h _ _=>h
 ow_rd:=fun h _ _=>h.2
 ow_lt:=by rintro _ _ _ _ _ ⟨rfl,_⟩ b hb;cases hb
instance aPb:cB UInt8 where
 sz:=1
 rd _ _ cs n:=cs=[.int .u8 n.toNat]
 ow _ _ F cs n:=F=[]/\cs=[.int .u8 n.toNat]
 pos:=by decide
 rd_len:=by rintro _ _ _ _ rfl;rfl
 rd_one:=by rintro _ _ _ _ rfl;simp [Value.oneCell']
 rd_mono:=fun h _=>h
 ow_mono:=fun h _ _=>h
 ow_rd:=fun h _ _=>h.2
 ow_lt:=by rintro _ _ _ _ _ ⟨rfl,_⟩ b hb;cases hb
instance eS{V β:Type}[cB V][cB β]:cB (V×β) where
 sz:=cB.sz V+cB.sz β
 rd ok w cs x:=∃ c d,cs=c++d/\cB.rd ok w c x.1/\cB.rd ok w d x.2
 ow ok w F cs x:=∃ f g c d,F=f++g/\cs=c++d/\cB.ow ok w f c x.1/\cB.ow ok w g d x.2
 pos:=by have:=cB.pos (V:=V);omega
 rd_len:=by rintro _ _ _ _ ⟨c,d,rfl,h,h'⟩;simp [cB.rd_len h,cB.rd_len h']
 rd_one:=by
  rintro _ _ _ _ ⟨c,d,rfl,h,h'⟩ x hx
  rcases aP.1 hx with hx|hx
  ·exact cB.rd_one h x hx
  ·exact cB.rd_one h' x hx
 rd_mono:=by rintro _ _ _ _ _ _ ⟨c,d,rfl,h,h'⟩ hm;exact⟨c,d,rfl,cB.rd_mono h hm,cB.rd_mono h' hm⟩
 ow_mono:=by
  rintro _ _ _ _ _ _ _ ⟨f,g,c,d,rfl,rfl,h,h'⟩ hf hm
  exact⟨f,g,c,d,rfl,rfl,cB.ow_mono h (fun b hb=>hf b (by simp [hb])) hm,cB.ow_mono h' (fun b hb=>hf b (by simp [hb])) hm⟩
 ow_rd:=by
  rintro _ _ _ _ _ _ ⟨f,g,c,d,rfl,rfl,h,h'⟩ ho hf
  exact⟨c,d,rfl,cB.ow_rd h ho (fun b hb=>hf b (by simp [hb])),cB.ow_rd h' ho (fun b hb=>hf b (by simp [hb]))⟩
 ow_lt:=by
  rintro _ _ _ _ _ ⟨f,g,c,d,rfl,rfl,h,h'⟩ b hb
  rcases aP.1 hb with hb|hb
  ·exact cB.ow_lt h b hb
  ·exact cB.ow_lt h' b hb
structure Sh(V:Type) where
 v:V
instance bRd{V:Type}[cB V]:cB (Sh V) where
 sz:=cB.sz V
 rd ok w cs x:=cB.rd ok w cs x.v
 ow ok w F cs x:=F=[]/\cB.rd ok w cs x.v
 pos:=cB.pos
 rd_len:=fun h=>cB.rd_len h
 rd_one:=fun h=>cB.rd_one h
 rd_mono:=fun h hm=>cB.rd_mono h hm
 ow_mono:=fun h _ hm=>⟨h.1,cB.rd_mono h.2 hm⟩
 ow_rd:=fun h ho _=>cB.rd_mono h.2 (fun b hb _=>⟨ho b hb,rfl⟩)
 ow_lt:=by rintro _ _ _ _ _ ⟨rfl,_⟩ b hb;cases hb
section rows
variable {V:Type} [cB V]
def kK(ok:Nat->Prop)(w:World):List Value->List V->Prop
 | cells,[]=>cells=[]
 | cells,x::xs=>∃ c d,cells=c++d/\cB.rd ok w c x/\kK ok w d xs
def jA(ok:Nat->Prop)(w:World):List Nat->List Value->List V->Prop
 | F,cells,[]=>F=[]/\cells=[]
 | F,cells,x::xs=>∃ f g c d,F=f++g/\cells=c++d/\cB.ow ok w f c x/\jA ok w g d xs
theorem kK.mono{ok ok':Nat->Prop}{w w':World}(hm:∀ b,ok b->b<w.heap.size->ok' b/\gH w w' b) :
  ∀ {cells:List Value} {xs:List V},kK ok w cells xs->kK ok' w' cells xs
 | _,[],h=>h
 | _,_::_,⟨c,d,e,h,h'⟩=>⟨c,d,e,cB.rd_mono h hm,kK.mono hm h'⟩
theorem jA.mono{ok ok':Nat->Prop}{w w':World}(hm:∀ b,ok b->b<w.heap.size->ok' b/\gH w w' b) :
  ∀ {F:List Nat} {cells:List Value} {xs:List V},jA ok w F cells xs->(∀ b∈F,gH w w' b)->jA ok' w' F cells xs
 | _,_,[],h,_=>h
 | _,_,_::_,⟨f,g,c,d,e,e',h,h'⟩,hf=>
  ⟨f,g,c,d,e,e',cB.ow_mono h (fun b hb=>hf b (by simp [e,hb])) hm,jA.mono hm h' (fun b hb=>hf b (by simp [e,hb]))⟩
theorem jA.rd{ok ok':Nat->Prop}{w:World}(ho:∀ b,ok b->ok' b) :
  ∀ {F:List Nat} {cells:List Value} {xs:List V},jA ok w F cells xs->(∀ b∈F,ok' b)->kK ok' w cells xs
 | _,_,[],h,_=>h.2
 | _,_,_::_,⟨f,g,c,d,e,e',h,h'⟩,hf=>
  ⟨c,d,e',cB.ow_rd h ho (fun b hb=>hf b (by simp [e,hb])),jA.rd ho h' (fun b hb=>hf b (by simp [e,hb]))⟩
theorem jA.lt{ok:Nat->Prop}{w:World}:∀ {F:List Nat} {cells:List Value} {xs:List V},jA ok w F cells xs->∀ b∈F,b<w.heap.size
 | _,_,[],h,b,hb=>by rw[h.1] at hb;cases hb
 | _,_,_::_,⟨f,g,c,d,e,e',h,h'⟩,b,hb=>by
  rw[e] at hb
  rcases aP.1 hb with hb|hb
  ·exact cB.ow_lt h b hb
  ·exact jA.lt h' b hb
theorem kK.len{ok:Nat->Prop}{w:World}:∀ {cells:List Value} {xs:List V},kK ok w cells xs->cells.length=xs.length*cB.sz V
 | _,[],h=>by simp [kK] at h;simp [h]
 | _,x::xs,⟨c,d,e,h,h'⟩=>by
  rw[e,aD,cB.rd_len h,kK.len h',aF,dE,Nat.one_mul,Nat.add_comm]
theorem kK.one{ok:Nat->Prop}{w:World}:∀ {cells:List Value} {xs:List V},kK ok w cells xs->∀ c∈cells,c.oneCell'=true
 | _,[],h,c,hc=>by simp [kK] at h;rw[h] at hc;cases hc
 | _,x::xs,⟨c,d,e,h,h'⟩,v,hv=>by
  rw[e] at hv
  rcases aP.1 hv with hv|hv
  ·exact cB.rd_one h v hv
  ·exact kK.one h' v hv
theorem kK.append{ok:Nat->Prop}{w:World}{d:List Value}{ys:List V}(h2:kK ok w d ys):∀ {cells:List Value} {xs:List V},kK ok w cells xs->kK ok w (cells++d) (xs++ys)
 | _,[],h=>by simp [kK] at h;simpa [h] using h2
 | _,x::xs,⟨c,d',e,h,h'⟩=>⟨c,d'++d,by rw[e,aT],h,kK.append h2 h'⟩
theorem jA.append{ok:Nat->Prop}{w:World}{G:List Nat}{d:List Value}{ys:List V}(h2:jA ok w G d ys) :
  ∀ {F:List Nat} {cells:List Value} {xs:List V},jA ok w F cells xs->jA ok w (F++G) (cells++d) (xs++ys)
 | _,_,[],h=>by obtain ⟨rfl,rfl⟩:=h;simpa using h2
 | _,_,x::xs,⟨f,g,c,d',e,e',h,h'⟩=>⟨f,g++G,c,d'++d,by rw[e,aT],by rw[e',aT],h,jA.append h2 h'⟩
theorem kK.get{ok:Nat->Prop}{w:World}:∀ {cells:List Value} {xs:List V},kK ok w cells xs->∀ i (hi:i<xs.length),
  ∃ p c s,cells=p++c++s/\p.length=i*cB.sz V/\cB.rd ok w c xs[i]
 | _,x::xs,⟨c,d,e,h,h'⟩,0,_=>⟨[],c,d,by simpa using e,by simp,h⟩
 | _,x::xs,⟨c,d,e,h,h'⟩,i+1,hi=>by
  obtain ⟨p,c',s,e1,e2,h3⟩:=kK.get h' i (by simpa using hi)
  refine⟨c++p,c',s,by rw[e,e1];simp [aT],?_,h3⟩
  rw[aD,cB.rd_len h,e2,dE,Nat.one_mul,Nat.add_comm]
theorem kK.cut{ok:Nat->Prop}{w:World}:∀ {cells:List Value} {xs:List V},kK ok w cells xs->∀ i,i<=xs.length->
  kK ok w (cells.take (i*cB.sz V)) (xs.take i)/\kK ok w (cells.drop (i*cB.sz V)) (xs.drop i)
 | _,[],h,i,hi=>by
  have:i=0:=by simpa using hi
  subst this
  simp [kK] at h ⊢;exact h
 | _,x::xs,h,0,_=>by simp only[Nat.zero_mul,List.take_zero,List.drop_zero];exact⟨rfl,h⟩
 | _,x::xs,⟨c,d,e,h,h'⟩,i+1,hi=>by
  obtain ⟨h1,h2⟩:=kK.cut h' i (by simpa using hi)
  have hl:=cB.rd_len h
  have hmul:(i+1)*cB.sz V=cB.sz V+i*cB.sz V:=by rw[dE,Nat.one_mul,Nat.add_comm]
  rw[e,hmul]
  refine⟨⟨c,d.take (i*cB.sz V),?_,h,h1⟩,?_⟩
  ·rw[List.take_append,hl]
   rw[bE (by rw[hl];exact cW _ _),Nat.add_sub_cancel_left]
  ·rw[List.drop_append,hl,cI (by rw[hl];exact cW _ _),Nat.add_sub_cancel_left,aB]
   exact h2
theorem jA.get{ok:Nat->Prop}{w:World}:∀ {F:List Nat} {cells:List Value} {xs:List V},jA ok w F cells xs->∀ i (hi:i<xs.length),
  ∃ f1 f f2 p c s,F=f1++f++f2/\cells=p++c++s/\cB.ow ok w f c xs[i]/\jA ok w f1 p (xs.take i)/\jA ok w f2 s (xs.drop (i+1))
 | _,_,x::xs,⟨f,g,c,d,e,e',h,h'⟩,0,_=>⟨[],f,g,[],c,d,by simpa using e,by simpa using e',h,⟨rfl,rfl⟩,h'⟩
 | _,_,x::xs,⟨f,g,c,d,e,e',h,h'⟩,i+1,hi=>by
  obtain ⟨f1,f',f2,p,c',s,e1,e2,h3,h4,h5⟩:=jA.get h' i (by simpa using hi)
  exact⟨f++f1,f',f2,c++p,c',s,by rw[e,e1];simp [aT],by rw[e',e2];simp [aT],h3,⟨f,f1,c,p,rfl,rfl,h,h4⟩,h5⟩
end rows
def gM(w:World)(b off:Nat)(cells:List Value):Prop:=∀ j,j<cells.length->w.cell? ⟨b,off+j,none⟩=cells[j]?
theorem gM.mono{w w':World}{b off:Nat}{cells:List Value}(h:gM w b off cells)(hs:gH w w' b):gM w' b off cells:=
 fun j hj=>(nB hs).trans (h j hj)
theorem gM.lt{w:World}{b off:Nat}{cells:List Value}(h:gM w b off cells)(hne:0<cells.length):b<w.heap.size:=by
 have:=h 0 hne
 rw[aG hne] at this
 exact World.block_lt_of_cell? w _ this
theorem gM.part{w:World}{b off:Nat}{p c s:List Value}(h:gM w b off (p++c++s)):gM w b (off+p.length) c:=by
 intro j hj
 have:=h (p.length+j) (by simp only[aD];omega)
 rw[← Nat.add_assoc] at this
 rw[this,aT,cP (by omega),Nat.add_sub_cancel_left,dD hj]
instance bA{V:Type}[cB V]:cB (List V) where
 sz:=1
 rd ok w cs xs:=∃ a cap,cs=[.slice a xs.length cap]/\xs.length<=cap/\cap<=maxLen/\xs.length<=9223372036854775807/\
  (0<xs.length->∃ b off cells,a=some ⟨b,off,none⟩/\ok b/\gM w b off cells/\kK ok w cells xs)
 ow ok w F cs xs:=(cs=[.slice none 0 0]/\xs=[]/\F=[])∨
  ∃ g cap dV e G cells,cs=[.slice (some ⟨g,0,none⟩) xs.length cap]/\F=g::G/\w.heap[g]?=some (.cells dV e (0,0))/\xs.length<=cap/\cap<=maxLen/\
   xs.length<=9223372036854775807/\cap*cB.sz V<=dV.size/\dV.toList.take (xs.length*cB.sz V)=cells/\jA ok w G cells xs
 pos:=by decide
 rd_len:=by rintro _ _ _ _ ⟨_,_,rfl,_⟩;rfl
 rd_one:=by rintro _ _ _ _ ⟨_,_,rfl,_⟩;simp [Value.oneCell']
 rd_mono:=by
  rintro ok ok' w w' _ xs ⟨a,cap,rfl,h1,h2,h2',h3⟩ hm
  refine⟨a,cap,rfl,h1,h2,h2',fun hp=>?_⟩
  obtain ⟨b,off,cells,rfl,hb,hc,hr⟩:=h3 hp
  have hlt:b<w.heap.size:=hc.lt (by rw[hr.len];exact Nat.mul_pos hp cB.pos)
  exact⟨b,off,cells,rfl,(hm b hb hlt).1,hc.mono (hm b hb hlt).2,hr.mono hm⟩
 ow_mono:=by
  rintro ok ok' w w' F _ xs h hf hm
  rcases h with h|⟨g,cap,dV,e,G,cells,h0,rfl,h1,h2,h3,h3',h4,h5,h6⟩
  ·exact .inl h
  ·exact .inr ⟨g,cap,dV,e,G,cells,h0,rfl,by rw[hf g (by simp)];exact h1,h2,h3,h3',h4,h5,h6.mono hm (fun b hb=>hf b (by simp [hb]))⟩
 ow_rd:=by
  rintro ok ok' w F _ xs h ho hf
  rcases h with⟨rfl,rfl,rfl⟩|⟨g,cap,dV,e,G,cells,rfl,rfl,h1,h2,h3,h3',h4,h5,h6⟩
  ·exact⟨none,0,rfl,by simp,by simp [maxLen],by simp,fun h=>by simp at h⟩
  ·refine⟨_,cap,rfl,h2,h3,h3',fun hp=>⟨g,0,cells,rfl,hf g (by simp),?_,h6.rd ho (fun b hb=>hf b (by simp [hb]))⟩⟩
   intro j hj
   rw[← h5] at hj ⊢
   rw[cU]
   have:j<xs.length*cB.sz V:=by
    have:=hj;rw[aN] at this;omega
   rw[if_pos this]
   simp [World.cell?,h1]
 ow_lt:=by
  rintro ok w F _ xs h b hb
  rcases h with⟨_,_,rfl⟩|⟨g,cap,dV,e,G,cells,_,rfl,h1,_,_,_,_,_,h6⟩
  ·cases hb
  ·rcases cH.1 hb with rfl|hb
   ·exact(bL.1 h1).1
   ·exact h6.lt b hb
end Go.Eng
namespace Go.Eng
open Go Go.RowKit
inductive Atom:Type 1
 | rd {V:Type} [cB V] (cs:List Value) (x:V)
 | ow {V:Type} [cB V] (cs:List Value) (x:V)
 | bk (b:Nat) (cs:List Value)
 | pt (p:Addr) (cs:List Value)
def aGu(w:World)(p:Addr)(cs:List Value):Prop:=∀ j,j<cs.length->w.cell? (p.add j)=cs[j]?
theorem aQx(p:Addr)(j:Nat):(p.add j).block=p.block:=by unfold Addr.add;split<;>rfl
def Atom.holds(ok:Nat->Prop)(w:World):Atom->List Nat->Prop
 | @Atom.rd V i cs x,F=>F=[]/\@cB.rd V i ok w cs x
 | @Atom.ow V i cs x,F=>@cB.ow V i ok w F cs x
 | .bk b cs,F=>F=[b]/\∃ e,w.heap[b]?=some (.cells cs.toArray e (0,0))
 | .pt p cs,F=>F=[]/\ok p.block/\p.block<w.heap.size/\aGu w p cs
def jT(ok:Nat->Prop)(w:World):List Atom->List Nat->Prop
 | [],F=>F=[]
 | A::I,F=>∃ f g,F=f++g/\A.holds ok w f/\jT ok w I g
structure lK(B:Nat)(w w':World):Prop where
 os:w'.os=w.os
 tape:w'.tape=w.tape
 output:w'.output=w.output
 size:w.heap.size<=w'.heap.size
 drawn:True
 block:∀ k,k<B->w'.heap[k]?=w.heap[k]?
theorem lK.low{B:Nat}{w w':World}(h:lK B w w'):Below B w w':=⟨h.os,h.tape,h.output,h.size,h.block⟩
theorem lK.of{B:Nat}{w w':World}(h:Below B w w')(hd:True):lK B w w':=⟨h.os,h.tape,h.output,h.size,hd,h.block⟩
theorem lK.refl(B:Nat)(w:World):lK B w w:=⟨rfl,rfl,rfl,aM _,trivial,fun _ _=>rfl⟩
theorem lK.trans{B:Nat}{a b c:World}(h:lK B a b)(k:lK B b c):lK B a c:=.of (h.low.trans k.low) trivial
theorem lK.mono{B B':Nat}{w w':World}(h:lK B w w')(hB:B'<=B):lK B' w w':=.of (h.low.mono hB) h.drawn
theorem lK.drew{B:Nat}{a w:World}(h:lK B a w):lK B a w.drew:=.of h.low.drew trivial
theorem lK.alloc{B:Nat}{a w:World}(h:lK B a w)(hB:B<=w.heap.size)(o:Obj):lK B a (w.alloc o):=.of (h.low.alloc hB o) h.drawn
theorem lK.setCell{B:Nat}{a w:World}(h:lK B a w){p:Addr}(hp:B<=p.block)(u:Value):lK B a (w.setCell p u):=.of (h.low.setCell hp u) h.drawn
structure Sat(w0 w:World)(I:List Atom):Prop where
 base:lK w0.heap.size w0 w
 sep:∃ F,F.Nodup/\(∀ b∈F,w0.heap.size<=b)/\jT (·∉F) w I F
theorem Atom.holds_mono{ok ok':Nat->Prop}{w w':World}(hm:∀ b,ok b->b<w.heap.size->ok' b/\gH w w' b)(hs:w.heap.size<=w'.heap.size) :
  ∀ {A:Atom} {F:List Nat},A.holds ok w F->(∀ b∈F,gH w w' b)->A.holds ok' w' F
 | @Atom.rd _ _ _ _,_,h,_=>⟨h.1,cB.rd_mono h.2 hm⟩
 | @Atom.ow _ _ _ _,_,h,hf=>cB.ow_mono h hf hm
 | .bk _ _,_,⟨h,e,h'⟩,hf=>⟨h,e,by rw[hf _ (by simp [h])];exact h'⟩
 | .pt p _,_,⟨h,h1,h2,h3⟩,_=>
  ⟨h,(hm _ h1 h2).1,Nat.lt_of_lt_of_le h2 hs,fun j hj=>(nB (by rw[aQx];exact(hm _ h1 h2).2)).trans (h3 j hj)⟩
theorem Atom.holds_lt{ok:Nat->Prop}{w:World}:∀ {A:Atom} {F:List Nat},A.holds ok w F->∀ b∈F,b<w.heap.size
 | @Atom.rd _ _ _ _,_,h,b,hb=>by rw[h.1] at hb;cases hb
 | @Atom.ow _ _ _ _,_,h,b,hb=>cB.ow_lt h b hb
 | .bk _ _,_,⟨h,e,h'⟩,b,hb=>by
  rw[h] at hb
  obtain rfl:b=_:=by simpa using hb
  exact(bL.1 h').1
 | .pt _ _,_,h,b,hb=>by rw[h.1] at hb;cases hb
theorem jT.mono{ok ok':Nat->Prop}{w w':World}(hm:∀ b,ok b->b<w.heap.size->ok' b/\gH w w' b)(hs:w.heap.size<=w'.heap.size) :
  ∀ {I:List Atom} {F:List Nat},jT ok w I F->(∀ b∈F,gH w w' b)->jT ok' w' I F
 | [],_,h,_=>h
 | _::_,_,⟨f,g,e,h,h'⟩,hf=>
  ⟨f,g,e,Atom.holds_mono hm hs h (fun b hb=>hf b (by simp [e,hb])),jT.mono hm hs h' (fun b hb=>hf b (by simp [e,hb]))⟩
theorem jT.lt{ok:Nat->Prop}{w:World}:∀ {I:List Atom} {F:List Nat},jT ok w I F->∀ b∈F,b<w.heap.size
 | [],_,h,b,hb=>by rw[h] at hb;cases hb
 | _::_,_,⟨f,g,e,h,h'⟩,b,hb=>by
  rw[e] at hb
  rcases aP.1 hb with hb|hb
  ·exact Atom.holds_lt h b hb
  ·exact jT.lt h' b hb
theorem jT.append{ok:Nat->Prop}{w:World}{Y:List Atom}{G:List Nat}(h2:jT ok w Y G):∀ {I:List Atom} {F:List Nat},jT ok w I F->jT ok w (I++Y) (F++G)
 | [],_,h=>by rw[show _=[] from h];simpa using h2
 | _::_,_,⟨f,g,e,h,h'⟩=>⟨f,g++G,by rw[e,aT],h,jT.append h2 h'⟩
theorem jT.split{ok:Nat->Prop}{w:World}{Y:List Atom}:∀ {I:List Atom} {F:List Nat},jT ok w (I++Y) F->∃ f g,F=f++g/\jT ok w I f/\jT ok w Y g
 | [],F,h=>⟨[],F,rfl,rfl,h⟩
 | _::_,_,⟨f,g,e,h,h'⟩=>by
  obtain ⟨f',g',e',h1,h2⟩:=jT.split h'
  exact⟨f++f',g',by rw[e,e',aT],⟨f,f',rfl,h,h1⟩,h2⟩
theorem jT.perm{ok:Nat->Prop}{w:World}{I Y:List Atom}(hp:I.Perm Y):∀ {F:List Nat},jT ok w I F->∃ G,G.Perm F/\jT ok w Y G:=by
 induction hp with
 | nil=>exact fun {F} h=>⟨F,.refl _,h⟩
 | cons A _ ih=>
  rintro F ⟨f,g,rfl,h,h'⟩
  obtain ⟨G,hG,h2⟩:=ih h'
  exact⟨f++G,hG.append_left f,f,G,rfl,h,h2⟩
 | swap A B I=>
  rintro F ⟨f,_,rfl,h,g,k,rfl,h',h''⟩
  exact⟨g++(f++k),by rw[← aT,← aT];exact List.perm_append_comm.append_right k,g,f++k,rfl,h',f,k,rfl,h,h''⟩
 | trans _ _ ih1 ih2=>
  intro F h
  obtain ⟨G,hG,h1⟩:=ih1 h
  obtain ⟨H,hH,h2⟩:=ih2 h1
  exact⟨H,hH.trans hG,h2⟩
theorem jT.notin{w:World}{I:List Atom}{F G:List Nat}(hp:G.Perm F)(h:jT (·∉F) w I G):jT (·∉G) w I G:=
 jT.mono (fun b hb _=>⟨fun h=>hb (hp.mem_iff.1 h),rfl⟩) (aM _) h (fun _ _=>rfl)
theorem Sat.perm{w0 w:World}{I Y:List Atom}(h:Sat w0 w I)(hp:I.Perm Y):Sat w0 w Y:=by
 obtain ⟨hb,F,hn,hl,hs⟩:=h
 obtain ⟨G,hG,h2⟩:=hs.perm hp
 exact⟨hb,G,hG.symm.nodup hn,fun b hb=>hl b (hG.mem_iff.1 hb),h2.notin hG⟩
theorem Sat.drop{w0 w:World}{A:Atom}{I:List Atom}(h:Sat w0 w (A::I)):Sat w0 w I:=by
 obtain ⟨hb,F,hn,hl,f,g,rfl,_,h'⟩:=h
 exact⟨hb,g,(bJ.1 hn).2.1,fun b hb=>hl b (by simp [hb]),
  h'.mono (fun b hb _=>⟨fun hg=>hb (by simp [hg]),rfl⟩) (aM _) (fun _ _=>rfl)⟩
theorem Sat.dropN{w0 w:World}{Y I:List Atom}(h:Sat w0 w (Y++I)):Sat w0 w I:=by
 induction Y with
 | nil=>exact h
 | cons A Y ih=>exact ih h.drop
theorem Sat.size{w0 w:World}{I:List Atom}(h:Sat w0 w I):w0.heap.size<=w.heap.size:=h.base.size
theorem Sat.ext{w0 w w':World}{I:List Atom}(h:Sat w0 w I)(he:lK w.heap.size w w'):Sat w0 w' I:=by
 obtain ⟨hb,F,hn,hl,hs⟩:=h
 exact⟨hb.trans (he.mono hb.size),F,hn,hl,hs.mono (fun b hb hlt=>⟨hb,he.block b hlt⟩) he.size (fun b hb=>he.block b (hs.lt b hb))⟩
theorem Sat.drew{w0 w:World}{I:List Atom}(h:Sat w0 w I):Sat w0 w.drew I:=h.ext ((lK.refl _ _).drew)
theorem Sat.add{w0 w:World}{I:List Atom}(A:Atom)(h:Sat w0 w I)(f:List Nat)(hf:f.Nodup) (hnew:∀ F:List Nat,(∀ b∈F,b<w.heap.size)->jT (·∉F) w I F->
  ∃ w':World,w'=w/\A.holds (·∉f++F) w f/\(∀ b∈f,b∉F/\w0.heap.size<=b)/\jT (·∉f++F) w I F):Sat w0 w (A::I):=by
 obtain ⟨hb,F,hn,hl,hs⟩:=h
 obtain ⟨_,_,h1,h2,h3⟩:=hnew F hs.lt hs
 refine⟨hb,f++F,?_,?_,f,F,rfl,h1,h3⟩
 ·rw[bJ]
  exact⟨hf,hn,fun a ha b hb e=>(h2 a ha).1 (e▸hb)⟩
 ·intro b hb
  rcases aP.1 hb with hb|hb
  ·exact(h2 b hb).2
  ·exact hl b hb
theorem Sat.addrd{w0 w:World}{I:List Atom}{V:Type}[cB V]{cs:List Value}{x:V}(h:Sat w0 w I)(hr:∀ F,jT (·∉F) w I F->cB.rd (·∉F) w cs x):Sat w0 w (.rd cs x::I):=by
 obtain ⟨hb,F,hn,hl,hs⟩:=h
 exact⟨hb,F,hn,hl,[],F,rfl,⟨rfl,hr F hs⟩,hs⟩
theorem Sat.alloc{w0 w:World}{I:List Atom}(h:Sat w0 w I)(cs:List Value)(e:TypeId):Sat w0 (w.alloc (.cells cs.toArray e)) (.bk w.heap.size cs::I):=by
 obtain ⟨hb,F,hn,hl,hs⟩:=h
 have hlt:=hs.lt
 refine⟨hb.alloc hb.size _,w.heap.size::F,?_,?_,[w.heap.size],F,rfl,⟨rfl,e,heap_alloc_new w _⟩,?_⟩
 ·exact List.nodup_cons.2 ⟨fun hm=>Nat.lt_irrefl _ (hlt _ hm),hn⟩
 ·intro b hb'
  rcases cH.1 hb' with rfl|hb'
  ·exact hb.size
  ·exact hl b hb'
 ·refine hs.mono (fun b hb hlt=>⟨?_,Below.heap_alloc _ _ _ hlt⟩) (by simp) (fun b hb=>Below.heap_alloc _ _ _ (hlt b hb))
  intro hm
  rcases cH.1 hm with rfl|hm
  ·exact Nat.lt_irrefl _ hlt
  ·exact hb hm
theorem Sat.store{w0 w:World}{I:List Atom}{b:Nat}{cs:List Value}(h:Sat w0 w (.bk b cs::I))(i:Nat)(v:Value):Sat w0 (w.setCell ⟨b,i,none⟩ v) (.bk b (cs.set i v)::I):=by
 obtain ⟨hb,F,hn,hl,f,g,rfl,⟨rfl,e,hc⟩,hs⟩:=h
 have hlt:b<w.heap.size:=(bL.1 hc).1
 have hg:b∉g:=by have:=hn;simp at this;exact this.1
 have hsame:∀ k,k≠b->gH w (w.setCell ⟨b,i,none⟩ v) k:=fun k hk=>Below.heap_setCell _ _ _ _ hk
 refine⟨hb.setCell (hl b (by simp)) v,[b]++g,hn,hl,[b],g,rfl,⟨rfl,e,?_⟩,?_⟩
 ·simp only[World.setCell,Array.getElem?_modify,if_true,hc,Option.map_some]
  simp
 ·refine hs.mono (fun k hk _=>⟨hk,hsame k (fun e=>hk (by simp [e]))⟩) (by simp) (fun k hk=>hsame k (fun e=>hg (e▸hk)))
theorem Sat.share{w0 w:World}{I:List Atom}{V:Type}[cB V]{cs:List Value}{x:V}(h:Sat w0 w (.ow cs x::I)):Sat w0 w (.rd cs x::I):=by
 obtain ⟨hb,F,hn,hl,f,g,rfl,h1,hs⟩:=h
 have hd:=(bJ.1 hn)
 refine⟨hb,g,hd.2.1,fun b hb=>hl b (by simp [hb]),[],g,rfl,⟨rfl,?_⟩,?_⟩
 ·have h1':cB.ow (·∉f++g) w f cs x:=h1
  exact cB.ow_rd h1' (fun b hb hg=>hb (by simp [hg])) (fun b hb hg=>hd.2.2 b hb b hg rfl)
 ·exact hs.mono (fun b hb _=>⟨fun hg=>hb (by simp [hg]),rfl⟩) (aM _) (fun _ _=>rfl)
class dZ(V:outParam Type)(i:outParam (cB V))(I:List Atom)(cs:List Value)(x:outParam V):Prop where
 get:∀ {ok w F},jT ok w I F->@cB.rd V i (fun _=>True) w cs x
abbrev bK(V:Type)[cB V](I:List Atom)(v:Value)(x:List V):Prop:=dZ (List V) bA I [v] x
class fK(V:outParam Type)(i:outParam (cB V))(I:List Atom)(cs:List Value)(x:outParam V):Prop where
 get:∀ {ok w F},jT ok w I F->@cB.rd V i ok w cs x
abbrev eK(V:Type)[cB V](I:List Atom)(v:Value)(x:List V):Prop:=fK (List V) bA I [v] x
class gD(I:List Atom)(b:Nat)(cs:outParam (List Value)):Prop where
 get:∀ {ok w F},jT ok w I F->∃ e,w.heap[b]?=some (.cells cs.toArray e (0,0))
class kW(I:List Atom)(p:Addr)(cs:outParam (List Value)):Prop where
 get:∀ {ok w F},jT ok w I F->aGu w p cs
section look
variable {V:Type} {i:cB V} {I:List Atom} {cs:List Value} {x:V}
instance (priority:=1100) dZ.rd:dZ V i (.rd cs x::I) cs x:=⟨fun ⟨_,_,_,h,_⟩=>cB.rd_mono h.2 (fun _ _ _=>⟨trivial,rfl⟩)⟩
instance (priority:=1090) dZ.ow:dZ V i (.ow cs x::I) cs x:=⟨fun ⟨_,_,_,h,_⟩=>cB.ow_rd (show cB.ow _ _ _ cs x from h) (fun _ _=>trivial) (fun _ _=>trivial)⟩
instance (priority:=1000) dZ.skip{A:Atom}[h:dZ V i I cs x]:dZ V i (A::I) cs x:=⟨fun ⟨_,_,_,_,h'⟩=>h.get h'⟩
instance (priority:=1100) fK.rd:fK V i (.rd cs x::I) cs x:=⟨fun ⟨_,_,_,h,_⟩=>h.2⟩
instance (priority:=1000) fK.skip{A:Atom}[h:fK V i I cs x]:fK V i (A::I) cs x:=⟨fun ⟨_,_,_,_,h'⟩=>h.get h'⟩
instance (priority:=500) dZ.im[h:fK V i I cs x]:dZ V i I cs x:=⟨fun h'=>cB.rd_mono (h.get h') (fun _ _ _=>⟨trivial,rfl⟩)⟩
end look
instance (priority:=1100) gD.here{I:List Atom}{b:Nat}{cs:List Value}:gD (.bk b cs::I) b cs:=⟨fun ⟨_,_,_,h,_⟩=>h.2⟩
instance (priority:=1000) gD.skip{I:List Atom}{b:Nat}{cs:List Value}{A:Atom}[h:gD I b cs]:gD (A::I) b cs:=⟨fun ⟨_,_,_,_,h'⟩=>h.get h'⟩
instance (priority:=1100) kW.here{I:List Atom}{p:Addr}{cs:List Value}:kW (.pt p cs::I) p cs:=⟨fun ⟨_,_,_,h,_⟩=>h.2.2.2⟩
instance (priority:=1000) kW.skip{I:List Atom}{p:Addr}{cs:List Value}{A:Atom}[h:kW I p cs]:kW (A::I) p cs:=⟨fun ⟨_,_,_,_,h'⟩=>h.get h'⟩
class aJ1(I:List Atom)(A:Atom)(Y:outParam (List Atom)):Prop where
 perm:I.Perm (A::Y)
instance (priority:=1100) aJ1.here{I:List Atom}{A:Atom}:aJ1 (A::I) A I:=⟨.refl _⟩
instance (priority:=1000) aJ1.skip{I Y:List Atom}{A B:Atom}[h:aJ1 I A Y]:aJ1 (B::I) A (B::Y):=⟨(h.perm.cons B).trans (.swap _ _ _)⟩
class cQ(V:outParam Type)(i:outParam (cB V))(I:List Atom)(cs:List Value)(x:outParam V)(Y:outParam (List Atom)):Prop where
 perm:I.Perm (@Atom.ow V i cs x::Y)
instance (priority:=1100) cQ.here{V:Type}{i:cB V}{I:List Atom}{cs:List Value}{x:V}:cQ V i (.ow cs x::I) cs x I:=⟨.refl _⟩
instance (priority:=1000) cQ.skip{V:Type}{i:cB V}{I Y:List Atom}{cs:List Value}{x:V}{B:Atom}[h:cQ V i I cs x Y]:cQ V i (B::I) cs x (B::Y):=⟨(h.perm.cons B).trans (.swap _ _ _)⟩
class eO(I:List Atom)(b:Nat)(cs:outParam (List Value))(Y:outParam (List Atom)):Prop where
 perm:I.Perm (.bk b cs::Y)
instance (priority:=1100) eO.here{I:List Atom}{b:Nat}{cs:List Value}:eO (.bk b cs::I) b cs I:=⟨.refl _⟩
instance (priority:=1000) eO.skip{I Y:List Atom}{b:Nat}{cs:List Value}{B:Atom}[h:eO I b cs Y]:eO (B::I) b cs (B::Y):=⟨(h.perm.cons B).trans (.swap _ _ _)⟩
class aA7(I:List Atom)(b:Nat)(cs:List Value)(Y:outParam (List Atom)):Prop where
 swap:∃ cs' Ε,I.Perm (.bk b cs'::Ε)/\(Atom.bk b cs::Ε).Perm Y
instance (priority:=1100) aA7.here{I:List Atom}{b:Nat}{cs cs':List Value}:aA7 (.bk b cs'::I) b cs (.bk b cs::I):=⟨cs',I,.refl _,.refl _⟩
instance (priority:=1000) aA7.skip{I Y:List Atom}{b:Nat}{cs:List Value}{B:Atom}[h:aA7 I b cs Y]:aA7 (B::I) b cs (B::Y):=by
 obtain ⟨cs',Ε,h1,h2⟩:=h.swap
 exact⟨cs',B::Ε,(h1.cons B).trans (.swap _ _ _),(List.Perm.swap _ _ _).trans (h2.cons B)⟩
class sR(I Y:List Atom):Prop where
 get:∃ Ε,I.Perm (Y++Ε)
instance (priority:=500) sR.skip{I Y:List Atom}{A:Atom}[h:sR I Y]:sR (A::I) Y:=by
 obtain ⟨Ε,hE⟩:=h.get
 exact⟨A::Ε,(hE.cons A).trans List.perm_middle.symm⟩
instance sR.nil{I:List Atom}:sR I []:=⟨⟨I,.refl _⟩⟩
instance sR.cons{I Γ' Y:List Atom}{A:Atom}[h:aJ1 I A Γ'][h':sR Γ' Y]:sR I (A::Y):=by
 obtain ⟨Ε,hE⟩:=h'.get
 exact⟨Ε,h.perm.trans (hE.cons A)⟩
instance (priority:=2000) sR.refl{I:List Atom}:sR I I:=⟨⟨[],by simp⟩⟩
theorem Sat.sub{w0 w:World}{I Y:List Atom}(h:Sat w0 w I)(hs:sR I Y):Sat w0 w Y:=by
 obtain ⟨Ε,hE⟩:=hs.get
 exact((h.perm hE).perm List.perm_append_comm).dropN
theorem Sat.rd{w0 w:World}{I:List Atom}{V:Type}{i:cB V}{cs:List Value}{x:V}(h:Sat w0 w I)[hr:dZ V i I cs x]:cB.rd (fun _=>True) w cs x:=by
 obtain ⟨_,F,_,_,hs⟩:=h
 exact hr.get hs
theorem Sat.bk{w0 w:World}{I:List Atom}{b:Nat}{cs:List Value}(h:Sat w0 w I)[hr:gD I b cs]:∃ e,w.heap[b]?=some (.cells cs.toArray e (0,0)):=by
 obtain ⟨_,F,_,_,hs⟩:=h
 exact hr.get hs
theorem Sat.pt{w0 w:World}{I:List Atom}{p:Addr}{cs:List Value}(h:Sat w0 w I)[hr:kW I p cs]:aGu w p cs:=by
 obtain ⟨_,F,_,_,hs⟩:=h
 exact hr.get hs
end Go.Eng
namespace Go.Eng
open Go Go.RowKit
def E(l:List Value):Act:=⟨l.toArray,[]⟩
theorem gO(l:List Value)(d:Nat)(v:Value):(E l).put (some d) v=E (l.set d v):=by simp [E,Act.put]
theorem nN(l:List Value)(v:Value):(E l).put none v=E l:=rfl
class Ge{V:Type}(l:List V)(n:Nat)(v:outParam V):Prop where
 eq:l[n]?=some v
class Se{V:Type}(l:List V)(n:Nat)(v:V)(l':outParam (List V)):Prop where
 eq:l.set n v=l'
instance {V:Type}{a0:V}{l:List V}:Ge (a0::l) 0 a0:=⟨rfl⟩
instance {V:Type}{a0 a1:V}{l:List V}:Ge (a0::a1::l) 1 a1:=⟨rfl⟩
instance {V:Type}{a0 a1 a2:V}{l:List V}:Ge (a0::a1::a2::l) 2 a2:=⟨rfl⟩
instance {V:Type}{a0 a1 a2 a3:V}{l:List V}:Ge (a0::a1::a2::a3::l) 3 a3:=⟨rfl⟩
instance {V:Type}{a0 a1 a2 a3 a4:V}{l:List V}:Ge (a0::a1::a2::a3::a4::l) 4 a4:=⟨rfl⟩
instance {V:Type}{a0 a1 a2 a3 a4 a5:V}{l:List V}:Ge (a0::a1::a2::a3::a4::a5::l) 5 a5:=⟨rfl⟩
instance {V:Type}{a0 a1 a2 a3 a4 a5 a6:V}{l:List V}:Ge (a0::a1::a2::a3::a4::a5::a6::l) 6 a6:=⟨rfl⟩
instance {V:Type}{a0 a1 a2 a3 a4 a5 a6 a7:V}{l:List V}:Ge (a0::a1::a2::a3::a4::a5::a6::a7::l) 7 a7:=⟨rfl⟩
instance {V:Type}{a0 a1 a2 a3 a4 a5 a6 a7 a8:V}{l:List V}:Ge (a0::a1::a2::a3::a4::a5::a6::a7::a8::l) 8 a8:=⟨rfl⟩
instance {V:Type}{a0 a1 a2 a3 a4 a5 a6 a7 a8 a9:V}{l:List V}:Ge (a0::a1::a2::a3::a4::a5::a6::a7::a8::a9::l) 9 a9:=⟨rfl⟩
instance {V:Type}{a0 a1 a2 a3 a4 a5 a6 a7 a8 a9 a10:V}{l:List V}:Ge (a0::a1::a2::a3::a4::a5::a6::a7::a8::a9::a10::l) 10 a10:=⟨rfl⟩
instance {V:Type}{a0 a1 a2 a3 a4 a5 a6 a7 a8 a9 a10 a11:V}{l:List V}:Ge (a0::a1::a2::a3::a4::a5::a6::a7::a8::a9::a10::a11::l) 11 a11:=⟨rfl⟩
instance {V:Type}{a0 a1 a2 a3 a4 a5 a6 a7 a8 a9 a10 a11 a12:V}{l:List V}:Ge (a0::a1::a2::a3::a4::a5::a6::a7::a8::a9::a10::a11::a12::l) 12 a12:=⟨rfl⟩
instance {V:Type}{a0 a1 a2 a3 a4 a5 a6 a7 a8 a9 a10 a11 a12 a13:V}{l:List V}:Ge (a0::a1::a2::a3::a4::a5::a6::a7::a8::a9::a10::a11::a12::a13::l) 13 a13:=⟨rfl⟩
instance {V:Type}{a0 a1 a2 a3 a4 a5 a6 a7 a8 a9 a10 a11 a12 a13 a14:V}{l:List V}:Ge (a0::a1::a2::a3::a4::a5::a6::a7::a8::a9::a10::a11::a12::a13::a14::l) 14 a14:=⟨rfl⟩
instance {V:Type}{a0 a1 a2 a3 a4 a5 a6 a7 a8 a9 a10 a11 a12 a13 a14 a15:V}{l:List V}:Ge (a0::a1::a2::a3::a4::a5::a6::a7::a8::a9::a10::a11::a12::a13::a14::a15::l) 15 a15:=⟨rfl⟩
instance {V:Type}{a0 a1 a2 a3 a4 a5 a6 a7 a8 a9 a10 a11 a12 a13 a14 a15 v:V}{l:List V}{n:Nat}[h:Ge l n v]:Ge (a0::a1::a2::a3::a4::a5::a6::a7::a8::a9::a10::a11::a12::a13::a14::a15::l) (n+16) v:=⟨h.eq⟩
instance {V:Type}{a0 v:V}{l:List V}:Se (a0::l) 0 v (v::l):=⟨rfl⟩
instance {V:Type}{a0 a1 v:V}{l:List V}:Se (a0::a1::l) 1 v (a0::v::l):=⟨rfl⟩
instance {V:Type}{a0 a1 a2 v:V}{l:List V}:Se (a0::a1::a2::l) 2 v (a0::a1::v::l):=⟨rfl⟩
instance {V:Type}{a0 a1 a2 a3 v:V}{l:List V}:Se (a0::a1::a2::a3::l) 3 v (a0::a1::a2::v::l):=⟨rfl⟩
instance {V:Type}{a0 a1 a2 a3 a4 v:V}{l:List V}:Se (a0::a1::a2::a3::a4::l) 4 v (a0::a1::a2::a3::v::l):=⟨rfl⟩
instance {V:Type}{a0 a1 a2 a3 a4 a5 v:V}{l:List V}:Se (a0::a1::a2::a3::a4::a5::l) 5 v (a0::a1::a2::a3::a4::v::l):=⟨rfl⟩
instance {V:Type}{a0 a1 a2 a3 a4 a5 a6 v:V}{l:List V}:Se (a0::a1::a2::a3::a4::a5::a6::l) 6 v (a0::a1::a2::a3::a4::a5::v::l):=⟨rfl⟩
instance {V:Type}{a0 a1 a2 a3 a4 a5 a6 a7 v:V}{l:List V}:Se (a0::a1::a2::a3::a4::a5::a6::a7::l) 7 v (a0::a1::a2::a3::a4::a5::a6::v::l):=⟨rfl⟩
instance {V:Type}{a0 a1 a2 a3 a4 a5 a6 a7 a8 v:V}{l:List V}:Se (a0::a1::a2::a3::a4::a5::a6::a7::a8::l) 8 v (a0::a1::a2::a3::a4::a5::a6::a7::v::l):=⟨rfl⟩
instance {V:Type}{a0 a1 a2 a3 a4 a5 a6 a7 a8 a9 v:V}{l:List V}:Se (a0::a1::a2::a3::a4::a5::a6::a7::a8::a9::l) 9 v (a0::a1::a2::a3::a4::a5::a6::a7::a8::v::l):=⟨rfl⟩
instance {V:Type}{a0 a1 a2 a3 a4 a5 a6 a7 a8 a9 a10 v:V}{l:List V}:Se (a0::a1::a2::a3::a4::a5::a6::a7::a8::a9::a10::l) 10 v (a0::a1::a2::a3::a4::a5::a6::a7::a8::a9::v::l):=⟨rfl⟩
instance {V:Type}{a0 a1 a2 a3 a4 a5 a6 a7 a8 a9 a10 a11 v:V}{l:List V}:Se (a0::a1::a2::a3::a4::a5::a6::a7::a8::a9::a10::a11::l) 11 v (a0::a1::a2::a3::a4::a5::a6::a7::a8::a9::a10::v::l):=⟨rfl⟩
instance {V:Type}{a0 a1 a2 a3 a4 a5 a6 a7 a8 a9 a10 a11 a12 v:V}{l:List V}:Se (a0::a1::a2::a3::a4::a5::a6::a7::a8::a9::a10::a11::a12::l) 12 v (a0::a1::a2::a3::a4::a5::a6::a7::a8::a9::a10::a11::v::l):=⟨rfl⟩
instance {V:Type}{a0 a1 a2 a3 a4 a5 a6 a7 a8 a9 a10 a11 a12 a13 v:V}{l:List V}:Se (a0::a1::a2::a3::a4::a5::a6::a7::a8::a9::a10::a11::a12::a13::l) 13 v (a0::a1::a2::a3::a4::a5::a6::a7::a8::a9::a10::a11::a12::v::l):=⟨rfl⟩
instance {V:Type}{a0 a1 a2 a3 a4 a5 a6 a7 a8 a9 a10 a11 a12 a13 a14 v:V}{l:List V}:Se (a0::a1::a2::a3::a4::a5::a6::a7::a8::a9::a10::a11::a12::a13::a14::l) 14 v (a0::a1::a2::a3::a4::a5::a6::a7::a8::a9::a10::a11::a12::a13::v::l):=⟨rfl⟩
instance {V:Type}{a0 a1 a2 a3 a4 a5 a6 a7 a8 a9 a10 a11 a12 a13 a14 a15 v:V}{l:List V}:Se (a0::a1::a2::a3::a4::a5::a6::a7::a8::a9::a10::a11::a12::a13::a14::a15::l) 15 v (a0::a1::a2::a3::a4::a5::a6::a7::a8::a9::a10::a11::a12::a13::a14::v::l):=⟨rfl⟩
instance {V:Type}{a0 a1 a2 a3 a4 a5 a6 a7 a8 a9 a10 a11 a12 a13 a14 a15 v:V}{l l':List V}{n:Nat}[h:Se l n v l']:Se (a0::a1::a2::a3::a4::a5::a6::a7::a8::a9::a10::a11::a12::a13::a14::a15::l) (n+16) v (a0::a1::a2::a3::a4::a5::a6::a7::a8::a9::a10::a11::a12::a13::a14::a15::l'):=⟨by have:=h.eq;simp only[List.set_cons_succ,this,Nat.add_succ,Nat.add_zero]⟩
class Tk{V:Type}(l:List V)(off k:Nat)(out:outParam (List V)):Prop where
 eq:(l.drop off).take k=out/\off+k<=l.length
instance {V:Type}{l:List V}:Tk l 0 0 []:=⟨by simp⟩
instance {V:Type}{a:V}{l out:List V}{k:Nat}[h:Tk l 0 k out]:Tk (a::l) 0 (k+1) (a::out):=⟨by have:=h.eq;simp at this ⊢;exact⟨this.1,this.2⟩⟩
instance {V:Type}{a:V}{l out:List V}{off k:Nat}[h:Tk l off k out]:Tk (a::l) (off+1) k out:=⟨by have:=h.eq;simp at this ⊢;exact⟨this.1,by omega⟩⟩
class Sp{V:Type}(l:List V)(off:Nat)(new:List V)(out:outParam (List V)):Prop where
 eq:out=l.take off++new++l.drop (off+new.length)/\off+new.length<=l.length
instance {V:Type}{l:List V}:Sp l 0 [] l:=⟨by simp⟩
instance {V:Type}{a b:V}{l new out:List V}[h:Sp l 0 new out]:Sp (a::l) 0 (b::new) (b::out):=⟨by have:=h.eq;simp at this ⊢;exact⟨this.1,this.2⟩⟩
instance {V:Type}{a:V}{l new out:List V}{off:Nat}[h:Sp l off new out]:Sp (a::l) (off+1) new (a::out):=⟨by have:=h.eq;simp [Nat.succ_add] at this ⊢;exact⟨this.1,by omega⟩⟩
class Ev(l:List Value)(x:Operand)(v:outParam Value):Prop where
 eq:(E l).eval x=v
instance {l:List Value}{v:Value}:Ev l (.const v) v:=⟨rfl⟩
instance {l:List Value}{n:Nat}{v:Value}[h:Ge l n v]:Ev l (.tmp n) v:=⟨by simp [E,Act.eval,h.eq]⟩
class EvL(l:List Value)(xs:List Operand)(vs:outParam (List Value)):Prop where
 eq:xs.map (E l).eval=vs
instance {l:List Value}:EvL l [] []:=⟨rfl⟩
instance {l:List Value}{x:Operand}{xs:List Operand}{v:Value}{vs:List Value}[h:Ev l x v][h':EvL l xs vs]:EvL l (x::xs) (v::vs):=⟨by simp [h.eq,h'.eq]⟩
def WL(P:Program)(ops:Array Oper)(Q:Exit->Act->World->Prop)(w0:World)(rest:List Oper)(l:List Value)(I:List Atom):Prop:=
 ∀ w,Sat w0 w I->wpList P ops Q rest (E l) w
def WC(P:Program)(Q:Exit->Act->World->Prop)(w0:World)(c:Code)(l:List Value)(I:List Atom):Prop:=
 ∀ w,Sat w0 w I->c.wp P Q (E l) w
def WQ(Q:Exit->Act->World->Prop)(w0:World)(e:Exit)(l:List Value)(I:List Atom):Prop:=
 ∀ w,Sat w0 w I->Q e (E l) w
section control
variable {P:Program} {ops:Array Oper} {Q:Exit->Act->World->Prop} {w0:World} {rest:List Oper} {l l':List Value} {I Y:List Atom} {x y:Code} {next:Act->World->Prop}
theorem bJw(h:WC P (Exit.then (y.wp P Q) Q) w0 x l I):WC P Q w0 (.seq x y) l I:=fun w hs=>wp_seq (h w hs)
theorem bBd(h:WQ Q w0 .normal l I):WC P Q w0 .skip l I:=fun w hs=>wp_skip (h w hs)
theorem bJh(h:WQ Q w0 .ret l I):WC P Q w0 .ret l I:=fun w hs=>wp_ret (h w hs)
theorem bEj{id:Nat}(h:WQ Q w0 (.exit id) l I):WC P Q w0 (.exit id) l I:=fun w hs=>wp_exit (h w hs)
theorem aVy{id:Nat}(h:WC P (Exit.inBlock id Q) w0 x l I):WC P Q w0 (.block id x) l I:=fun w hs=>wp_block (h w hs)
theorem aTo{id:Nat}{ol:List Oper}(h:WL P ol.toArray Q w0 ol l I):WC P Q w0 (.region id ol.toArray false) l I:=fun w hs=>wp_region_lit (h w hs)
theorem bDt{c:Operand}{b:Bool}[hc:Ev l c (.bool b)](ht:b=true->WC P Q w0 x l I)(hf:b=false->WC P Q w0 y l I):WC P Q w0 (.cond c x y) l I:=
 fun w hs=>wp_cond_split hc.eq (fun h=>ht h w hs) (fun h=>hf h w hs)
theorem aSn{c:Operand}[hc:Ev l c (.bool true)](h:WC P Q w0 x l I):WC P Q w0 (.cond c x y) l I:=fun w hs=>wp_cond_true hc.eq (h w hs)
theorem aRg{c:Operand}[hc:Ev l c (.bool false)](h:WC P Q w0 y l I):WC P Q w0 (.cond c x y) l I:=fun w hs=>wp_cond_false hc.eq (h w hs)
theorem bKg(h:WQ Q w0 .normal l I):WL P ops Q w0 [] l I:=fun w hs=>wpList_nil (h w hs)
theorem aQ4(h:WC P Q w0 y l I):WQ (Exit.then (y.wp P Q) Q) w0 .normal l I:=fun w hs=>h w hs
theorem aTz(h:WQ Q w0 .ret l I):WQ (Exit.then next Q) w0 .ret l I:=fun w hs=>h w hs
theorem aRb{id:Nat}(h:WQ Q w0 (.exit id) l I):WQ (Exit.then next Q) w0 (.exit id) l I:=fun w hs=>h w hs
theorem aV8{id:Nat}(h:WQ Q w0 .normal l I):WQ (Exit.inBlock id Q) w0 .normal l I:=fun w hs=>h w hs
theorem aVn{id:Nat}(h:WQ Q w0 .ret l I):WQ (Exit.inBlock id Q) w0 .ret l I:=fun w hs=>h w hs
theorem aWt{id:Nat}(h:WQ Q w0 .normal l I):WQ (Exit.inBlock id Q) w0 (.exit id) l I:=fun w hs=>by simpa [Exit.inBlock] using h w hs
theorem qY{id id':Nat}(hn:(id'==id)=false)(h:WQ Q w0 (.exit id') l I):WQ (Exit.inBlock id Q) w0 (.exit id') l I:=fun w hs=>by
 have:id'≠id:=by simpa using hn
 simpa [Exit.inBlock,this] using h w hs
theorem bKu{d:Nat}{v:Value}[hs:Se l d v l'](h:WL P ops Q w0 rest l' I):WL P ops Q w0 rest (l.set d v) I:=hs.eq▸h
def Pu(P:Program)(w0:World)(l:List Value)(I:List Atom)(op:Op)(ty:TypeId)(v:Value):Prop:=
 ∀ w,Sat w0 w I->∀ o:Oper,o.op=op->o.type=ty->(execOp (E l).eval o).run P w=.ok (.value v) w
variable {op:Op} {ty:TypeId} {v:Value} {pos:String} {after:Array Edge} {d:Nat} {g:Option (Nat×Bool)}
theorem vM(hy:Pu P w0 l I op ty v)[hd:Se l d v l'](h:WL P ops Q w0 rest l' I):WL P ops Q w0 (⟨some d,op,ty,pos,after,none⟩::rest) l I:=by
 intro w hs
 refine wpList_plain rfl fun K hK=>?_
 unfold Oper.wp
 rw[hy w hs _ rfl rfl,Oper.upon_value,gO,hd.eq]
 exact hK _ _ (h w hs)
theorem bK5{j dj:Nat}{oj:Oper}{b:Bool}{dst:Option Tmp}(hj:ops[j]?=some oj)(hdj:oj.dst=some dj)[hb:Ge l dj (.bool b)]
  (h:WL P ops Q w0 (⟨dst,op,ty,pos,after,none⟩::rest) l I):WL P ops Q w0 (⟨dst,op,ty,pos,after,some (j,b)⟩::rest) l I:=by
 intro w hs
 have h:=h w hs
 have hy:yielded ops (E l).tmps j=some b:=by simp [yielded,hj,hdj,E,hb.eq]
 simp only[wpList,Region.wanted,hy,beq_self_eq_true,if_true] at h ⊢
 exact h
theorem bEl{j dj:Nat}{oj:Oper}{b b':Bool}{d:Nat}(hj:ops[j]?=some oj)(hdj:oj.dst=some dj)[hb:Ge l dj (.bool b')](hne:(b'==b)=false)[hd:Se l d undef l']
  (h:WL P ops Q w0 rest l' I):WL P ops Q w0 (⟨some d,op,ty,pos,after,some (j,b)⟩::rest) l I:=by
 intro w hs
 have hy:yielded ops (E l).tmps j=some b':=by simp [yielded,hj,hdj,E,hb.eq]
 have hw:Region.wanted (⟨some d,op,ty,pos,after,some (j,b)⟩:Oper) (yielded ops (E l).tmps)=false:=by
  simp only[Region.wanted,hy];simpa using hne
 simp only[wpList,hw,dB,if_false]
 rw[gO,hd.eq]
 exact h w hs
theorem aXo{j dj:Nat}{oj:Oper}{b:Bool}{d:Nat}(hj:ops[j]?=some oj)(hdj:oj.dst=some dj)[hb:Ge l dj undef][hd:Se l d undef l']
  (h:WL P ops Q w0 rest l' I):WL P ops Q w0 (⟨some d,op,ty,pos,after,some (j,b)⟩::rest) l I:=by
 intro w hs
 have hw:Region.wanted (⟨some d,op,ty,pos,after,some (j,b)⟩:Oper) (yielded ops (E l).tmps)=false:=by
  simp [Region.wanted,yielded,hj,hdj,E,hb.eq,undef]
 simp only[wpList,hw,dB,if_false]
 rw[gO,hd.eq]
 exact h w hs
class Dst(o:Oper)(d:outParam Nat):Prop where
 eq:o.dst=some d
instance {d:Nat}:Dst ⟨some d,op,ty,pos,after,g⟩ d:=⟨rfl⟩
class EqB(v:Value)(b:Bool):Prop where
 eq:v=.bool b
instance:EqB (.bool true) true:=⟨rfl⟩
instance:EqB (.bool false) false:=⟨rfl⟩
class NeB(v:Value)(b:Bool):Prop where
 ne:v=undef∨∃ b',v=.bool b'/\(b'==b)=false
instance:NeB (.bool true) false:=⟨.inr ⟨true,rfl,rfl⟩⟩
instance:NeB (.bool false) true:=⟨.inr ⟨false,rfl,rfl⟩⟩
instance {b:Bool}:NeB undef b:=⟨.inl rfl⟩
class IsB(v:Value)(b:outParam Bool):Prop where
 eq:v=.bool b
instance {b:Bool}:IsB (.bool b) b:=⟨rfl⟩
theorem bN1{ol:List Oper}{j dj:Nat}{oj:Oper}{b:Bool}{dst:Option Tmp}[hj:Ge ol j oj][hdj:Dst oj dj][hb:Ge l dj v][he:EqB v b]
  (h:WL P ol.toArray Q w0 (⟨dst,op,ty,pos,after,none⟩::rest) l I):WL P ol.toArray Q w0 (⟨dst,op,ty,pos,after,some (j,b)⟩::rest) l I:=by
 have:=he.eq
 subst this
 exact bK5 (by simpa using hj.eq) hdj.eq h
theorem bJk{ol:List Oper}{j dj:Nat}{oj:Oper}{b:Bool}{d:Nat}[hj:Ge ol j oj][hdj:Dst oj dj][hb:Ge l dj v][he:NeB v b][hd:Se l d undef l']
  (h:WL P ol.toArray Q w0 rest l' I):WL P ol.toArray Q w0 (⟨some d,op,ty,pos,after,some (j,b)⟩::rest) l I:=by
 rcases he.ne with rfl|⟨b',rfl,hne⟩
 ·exact aXo (by simpa using hj.eq) hdj.eq h
 ·exact bEl (by simpa using hj.eq) hdj.eq hne h
theorem aIh{dj:Nat}{v:Value}(hb:l[dj]?=some v):l.set dj v=l:=by
 apply List.ext_getElem?
 intro i
 rw[List.getElem?_set]
 split
 ·rename_i h;subst h;split
  ·exact hb.symm
  ·rename_i h3;rw[dA (by omega)] at hb;cases hb
 ·rfl
theorem aZ0{ol:List Oper}{j dj:Nat}{oj:Oper}{b b':Bool}{dst:Option Tmp}{lt lf:List Value}[hj:Ge ol j oj][hdj:Dst oj dj][hb:Ge l dj v][he:IsB v b'][h1:Se l dj (.bool true) lt][h2:Se l dj (.bool false) lf]
  (ht:b'=true->WL P ol.toArray Q w0 (⟨dst,op,ty,pos,after,some (j,b)⟩::rest) lt I) (hf:b'=false->WL P ol.toArray Q w0 (⟨dst,op,ty,pos,after,some (j,b)⟩::rest) lf I) :
  WL P ol.toArray Q w0 (⟨dst,op,ty,pos,after,some (j,b)⟩::rest) l I:=by
 have hv:=he.eq
 have hbe:=hb.eq
 cases hb':b'
 ·have:=aIh (hv▸hbe);rw[hb',h2.eq] at this;exact this▸hf hb'
 ·have:=aIh (hv▸hbe);rw[hb',h1.eq] at this;exact this▸ht hb'
end control
end Go.Eng
namespace Go.Eng
open Go Go.RowKit
class Sc(P:Program)(T:TypeId):Prop where
 agg:∀ w,(isAgg T).run P w=.ok false w
 size:∀ w,(sizeOf T).run P w=.ok 1 w
class Ag(P:Program)(T:TypeId)(k:outParam Nat):Prop where
 agg:∀ w,(isAgg T).run P w=.ok true w
 size:∀ w,(sizeOf T).run P w=.ok k w
class Sz(P:Program)(T:TypeId)(k:outParam Nat):Prop where
 size:∀ w,(sizeOf T).run P w=.ok k w
instance {P:Program}{T:TypeId}[h:Sc P T]:Sz P T 1:=⟨h.size⟩
instance {P:Program}{T k:Nat}[h:Ag P T k]:Sz P T k:=⟨h.size⟩
class Zr(P:Program)(T:TypeId)(zs:outParam (List Value)):Prop where
 zero:∃ z,(∀ w,(zeroValue T).run P w=.ok z w)/\z.cells=zs.toArray
class Fo(P:Program)(T:TypeId)(i:Nat)(k:outParam Nat):Prop where
 run:∀ w a,(Instr.fieldAt T (.pointer (some a)) i).run P w=.ok (.pointer (some (a.add k))) w
class Sl(P:Program)(T:TypeId)(k:outParam Nat)(by_:outParam Nat):Prop where
 ex:∃ e i z,P.underlying T=some (.slice e)/\P.info? e=some i/\i.size=k/\i.bytes=by_/\i.zero=some z/\z.cells.size=k/\0<by_
class SlZ(P:Program)(T:TypeId)(zs:outParam (List Value)):Prop where
 eq:∀ {e i z},P.underlying T=some (.slice e)->P.info? e=some i->i.zero=some z->z.cells=zs.toArray
class kX(P:Program)(T:TypeId):Prop where
 eq:P.underlying T=some .string
class bS(P:Program)(f:FuncId):Prop where
 run:∀ args w,(callFunc f args).run P w=.ok (.enter f args) w
theorem bFr{P:Program}{f:FuncId}{fn:Func}(hf:P.funcs[f]?=some fn)(hn:(fn.name == "runtime.NumGoroutine")=false)(hb:fn.body.isNone=false):bS P f:=
 ⟨fun args w=>by
  have hn':¬ fn.name= "runtime.NumGoroutine":=by simpa using hn
  have hb':¬ fn.body=none:=by intro h;simp [h] at hb
  simp [callFunc,program,hf,hn',hb',Sem.run,Bind.bind,Sem.bind,Pure.pure]⟩
theorem dN{P:Program}{f:FuncId}{fn:Func}(hf:P.funcs[f]?=some fn)(hn:(fn.name == "runtime.NumGoroutine")=false:=by kernel_rfl)(hb:fn.body.isNone=false:=by rfl):bS P f:=bFr hf hn hb
class oS(a b:Nat)(c:outParam Nat):Prop where
 eq:a+b=c
instance (priority:=1100) {k:Nat}:oS 0 k k:=⟨cR k⟩
instance (priority:=1050) {k:Nat}:oS k 0 k:=⟨rfl⟩
instance:oS 1 1 2:=⟨rfl⟩
instance:oS 1 2 3:=⟨rfl⟩
instance:oS 1 3 4:=⟨rfl⟩
instance:oS 1 4 5:=⟨rfl⟩
instance:oS 1 5 6:=⟨rfl⟩
theorem fB(b off k:Nat):(⟨b,off,none⟩:Addr).add k=⟨b,off+k,none⟩:=by unfold Addr.add;split<;>simp_all
section pure_ops
variable {P:Program} {w0:World} {l:List Value} {I:List Atom} {ty:TypeId} {v:Value}
theorem bFb{x:Operand}[h:Ev l x v]:Pu P w0 l I (.move x) ty v:=fun w _ o ho _=>by
 unfold execOp;rw[ho];simp only[h.eq];rfl
theorem aQu{x:Operand}[h:Ev l x v]:Pu P w0 l I (.assign x) ty v:=fun w _ o ho _=>by
 unfold execOp;rw[ho];simp only[h.eq];rfl
theorem aTi{c a b:Operand}[h:Ev l c (.bool true)][ha:Ev l a v]:Pu P w0 l I (.pick c a b) ty v:=fun w _ o ho _=>by
 unfold execOp;rw[ho];simp only[h.eq,ha.eq];rfl
theorem aTs{c a b:Operand}[h:Ev l c (.bool false)][ha:Ev l b v]:Pu P w0 l I (.pick c a b) ty v:=fun w _ o ho _=>by
 unfold execOp;rw[ho];simp only[h.eq,ha.eq];rfl
theorem fW{V β:Type}{P:Program}{s:Sem V}{w w':World}{a:V}{f:V->β}(h:s.run P w=.ok a w'):(do pure (f (← s)):Sem β).run P w=.ok (f a) w':=by
 simp only[Sem.run_bind,h,Result.andThen_ok,Sem.run_pure]
theorem fT{op:Op}{s:Sem Value}(he:∀ o:Oper,o.op=op->o.type=ty->execOp (E l).eval o=(do pure (.value (← s)):Sem Next))(hr:∀ w,Sat w0 w I->s.run P w=.ok v w):Pu P w0 l I op ty v:=
 fun w hs o h1 h2=>by rw[he o h1 h2];exact fW (hr w hs)
theorem aSa{T:TypeId}{x:Operand}{b:Bool}[h:Ev l x (.bool b)]:Pu P w0 l I (.unOp .not T x) ty (.bool (!b)):=
 fT (s:=Op.unary .not (.bool b)) (fun o ho _=>by unfold execOp;rw[ho];simp only[h.eq]) (fun w _=>rfl)
theorem aRp{T:TypeId}{x:Operand}{n:Int}[h:Ev l x (.int .i64 n)](hn:-9223372036854775808<n/\n<=9223372036854775807):Pu P w0 l I (.unOp .neg T x) ty (.int .i64 (-n)):=
 fT (s:=Op.unary .neg (.int .i64 n)) (fun o ho _=>by unfold execOp;rw[ho];simp only[h.eq]) (fun w _=>by
  show Result.ok (Value.int .i64 (IntKind.i64.wrap (0-n))) w=_
  rw[IntWalk.i64_in _ (by omega)];simp)
theorem vY{T:TypeId}{x:Operand}{i k:Nat}{a:Addr}[h:Ev l x (.pointer (some a))][hf:Fo P T i k]:Pu P w0 l I (.fieldAddr T x i) ty (.pointer (some (a.add k))):=
 fT (s:=Instr.fieldAt T (.pointer (some a)) i) (fun o ho _=>by unfold execOp;rw[ho];simp only[h.eq]) (fun w _=>hf.run w a)
theorem aBl{T:TypeId}{x:Operand}{i k b off s:Nat}[h:Ev l x (.pointer (some ⟨b,off,none⟩))][hf:Fo P T i k][hs:oS off k s]:Pu P w0 l I (.fieldAddr T x i) ty (.pointer (some ⟨b,s,none⟩)):=by
 have:=vY (P:=P) (w0:=w0) (l:=l) (I:=I) (ty:=ty) (T:=T) (x:=x) (i:=i) (k:=k) (a:=⟨b,off,none⟩)
 rw[fB,hs.eq] at this
 exact this
theorem aKm{x:Operand}{a:Addr}[h:Ev l x (.pointer (some a))]:Pu P w0 l I (.nilCheck x) ty (.pointer (some a)):=fun w _ o ho _=>by
 unfold execOp;rw[ho];simp only[h.eq];rfl
theorem aMl{x:Operand}{i:Nat}{vs:List Value}[h:Ev l x (.tuple vs.toArray)][hi:Ge vs i v]:Pu P w0 l I (.extract x i) ty v:=
 fT (s:=Instr.extract (.tuple vs.toArray) i) (fun o ho _=>by unfold execOp;rw[ho];simp only[h.eq]) (fun w _=>by simp [Instr.extract,hi.eq])
theorem bLj{x:Operand}{T k b:Nat}{sv:Value}{V:Type}{i:cB V}{xs:List V}[h:Ev l x sv][ht:Sl P T k b][hr:dZ (List V) bA I [sv] xs] :
  Pu P w0 l I (.call { callee:=.builtin .len,args:=#[x],argTypes:=#[T] }) ty (.int .i64 xs.length):=by
 obtain ⟨e,i,z,ht,_⟩:=ht.ex
 refine fT (s:=Builtin.len_ #[T] ty #[sv]) (fun o ho h2=>?_) (fun w hs=>?_)
 ·unfold execOp
  rw[ho]
  simp [resolve,invoke,builtin,h.eq,h2,Pure.pure,Bind.bind,Sem.bind]
 ·obtain ⟨a,cap,hc,_⟩:=hs.rd (hr:=hr)
  simp only[bR,and_true] at hc
  subst hc
  simp [Builtin.len_,run_underlying ht,goInt]
theorem aNr{x:Operand}{T:Nat}{s:ByteArray}[h:Ev l x (.string s)][ht:kX P T] :
  Pu P w0 l I (.call { callee:=.builtin .len,args:=#[x],argTypes:=#[T] }) ty (.int .i64 s.size):=by
 refine fT (s:=Builtin.len_ #[T] ty #[.string s]) (fun o ho h2=>?_) (fun w hs=>?_)
 ·unfold execOp
  rw[ho]
  simp [resolve,invoke,builtin,h.eq,h2,Pure.pure,Bind.bind,Sem.bind]
 ·simp [Builtin.len_,run_underlying ht.eq,goInt]
theorem fZ{op:BinOp}{T U:TypeId}{x y:Operand}{a b:Value}[hx:Ev l x a][hy:Ev l y b](hg:∀ w,(eqGuard op T x y a b).run P w=.ok () w)(hr:∀ w,(binOp op T a b).run P w=.ok v w) :
  Pu P w0 l I (.binOp op T x y U) ty v:=
 fT (s:=do eqGuard op T x y a b;binOp op T a b) (fun o ho _=>by unfold execOp;rw[ho];simp only[hx.eq,hy.eq]) (fun w _=>by
  simp only[Sem.run_bind,hg,Result.andThen_ok,hr])
theorem eR{op:BinOp}{T:TypeId}{x y:Operand}{k k':IntKind}{a b:Int}(w:World):(eqGuard op T x y (.int k a) (.int k' b)).run P w=.ok () w:=by
 unfold eqGuard;split<;>rfl
theorem aFd{op:BinOp}{T:TypeId}{x y:Operand}{a b:Bool}(w:World):(eqGuard op T x y (.bool a) (.bool b)).run P w=.ok () w:=by
 unfold eqGuard;split<;>rfl
theorem qU{op:BinOp}{T:TypeId}{x y:Operand}{a b:ByteArray}(w:World):(eqGuard op T x y (.string a) (.string b)).run P w=.ok () w:=by
 unfold eqGuard;split<;>rfl
section ints
variable {T U:TypeId} {x y:Operand} {a b:Int} {k:IntKind}
theorem bL1[hx:Ev l x (.int k a)][hy:Ev l y (.int k b)]:Pu P w0 l I (.binOp .lss T x y U) ty (.bool (decide (a<b))):=
 fZ eR (fun w=>by simp [binOp,Op.intCmp])
theorem bK7[hx:Ev l x (.int k a)][hy:Ev l y (.int k b)]:Pu P w0 l I (.binOp .leq T x y U) ty (.bool (decide (a<=b))):=
 fZ eR (fun w=>by simp [binOp,Op.intCmp])
theorem bJd[hx:Ev l x (.int k a)][hy:Ev l y (.int k b)]:Pu P w0 l I (.binOp .gtr T x y U) ty (.bool (decide (b<a))):=
 fZ eR (fun w=>by simp [binOp,Op.intCmp])
theorem bJl[hx:Ev l x (.int k a)][hy:Ev l y (.int k b)]:Pu P w0 l I (.binOp .geq T x y U) ty (.bool (decide (b<=a))):=
 fZ eR (fun w=>by simp [binOp,Op.intCmp])
theorem bI9[hx:Ev l x (.int k a)][hy:Ev l y (.int k b)]:Pu P w0 l I (.binOp .eql T x y U) ty (.bool (decide (a=b))):=
 fZ eR (fun w=>by simp [binOp,Op.intCmp];rfl)
theorem bJ1[hx:Ev l x (.int k a)][hy:Ev l y (.int k b)]:Pu P w0 l I (.binOp .neq T x y U) ty (.bool (decide (a≠b))):=
 fZ eR (fun w=>by simp [binOp,Op.intCmp,bne];by_cases h:a=b<;>simp [h])
theorem bKx[hx:Ev l x (.int .i64 a)][hy:Ev l y (.int .i64 b)](h:-9223372036854775808<=a+b/\a+b<=9223372036854775807):Pu P w0 l I (.binOp .add T x y U) ty (.int .i64 (a+b)):=
 fZ eR (fun w=>by simp only[binOp,Op.intArith,ne_eq,not_true_eq_false,if_false];rw[IntWalk.i64_in _ (by omega)];rfl)
theorem bJf[hx:Ev l x (.int .i64 a)][hy:Ev l y (.int .i64 b)](h:-9223372036854775808<=a-b/\a-b<=9223372036854775807):Pu P w0 l I (.binOp .sub T x y U) ty (.int .i64 (a-b)):=
 fZ eR (fun w=>by simp only[binOp,Op.intArith,ne_eq,not_true_eq_false,if_false];rw[IntWalk.i64_in _ (by omega)];rfl)
theorem bJ5[hx:Ev l x (.int .i64 a)][hy:Ev l y (.int .i64 b)](h:-9223372036854775808<=a*b/\a*b<=9223372036854775807):Pu P w0 l I (.binOp .mul T x y U) ty (.int .i64 (a*b)):=
 fZ eR (fun w=>by simp only[binOp,Op.intArith,ne_eq,not_true_eq_false,if_false];rw[IntWalk.i64_in _ (by omega)];rfl)
end ints
section bools
variable {T U:TypeId} {x y:Operand} {a b:Bool}
class aAg(P:Program)(T:TypeId):Prop where
 eq:P.underlying T=some .bool
theorem xU[hT:aAg P T](d:Nat)(w:World):(Op.equalIn (d+1) T (.bool a) (.bool b)).run P w=.ok (a==b) w:=by
 simp only[Op.equalIn,Sem.run_bind,run_underlying hT.eq,Result.andThen_ok,Sem.run_pure]
theorem aBf[hT:aAg P T](w:World):(Op.equal T (.bool a) (.bool b)).run P w=.ok (a==b) w:=xU 9999 w
theorem aVp[hx:Ev l x (.bool a)][hy:Ev l y (.bool b)][hT:aAg P T]:Pu P w0 l I (.binOp .eql T x y U) ty (.bool (a==b)):=
 fZ aFd (fun w=>fW (f:=Value.bool) (aBf w))
end bools
theorem aA8(a b:ByteArray):(a.toList==b.toList)=decide (a=b):=by
 rw[ByteArray.toList_eq,ByteArray.toList_eq]
 by_cases h:a=b
 ·subst h;simp
 ·have:¬ a.data.toList=b.data.toList:=fun e=>h (by
   cases a;cases b;simp at e;exact congrArg ByteArray.mk e)
  simp only[h,decide_false]
  exact beq_false_of_ne this
section strs
variable {T U:TypeId} {x y:Operand} {a b:ByteArray}
theorem aYy[hx:Ev l x (.string a)][hy:Ev l y (.string b)]:Pu P w0 l I (.binOp .eql T x y U) ty (.bool (decide (a=b))):=
 fZ qU (fun w=>by simp only[binOp,Op.stringOp];rw[aA8];rfl)
theorem aZ9[hx:Ev l x (.string a)][hy:Ev l y (.string b)]:Pu P w0 l I (.binOp .neq T x y U) ty (.bool (decide (a≠b))):=
 fZ qU (fun w=>by simp only[binOp,Op.stringOp];rw[aA8];simp)
end strs
class aM6(P:Program)(T:TypeId):Prop where
 eq:P.underlying T=some (.int .i64)
theorem bBp{T:TypeId}{x:Operand}{b off:Nat}{cs:List Value}[h:Ev l x (.pointer (some ⟨b,off,none⟩))][hT:Sc P T][hb:gD I b cs][hv:Ge cs off v]:Pu P w0 l I (.load T x) ty v:=
 fT (s:=Instr.loadAt T (.pointer (some ⟨b,off,none⟩))) (fun o ho _=>by unfold execOp;rw[ho];simp only[h.eq]) (fun w hs=>by
  obtain ⟨e,he⟩:=hs.bk (hr:=hb)
  have hc:w.cell? ⟨b,off,none⟩=some v:=by simp [World.cell?,he,hv.eq]
  simp [Instr.loadAt,Instr.sureAddr,loadVar,Sem.run_bind,hT.agg,load,Sem.run,hc])
theorem lY{P:Program}{w:World}{p:Addr}:∀ {cs:List Value} (i:Nat) (acc:Array Value),(∀ j,j<cs.length->w.cell? (p.add (i+j))=cs[j]?)->(loadCellsFrom p i cs.length acc).run P w=.ok (acc++cs.toArray) w
 | [],i,acc,_=>by simp [loadCellsFrom]
 | c::cs,i,acc,h=>by
  have h0:=h 0 (by simp)
  simp only[Nat.add_zero,dO] at h0
  simp only[aF,loadCellsFrom,Sem.run_bind,load,Sem.run,h0,Result.andThen_ok]
  rw[lY (i+1) (acc.push c) (fun j hj=>by have:=h (j+1) (by simpa using hj);rw[show i+1+j=i+(j+1) by omega];simpa using this)]
  simp
theorem aKz{T:TypeId}{x:Operand}{b off k:Nat}{cs out:List Value}[h:Ev l x (.pointer (some ⟨b,off,none⟩))][hT:Ag P T k][hb:gD I b cs][hv:Tk cs off k out]:Pu P w0 l I (.load T x) ty (.agg out.toArray):=
 fT (s:=Instr.loadAt T (.pointer (some ⟨b,off,none⟩))) (fun o ho _=>by unfold execOp;rw[ho];simp only[h.eq]) (fun w hs=>by
  obtain ⟨e,he⟩:=hs.bk (hr:=hb)
  obtain ⟨h1,h2⟩:=hv.eq
  have hk:out.length=k:=by rw[← h1];simp;omega
  have hc:=lY (P:=P) (w:=w) (p:=⟨b,off,none⟩) (cs:=out) 0 #[] (fun j hj=>by
   rw[fB,cR]
   have:out[j]?=cs[off+j]?:=by rw[← h1,cU,if_pos (by omega),List.getElem?_drop]
   simp [World.cell?,he,this])
  rw[hk] at hc
  simp only[Instr.loadAt,Instr.sureAddr,loadVar,Sem.run_bind,Sem.run_pure,Result.andThen_ok,hT.agg,if_true,hT.size,loadCells,hc]
  simp)
def dW(v:Value)(n:Int)(k:Nat):Addr:=
 match v with
 | .slice (some a) _ _=>a.add (n.toNat*k)
 | _=>⟨0,0,none⟩
theorem gV{V:Type}[cB V]{ok:Nat->Prop}{w:World}{sv:Value}{xs:List V}(h:cB.rd ok w [sv] xs){n:Int}(h0:0<=n)(h1:n<xs.length) :
  ∃ a cap b off p c s,sv=.slice (some ⟨b,off,none⟩) xs.length cap/\a=(⟨b,off,none⟩:Addr)/\ok b/\gM w b off (p++c++s)/\p.length=n.toNat*cB.sz V/\dW sv n (cB.sz V)=⟨b,off+p.length,none⟩/\
   cB.rd ok w c (xs[n.toNat]'(by omega)):=by
 obtain ⟨a,cap,hc,_,_,_,h2⟩:=h
 simp only[bR,and_true] at hc
 obtain ⟨b,off,cells,rfl,hb,hca,hr⟩:=h2 (by omega)
 obtain ⟨p,c,s,e,hp,hc'⟩:=hr.get n.toNat (by omega)
 subst hc
 refine⟨_,cap,b,off,p,c,s,rfl,rfl,hb,e▸hca,hp,?_,hc'⟩
 simp only[dW,fB,hp]
theorem qZ{T k by_:Nat}{x y:Operand}{sv:Value}{n:Int}{V:Type}{i:cB V}{xs:List V}{kk:IntKind}[h:Ev l x sv][hn:Ev l y (.int kk n)][hT:Sl P T k by_][hr:dZ (List V) bA I [sv] xs]
  (hi:0<=n/\n<xs.length):Pu P w0 l I (.indexAddr T x y) ty (.pointer (some (dW sv n k))):=by
 obtain ⟨e,inf,z,ht,hinf,hk,_⟩:=hT.ex
 refine fT (s:=Instr.indexAt T sv (.int kk n)) (fun o ho _=>by unfold execOp;rw[ho];simp only[h.eq,hn.eq]) (fun w hs=>?_)
 obtain ⟨a,cap,b,off,p,c,s,rfl,_,_,_,_,_,_⟩:=gV (hs.rd (hr:=hr)) hi.1 hi.2
 simp [Instr.indexAt,asIntOf,run_underlying ht,sizeOf,typeInfo,hinf,hk,hi.1,hi.2,dW]
theorem rO{T:TypeId}{x:Operand}{sv:Value}{n:Int}{xs:List Int}[h:Ev l x (.pointer (some (dW sv n 1)))][hT:Sc P T][hr:dZ (List Int) bA I [sv] xs]
  (hi:0<=n/\n<xs.length):Pu P w0 l I (.load T x) ty (.int .i64 (xs.getD n.toNat 0)):=
 fT (s:=Instr.loadAt T (.pointer (some (dW sv n 1)))) (fun o ho _=>by unfold execOp;rw[ho];simp only[h.eq]) (fun w hs=>by
  obtain ⟨a,cap,b,off,p,c,s,rfl,_,_,hca,hp,he,hrd⟩:=gV (hs.rd (hr:=hr)) hi.1 hi.2
  obtain ⟨rfl,_⟩:=hrd
  have he':dW (.slice (some ⟨b,off,none⟩) xs.length cap) n 1=⟨b,off+p.length,none⟩:=he
  have:=hca.part 0 (by simp)
  simp only[Nat.add_zero,dO] at this
  rw[he',aC,aG (by omega),aZ]
  simp [Instr.loadAt,Instr.sureAddr,loadVar,Sem.run_bind,hT.agg,load,Sem.run,this])
theorem aH7{T:TypeId}{x:Operand}{sv:Value}{n:Int}{xs:List Bool}[h:Ev l x (.pointer (some (dW sv n 1)))][hT:Sc P T][hr:dZ (List Bool) bA I [sv] xs]
  (hi:0<=n/\n<xs.length):Pu P w0 l I (.load T x) ty (.bool (xs.getD n.toNat false)):=
 fT (s:=Instr.loadAt T (.pointer (some (dW sv n 1)))) (fun o ho _=>by unfold execOp;rw[ho];simp only[h.eq]) (fun w hs=>by
  obtain ⟨a,cap,b,off,p,c,s,rfl,_,_,hca,hp,he,hrd⟩:=gV (hs.rd (hr:=hr)) hi.1 hi.2
  have hrd':c=[.bool _]:=hrd
  subst hrd'
  have he':dW (.slice (some ⟨b,off,none⟩) xs.length cap) n 1=⟨b,off+p.length,none⟩:=he
  have:=hca.part 0 (by simp)
  simp only[Nat.add_zero,dO] at this
  rw[he',aC,aG (by omega),aZ]
  simp [Instr.loadAt,Instr.sureAddr,loadVar,Sem.run_bind,hT.agg,load,Sem.run,this])
theorem aKp{T:TypeId}{x:Operand}{sv:Value}{n:Int}{xs:List ByteArray}[h:Ev l x (.pointer (some (dW sv n 1)))][hT:Sc P T][hr:dZ (List ByteArray) bA I [sv] xs]
  (hi:0<=n/\n<xs.length):Pu P w0 l I (.load T x) ty (.string (xs.getD n.toNat ByteArray.empty)):=
 fT (s:=Instr.loadAt T (.pointer (some (dW sv n 1)))) (fun o ho _=>by unfold execOp;rw[ho];simp only[h.eq]) (fun w hs=>by
  obtain ⟨a,cap,b,off,p,c,s,rfl,_,_,hca,hp,he,hrd⟩:=gV (hs.rd (hr:=hr)) hi.1 hi.2
  obtain ⟨rfl,_⟩:=hrd
  have he':dW (.slice (some ⟨b,off,none⟩) xs.length cap) n 1=⟨b,off+p.length,none⟩:=he
  have:=hca.part 0 (by simp)
  simp only[Nat.add_zero,dO] at this
  rw[he',aC,aG (by omega),aZ]
  simp [Instr.loadAt,Instr.sureAddr,loadVar,Sem.run_bind,hT.agg,load,Sem.run,this])
theorem aBm{T:TypeId}{x:Operand}{p:Addr}[h:Ev l x (.pointer (some p))][hT:Sc P T][hp:kW I p [v]]:Pu P w0 l I (.load T x) ty v:=
 fT (s:=Instr.loadAt T (.pointer (some p))) (fun o ho _=>by unfold execOp;rw[ho];simp only[h.eq]) (fun w hs=>by
  have:=hs.pt (hr:=hp) 0 (by simp)
  simp only[dO] at this
  have h0:p.add 0=p:=by simp [Addr.add]
  rw[h0] at this
  simp [Instr.loadAt,Instr.sureAddr,loadVar,Sem.run_bind,hT.agg,load,Sem.run,this])
theorem aA4{T k:Nat}{x:Operand}{p:Addr}{cs:List Value}[h:Ev l x (.pointer (some p))][hT:Ag P T k][hp:kW I p cs](hk:cs.length=k):Pu P w0 l I (.load T x) ty (.agg cs.toArray):=
 fT (s:=Instr.loadAt T (.pointer (some p))) (fun o ho _=>by unfold execOp;rw[ho];simp only[h.eq]) (fun w hs=>by
  have hc:=lY (P:=P) (w:=w) (p:=p) (cs:=cs) 0 #[] (fun j hj=>by rw[cR];exact hs.pt (hr:=hp) j hj)
  rw[hk] at hc
  simp only[Instr.loadAt,Instr.sureAddr,loadVar,Sem.run_bind,Sem.run_pure,Result.andThen_ok,hT.agg,if_true,hT.size,loadCells,hc]
  simp)
end pure_ops
end Go.Eng
namespace Go.Eng
open Go Go.RowKit
class aIt(I:List Atom)(v:Value):Prop where
 one:∀ {ok w F},jT ok w I F->v.oneCell'=true
instance {I:List Atom}{b:Bool}:aIt I (.bool b):=⟨fun _=>rfl⟩
instance {I:List Atom}{k:IntKind}{n:Int}:aIt I (.int k n):=⟨fun _=>rfl⟩
instance {I:List Atom}{s:ByteArray}:aIt I (.string s):=⟨fun _=>rfl⟩
instance {I:List Atom}{a:Option Addr}:aIt I (.pointer a):=⟨fun _=>rfl⟩
instance {I:List Atom}{a:Option Addr}{n c:Nat}:aIt I (.slice a n c):=⟨fun _=>rfl⟩
instance (priority:=500) {V:Type}{i:cB V}{I:List Atom}{v:Value}{x:V}[h:dZ V i I [v] x]:aIt I v:=⟨fun hs=>cB.rd_one (h.get hs) v (by simp)⟩
class aPe(I:List Atom)(vs:List Value):Prop where
 one:∀ {ok w F},jT ok w I F->∀ v∈vs,v.oneCell'=true
instance {I:List Atom}:aPe I []:=⟨fun _ _ h=>by cases h⟩
instance {I:List Atom}{v:Value}{vs:List Value}[h:aIt I v][h':aPe I vs]:aPe I (v::vs):=⟨fun hs u hu=>by
 rcases cH.1 hu with rfl|hu
 ·exact h.one hs
 ·exact h'.one hs u hu⟩
class Cs(I:List Atom)(v:Value)(cs:outParam (List Value)):Prop where
 eq:∀ {ok w F},jT ok w I F->v.cells=cs.toArray/\∀ c∈cs,c.oneCell'=true
theorem aTc{v:Value}(h:v.oneCell'=true):v.cells=#[v]:=by cases v<;>simp_all [Value.cells,Value.oneCell']
instance {I:List Atom}{cs:List Value}[h:aPe I cs]:Cs I (.agg cs.toArray) cs:=⟨fun hs=>⟨rfl,h.one hs⟩⟩
instance (priority:=500) {I:List Atom}{v:Value}[h:aIt I v]:Cs I v [v]:=⟨fun hs=>⟨aTc (h.one hs),by simpa using h.one hs⟩⟩
theorem Sat.cs{w0 w:World}{I:List Atom}{v:Value}{cs:List Value}(h:Sat w0 w I)[hc:Cs I v cs]:v.cells=cs.toArray/\∀ c∈cs,c.oneCell'=true:=by
 obtain ⟨_,F,_,_,hs⟩:=h
 exact hc.eq hs
def Ent(w0:World)(I Y:List Atom):Prop:=∀ w,Sat w0 w I->Sat w0 w Y
section ops
variable {P:Program} {ops:Array Oper} {Q:Exit->Act->World->Prop} {w0:World} {rest:List Oper} {l l':List Value} {I Y:List Atom} {ty:TypeId} {v:Value} {pos:String} {after:Array Edge} {d:Nat}
theorem jW{o:Oper}(hg:o.guard=none){w w':World}(hr:(execOp (E l).eval o).run P w=.ok (.value v) w')(h:wpList P ops Q rest ((E l).put o.dst v) w'):wpList P ops Q (o::rest) (E l) w:=by
 refine wpList_plain hg fun K hK=>?_
 unfold Oper.wp
 rw[hr,Oper.upon_value]
 exact hK _ _ h
theorem aYn{T:TypeId}{zs:List Value}[hz:Zr P T zs](h:∀ b,WL P ops Q w0 rest (l.set d (.pointer (some ⟨b,0,none⟩))) (.bk b zs::I)) :
  WL P ops Q w0 (⟨some d,.alloc T,ty,pos,after,none⟩::rest) l I:=by
 intro w hs
 obtain ⟨z,hz,hc⟩:=hz.zero
 refine jW (v:=.pointer (some ⟨w.heap.size,0,none⟩)) (w':=w.alloc (.cells zs.toArray T)) rfl ?_ ?_
 ·refine fW (f:=Next.value) (s:=Instr.alloc T true (.tuple #[])) ?_
  simp only[Instr.alloc,newVar,newRow,newObj,Sem.run_bind,hz,Result.andThen_ok,hc]
  rfl
 ·rw[gO];exact h _ _ (hs.alloc zs T)
theorem bLd{T:TypeId}{x:Operand}{cs:List Value}[hx:Ev l x v][hc:Cs I v cs](h:∀ b,WL P ops Q w0 rest (l.set d (.pointer (some ⟨b,0,none⟩))) (.bk b cs::I)) :
  WL P ops Q w0 (⟨some d,.box T x,ty,pos,after,none⟩::rest) l I:=by
 intro w hs
 refine jW (v:=.pointer (some ⟨w.heap.size,0,none⟩)) (w':=w.alloc (.cells cs.toArray T)) rfl ?_ ?_
 ·refine fW (f:=Next.value) (s:=Instr.box T ((E l).eval x)) ?_
  simp [Instr.box,hx.eq,newVar,newRow,newObj,Sem.run,(hs.cs (hc:=hc)).1,Bind.bind,Pure.pure,Sem.bind]
 ·rw[gO];exact h _ _ (hs.alloc cs T)
theorem qW{b:Nat}:∀ {new:List Value} {cs:List Value} {off:Nat} {w:World} {I:List Atom},Sat w0 w (.bk b cs::I)->(∀ c∈new,c.oneCell'=true)->off+new.length<=cs.length->
  ∀ i base,base+i=off->∃ w',(storeCells ⟨b,base,none⟩ new i).run P w=.ok () w'/\Sat w0 w' (.bk b (cs.take off++new++cs.drop (off+new.length))::I)
 | [],cs,off,w,I,hs,_,hl,i,base,hb=>⟨w,rfl,by simpa using hs⟩
 | c::new,cs,off,w,I,hs,h1,hl,i,base,hb=>by
  have hl':off+new.length+1<=cs.length:=by simpa [Nat.add_assoc] using hl
  obtain ⟨e,he⟩:=hs.bk (hr:=gD.here)
  obtain ⟨w',hr,hs'⟩:=qW (new:=new) (off:=off+1) (hs.store off c) (fun u hu=>h1 u (by simp [hu])) (by rw[aV];omega) (i+1) base (by omega)
  refine⟨w',?_,?_⟩
  ·have hc1:c.oneCell'=true:=h1 c (by simp)
   have hcell:w.cell? ⟨b,off,none⟩=some (cs[off]'(by omega)):=by simp [World.cell?,he,aG (show off<cs.length by omega)]
   have hfr:w.frozen? ⟨b,off,none⟩=false:=by simp [World.frozen?,he]
   have hst:(store ((⟨b,base,none⟩:Addr).add i)  c).run P w=.ok () (w.setCell ⟨b,off,none⟩ c):=by
    rw[fB,hb]
    cases c<;>simp_all [store,Sem.run,Value.oneCell']
   simp only[storeCells,Sem.run_bind,hst,Result.andThen_ok,hr]
  ·have e1:(cs.set off c).take (off+1)=cs.take off++[c]:=by
    rw[bC (by rw[aV];omega)]
    simp [List.take_set_of_le]
   have e2:(cs.set off c).drop (off+1+new.length)=cs.drop (off+(c::new).length):=by
    rw[List.drop_set_of_lt (by omega)]
    congr 1
    simp;omega
   rw[e1,e2] at hs'
   simpa using hs'
theorem aV2{T:TypeId}{x y:Operand}{b off k:Nat}{cs vc cs':List Value}[hx:Ev l x (.pointer (some ⟨b,off,none⟩))][hy:Ev l y v][hc:Cs I v vc][hT:Sz P T k][hb:eO I b cs Y](hk:vc.length=k)[hsp:Sp cs off vc cs']
  (h:WL P ops Q w0 rest l (.bk b cs'::Y)):WL P ops Q w0 (⟨none,.store T x y,ty,pos,after,none⟩::rest) l I:=by
 intro w hs
 obtain ⟨h1,h2⟩:=hs.cs (hc:=hc)
 obtain ⟨e,hle⟩:=hsp.eq
 obtain ⟨w',hr,hs'⟩:=qW (P:=P) (hs.perm hb.perm) h2 hle 0 off (by omega)
 refine wpList_plain rfl fun K hK=>?_
 unfold Oper.wp
 have:(execOp (E l).eval ⟨none,.store T x y,ty,pos,after,none⟩).run P w=.ok .skip w':=by
  show(do Instr.storeAt T ((E l).eval x) ((E l).eval y);pure Next.skip:Sem Next).run P w=_
  simp only[hx.eq,hy.eq,Sem.run_bind,Instr.storeAt,Instr.sureAddr,Sem.run_pure,Result.andThen_ok,storeVar,hT.size,h1]
  simp only[dP,hk,ne_eq,not_true_eq_false,if_false,Sem.run_pure,Result.andThen_ok,Sem.run_bind]
  simp only[hr,Result.andThen_ok]
 rw[this,Oper.upon_skip,nN]
 exact hK _ _ (h w' (e▸hs'))
def CJ(P:Program)(f:FuncId)(vs:List Value)(w0:World)(I:List Atom){ρ:Type}(r:ρ->Value)(Γ':ρ->List Atom):Prop:=
 ∀ w,Sat w0 w I->Calls P f vs.toArray w (fun e w'=>∃ p,e=.returned (r p)/\Sat w0 w' (Γ' p))
theorem jS{f:FuncId}{vs:List Value}{ρ ρ':Type}{r:ρ->Value}{r':ρ'->Value}{Γ':ρ->List Atom}{Γ'':ρ'->List Atom}(h:CJ P f vs w0 I r Γ')(hm:∀ p,∃ p',r' p'=r p/\∀ w,Sat w0 w (Γ' p)->Sat w0 w (Γ'' p')):CJ P f vs w0 I r' Γ'':=
 fun w hs=>(h w hs).mono fun e w' ⟨p,he,hs'⟩=>let ⟨p',hp,hq⟩:=hm p;⟨p',by rw[he,hp],hq w' hs'⟩
theorem aVi{xs:List Operand}{vs:List Value}{f:FuncId}{ts:Array TypeId}{dst:Option Tmp}{g:Option (Nat×Bool)}[hx:EvL l xs vs][hf:bS P f](w:World) :
  (execOp (E l).eval ⟨dst,.call { callee:=.value (.func f),args:=xs.toArray,argTypes:=ts },ty,pos,after,g⟩).run P w=.ok (.enter f vs.toArray) w:=by
 have:=hf.run vs.toArray w
 simp only[execOp,resolve,Sem.run_bind]
 show(Sem.run P (Deferred.ofValue (.func (.func f) #[] #[]) _) w).andThen _=_
 have he:Array.map (E l).eval xs.toArray=vs.toArray:=by simp [hx.eq]
 rw[he]
 simpa [Deferred.ofValue,invoke] using this
theorem vT{f:FuncId}{xs:List Operand}{vs:List Value}{ts:Array TypeId}{ρ:Type}{r:ρ->Value}{Γ':ρ->List Atom}[hx:EvL l xs vs][hf:bS P f](hc:CJ P f vs w0 I r Γ')
  (h:∀ p,WL P ops Q w0 rest (l.set d (r p)) (Γ' p)):WL P ops Q w0 (⟨some d,.call { callee:=.value (.func f),args:=xs.toArray,argTypes:=ts },ty,pos,after,none⟩::rest) l I:=by
 intro w hs
 refine wpList_plain rfl fun K hK=>?_
 unfold Oper.wp
 rw[aVi w,Oper.upon_enter]
 refine(hc w hs).mono ?_
 rintro e w' ⟨p,rfl,hs'⟩
 show K ((E l).put (some d) (r p)) w'
 rw[gO]
 exact hK _ _ (h p w' hs')
def aC5(w0:World){ρ:Type}(r:ρ->Value)(Γ':ρ->List Atom):Ending->World->Prop:=fun e w'=>∃ p,e=.returned (r p)/\Sat w0 w' (Γ' p)
theorem aZ4{f:FuncId}{fn:Func}{c:Code}{vs:List Value}{n:Nat}{ρ:Type}{r:ρ->Value}{Γ':ρ->List Atom}(hf:P.funcs[f]?=some fn)(hb:fn.body=some c)(hn:fn.ntmps=n)
  (hl:vs++List.replicate (n-vs.length) undef=l) (h:WC P (bodyPost P fn (aC5 w0 r Γ')) w0 c l I):CJ P f vs w0 I r Γ':=by
 intro w hs
 refine calls_of_wp hf hb ?_
 have:=h w hs
 rw[← hl,← hn] at this
 have he:vs.toArray++Array.replicate (fn.ntmps-vs.toArray.size) undef=(vs++List.replicate (fn.ntmps-vs.length) undef).toArray:=by simp
 rw[he]
 exact this
def aEn(tmps:Array Value):ResultVar->Sem Value
 | .tmp t=>pure (tmps.getD t undef)
 | .cell a t=>do loadVar t (← asAddr (tmps.getD a undef))
theorem aMp(fn:Func)(tmps:Array Value):results fn tmps=(do let vs ← fn.results.mapM (aEn tmps);pure (if h:vs.size=1 then vs[0] else .tuple vs)):=by
 unfold results
 congr 1
class Rs(P:Program)(I:List Atom)(l:List Value)(rs:List ResultVar)(vs:outParam (List Value)):Prop where
 run:∀ {w0 w:World},Sat w0 w I->(rs.mapM (aEn (E l).tmps)).run P w=.ok vs w
instance:Rs P I l [] []:=⟨fun _=>by simp⟩
theorem aNw{t:Nat}[h:Ge l t v]:(E l).tmps.getD t undef=v:=by simp [E,h.eq]
theorem aFf{r:ResultVar}{rs:List ResultVar}{vs:List Value}(h:∀ {w0 w:World},Sat w0 w I->(aEn (E l).tmps r).run P w=.ok v w)(h':Rs P I l rs vs):Rs P I l (r::rs) (v::vs):=⟨fun hs=>by
 simp only[List.mapM_cons,Sem.run_bind,h hs,Result.andThen_ok,h'.run hs,Sem.run_pure]⟩
instance {t:Nat}{rs:List ResultVar}{vs:List Value}[h:Ge l t v][h':Rs P I l rs vs]:Rs P I l (.tmp t::rs) (v::vs):=
 aFf (fun _=>by simp only[aEn,aNw (h:=h),Sem.run_pure]) h'
instance {t T b:Nat}{cs:List Value}{rs:List ResultVar}{vs:List Value}[h:Ge l t (.pointer (some ⟨b,0,none⟩))][hT:Sc P T][hb:gD I b cs][hv:Ge cs 0 v][h':Rs P I l rs vs]:Rs P I l (.cell t T::rs) (v::vs):=
 aFf (fun {w0 w} hs=>by
  obtain ⟨e,he⟩:=hs.bk (hr:=hb)
  have hc:w.cell? ⟨b,0,none⟩=some v:=by simp only[World.cell?,he];simpa using hv.eq
  simp [aEn,aNw (h:=h),asAddr,loadVar,Sem.run_bind,hT.agg,load,Sem.run,hc]) h'
instance {t T b k:Nat}{cs:List Value}{rs:List ResultVar}{vs out:List Value}[h:Ge l t (.pointer (some ⟨b,0,none⟩))][hT:Ag P T k][hb:gD I b cs][hv:Tk cs 0 k out][h':Rs P I l rs vs]:Rs P I l (.cell t T::rs) (.agg out.toArray::vs):=
 aFf (fun {w0 w} hs=>by
  obtain ⟨e,he⟩:=hs.bk (hr:=hb)
  obtain ⟨h1,h2⟩:=hv.eq
  have hk:out.length=k:=by rw[← h1];simp;omega
  have hc:=lY (P:=P) (w:=w) (p:=⟨b,0,none⟩) (cs:=out) 0 #[] (fun j hj=>by
   rw[fB,cR,cR]
   have:out[j]?=cs[j]?:=by rw[← h1,cU,if_pos (by omega),List.getElem?_drop,cR]
   simp only[World.cell?,he,this];simp)
  rw[hk] at hc
  simp only[aEn,aNw (h:=h),asAddr,loadVar,Sem.run_bind,Sem.run_pure,Result.andThen_ok,hT.agg,if_true,hT.size,loadCells,hc]
  simp) h'
def aA3:List Value->Value
 | [v]=>v
 | vs=>.tuple vs.toArray
theorem oJ{fn:Func}{rs:List ResultVar}{vs:List Value}{w:World}(hf:fn.results=rs.toArray)[hr:Rs P I l rs vs](hs:Sat w0 w I):(results fn (E l).tmps).run P w=.ok (aA3 vs) w:=by
 rw[aMp,hf,Array.mapM_eq_mapM_toList]
 simp only[Sem.run_bind,map_eq_pure_bind,hr.run hs,Result.andThen_ok,Sem.run_pure]
 match vs with
 | []=>simp [aA3]
 | [v]=>simp [aA3]
 | a::b::vs=>simp [aA3]
theorem bMd{fn:Func}{rs:List ResultVar}{vs:List Value}{ρ:Type}{r:ρ->Value}{Γ':ρ->List Atom}(hf:fn.results=rs.toArray)[hr:Rs P I l rs vs](p:ρ)(hv:r p=aA3 vs)(hs:Ent w0 I (Γ' p)) :
  WQ (bodyPost P fn (aC5 w0 r Γ')) w0 .ret l I:=fun w hw=>⟨rfl,_,oJ hf hw,p,by rw[hv],hs w hw⟩
theorem bKd{fn:Func}{rs:List ResultVar}{vs:List Value}{ρ:Type}{r:ρ->Value}{Γ':ρ->List Atom}(hf:fn.results=rs.toArray)[hr:Rs P I l rs vs](p:ρ)(hv:r p=aA3 vs)(hs:Ent w0 I (Γ' p)) :
  WQ (bodyPost P fn (aC5 w0 r Γ')) w0 .normal l I:=fun w hw=>⟨rfl,_,oJ hf hw,p,by rw[hv],hs w hw⟩
def bM:List Value->List Nat->List Value->List Value
 | l,j::J,v::vs=>bM (l.set j v) J vs
 | l,_,_=>l
def aKa(w0:World)(l:List Value)(K JJ:List Nat){Z:Type}(vals:Z->List Value)(ctx:Z->List Atom)(pre:Z->Prop)(μ:Z->Nat)(i:Z):Act->World->Prop:=fun a w=>
 ∃ i' u,pre i'/\μ i'<μ i/\a=E (bM (bM l K (vals i')) JJ (JJ.map u))/\Sat w0 w (ctx i')
theorem zQ(K JJ:List Nat){Z:Type}(vals:Z->List Value)(ctx:Z->List Atom)(pre:Z->Prop)(μ:Z->Nat){c:Code}(i0:Z)
  (h0:bM (bM l K (vals i0)) JJ (JJ.map fun j=>l.getD j undef)=l) (hp:pre i0) (hsub:Ent w0 I (ctx i0))
  (round:∀ i u l',bM (bM l K (vals i)) JJ (JJ.map u)=l'->pre i->WC P (Exit.then (aKa w0 l K JJ vals ctx pre μ i) Q) w0 c l' (ctx i)):WC P Q w0 (.loop c) l I:=by
 intro w hs
 have key:∀ n,∀ (i:Z) (u:Nat->Value) w,μ i=n->pre i->Sat w0 w (ctx i)->∀ b k cs,
   ∃ e a' w',Q e a' w'/\Arrives P (lone (b.at (E (bM (bM l K (vals i)) JJ (JJ.map u))) (.code c::.inLoop c::k)) cs w) b k cs e a' w':=by
  intro n
  induction n using Nat.strongRecOn with
  | _ n ih=>
   intro i u w hn hpi hsi b k cs
   obtain ⟨e,a₁,w₁,hq,harr⟩:=round i u _ rfl hpi w hsi b (.inLoop c::k) cs
   cases e with
   | normal=>
    obtain ⟨i',u',hp',hlt,rfl,hs'⟩:=hq
    obtain ⟨e₂,a₂,w₂,hq₂,harr₂⟩:=ih (μ i') (hn▸hlt) i' u' w₁ rfl hp' hs' b k cs
    exact⟨e₂,a₂,w₂,hq₂,.of_steps (Steps.trans harr (.one step_inLoop)) harr₂⟩
   | exit id=>exact⟨_,a₁,w₁,hq,.pass (x:=.inLoop c) rfl (fun _ _=>.inl (by simp)) harr⟩
   | goto l=>exact⟨_,a₁,w₁,hq,.pass (x:=.inLoop c) rfl (fun _ _=>.inl (by simp)) harr⟩
   | ret=>exact⟨_,a₁,w₁,hq,.pass (x:=.inLoop c) rfl (fun _ _=>.inl (by simp)) harr⟩
   | panic ch=>exact⟨_,a₁,w₁,hq,.pass (x:=.inLoop c) rfl (fun _ _=>.inl (by simp)) harr⟩
   | outgrown=>exact⟨_,a₁,w₁,hq,.pass (x:=.inLoop c) rfl (fun _ _=>.inl (by simp)) harr⟩
 intro b k cs
 have:=key _ i0 (fun j=>l.getD j undef) w rfl hp (hsub w hs) b k cs
 rw[h0] at this
 obtain ⟨e,a',w',hq,harr⟩:=this
 exact⟨e,a',w',hq,.of_steps (.one step_loop) harr⟩
theorem dH{K JJ:List Nat}{l0:List Value}{Z:Type}{vals:Z->List Value}{ctx:Z->List Atom}{pre:Z->Prop}{μ:Z->Nat}{i:Z}(i':Z)(hp:pre i')(hμ:μ i'<μ i)
  (hl:bM (bM l0 K (vals i')) JJ (JJ.map fun j=>l.getD j undef)=l) (hsub:Ent w0 I (ctx i')):WQ (Exit.then (aKa w0 l0 K JJ vals ctx pre μ i) Q) w0 .normal l I:=
 fun w hs=>⟨i',_,hp,hμ,by rw[hl],hsub w hs⟩
end ops
end Go.Eng
namespace Go.Eng
open Go Go.RowKit
def gX(I Y:List Atom):Prop:=∀ {ok:Nat->Prop} {w:World} {F:List Nat},jT ok w I F->∃ G,G.Perm F/\jT ok w Y G
theorem gX.refl(I:List Atom):gX I I:=fun h=>⟨_,.refl _,h⟩
theorem gX.trans{I Y Ε:List Atom}(h:gX I Y)(h':gX Y Ε):gX I Ε:=fun hs=>by
 obtain ⟨G,hG,h1⟩:=h hs
 obtain ⟨H,hH,h2⟩:=h' h1
 exact⟨H,hH.trans hG,h2⟩
theorem gX.perm{I Y:List Atom}(h:I.Perm Y):gX I Y:=fun hs=>jT.perm h hs
theorem gX.cons{I Y:List Atom}(A:Atom)(h:gX I Y):gX (A::I) (A::Y):=fun ⟨f,g,e,h1,h2⟩=>by
 obtain ⟨G,hG,h3⟩:=h h2
 exact⟨f++G,e▸hG.append_left f,f,G,rfl,h1,h3⟩
theorem gX.sat{w0 w:World}{I Y:List Atom}(h:gX I Y)(hs:Sat w0 w I):Sat w0 w Y:=by
 obtain ⟨hb,F,hn,hl,h1⟩:=hs
 obtain ⟨G,hG,h2⟩:=h h1
 exact⟨hb,G,hG.symm.nodup hn,fun b hb=>hl b (hG.mem_iff.1 hb),h2.notin hG⟩
def Own{V:Type}[cB V](I:List Atom)(vc:List Value)(x:V)(Y:List Atom):Prop:=gX I (.ow vc x::Y)
theorem bDo{I:List Atom}{n:Int}(h:aCf n):Own I [.int .i64 n] n I:=fun {_ _ F} hs=>⟨F,.refl _,[],F,rfl,⟨rfl,rfl,h⟩,hs⟩
theorem aV6{I:List Atom}{b:Bool}:Own I [.bool b] b I:=fun {_ _ F} hs=>⟨F,.refl _,[],F,rfl,⟨rfl,rfl⟩,hs⟩
theorem bEr{I:List Atom}{s:ByteArray}(h:s.size<=9223372036854775807):Own I [.string s] s I:=fun {_ _ F} hs=>⟨F,.refl _,[],F,rfl,⟨rfl,rfl,h⟩,hs⟩
theorem zP{V:Type}[cB V]{I:List Atom}:Own I [.slice none 0 0] ([]:List V) I:=fun {_ _ F} hs=>⟨F,.refl _,[],F,rfl,.inl ⟨rfl,rfl,rfl⟩,hs⟩
theorem uX{V:Type}{i:cB V}{I Y:List Atom}{vc:List Value}{x:V}[h:cQ V i I vc x Y]:Own I vc x Y:=gX.perm h.perm
theorem lC{V:Type}{i:cB V}{I:List Atom}{vc:List Value}{x:V}[h:fK V i I vc x]:Own I vc (Sh.mk x) I:=fun {_ _ F} hs=>⟨F,.refl _,[],F,rfl,⟨rfl,h.get hs⟩,hs⟩
theorem aWy{V β:Type}[cB V][cB β]{I Y Ε:List Atom}{c d:List Value}{x:V}{y:β}(h:Own I c x Y)(h':Own Y d y Ε):Own I (c++d) (x,y) Ε:=fun hs=>by
 obtain ⟨G,hG,f,g,rfl,h1,h2⟩:=h hs
 obtain ⟨H,hH,f',g',rfl,h3,h4⟩:=h' h2
 exact⟨f++f'++g',by rw[aT];exact(hH.append_left f).trans hG,f++f',g',rfl,⟨f,f',c,d,rfl,rfl,h1,h3⟩,h4⟩
theorem aWc{V β:Type}[cB V][cB β]{I Y Ε:List Atom}{c:Value}{d:List Value}{x:V}{y:β}(h:Own I [c] x Y)(h':Own Y d y Ε):Own I (c::d) (x,y) Ε:=aWy h h'
theorem Sat.step'{w0 w w':World}{Δ' I:List Atom}{f g:List Nat}(hb:lK w0.heap.size w0 w)(hn:(f++g).Nodup)(hl:∀ b∈f++g,w0.heap.size<=b)(h2:jT (·∉f++g) w I g)
  (ho:w'.os=w.os/\w'.tape=w.tape/\w'.output=w.output/\w.heap.size<=w'.heap.size/\w.drawn<=w'.drawn) (hsame:∀ b,b<w.heap.size->b∉f->gH w w' b)
  (f':List Nat) (hf':f'.Nodup) (hnew:∀ b∈f',b∈f∨w.heap.size<=b) (h3:∀ ok':Nat->Prop,(∀ b,b∉f++g->b<w.heap.size->ok' b)->jT ok' w' Δ' f'):Sat w0 w' (Δ'++I):=by
 have hd:=bJ.1 hn
 have hglt:=h2.lt
 have hdis:∀ b∈f',b∉g:=fun b hb hg=>by
  rcases hnew b hb with h|h
  ·exact hd.2.2 b h b hg rfl
  ·exact Nat.lt_irrefl _ (Nat.lt_of_lt_of_le (hglt b hg) h)
 have hok:∀ b,b∉f++g->b<w.heap.size->b∉f'++g:=fun b hb hlt hm=>by
  rcases aP.1 hm with hm|hm
  ·rcases hnew b hm with h|h
   ·exact hb (by simp [h])
   ·omega
  ·exact hb (by simp [hm])
 refine⟨⟨ho.1.trans hb.os,ho.2.1.trans hb.tape,ho.2.2.1.trans hb.output,Nat.le_trans hb.size ho.2.2.2.1,trivial,fun k hk=>?_⟩,f'++g,?_,?_,?_⟩
 ·rw[hsame k (Nat.lt_of_lt_of_le hk hb.size) (fun hm=>by have:=hl k (by simp [hm]);omega)]
  exact hb.block k hk
 ·rw[bJ]
  exact⟨hf',hd.2.1,fun a ha b hb e=>hdis a ha (e▸hb)⟩
 ·intro b hb'
  rcases aP.1 hb' with h|h
  ·rcases hnew b h with h|h
   ·exact hl b (by simp [h])
   ·exact Nat.le_trans hb.size h
  ·exact hl b (by simp [h])
 ·refine jT.append ?_ (h3 _ hok)
  exact h2.mono (fun b hb hlt=>⟨hok b hb hlt,hsame b hlt (fun hm=>hb (by simp [hm]))⟩) ho.2.2.2.1 (fun b hb=>hsame b (hglt b hb) (fun hm=>hd.2.2 b hm b hb rfl))
theorem Sat.step{w0 w w':World}{Y Δ' I:List Atom}(h:Sat w0 w (Y++I))(ho:w'.os=w.os/\w'.tape=w.tape/\w'.output=w.output/\w.heap.size<=w'.heap.size/\w.drawn<=w'.drawn)
  (hst:∀ (f:List Nat) (ok:Nat->Prop),jT ok w Y f->f.Nodup->(∀ b∈f,¬ ok b)->(∀ b,b<w.heap.size->b∉f->gH w w' b)/\
   ∃ f':List Nat,f'.Nodup/\(∀ b∈f',b∈f∨w.heap.size<=b)/\∀ ok':Nat->Prop,(∀ b,ok b->b<w.heap.size->ok' b)->jT ok' w' Δ' f'):Sat w0 w' (Δ'++I):=by
 obtain ⟨hb,F,hn,hl,hs⟩:=h
 obtain ⟨f,g,rfl,h1,h2⟩:=hs.split
 obtain ⟨hsame,f',hf',hnew,h3⟩:=hst f _ h1 (bJ.1 hn).1 (fun b hb h=>h (by simp [hb]))
 exact Sat.step' hb hn hl h2 ho hsame f' hf' hnew h3
class Zo(V:Type)[cB V](zs:outParam (List Value))(x:outParam V):Prop where
 ow:∀ ok w,cB.ow ok w [] zs x
instance:Zo Int [.int .i64 0] 0:=⟨fun _ _=>⟨rfl,rfl,by unfold aCf;omega⟩⟩
instance:Zo Bool [.bool false] false:=⟨fun _ _=>⟨rfl,rfl⟩⟩
instance:Zo ByteArray [.string ByteArray.empty] ByteArray.empty:=⟨fun _ _=>⟨rfl,rfl,by simp⟩⟩
instance {V:Type}[cB V]:Zo (List V) [.slice none 0 0] []:=⟨fun _ _=>.inl ⟨rfl,rfl,rfl⟩⟩
instance {V β:Type}[cB V][cB β]{c:Value}{d:List Value}{x:V}{y:β}[h:Zo V [c] x][h':Zo β d y]:Zo (V×β) (c::d) (x,y):=⟨fun ok w=>⟨[],[],[c],d,rfl,rfl,h.ow ok w,h'.ow ok w⟩⟩
section rows
variable {V:Type} [cB V]
theorem jA.replicate{ok:Nat->Prop}{w:World}{zs:List Value}{z:V}(h:cB.ow ok w [] zs z):∀ n,jA ok w [] (List.replicate n zs).flatten (List.replicate n z)
 | 0=>⟨rfl,rfl⟩
 | n+1=>⟨[],[],zs,(List.replicate n zs).flatten,rfl,by simp [List.replicate_succ],h,jA.replicate h n⟩
theorem jA.len{ok:Nat->Prop}{w:World}{F:List Nat}{cells:List Value}{xs:List V}(h:jA ok w F cells xs):cells.length=xs.length*cB.sz V:=(h.rd (ok':=fun _=>True) (fun _ _=>trivial) (fun _ _=>trivial)).len
theorem jA.one{ok:Nat->Prop}{w:World}{F:List Nat}{cells:List Value}{xs:List V}(h:jA ok w F cells xs):∀ c∈cells,c.oneCell'=true:=(h.rd (ok':=fun _=>True) (fun _ _=>trivial) (fun _ _=>trivial)).one
theorem fL{ok:Nat->Prop}{w:World}{F:List Nat}{cs:List Value}{xs:List V}:cB.ow ok w F cs xs↔((cs=[.slice none 0 0]/\xs=[]/\F=[])∨
  ∃ g cap dV e G cells,cs=[.slice (some ⟨g,0,none⟩) xs.length cap]/\F=g::G/\w.heap[g]?=some (.cells dV e (0,0))/\xs.length<=cap/\cap<=maxLen/\
   xs.length<=9223372036854775807/\cap*cB.sz V<=dV.size/\dV.toList.take (xs.length*cB.sz V)=cells/\jA ok w G cells xs):=Iff.rfl
end rows
theorem rI(z:List Value)(k n m:Nat)(hz:z.length=k)(hk:0<k)(hn:n<=m):((madeCells z.toArray (m*k)).toList.take (n*k))=(List.replicate n z).flatten:=by
 apply List.ext_getElem?
 intro i
 have hfl:∀ n,(List.replicate n z).flatten.length=n*k:=fun n=>by simp [hz]
 by_cases hi:i<n*k
 ·have hi':i<m*k:=Nat.lt_of_lt_of_le hi (Nat.mul_le_mul_right _ hn)
  rw[cU,if_pos hi]
  have h2:∀ n i,i<n*k->(List.replicate n z).flatten[i]?=z[i % k]?:=by
   intro n
   induction n with
   | zero=>intro i hi;omega
   | succ n ih=>
    intro i hi
    rw[List.replicate_succ,List.flatten_cons]
    by_cases h:i<k
    ·rw[dD (by omega),Nat.mod_eq_of_lt h]
    ·have hi2:i<n*k+k:=by rw[dE,Nat.one_mul] at hi;exact hi
     rw[cP (by omega),hz,ih (i-k) (by omega),Nat.mod_eq_sub_mod (a:=i) (b:=k) (by omega)]
  rw[h2 n i hi]
  simp only[madeCells,Array.toList_map,List.getElem?_map]
  have hmod:i % k<z.length:=by rw[hz];exact Nat.mod_lt _ hk
  rw[aG hmod]
  simp [hi',hz,aG hmod]
 ·rw[cU,if_neg hi,dA (by rw[hfl];omega)]
section ops
variable {P:Program} {ops:Array Oper} {Q:Exit->Act->World->Prop} {w0:World} {rest:List Oper} {l l':List Value} {I Y Ε:List Atom} {ty:TypeId} {v:Value} {pos:String} {after:Array Edge} {d:Nat}
theorem bJu(he:gX I Y)(h:WL P ops Q w0 rest l Y):WL P ops Q w0 rest l I:=fun w hs=>h w (he.sat hs)
theorem bLz{c:Code}(he:gX I Y)(h:WC P Q w0 c l Y):WC P Q w0 c l I:=fun w hs=>h w (he.sat hs)
theorem bB2{T k by_:Nat}{x y:Operand}{kx ky:IntKind}{n m:Int}(V:Type)[iα:cB V]{zs:List Value}{z:V}[hx:Ev l x (.int kx n)][hy:Ev l y (.int ky m)][hT:Sl P T k by_][hzs:SlZ P T zs][hz:Zo V zs z]
  (hn:0<=n/\n<=m) (hm:m*by_<=140737488355328) (h:∀ sv,WL P ops Q w0 rest (l.set d sv) (.ow [sv] (List.replicate n.toNat z)::I)) :
  WL P ops Q w0 (⟨some d,.makeSlice T x y,ty,pos,after,none⟩::rest) l I:=by
 intro w hs
 obtain ⟨e,i,z',ht,hi,hk,hb,hz',hzk,hpos⟩:=hT.ex
 have hzc:z'.cells=zs.toArray:=hzs.eq ht hi hz'
 have hsz:zs.length=cB.sz V:=cB.rd_len (x:=z) (cB.ow_rd (ok':=fun _=>True) (hz.ow (fun _=>True) w) (fun _ _=>trivial) (fun _ _=>trivial))
 have hkk:k=cB.sz V:=by rw[← hsz,← hzk,hzc];simp
 have hmm:m<=140737488355328:=by
  have:m*1<=m*by_:=Int.mul_le_mul_of_nonneg_left (by omega) (by omega)
  omega
 have hr:=run_make (P:=P) w T e i z' ht hi hz' kx ky n m hn.1 hn.2 (by rw[hb,Int.mul_comm];omega) (by omega)
 refine jW (v:=.slice (some ⟨w.heap.size,0,none⟩) n.toNat m.toNat) (w':=w.alloc (.cells (madeCells z'.cells (m.toNat*i.size)) e)) rfl ?_ ?_
 ·refine fW (f:=Next.value) (s:=Instr.makeSlice T ((E l).eval x) ((E l).eval y)) ?_
  rw[hx.eq,hy.eq];exact hr
 ·rw[gO]
  refine h _ _ ?_
  refine Sat.step (Y:=[]) (Δ':=[.ow _ _]) hs ⟨rfl,rfl,rfl,by simp,(by first|exact aM _|exact cW _ _)⟩ (fun f ok hf hnd _=>⟨fun b hb _=>Below.heap_alloc _ _ _ hb,[w.heap.size],by simp,fun b hb=>.inr (by simp at hb;omega),fun ok' _=>?_⟩)
  refine⟨[w.heap.size],[],rfl,?_,rfl⟩
  show cB.ow _ _ _ _ _
  rw[fL]
  refine .inr ⟨w.heap.size,m.toNat,_,e,[],(List.replicate n.toNat zs).flatten,by simp,rfl,heap_alloc_new w _,by simp;omega,by simp [maxLen];omega,by simp;omega,?_,?_,jA.replicate (hz.ow _ _) _⟩
  ·rw[size_madeCells,hk,hkk];exact aM _
  ·rw[hzc,hk,cA,hkk]
   exact rI zs (cB.sz V) _ _ hsz cB.pos (by omega)
theorem pH(w:World)(t ty e e':TypeId)(i:TypeInfo)(ht:P.underlying t=some (.slice e))(hi:P.info? e=some i)
  (g sLen sCap:Nat) (dV:Array Value) (hg:w.heap[g]?=some (.cells dV e' (0,0)))
  (x:Value) (m:Nat) (news:List Value) (hlen:∀ w,(Builtin.lenOf x).run P w=.ok m w) (hx:(Builtin.firstCells i.size m x).run P w=.ok news.toArray w) (h1:∀ u∈news,u.oneCell'=true)
  (hroom:sLen+m<=sCap) (hfit:sLen*i.size+news.length<=dV.size) :
  (Builtin.append_ #[t,t] ty #[.slice (some ⟨g,0,none⟩) sLen sCap,x]).run P w =
   .ok (.slice (some ⟨g,0,none⟩) (sLen+m) sCap) (w.setRow g (dV.toList.take (sLen*i.size)++news++dV.toList.drop (sLen*i.size+news.length)).toArray):=by
 have hst:=run_storeCells_at P g (sLen*i.size) e' news 0 dV w hg (by simpa using hfit) h1
 simp only[Nat.add_zero] at hst
 simp [Builtin.append_,run_underlying ht,sizeOf,typeInfo,hi,hlen,hroom,hx,Addr.add_lit,hst]
theorem mL{a:Option Addr}{m c:Nat}(w:World):(Builtin.lenOf (.slice a m c)).run P w=.ok m w:=rfl
theorem oA{V:Type}[cB V]{T ty k by_:Nat}[hT:Sl P T k by_](hk:k=cB.sz V){w:World}{ok:Nat->Prop}{f fy:List Nat}{ov:Value}{xs ys:List V}{a:Option Addr}{c:Nat}{news:List Value}
  (hf:cB.ow ok w f [ov] xs) (hsrc:0<ys.length->∃ b off,a=some ⟨b,off,none⟩/\gM w b off news) (hy:jA ok w fy news ys) (hnd:(f++fy).Nodup) (hoky:∀ b∈f++fy,¬ ok b)
  (hbytes:(xs.length+ys.length)*by_<=140737488355328) :
  ∃ v' w',(Builtin.append_ #[T,T] ty #[ov,.slice a ys.length c]).run P w=.ok v' w'/\(w'.os=w.os/\w'.tape=w.tape/\w'.output=w.output/\w.heap.size<=w'.heap.size/\w.drawn<=w'.drawn)/\
   (∀ b,b<w.heap.size->b∉f->gH w w' b)/\∃ f',f'.Nodup/\(∀ b∈f',b∈f++fy∨w.heap.size<=b)/\∀ ok':Nat->Prop,(∀ b,ok b->b<w.heap.size->ok' b)->cB.ow ok' w' f' [v'] (xs++ys):=by
 obtain ⟨e,i,z,ht,hi,hik,hib,hz,hzk,hpos⟩:=hT.ex
 have hsz:i.size=cB.sz V:=hik.trans hk
 have hle:xs.length+ys.length<=140737488355328:=Nat.le_trans (Nat.le_mul_of_pos_right _ hpos) hbytes
 have hnl:news.length=ys.length*i.size:=by rw[hsz];exact hy.len
 have hfy:∀ b∈fy,b<w.heap.size:=hy.lt
 have hdis:=(bJ.1 hnd).2.2
 have hcap63:∀ old,grownCap w (xs.length+ys.length) old e<=maxLen:=fun old=>grownCap_le_maxLen w _ old e (by simp only[maxLen];omega)
 have hfc:(Builtin.firstCells i.size ys.length (.slice a ys.length c)).run P w=.ok news.toArray w:=by
  by_cases h0:ys.length=0
  ·have hn0:news=[]:=dG (by rw[hnl,h0,Nat.zero_mul])
   subst hn0
   cases a with
   | none=>rfl
   | some a=>simp [Builtin.firstCells,h0,loadCells,loadCellsFrom]
  ·obtain ⟨b,off,rfl,hc⟩:=hsrc (by omega)
   exact run_firstCells_some (P:=P) w i.size ys.length ⟨b,off,none⟩ ys.length c news hnl (fun j v hj=>by
    rw[fB]
    have hj':j<news.length:=(dC.1 hj).1
    rw[hc j hj',hj])
 have hcellsrc:∀ b off,gM w b off news->∀ j v,news[j]?=some v->w.cell? ((⟨b,off,none⟩:Addr).add j)=some v:=fun b off hc j v hj=>by
  rw[fB,hc j (dC.1 hj).1,hj]
 have grown:∀ (old:Nat) (G:List Nat) (cells:List Value),(∀ b∈G,b∈f)->G.Nodup->jA ok w G cells xs->cells.length=xs.length*cB.sz V->
   let w':=w.drew.alloc (.cells (cells.toArray++news.toArray++Builtin.zeroCells z.cells (grownCap w (xs.length+ys.length) old e-(xs.length+ys.length))) e)
   (w'.os=w.os/\w'.tape=w.tape/\w'.output=w.output/\w.heap.size<=w'.heap.size/\w.drawn<=w'.drawn)/\(∀ b,b<w.heap.size->b∉f->gH w w' b)/\
   ∃ f',f'.Nodup/\(∀ b∈f',b∈f++fy∨w.heap.size<=b)/\∀ ok':Nat->Prop,(∀ b,ok b->b<w.heap.size->ok' b)->cB.ow ok' w' f' [.slice (some ⟨w.heap.size,0,none⟩) (xs.length+ys.length) (grownCap w (xs.length+ys.length) old e)] (xs++ys):=by
  intro old G cells hG hGn hO hlen w'
  have hsame:∀ b,b<w.heap.size->gH w w' b:=fun b hb=>Below.heap_alloc w.drew _ _ hb
  have hGlt:=hO.lt
  have hge:=grownCap_ge w (xs.length+ys.length) old e
  refine⟨⟨rfl,rfl,rfl,by simp [w'],(by first|exact aM _|exact cW _ _)⟩,fun b hb _=>hsame b hb,w.heap.size::(G++fy),?_,?_,?_⟩
  ·refine List.nodup_cons.2 ⟨fun hm=>?_,?_⟩
   ·rcases aP.1 hm with h|h
    ·exact Nat.lt_irrefl _ (hGlt _ h)
    ·exact Nat.lt_irrefl _ (hfy _ h)
   ·rw[bJ]
    exact⟨hGn,(bJ.1 hnd).2.1,fun a ha b hb=>hdis a (hG a ha) b hb⟩
  ·intro b hb
   rcases cH.1 hb with rfl|hb
   ·exact .inr (aM _)
   ·rcases aP.1 hb with h|h
    ·exact .inl (by simp [hG b h])
    ·exact .inl (by simp [h])
  ·intro ok' hok'
   rw[fL]
   refine .inr ⟨w.heap.size,_,_,e,G++fy,cells++news,by simp,rfl,heap_alloc_new w.drew _,by simpa using hge,hcap63 old,by simp;omega,?_,?_,?_⟩
   ·simp only[Array.size_append,dP,size_zeroCells,hzk,hlen,hnl,hik,hk]
    rw[← dE,← dE]
    refine Nat.le_of_eq ?_
    congr 1
    omega
   ·simp only[Array.toList_append,aD,aT]
    rw[← aT,dE,← hlen,show ys.length*cB.sz V=news.length by rw[hnl,hsz],← aD]
    exact List.take_left
   ·exact jA.append (hy.mono (fun b hb hlt=>⟨hok' b hb hlt,hsame b hlt⟩) (fun b hb=>hsame b (hfy b hb))) (hO.mono (fun b hb hlt=>⟨hok' b hb hlt,hsame b hlt⟩) (fun b hb=>hsame b (hGlt b hb)))
 rw[fL] at hf
 rcases hf with⟨hov,rfl,rfl⟩|⟨g,cap,dV,e',G,cells,hov,rfl,hg,hcap,hcapm,_,hcs,htake,hO⟩
 ·simp only[bR,and_true] at hov
  subst hov
  by_cases h0:ys.length=0
  ·have hy0:ys=[]:=dG h0
   subst hy0
   refine⟨.slice none 0 0,w,?_,⟨rfl,rfl,rfl,aM _,aM _⟩,fun _ _ _=>rfl,[],by simp,by simp,fun ok' _=>fL.2 (.inl ⟨rfl,rfl,rfl⟩)⟩
   simp only[aL] at hfc ⊢
   simp [Builtin.append_,run_underlying ht,sizeOf,typeInfo,hi,Builtin.lenOf,hfc]
  ·obtain ⟨b,off,rfl,hc⟩:=hsrc (by omega)
   have hr:=run_append_nil (P:=P) w T ty e i z ht hi hz ⟨b,off,none⟩ ys.length c news hnl (hcellsrc b off hc) (by omega) (by simp at hle;omega) (by rw[hib];simp at hbytes;omega)
   have hgr:=grown 0 [] [] (by simp) (by simp) ⟨rfl,rfl⟩ (by simp)
   simp only[aL,cR,aB,Array.empty_append,cF] at hgr ⊢
   exact⟨_,_,hr,hgr.1,hgr.2.1,hgr.2.2⟩
 ·simp only[bR,and_true] at hov
  subst hov
  have hcl:cells.length=xs.length*cB.sz V:=hO.len
  have hgG:g∉G/\G.Nodup:=List.nodup_cons.1 (bJ.1 hnd).1
  by_cases hroom:xs.length+ys.length<=cap
  ·have hfit:xs.length*i.size+news.length<=dV.size:=by rw[hnl,hsz,← dE];exact Nat.le_trans (Nat.mul_le_mul_right _ hroom) hcs
   have hr:=pH w T ty e e' i ht hi g xs.length cap dV hg (.slice a ys.length c) ys.length news (fun w=>mL w) hfc hy.one hroom hfit
   have hsame:∀ k,k≠g->gH w (w.setRow g (dV.toList.take (xs.length*i.size)++news++dV.toList.drop (xs.length*i.size+news.length)).toArray) k:=fun k hk=>setRow_other w g k _ hk
   have hglt:g<w.heap.size:=(bL.1 hg).1
   refine⟨_,_,hr,⟨rfl,rfl,rfl,by simp,(by first|exact aM _|exact cW _ _)⟩,fun b _ hb=>hsame b (fun h=>hb (by simp [h])),(g::G)++fy,hnd,fun b hb=>.inl hb,fun ok' hok'=>?_⟩
   rw[fL]
   refine .inr ⟨g,cap,_,e',G++fy,cells++news,by simp,rfl,setRow_heap w g dV _ e' _ hg,by simpa using hroom,hcapm,by simp;omega,?_,?_,?_⟩
   ·simp only[dP,aD,aN,aR,bZ]
    refine Nat.le_trans hcs ?_
    omega
   ·simp only[List.toList_toArray,aD]
    rw[hsz,htake,dE,← hcl,show ys.length*cB.sz V=news.length by rw[hnl,hsz],← aD]
    exact List.take_left
   ·refine jA.append (hy.mono (fun b hb hlt=>⟨hok' b hb hlt,hsame b (fun h=>?_)⟩) (fun b hb=>hsame b (fun h=>?_))) (hO.mono (fun b hb hlt=>⟨hok' b hb hlt,hsame b (fun h=>?_)⟩) (fun b hb=>hsame b (fun h=>hgG.1 (h▸hb))))
    ·exact hoky g (by simp) (h▸hb)
    ·exact hdis g (by simp) b hb h.symm
    ·exact hoky g (by simp) (h▸hb)
  ·have hy0:0<ys.length:=by omega
   obtain ⟨b,off,rfl,hc⟩:=hsrc hy0
   have holds:∀ j u,cells[j]?=some u->w.cell? ((⟨g,0,none⟩:Addr).add j)=some u:=fun j u hj=>by
    have hjl:=(dC.1 hj).1
    rw[fB,cR]
    rw[← htake,cU] at hj
    split at hj
    ·simpa [World.cell?,hg] using hj
    ·cases hj
   have hr:=run_append_grow (P:=P) w T ty e i z ht hi hz ⟨g,0,none⟩ xs.length cap cells (by rw[hcl,hsz]) holds ⟨b,off,none⟩ ys.length c news hnl (hcellsrc b off hc) (by omega) (by omega) (growslice_fits (by omega) (by rw[hib];exact hbytes))
   have hgr:=grown cap G cells (fun b hb=>by simp [hb]) hgG.2 hO hcl
   exact⟨_,_,hr,hgr.1,hgr.2.1,hgr.2.2⟩
class Cp(V:Type)[cB V]:Prop where
 cp:∀ {ok w cs} {x:V},cB.rd (fun _=>True) w cs x->cB.ow ok w [] cs x
instance:Cp Int:=⟨fun h=>⟨rfl,h⟩⟩
instance:Cp UInt8:=⟨fun h=>⟨rfl,h⟩⟩
instance:Cp ByteArray:=⟨fun h=>⟨rfl,h⟩⟩
theorem kK.ow{V:Type}[cB V][hc:Cp V]{ok:Nat->Prop}{w:World}:∀ {cells:List Value} {xs:List V},kK (fun _=>True) w cells xs->jA ok w [] cells xs
 | _,[],h=>⟨rfl,h⟩
 | _,_::_,⟨c,d,e,h,h'⟩=>⟨[],[],c,d,rfl,e,hc.cp h,kK.ow h'⟩
theorem mB{T:TypeId}{x y:Operand}{ov tv:Value}[hx:Ev l x ov][hy:Ev l y tv]{w w':World}(hr:(Builtin.append_ #[T,T] ty #[ov,tv]).run P w=.ok v w') :
  (execOp (E l).eval ⟨some d,.call { callee:=.builtin .append,args:=#[x,y],argTypes:=#[T,T] },ty,pos,after,none⟩).run P w=.ok (.value v) w':=by
 have:execOp (E l).eval ⟨some d,.call { callee:=.builtin .append,args:=#[x,y],argTypes:=#[T,T] },ty,pos,after,none⟩=(do pure (.value (← Builtin.append_ #[T,T] ty #[ov,tv])):Sem Next):=by
  unfold execOp
  simp [resolve,invoke,builtin,hx.eq,hy.eq,Pure.pure,Bind.bind,Sem.bind]
 rw[this]
 exact fW hr
theorem aFb{T k by_:Nat}{x y:Operand}{ov tv:Value}{V:Type}{iα:cB V}{xs ys:List V}[hx:Ev l x ov][hy:Ev l y tv][hT:Sl P T k by_][h1:cQ (List V) bA I [ov] xs Y][h2:cQ (List V) bA Y [tv] ys Ε]
  (hk:k=cB.sz V) (hbytes:(xs.length+ys.length)*by_<=140737488355328) (h:∀ sv,WL P ops Q w0 rest (l.set d sv) (.ow [sv] (xs++ys)::Ε)) :
  WL P ops Q w0 (⟨some d,.call { callee:=.builtin .append,args:=#[x,y],argTypes:=#[T,T] },ty,pos,after,none⟩::rest) l I:=by
 intro w hs
 have hs1:Sat w0 w ([.ow [ov] xs,.ow [tv] ys]++Ε):=(hs.perm h1.perm).perm (h2.perm.cons _)
 obtain ⟨hb,F,hn,hl,hsep⟩:=hs1
 obtain ⟨f,g,rfl,hf,f',g',rfl,hf',hrest⟩:=hsep
 have how:cB.ow _ w f' [tv] ys:=hf'
 rw[fL] at how
 have hnd2:(f++f').Nodup:=by
  have:=hn;rw[← aT] at this;exact(bJ.1 this).1
 obtain ⟨a,c,news,fy,htv,hsrc,hyo,hsub,hfyn⟩:∃ a c news fy,tv=.slice a ys.length c/\(0<ys.length->∃ b off,a=some (⟨b,off,none⟩:Addr)/\gM w b off news)/\
   jA (·∉f++(f'++g')) w fy news ys/\(∀ b∈fy,b∈f')/\fy.Nodup:=by
  rcases how with⟨e,rfl,rfl⟩|⟨g2,cap,dV,e,G,cells,e1,rfl,hg2,_,_,_,hcs,htake,hO⟩
  ·simp only[bR,and_true] at e;exact⟨none,0,[],[],e,by simp,⟨rfl,rfl⟩,by simp,by simp⟩
  ·simp only[bR,and_true] at e1
   refine⟨_,_,cells,G,e1,fun _=>⟨g2,0,rfl,fun j hj=>?_⟩,hO,fun b hb=>by simp [hb],(List.nodup_cons.1 (bJ.1 hnd2).2.1).2⟩
   rw[← htake] at hj ⊢
   rw[aN] at hj
   rw[cU,if_pos (by omega)]
   simp [World.cell?,hg2]
 subst htv
 have hnd:(f++fy).Nodup:=by
  rw[bJ] at hnd2 ⊢
  exact⟨hnd2.1,hfyn,fun a ha b hb=>hnd2.2.2 a ha b (hsub b hb)⟩
 obtain ⟨v',w',hr,ho,hsame,fn,hfn,hnew,hrep⟩:=oA (P:=P) (T:=T) (ty:=ty) hk hf hsrc hyo hnd (fun b hb hok=>hok (by
  rcases aP.1 hb with h|h
  ·simp [h]
  ·simp [hsub b h])) hbytes
 refine jW rfl (mB hr) ?_
 rw[gO]
 refine h _ _ ?_
 rw[← aT] at hn hl
 refine Sat.step' (Δ':=[.ow [v'] (xs++ys)]) (I:=Ε) (f:=f++f') (g:=g') hb hn hl (by rw[aT];exact hrest) ho (fun b hlt hm=>hsame b hlt (fun h=>hm (by simp [h]))) fn hfn
  (fun b hb=>(hnew b hb).imp (fun h=>?_) id) (fun ok' hok'=>⟨fn,[],by simp,hrep ok' (fun b hb=>hok' b (by rw[aT];exact hb)),rfl⟩)
 rcases aP.1 h with h|h
 ·simp [h]
 ·simp [hsub b h]
theorem aG7{T k by_:Nat}{x y:Operand}{ov tv:Value}{V:Type}{iα:cB V}{xs ys:List V}[hx:Ev l x ov][hy:Ev l y tv][hT:Sl P T k by_][h1:cQ (List V) bA I [ov] xs Y][h2:dZ (List V) bA Y [tv] ys][hcp:Cp V]
  (hk:k=cB.sz V) (hbytes:(xs.length+ys.length)*by_<=140737488355328) (h:∀ sv,WL P ops Q w0 rest (l.set d sv) (.ow [sv] (xs++ys)::Y)) :
  WL P ops Q w0 (⟨some d,.call { callee:=.builtin .append,args:=#[x,y],argTypes:=#[T,T] },ty,pos,after,none⟩::rest) l I:=by
 intro w hs
 have hs1:Sat w0 w ([.ow [ov] xs]++Y):=hs.perm h1.perm
 obtain ⟨hb,F,hn,hl,f,g,rfl,hf,hrest⟩:=hs1
 obtain ⟨a,c,hc,_,_,_,hrd⟩:=h2.get hrest
 simp only[bR,and_true] at hc
 subst hc
 obtain ⟨news,hsrc,hyo⟩:∃ news,(0<ys.length->∃ b off,a=some (⟨b,off,none⟩:Addr)/\gM w b off news)/\jA (·∉f++g) w [] news ys:=by
  by_cases h0:0<ys.length
  ·obtain ⟨b,off,cells,rfl,_,hca,hr⟩:=hrd h0
   exact⟨cells,fun _=>⟨b,off,rfl,hca⟩,hr.ow⟩
  ·have:ys=[]:=dG (by omega)
   subst this
   exact⟨[],by simp,rfl,rfl⟩
 obtain ⟨v',w',hr,ho,hsame,fn,hfn,hnew,hrep⟩:=oA (P:=P) (T:=T) (ty:=ty) (c:=c) hk hf hsrc hyo (by simpa using (bJ.1 hn).1) (fun b hb hok=>hok (by simp at hb;simp [hb])) hbytes
 refine jW rfl (mB hr) ?_
 rw[gO]
 refine h _ _ ?_
 exact Sat.step' (Δ':=[.ow [v'] (xs++ys)]) (I:=Y) hb hn hl hrest ho hsame fn hfn
  (fun b hb=>(hnew b hb).imp (fun h=>by simpa using h) id) (fun ok' hok'=>⟨fn,[],by simp,hrep ok' hok',rfl⟩)
end ops
end Go.Eng
namespace Go.Eng
open Go Go.RowKit
theorem vX:∀ (c:List Value) (off k:Nat) (cells:List Value),off+k+c.length<=cells.length->
  (c.zipIdx k).foldl (fun (cs:Array Value) x=>cs.setIfInBounds (off+x.2) x.1) cells.toArray=(cells.take (off+k)++c++cells.drop (off+k+c.length)).toArray
 | [],off,k,cells,h=>by simp
 | x::c,off,k,cells,h=>by
  have h':off+k+c.length+1<=cells.length:=by simp at h;omega
  simp only[List.zipIdx_cons,List.foldl_cons,List.setIfInBounds_toArray]
  rw[vX c off (k+1) _ (by rw[aV];omega)]
  congr 1
  have e1:(cells.set (off+k) x).take (off+(k+1))=cells.take (off+k)++[x]:=by
   rw[← Nat.add_assoc,bC (by rw[aV];omega)]
   simp [List.take_set_of_le]
  have e2:(cells.set (off+k) x).drop (off+(k+1)+c.length)=cells.drop (off+k+(x::c).length):=by
   rw[List.drop_set_of_lt (by omega)]
   congr 1
   simp;omega
  rw[e1,e2]
  simp
class qX{V:Type}(l:List V)(n:outParam Nat):Prop where
 eq:l.length=n
instance {V:Type}:qX ([]:List V) 0:=⟨rfl⟩
instance {V:Type}{a:V}{l:List V}{n:Nat}[h:qX l n]:qX (a::l) (n+1):=⟨by simp [h.eq]⟩
class wH(a b:Nat):Prop where
 eq:a=b
instance {a:Nat}:wH a a:=⟨rfl⟩
class aBa(I:List Atom)(l:List Value)(places:List (Nat×Nat))(cells:List Value)(ps:List (Nat×Operand))(out:outParam (List Value)):Prop where
 run:∀ {ok w F},jT ok w I F->Instr.fill (places[·]?) cells.toArray (ps.map fun p=>(p.1,(E l).eval p.2))=some out.toArray
instance {I:List Atom}{l:List Value}{places:List (Nat×Nat)}{cells:List Value}:aBa I l places cells [] cells:=⟨fun _=>rfl⟩
theorem aEg{aEt:Nat->Option (Nat×Nat)}{i off size:Nat}{v:Value}{c cells:List Value}{rest:List (Nat×Value)}(hp:aEt i=some (off,size))(hv:v.cells=c.toArray)(hc:c.length=size)(hle:off+c.length<=cells.length) :
  Instr.fill aEt cells.toArray ((i,v)::rest)=Instr.fill aEt (cells.take off++c++cells.drop (off+c.length)).toArray rest:=by
 have hf:=vX c off 0 cells (by omega)
 simp only[Nat.add_zero] at hf
 simp only[Instr.fill,hp,hv]
 have h1:(c.toArray.size≠size||off+c.toArray.size>cells.toArray.size)=false:=by simp [hc];omega
 rw[h1]
 simp only[dB,if_false]
 rw[← hf]
 congr 1
 simp
instance {I:List Atom}{l:List Value}{places:List (Nat×Nat)}{cells cells' out c:List Value}{i off size n:Nat}{x:Operand}{v:Value}{ps:List (Nat×Operand)}[hp:Ge places i (off,size)][hx:Ev l x v][hc:Cs I v c][hl:qX c n][hsp:Sp cells off c cells'][hne:wH n size][hb:aBa I l places cells' ps out] :
  aBa I l places cells ((i,x)::ps) out:=⟨fun hs=>by
 obtain ⟨e,hle⟩:=hsp.eq
 simp only[List.map_cons,hx.eq]
 rw[aEg hp.eq (hc.eq hs).1 (hl.eq.trans hne.eq) hle,← e]
 exact hb.run hs⟩
class wI(P:Program)(T:TypeId)(places:outParam (List (Nat×Nat)))(zs:outParam (List Value)):Prop where
 ex:∃ fields it z,P.underlying T=some (.struct fields)/\fields.toList.mapM (fun f=>(P.info? f.type).map fun i=>(f.offset,i.size))=some places/\P.info? T=some it/\it.zero=some z/\z.cells=zs.toArray
section ops
variable {P:Program} {ops:Array Oper} {Q:Exit->Act->World->Prop} {w0:World} {rest:List Oper} {l l':List Value} {I Y Ε:List Atom} {ty:TypeId} {v:Value} {pos:String} {after:Array Edge} {d:Nat}
theorem aWb{T:TypeId}{ps:List (Nat×Operand)}{places:List (Nat×Nat)}{zs out:List Value}[hT:wI P T places zs][hb:aBa I l places zs ps out]:Pu P w0 l I (.build T ps.toArray) ty (.agg out.toArray):=by
 obtain ⟨fields,it,z,hu,hp,hi,hz,hzc⟩:=hT.ex
 refine fT (s:=Instr.build T (ps.toArray.map fun (i,x)=>(i,(E l).eval x))) (fun o ho _=>by unfold execOp;rw[ho]) (fun w hs=>?_)
 obtain ⟨_,F,_,_,hsep⟩:=hs
 have h:=hb.run hsep
 refine run_build w T _ out.toArray ?_
 simp only[Program.built,hi,hu,hz,hp,hzc]
 simpa using h
class oW(I:List Atom)(l:List Value)(k:Nat)(i:Nat)(ps:List (Nat×Operand))(groups:outParam (List (List Value))):Prop where
 idx:ps.map (·.1)=List.range' i groups.length
 run:∀ {ok w F},jT ok w I F->∀ (j:Nat) (p:Nat×Operand) (g:List Value),ps[j]?=some p->groups[j]?=some g->((E l).eval p.2).cells=g.toArray/\g.length=k/\∀ c∈g,c.oneCell'=true
instance {I:List Atom}{l:List Value}{k i:Nat}:oW I l k i [] []:=⟨rfl,fun _ j p g h=>by simp at h⟩
instance {I:List Atom}{l:List Value}{k i n:Nat}{x:Operand}{v:Value}{g:List Value}{ps:List (Nat×Operand)}{groups:List (List Value)}[hx:Ev l x v][hc:Cs I v g][hl:qX g n][hne:wH n k][hp:oW I l k (i+1) ps groups] :
  oW I l k i ((i,x)::ps) (g::groups):=⟨by simp [hp.idx,List.range'_succ],fun hs j p g' h1 h2=>by
 cases j with
 | zero=>simp at h1 h2;subst h1 h2;exact⟨by rw[hx.eq];exact(hc.eq hs).1,hl.eq.trans hne.eq,(hc.eq hs).2⟩
 | succ j=>exact hp.run hs j p g' (by simpa using h1) (by simpa using h2)⟩
theorem aCh{k:Nat}:∀ (ps:List (Nat×Value)) (groups:List (List Value)) (i:Nat) (done rest:List Value),ps.map (·.1)=List.range' i groups.length->done.length=i*k->groups.length*k<=rest.length->
  (∀ (j:Nat) p g,ps[j]?=some p->groups[j]?=some g->p.2.cells=g.toArray/\g.length=k)->
  Instr.fill (fun i=>some (i*k,k)) (done++rest).toArray ps=some (done++groups.flatten++rest.drop (groups.length*k)).toArray
 | [],[],i,done,rest,_,_,_,_=>by simp [Instr.fill]
 | [],g::gs,i,done,rest,h,_,_,_=>by simp [List.range'_succ] at h
 | p::ps,[],i,done,rest,h,_,_,_=>by simp at h
 | (n,v)::ps,g::gs,i,done,rest,h,hd,hl,hp=>by
  simp only[List.map_cons,aF,List.range'_succ,bR] at h
  obtain ⟨rfl,hi⟩:=h
  obtain ⟨h1,h2⟩:=hp 0 (n,v) g (by simp) (by simp)
  have hmul:(gs.length+1)*k=gs.length*k+k:=by rw[dE,Nat.one_mul]
  have hl':gs.length*k+k<=rest.length:=by rw[← hmul];simpa using hl
  rw[aEg (off:=n*k) (size:=k) rfl h1 h2 (by rw[aD,hd,h2];omega)]
  have e:(done++rest).take (n*k)++g++(done++rest).drop (n*k+g.length)=(done++g)++rest.drop k:=by
   rw[← hd,List.take_left,List.drop_append,cI (cW _ _),Nat.add_sub_cancel_left,h2];simp
  rw[e,aCh ps gs (n+1) (done++g) (rest.drop k) hi (by rw[aD,hd,h2,dE,Nat.one_mul]) (by rw[aR];omega) (fun j p g hj hg=>hp (j+1) p g (by simpa using hj) (by simpa using hg))]
  simp only[List.flatten_cons,aT,List.drop_drop,aF,hmul,Nat.add_comm k]
inductive xH {V:Type} [cB V]:List Atom->List (List Value)->List V->List Atom->Prop
 | nil {I:List Atom}:xH I [] [] I
 | cons {I Y Ε:List Atom} {c:List Value} {cs:List (List Value)} {x:V} {xs:List V}:Own I c x Y->xH Y cs xs Ε->xH I (c::cs) (x::xs) Ε
theorem xH.sep{V:Type}[cB V]{ok:Nat->Prop}{w:World}:∀ {I:List Atom} {gs:List (List Value)} {xs:List V} {Y:List Atom},xH I gs xs Y->∀ {F:List Nat},jT ok w I F->
  ∃ f g,(f++g).Perm F/\jA ok w f gs.flatten xs/\jT ok w Y g/\gs.length=xs.length
 | _,_,_,_,.nil,F,hs=>⟨[],F,.refl _,⟨rfl,rfl⟩,hs,rfl⟩
 | _,_,_,_,.cons h h',F,hs=>by
  obtain ⟨G,hG,f,g,rfl,h1,h2⟩:=h hs
  obtain ⟨f',g',hp,h3,h4,h5⟩:=xH.sep h' h2
  exact⟨f++f',g',by rw[aT];exact(hp.append_left f).trans hG,⟨f,f',_,_,rfl,rfl,h1,h3⟩,h4,by simp [h5]⟩
theorem aAk{T e n:Nat}{i:TypeInfo}{z:Value}{parts:Array (Nat×Value)}{cells:List Value}(ht:P.underlying T=some (.slice e))(hi:P.info? e=some i)(hz:i.zero=some z)(hnk:n*i.size<=16777216)
  (hfill:∀ zr:List Value,zr.length=n*i.size->Instr.fill (fun j=>some (j*i.size,i.size)) zr.toArray parts.toList=some cells.toArray) (w:World) :
  (Instr.buildSlice T n parts).run P w=.ok (.slice (some ⟨w.heap.size,0,none⟩) n n) (w.alloc (.cells cells.toArray e)):=by
 have hnk':¬ (16777216<n*i.size):=by omega
 have hf:∀ zr:Array Value,zr.size=n*i.size->Instr.fill (fun j=>some (j*i.size,i.size)) zr parts.toList=some cells.toArray:=fun zr h=>by
  have:=hfill zr.toList (by simpa using h)
  simpa using this
 by_cases h0:n*i.size=0
 ·have:=hf ((Array.range 0).map (fun j=>(#[]:Array Value)[j % 0]!)) (by simp [h0])
  simp [Instr.buildSlice,run_underlying ht,sizeOf,typeInfo,hi,h0] at this ⊢
  simp [this,newRow]
 ·have:=hf ((Array.range (n*i.size)).map (fun j=>z.cells[j % z.cells.size]!)) (by simp)
  simp only[Instr.buildSlice,sizeOf,zeroValue,typeInfo,Sem.run_bind,run_underlying ht,Result.andThen_ok]
  simp [hi,hz,h0,hnk',this,newRow]
theorem oQ{V:Type}[iα:cB V]{T k by_ n:Nat}{ps:List (Nat×Operand)}{groups:List (List Value)}{xs:List V}[hT:Sl P T k by_][hp:oW I l k 0 ps groups](ho:xH I groups xs Y)(hk:k=cB.sz V)(hn:n=xs.length)(hnk:n*k<=16777216)
  (h:∀ sv,WL P ops Q w0 rest (l.set d sv) (.ow [sv] xs::Y)):WL P ops Q w0 (⟨some d,.buildSlice T n ps.toArray,ty,pos,after,none⟩::rest) l I:=by
 intro w hs
 obtain ⟨e,i,z,ht,hi,hik,hib,hz,hzk,hpos⟩:=hT.ex
 obtain ⟨hb,F,hnd,hl,hsep⟩:=hs
 obtain ⟨f,g,hperm,hO,hsep',hlen⟩:=ho.sep hsep
 have hgl:groups.length=n:=hlen.trans hn.symm
 have hfl:groups.flatten.length=n*k:=by rw[hO.len,hn,hk]
 have hn2:n<=n*k:=Nat.le_mul_of_pos_right _ (by rw[hk];exact cB.pos)
 have hidx:(ps.map fun p=>(p.1,(E l).eval p.2)).map (·.1)=List.range' 0 groups.length:=by
  rw[List.map_map];exact hp.idx
 have hr:=aAk (P:=P) (n:=n) (parts:=ps.toArray.map fun (i,x)=>(i,(E l).eval x)) (cells:=groups.flatten) ht hi hz (by rw[hik];exact hnk) (fun zr hzr=>by
  have hfill:=aCh (k:=k) (ps.map fun p=>(p.1,(E l).eval p.2)) groups 0 [] zr hidx (by simp) (by rw[hgl,hzr,hik];exact aM _) (fun j p gg hj hg=>by
   simp only[List.getElem?_map,Option.map_eq_some_iff] at hj
   obtain ⟨q,hq,rfl⟩:=hj
   have:=hp.run hsep j q gg hq hg
   exact⟨this.1,this.2.1⟩)
  rw[cI (by rw[hgl,hzr,hik];exact aM _)] at hfill
  simpa [hik] using hfill) w
 refine jW (v:=.slice (some ⟨w.heap.size,0,none⟩) n n) (w':=w.alloc (.cells groups.flatten.toArray e)) rfl (fW (f:=Next.value) hr) ?_
 rw[gO]
 refine h _ _ ?_
 have hfn:(f++g).Nodup:=hperm.symm.nodup hnd
 have hlt:∀ b∈f,b<w.heap.size:=hO.lt
 refine Sat.step' (Δ':=[.ow [_] xs]) (I:=Y) (f:=f) (g:=g) hb hfn (fun b hb=>hl b (hperm.mem_iff.1 hb)) (hsep'.mono (fun b hb _=>⟨fun h=>hb (hperm.mem_iff.1 h),rfl⟩) (aM _) (fun _ _=>rfl))
  ⟨rfl,rfl,rfl,by simp,(by first|exact aM _|exact cW _ _)⟩ (fun b hb _=>Below.heap_alloc _ _ _ hb) (w.heap.size::f) (List.nodup_cons.2 ⟨fun h=>Nat.lt_irrefl _ (hlt _ h),(bJ.1 hfn).1⟩)
  (fun b hb=>by
   rcases cH.1 hb with rfl|hb
   ·exact .inr (aM _)
   ·exact .inl hb) (fun ok' hok'=>⟨w.heap.size::f,[],by simp,?_,rfl⟩)
 show cB.ow _ _ _ _ _
 rw[fL]
 refine .inr ⟨w.heap.size,n,_,e,f,groups.flatten,by rw[hn],rfl,heap_alloc_new w _,by omega,by simp only[maxLen];omega,by omega,by simp [hfl,hk],?_,?_⟩
 ·rw[List.toList_toArray,← hn,← hk,← hfl,cZ]
 ·exact hO.mono (fun b hb hlt=>⟨hok' b (fun h=>hb (hperm.mem_iff.1 h)) hlt,Below.heap_alloc _ _ _ hlt⟩) (fun b hb=>Below.heap_alloc _ _ _ (hlt b hb))
theorem aC7{V:Type}{iα:cB V}{T k kk:Nat}{x y:Operand}{sv:Value}{n:Int}{xs:List V}{vc:List Value}{u:V}[hx:Ev l x (.pointer (some (dW sv n k)))][hy:Ev l y v][hc:Cs I v vc][hT:Sz P T kk][h1:cQ (List V) bA I [sv] xs Y]
  (ho:Own Y vc u Ε) (hk:k=cB.sz V) (hkk:kk=cB.sz V) (hi:0<=n/\n<xs.length) (h:WL P ops Q w0 rest l (.ow [sv] (xs.set n.toNat u)::Ε)) :
  WL P ops Q w0 (⟨none,.store T x y,ty,pos,after,none⟩::rest) l I:=by
 intro w hs
 obtain ⟨hvc,hone⟩:=hs.cs (hc:=hc)
 obtain ⟨hb,F,hnd,hl,f,g,rfl,hf,hΔ⟩:=hs.perm h1.perm
 obtain ⟨g2,hg2,fx,ge,rfl,hx2,hE⟩:=ho hΔ
 have how:cB.ow (·∉f++g) w f [sv] xs:=hf
 have hux:cB.ow (·∉f++g) w fx vc u:=hx2
 have hvl:vc.length=cB.sz V:=cB.rd_len (x:=u) (cB.ow_rd (ok':=fun _=>True) hux (fun _ _=>trivial) (fun _ _=>trivial))
 rw[fL] at how
 rcases how with⟨_,rfl,rfl⟩|⟨b,cap,dV,e,G,cells,hov,rfl,hgb,hcap,hcapm,hlen,hcs,htake,hO⟩
 ·simp at hi;omega
 simp only[bR,and_true] at hov
 subst hov
 have hin:n.toNat<xs.length:=by omega
 obtain ⟨f1,fo,f2,p,c,s,rfl,hcells,hold,hO1,hO2⟩:=hO.get n.toNat hin
 have hpl:p.length=n.toNat*cB.sz V:=by rw[hO1.len,aN];congr 1;omega
 have hcl:c.length=cB.sz V:=cB.rd_len (x:=xs[n.toNat]) (cB.ow_rd (ok':=fun _=>True) hold (fun _ _=>trivial) (fun _ _=>trivial))
 have htl:cells.length=xs.length*cB.sz V:=hO.len
 have hcur:dV.toList=p++c++s++dV.toList.drop (xs.length*cB.sz V):=by rw[← hcells,← htake];simp
 have hle:p.length+0+vc.length<=dV.size:=by
  have:=congrArg List.length hcur
  simp only[aD,bZ] at this
  omega
 have hr:=run_storeCells_at P b p.length e vc 0 dV w hgb hle hone
 simp only[Nat.add_zero] at hr
 have hnew:dV.toList.take p.length++vc++dV.toList.drop (p.length+vc.length)=p++vc++s++dV.toList.drop (xs.length*cB.sz V):=by
  have e1:dV.toList.take p.length=p:=by rw[hcur];simp
  have e2:dV.toList.drop (p.length+vc.length)=s++dV.toList.drop (xs.length*cB.sz V):=by
   conv=>lhs;rw[hcur]
   rw[show p++c++s++dV.toList.drop (xs.length*cB.sz V)=(p++c)++(s++dV.toList.drop (xs.length*cB.sz V)) by simp]
   rw[List.drop_append,cI (by rw[aD,hvl,hcl];exact aM _),aB,aD,hcl,hvl,Nat.sub_self,List.drop_zero]
  rw[e1,e2];simp
 rw[hnew] at hr
 have hfn:(b::(f1++fo++f2)++(fx++ge)).Nodup:=(hg2.append_left _).symm.nodup hnd
 refine wpList_plain rfl fun K hK=>?_
 unfold Oper.wp
 have hrun:(execOp (E l).eval ⟨none,.store T x y,ty,pos,after,none⟩).run P w=.ok .skip (w.setRow b (p++vc++s++dV.toList.drop (xs.length*cB.sz V)).toArray):=by
  show(do Instr.storeAt T ((E l).eval x) ((E l).eval y);pure Next.skip:Sem Next).run P w=_
  have hea:dW (.slice (some ⟨b,0,none⟩) xs.length cap) n k=⟨b,p.length,none⟩:=by
   simp only[dW,fB,cR,hk,hpl]
  simp only[hx.eq,hy.eq,Sem.run_bind,Instr.storeAt,Instr.sureAddr,Sem.run_pure,Result.andThen_ok,storeVar,hT.size,hvc,hea]
  simp only[dP,hvl,hkk,ne_eq,not_true_eq_false,if_false,Sem.run_pure,Result.andThen_ok,Sem.run_bind]
  simp only[hr,Result.andThen_ok]
 rw[hrun,Oper.upon_skip,nN]
 refine hK _ _ (h _ ?_)
 have hblt:b<w.heap.size:=(bL.1 hgb).1
 have hsame:∀ k,k≠b->gH w (w.setRow b (p++vc++s++dV.toList.drop (xs.length*cB.sz V)).toArray) k:=fun k hk=>setRow_other w b k _ hk
 have hmem:∀ k,k∈(b::(f1++fo++f2))++(fx++ge)↔k∈(b::(f1++fo++f2))++g:=fun k=>(hg2.append_left _).mem_iff
 have hnd1:=bJ.1 hfn
 refine Sat.step' (Δ':=[.ow [_] (xs.set n.toNat u)]) (I:=Ε) (f:=(b::(f1++fo++f2))++fx) (g:=ge) (w:=w) hb (by rw[aT];exact hfn) (fun k hk=>hl k (by rw[← hmem k,← aT];exact hk)) (hE.mono (fun k hk _=>⟨fun h=>hk (by rw[← hmem k,← aT];exact h),rfl⟩) (aM _) (fun _ _=>rfl))
  ⟨rfl,rfl,rfl,by simp,(by first|exact aM _|exact cW _ _)⟩ (fun k _ hk=>hsame k (fun h=>hk (by simp [h]))) (b::(f1++fx++f2)) ?_ ?_ (fun ok' hok'=>⟨b::(f1++fx++f2),[],by simp,?_,rfl⟩)
 ·have h2:=hnd1.1
  have h3:=(bJ.1 hnd1.2.1).1
  have h4:=hnd1.2.2
  simp only[List.nodup_cons,bJ,aP,cH,not_or] at h2 h4 ⊢
  obtain ⟨⟨⟨hb1,hbo⟩,hb2⟩,⟨⟨n1,no,d1⟩,n2,d2⟩⟩:=h2
  refine⟨⟨⟨hb1,fun hm=>h4 b (.inl rfl) b (.inl hm) rfl⟩,hb2⟩,⟨n1,h3,fun a ha c hc=>h4 a (.inr (.inl (.inl ha))) c (.inl hc)⟩,n2,?_⟩
  rintro a (ha|ha) c hc
  ·exact d2 a (.inl ha) c hc
  ·exact fun e=>h4 c (.inr (.inr hc)) a (.inl ha) e.symm
 ·intro k hk
  left
  simp only[cH,aP] at hk ⊢
  rcases hk with h|((h|h)|h)
  ·exact .inl (.inl h)
  ·exact .inl (.inr (.inl (.inl h)))
  ·exact .inr h
  ·exact .inl (.inr (.inr h))
 ·show cB.ow _ _ _ _ _
  rw[fL]
  have hok2:∀ k,k∉(b::(f1++fo++f2))++g->k<w.heap.size->ok' k/\gH w (w.setRow b (p++vc++s++dV.toList.drop (xs.length*cB.sz V)).toArray) k:=
   fun k hk hlt=>⟨hok' k (fun h=>hk (by rw[← hmem k,← aT];exact h)) hlt,hsame k (fun h=>hk (by simp [h]))⟩
  have hbG:b∉f1++fo++f2:=(List.nodup_cons.1 hnd1.1).1
  refine .inr ⟨b,cap,_,e,f1++fx++f2,p++vc++s,by simp,rfl,setRow_heap w b dV _ e _ hgb,by simpa using hcap,hcapm,by simpa using hlen,?_,?_,?_⟩
  ·have:=congrArg List.length hcur
   simp only[aD,bZ] at this
   simp only[dP,aD]
   omega
  ·rw[List.toList_toArray,aV,List.take_append_of_le_length]
   ·rw[bE]
    have:=congrArg List.length hcells
    simp only[aD] at this ⊢
    omega
   ·have:=congrArg List.length hcells
    simp only[aD] at this ⊢
    omega
  ·have hset:xs.set n.toNat u=xs.take n.toNat++[u]++xs.drop (n.toNat+1):=by
    rw[List.set_eq_take_append_cons_drop,if_pos hin];simp
   rw[hset]
   have hmid:jA ok' (w.setRow b (p++vc++s++dV.toList.drop (xs.length*cB.sz V)).toArray) fx vc [u]:=
    ⟨fx,[],vc,[],by simp,by simp,cB.ow_mono hux (fun k hk=>hsame k (fun h=>hnd1.2.2 b (by simp) k (by simp [hk]) h.symm)) hok2,rfl,rfl⟩
   exact jA.append (hO2.mono hok2 (fun k hk=>hsame k (fun h=>hbG (by simp [← h,hk])))) (jA.append hmid (hO1.mono hok2 (fun k hk=>hsame k (fun h=>hbG (by simp [← h,hk])))))
end ops
end Go.Eng
namespace Go.Eng
open Go Go.RowKit
class Un(V:Type)[cB V] where
 Pr:Type
 cells:Pr->V->List Value
 atoms:Pr->V->List Atom
 fact:V->Prop
 law:∀ {ok w cs} {x:V},cB.rd ok w cs x->∃ p,cs=cells p x/\jT ok w (atoms p x) []/\fact x
 len:∀ (p:Pr) (x:V),(cells p x).length=cB.sz V
 ext:∀ {ok w} {p:Pr} {x:V},cB.rd ok w (cells p x) x->jT ok w (atoms p x) []
instance bQ9:Un Int:=⟨Unit,fun _ n=>[.int .i64 n],fun _ _=>[],fun n=>-9223372036854775808<=n/\n<=9223372036854775807,fun h=>⟨(),h.1,rfl,h.2⟩,fun _ _=>rfl,fun _=>rfl⟩
instance bQd:Un Bool:=⟨Unit,fun _ b=>[.bool b],fun _ _=>[],fun _=>True,fun h=>⟨(),h,rfl,trivial⟩,fun _ _=>rfl,fun _=>rfl⟩
instance bQu:Un ByteArray:=⟨Unit,fun _ s=>[.string s],fun _ _=>[],fun s=>s.size<=9223372036854775807,fun h=>⟨(),h.1,rfl,h.2⟩,fun _ _=>rfl,fun _=>rfl⟩
instance bRo:Un UInt8:=⟨Unit,fun _ n=>[.int .u8 n.toNat],fun _ _=>[],fun _=>True,fun h=>⟨(),h,rfl,trivial⟩,fun _ _=>rfl,fun _=>rfl⟩
instance bQn{V:Type}[cB V]:Un (List V):=⟨Value,fun c _=>[c],fun c xs=>[.rd [c] xs],fun xs=>xs.length<=9223372036854775807,fun {ok w cs xs} h=>by
 have h':=h
 obtain ⟨a,cap,rfl,_,_,hl,_⟩:=h'
 exact⟨_,rfl,⟨[],[],rfl,⟨rfl,h⟩,rfl⟩,hl⟩,fun _ _=>rfl,fun h=>⟨[],[],rfl,⟨rfl,h⟩,rfl⟩⟩
instance bP7{V β:Type}[cB V][cB β][ua:Un V][ub:Un β]:Un (V×β):=⟨ua.Pr×ub.Pr,fun p x=>ua.cells p.1 x.1++ub.cells p.2 x.2,fun p x=>ua.atoms p.1 x.1++ub.atoms p.2 x.2,fun x=>ua.fact x.1/\ub.fact x.2,fun h=>by
 obtain ⟨c,d,rfl,h1,h2⟩:=h
 obtain ⟨p,rfl,hp,hf⟩:=ua.law h1
 obtain ⟨q,rfl,hq,hg⟩:=ub.law h2
 exact⟨(p,q),rfl,jT.append hq hp,hf,hg⟩,
 fun p x=>by rw[aD,ua.len,ub.len];rfl,
 fun {ok w p x} h=>by
  obtain ⟨c,d,he,h1,h2⟩:=h
  have hl1:=cB.rd_len h1
  obtain ⟨rfl,rfl⟩:=List.append_inj he (by rw[ua.len,hl1])
  exact jT.append (ub.ext h2) (ua.ext h1)⟩
instance bRr{V:Type}[cB V][ua:Un V]:Un (Sh V):=⟨ua.Pr,fun p x=>ua.cells p x.v,fun p x=>ua.atoms p x.v,fun x=>ua.fact x.v,fun h=>ua.law h,fun p x=>ua.len p x.v,fun h=>ua.ext h⟩
section un
set_option linter.unusedSectionVars false
variable {V β:Type} [cB V] [cB β] [Un V] [Un β]
end un
theorem Sat.addSep{w0 w:World}{I Y:List Atom}(h:Sat w0 w I)(hd:∀ F,jT (·∉F) w I F->jT (·∉F) w Y []):Sat w0 w (Y++I):=by
 obtain ⟨hb,F,hn,hl,hs⟩:=h
 exact⟨hb,F,hn,hl,by simpa using jT.append hs (hd F hs)⟩
section ops
variable {P:Program} {ops:Array Oper} {Q:Exit->Act->World->Prop} {w0:World} {rest:List Oper} {l l':List Value} {I Y Ε:List Atom} {ty:TypeId} {v:Value} {pos:String} {after:Array Edge} {d:Nat}
theorem aIl{V:Type}{iα:cB V}[inh:Inhabited V][un:Un V]{w:World}{sv:Value}{n:Int}{xs:List V}[hr:fK (List V) bA I [sv] xs](hi:0<=n/\n<xs.length)(hs:Sat w0 w I) :
  ∃ p:Un.Pr V,Un.fact (xs.getD n.toNat default)/\Sat w0 w (.pt (dW sv n (cB.sz V)) (Un.cells p (xs.getD n.toNat default))::(Un.atoms p (xs.getD n.toNat default)++I)):=by
 have hin:n.toNat<xs.length:=by omega
 have hget:xs.getD n.toNat default=xs[n.toNat]:=by rw[aC,aG hin,aZ]
 obtain ⟨hb,F,hn,hl,hsep⟩:=hs
 obtain ⟨a,cap,b,off,p,c,s,rfl,ha,hok,hca,hp,hea,hrd⟩:=gV (hr.get hsep) hi.1 hi.2
 rw[← hget] at hrd
 obtain ⟨q,rfl,hq,hf⟩:=un.law hrd
 refine⟨q,hf,hb,F,hn,hl,[],F,rfl,⟨rfl,?_⟩,by simpa using jT.append hsep hq⟩
 rw[hea]
 have hlen:=cB.rd_len hrd
 refine⟨hok,hca.lt (by have:=cB.pos (V:=V);simp only[aD];omega),fun j hj=>?_⟩
 rw[fB]
 exact hca.part j hj
theorem bB4{V:Type}{iα:cB V}[inh:Inhabited V][un:Un V](sv:Value)(n:Int){xs:List V}[hr:fK (List V) bA I [sv] xs](hi:0<=n/\n<xs.length)
  (h:∀ p:Un.Pr V,Un.fact (xs.getD n.toNat default)->WL P ops Q w0 rest l (.pt (dW sv n (cB.sz V)) (Un.cells p (xs.getD n.toNat default))::(Un.atoms p (xs.getD n.toNat default)++I))):WL P ops Q w0 rest l I:=fun w hs=>by
 obtain ⟨p,hf,hs'⟩:=aIl (hr:=hr) hi hs
 exact h p hf w hs'
theorem bB7{V:Type}{iα:cB V}[inh:Inhabited V][un:Un V]{c:Code}(sv:Value)(n:Int){xs:List V}[hr:fK (List V) bA I [sv] xs](hi:0<=n/\n<xs.length)
  (h:∀ p:Un.Pr V,Un.fact (xs.getD n.toNat default)->WC P Q w0 c l (.pt (dW sv n (cB.sz V)) (Un.cells p (xs.getD n.toNat default))::(Un.atoms p (xs.getD n.toNat default)++I))):WC P Q w0 c l I:=fun w hs=>by
 obtain ⟨p,hf,hs'⟩:=aIl (hr:=hr) hi hs
 exact h p hf w hs'
class aY2(V:Type):Prop where
 t:True
instance:aY2 Int:=⟨trivial⟩
instance:aY2 Bool:=⟨trivial⟩
instance:aY2 ByteArray:=⟨trivial⟩
instance:aY2 UInt8:=⟨trivial⟩
class uS(V:Type):Prop where
 t:True
instance {V:Type}:uS (List V):=⟨trivial⟩
instance {V β:Type}:uS (V×β):=⟨trivial⟩
instance {V:Type}:uS (Sh V):=⟨trivial⟩
theorem aDi{V:Type}{iα:cB V}[inh:Inhabited V][un:Un V][dp:uS V]{T k by_:Nat}{x y:Operand}{sv:Value}{n:Int}{kk:IntKind}{xs:List V}[hx:Ev l x sv][hy:Ev l y (.int kk n)][hT:Sl P T k by_][hr:fK (List V) bA I [sv] xs]
  (hk:k=cB.sz V) (hi:0<=n/\n<xs.length) [hd:Se l d (.pointer (some (dW sv n k))) l']
  (h:∀ (p:Un.Pr V) (cs:List Value) (as:List Atom),Un.cells p (xs.getD n.toNat default)=cs->Un.atoms p (xs.getD n.toNat default)++I=as->Un.fact (xs.getD n.toNat default)->WL P ops Q w0 rest l' (.pt (dW sv n k) cs::as)) :
  WL P ops Q w0 (⟨some d,.indexAddr T x y,ty,pos,after,none⟩::rest) l I:=by
 refine bB4 sv n hi fun p hf=>?_
 rw[← hk]
 intro w hs
 have hs0:Sat w0 w I:=Sat.dropN (Y:=.pt _ _::Un.atoms p _) hs
 refine wpList_plain rfl fun K hK=>?_
 unfold Oper.wp
 rw[qZ (ty:=ty) (hr:=dZ.im) hi w hs0 _ rfl rfl,Oper.upon_value,gO,hd.eq]
 exact hK _ _ (h p _ _ rfl rfl hf w hs)
theorem aKu{T off:Nat}{x:Operand}{p:Addr}{cs:List Value}[h:Ev l x (.pointer (some (p.add off)))][hT:Sc P T][hp:kW I p cs][hv:Ge cs off v]:Pu P w0 l I (.load T x) ty v:=
 fT (s:=Instr.loadAt T (.pointer (some (p.add off)))) (fun o ho _=>by unfold execOp;rw[ho];simp only[h.eq]) (fun w hs=>by
  have hlt:off<cs.length:=(dC.1 hv.eq).1
  have:=hs.pt (hr:=hp) off hlt
  rw[hv.eq] at this
  simp [Instr.loadAt,Instr.sureAddr,loadVar,Sem.run_bind,hT.agg,load,Sem.run,this])
theorem aVv{V:Type}[cB V]{ok:Nat->Prop}{w:World}{a:Option Addr}{cap lo hi:Nat}{xs:List V}(h:cB.rd ok w [.slice a xs.length cap] xs)(h1:lo<=hi)(h2:hi<=xs.length) :
  cB.rd ok w [.slice (if cap=lo then a else a.map (·.add (lo*cB.sz V))) (hi-lo) (cap-lo)] ((xs.take hi).drop lo):=by
 obtain ⟨a',cap',hc,hl1,hl2,hl3,hr⟩:=h
 simp only[bR,Value.slice.injEq,and_true,true_and] at hc
 obtain ⟨rfl,rfl⟩:=hc
 have hlen:((xs.take hi).drop lo).length=hi-lo:=by rw[aR,aN];omega
 refine⟨_,cap-lo,by rw[hlen],by omega,by omega,by omega,fun hp=>?_⟩
 obtain ⟨b,off,cells,rfl,hok,hca,hrd⟩:=hr (by omega)
 have hne:¬ cap=lo:=by omega
 refine⟨b,off+lo*cB.sz V,(cells.take (hi*cB.sz V)).drop (lo*cB.sz V),by simp [hne,fB],hok,?_,?_⟩
 ·have hcl:=hrd.len
  intro j hj
  rw[aR,aN] at hj
  rw[List.getElem?_drop,cU,if_pos (by omega),Nat.add_assoc]
  exact hca _ (by omega)
 ·have:=(hrd.cut hi h2).1
  exact(this.cut lo (by rw[aN];omega)).2
theorem lQ{T e:Nat}{i:TypeInfo}{a:Option Addr}{n cap lo hi:Nat}{vlo vhi:Option Value}(ht:P.underlying T=some (.slice e))(hi':P.info? e=some i)
  (hlo:vlo=none/\lo=0∨∃ k,vlo=some (.int k lo)) (hhi:vhi=none/\hi=n∨∃ k,vhi=some (.int k hi)) (h1:lo<=hi) (h2:hi<=cap) (w:World) :
  (Instr.sliceAt T (.slice a n cap) vlo vhi none).run P w=.ok (.slice (if cap=lo then a else a.map (·.add (lo*i.size))) (hi-lo) (cap-lo)) w:=by
 rcases hlo with⟨rfl,rfl⟩|⟨k,rfl⟩<;>rcases hhi with⟨rfl,rfl⟩|⟨k',rfl⟩ <;>
  simp [Instr.sliceAt,Instr.slice,Instr.sliceBounds,Instr.sliceBound,asIntOf,run_underlying ht,sizeOf,typeInfo,hi',h1,h2]
theorem oR{V:Type}{iα:cB V}{T k by_:Nat}{x:Operand}{olo ohi:Option Operand}{sv:Value}{lo hi:Nat}{xs:List V}[hx:Ev l x sv][hT:Sl P T k by_][hr:fK (List V) bA I [sv] xs](hk:k=cB.sz V)
  (hlo:olo=none/\lo=0∨∃ o kk,olo=some o/\(E l).eval o=.int kk lo) (hhi:ohi=none/\hi=xs.length∨∃ o kk,ohi=some o/\(E l).eval o=.int kk hi) (h1:lo<=hi) (h2:hi<=xs.length)
  (h:∀ sv',WL P ops Q w0 rest (l.set d sv') (.rd [sv'] ((xs.take hi).drop lo)::I)):WL P ops Q w0 (⟨some d,.slice T x olo ohi none,ty,pos,after,none⟩::rest) l I:=by
 intro w hs
 obtain ⟨e,i,z,ht,hi',hik,hib,hz,hzk,hpos⟩:=hT.ex
 obtain ⟨hb,F,hn,hl,hsep⟩:=hs
 have hrd:=hr.get hsep
 obtain ⟨a,cap,hc,hcap,_⟩:=hrd
 simp only[bR,and_true] at hc
 subst hc
 have hrun:=lQ (P:=P) (T:=T) (a:=a) (n:=xs.length) (cap:=cap) (lo:=lo) (hi:=hi) (vlo:=olo.map (E l).eval) (vhi:=ohi.map (E l).eval) ht hi'
  (by
    rcases hlo with⟨rfl,h⟩|⟨o,kk,rfl,h⟩
    ·exact .inl ⟨rfl,h⟩
    ·exact .inr ⟨kk,by simp [h]⟩)
  (by
    rcases hhi with⟨rfl,h⟩|⟨o,kk,rfl,h⟩
    ·exact .inl ⟨rfl,h⟩
    ·exact .inr ⟨kk,by simp [h]⟩) h1 (by omega) w
 have hrd2:=aVv (hr.get hsep) h1 h2
 rw[← hk,← hik] at hrd2
 refine jW rfl (v:=.slice (if cap=lo then a else a.map (·.add (lo*i.size))) (hi-lo) (cap-lo)) (w':=w) ?_ ?_
 ·refine fW (f:=Next.value) (s:=Instr.sliceAt T ((E l).eval x) (olo.map (E l).eval) (ohi.map (E l).eval) (Option.map (E l).eval none)) ?_
  rw[hx.eq];exact hrun
 ·rw[gO]
  exact h _ _ ⟨hb,F,hn,hl,[],F,rfl,⟨rfl,hrd2⟩,hsep⟩
theorem aI0{V:Type}{iα:cB V}{T k by_:Nat}{x y:Operand}{sv:Value}{kk:IntKind}{n:Int}{xs:List V}[hx:Ev l x sv][hy:Ev l y (.int kk n)][hT:Sl P T k by_][hr:fK (List V) bA I [sv] xs](hk:k=cB.sz V)(hn:0<=n/\n<=xs.length)
  (h:∀ sv',WL P ops Q w0 rest (l.set d sv') (.rd [sv'] (xs.drop n.toNat)::I)):WL P ops Q w0 (⟨some d,.slice T x (some y) none none,ty,pos,after,none⟩::rest) l I:=
 oR (lo:=n.toNat) (hi:=xs.length) hk (.inr ⟨y,kk,rfl,by rw[hy.eq,Int.toNat_of_nonneg hn.1]⟩) (.inl ⟨rfl,rfl⟩) (by omega) (aM _) (fun sv'=>by rw[cZ];exact h sv')
theorem aJ8{V:Type}{iα:cB V}{T k by_:Nat}{x y:Operand}{sv:Value}{kk:IntKind}{n:Int}{xs:List V}[hx:Ev l x sv][hy:Ev l y (.int kk n)][hT:Sl P T k by_][hr:fK (List V) bA I [sv] xs](hk:k=cB.sz V)(hn:0<=n/\n<=xs.length)
  (h:∀ sv',WL P ops Q w0 rest (l.set d sv') (.rd [sv'] (xs.take n.toNat)::I)):WL P ops Q w0 (⟨some d,.slice T x none (some y) none,ty,pos,after,none⟩::rest) l I:=
 oR (lo:=0) (hi:=n.toNat) hk (.inl ⟨rfl,rfl⟩) (.inr ⟨y,kk,rfl,by rw[hy.eq,Int.toNat_of_nonneg hn.1]⟩) (by omega) (by omega) (fun sv'=>h sv')
theorem aIx{V:Type}{iα:cB V}{T k by_:Nat}{x y z:Operand}{sv:Value}{kk kk':IntKind}{n m:Int}{xs:List V}[hx:Ev l x sv][hy:Ev l y (.int kk n)][hz:Ev l z (.int kk' m)][hT:Sl P T k by_][hr:fK (List V) bA I [sv] xs](hk:k=cB.sz V)(hn:0<=n/\n<=m/\m<=xs.length)
  (h:∀ sv',WL P ops Q w0 rest (l.set d sv') (.rd [sv'] ((xs.take m.toNat).drop n.toNat)::I)):WL P ops Q w0 (⟨some d,.slice T x (some y) (some z) none,ty,pos,after,none⟩::rest) l I:=
 oR (lo:=n.toNat) (hi:=m.toNat) hk (.inr ⟨y,kk,rfl,by rw[hy.eq,Int.toNat_of_nonneg hn.1]⟩) (.inr ⟨z,kk',rfl,by rw[hz.eq,Int.toNat_of_nonneg (by omega)]⟩) (by omega) (by omega) (fun sv'=>h sv')
theorem kK.in64{ok:Nat->Prop}{w:World}:∀ {cells:List Value} {xs:List Int},kK ok w cells xs->∀ n∈xs,aCf n
 | _,x::xs,⟨c,d,e,h,h'⟩,n,hn=>by
  rcases cH.1 hn with rfl|hn
  ·exact h.2
  ·exact kK.in64 h' n hn
theorem dQ{f:FuncId}{vs:List Value}{ρ:Type}{r:ρ->Value}{Γ':ρ->List Atom}{V:Type}{iα:cB V}(sv:Value){xs:List V}[hr:dZ (List V) bA I [sv] xs](h:xs.length<=9223372036854775807->CJ P f vs w0 I r Γ'):CJ P f vs w0 I r Γ':=fun w hs=>by
 obtain ⟨a,cap,_,_,_,hl,_⟩:=hs.rd (hr:=hr)
 exact h hl w hs
theorem oP{f:FuncId}{vs:List Value}{ρ:Type}{r:ρ->Value}{Γ':ρ->List Atom}(sv:Value){xs:List Int}[hr:dZ (List Int) bA I [sv] xs](h:(∀ n∈xs,aCf n)->CJ P f vs w0 I r Γ'):CJ P f vs w0 I r Γ':=fun w hs=>by
 obtain ⟨a,cap,_,_,_,_,hl⟩:=hs.rd (hr:=hr)
 refine h (fun n hn=>?_) w hs
 obtain ⟨b,off,cells,_,_,_,hrd⟩:=hl (List.length_pos_of_mem hn)
 exact hrd.in64 n hn
theorem fU{V:Type}{iα:cB V}(sv:Value){x:V}[hp:cQ V iα I [sv] x Y](h:WL P ops Q w0 rest l (.rd [sv] x::Y)):WL P ops Q w0 rest l I:=fun w hs=>h w (hs.perm hp.perm).share
theorem fC{V:Type}{iα:cB V}{c:Code}(sv:Value){x:V}[hp:cQ V iα I [sv] x Y](h:WC P Q w0 c l (.rd [sv] x::Y)):WC P Q w0 c l I:=fun w hs=>h w (hs.perm hp.perm).share
end ops
class pK(P:Program)(l:List Value)(I:List Atom)(op:Op)(ty:TypeId)(v:outParam Value):Prop where
 run:∀ w0,Pu P w0 l I op ty v
instance {P:Program}{l:List Value}{I:List Atom}{ty:TypeId}{v:Value}{x:Operand}[h:Ev l x v]:pK P l I (.move x) ty v:=⟨fun _=>bFb⟩
instance {P:Program}{l:List Value}{I:List Atom}{ty:TypeId}{v:Value}{x:Operand}[h:Ev l x v]:pK P l I (.assign x) ty v:=⟨fun _=>aQu⟩
instance {P:Program}{l:List Value}{I:List Atom}{ty:TypeId}{v:Value}{c a b:Operand}[h:Ev l c (.bool true)][ha:Ev l a v]:pK P l I (.pick c a b) ty v:=⟨fun _=>aTi⟩
instance {P:Program}{l:List Value}{I:List Atom}{ty:TypeId}{v:Value}{c a b:Operand}[h:Ev l c (.bool false)][ha:Ev l b v]:pK P l I (.pick c a b) ty v:=⟨fun _=>aTs⟩
instance {P:Program}{l:List Value}{I:List Atom}{ty:TypeId}{T:TypeId}{x:Operand}{b:Bool}[h:Ev l x (.bool b)]:pK P l I (.unOp .not T x) ty (.bool (!b)):=⟨fun _=>aSa⟩
instance (priority:=400) {P:Program}{l:List Value}{I:List Atom}{ty:TypeId}{T:TypeId}{x:Operand}{i k:Nat}{a:Addr}[h:Ev l x (.pointer (some a))][hf:Fo P T i k]:pK P l I (.fieldAddr T x i) ty (.pointer (some (a.add k))):=⟨fun _=>vY⟩
instance {P:Program}{l:List Value}{I:List Atom}{ty:TypeId}{T:TypeId}{x:Operand}{i k b off s:Nat}[h:Ev l x (.pointer (some ⟨b,off,none⟩))][hf:Fo P T i k][hs:oS off k s]:pK P l I (.fieldAddr T x i) ty (.pointer (some ⟨b,s,none⟩)):=⟨fun _=>aBl⟩
instance {P:Program}{l:List Value}{I:List Atom}{ty:TypeId}{x:Operand}{a:Addr}[h:Ev l x (.pointer (some a))]:pK P l I (.nilCheck x) ty (.pointer (some a)):=⟨fun _=>aKm⟩
instance {P:Program}{l:List Value}{I:List Atom}{ty:TypeId}{v:Value}{x:Operand}{i:Nat}{vs:List Value}[h:Ev l x (.tuple vs.toArray)][hi:Ge vs i v]:pK P l I (.extract x i) ty v:=⟨fun _=>aMl⟩
instance {P:Program}{l:List Value}{I:List Atom}{ty:TypeId}{x:Operand}{T k b:Nat}{sv:Value}{V:Type}{i:cB V}{xs:List V}[h:Ev l x sv][ht:Sl P T k b][hr:dZ (List V) bA I [sv] xs]:pK P l I (.call { callee:=.builtin .len,args:=#[x],argTypes:=#[T] }) ty (.int .i64 xs.length):=⟨fun _=>bLj⟩
instance {P:Program}{l:List Value}{I:List Atom}{ty:TypeId}{x:Operand}{T:Nat}{s:ByteArray}[h:Ev l x (.string s)][ht:kX P T]:pK P l I (.call { callee:=.builtin .len,args:=#[x],argTypes:=#[T] }) ty (.int .i64 s.size):=⟨fun _=>aNr⟩
instance {P:Program}{l:List Value}{I:List Atom}{ty:TypeId}{T U:TypeId}{x y:Operand}{a b:Int}{k:IntKind}[hx:Ev l x (.int k a)][hy:Ev l y (.int k b)]:pK P l I (.binOp .lss T x y U) ty (.bool (decide (a<b))):=⟨fun _=>bL1⟩
instance {P:Program}{l:List Value}{I:List Atom}{ty:TypeId}{T U:TypeId}{x y:Operand}{a b:Int}{k:IntKind}[hx:Ev l x (.int k a)][hy:Ev l y (.int k b)]:pK P l I (.binOp .leq T x y U) ty (.bool (decide (a<=b))):=⟨fun _=>bK7⟩
instance {P:Program}{l:List Value}{I:List Atom}{ty:TypeId}{T U:TypeId}{x y:Operand}{a b:Int}{k:IntKind}[hx:Ev l x (.int k a)][hy:Ev l y (.int k b)]:pK P l I (.binOp .gtr T x y U) ty (.bool (decide (b<a))):=⟨fun _=>bJd⟩
instance {P:Program}{l:List Value}{I:List Atom}{ty:TypeId}{T U:TypeId}{x y:Operand}{a b:Int}{k:IntKind}[hx:Ev l x (.int k a)][hy:Ev l y (.int k b)]:pK P l I (.binOp .geq T x y U) ty (.bool (decide (b<=a))):=⟨fun _=>bJl⟩
instance {P:Program}{l:List Value}{I:List Atom}{ty:TypeId}{T U:TypeId}{x y:Operand}{a b:Int}{k:IntKind}[hx:Ev l x (.int k a)][hy:Ev l y (.int k b)]:pK P l I (.binOp .eql T x y U) ty (.bool (decide (a=b))):=⟨fun _=>bI9⟩
instance {P:Program}{l:List Value}{I:List Atom}{ty:TypeId}{T U:TypeId}{x y:Operand}{a b:Int}{k:IntKind}[hx:Ev l x (.int k a)][hy:Ev l y (.int k b)]:pK P l I (.binOp .neq T x y U) ty (.bool (decide (a≠b))):=⟨fun _=>bJ1⟩
instance {P:Program}{l:List Value}{I:List Atom}{ty:TypeId}{T U:TypeId}{x y:Operand}{a b:Bool}[hx:Ev l x (.bool a)][hy:Ev l y (.bool b)][hT:aAg P T]:pK P l I (.binOp .eql T x y U) ty (.bool (a==b)):=⟨fun _=>aVp⟩
instance {P:Program}{l:List Value}{I:List Atom}{ty:TypeId}{T U:TypeId}{x y:Operand}{a b:ByteArray}[hx:Ev l x (.string a)][hy:Ev l y (.string b)]:pK P l I (.binOp .eql T x y U) ty (.bool (decide (a=b))):=⟨fun _=>aYy⟩
instance {P:Program}{l:List Value}{I:List Atom}{ty:TypeId}{T U:TypeId}{x y:Operand}{a b:ByteArray}[hx:Ev l x (.string a)][hy:Ev l y (.string b)]:pK P l I (.binOp .neq T x y U) ty (.bool (decide (a≠b))):=⟨fun _=>aZ9⟩
instance {P:Program}{l:List Value}{I:List Atom}{ty:TypeId}{v:Value}{T:TypeId}{x:Operand}{b off:Nat}{cs:List Value}[h:Ev l x (.pointer (some ⟨b,off,none⟩))][hT:Sc P T][hb:gD I b cs][hv:Ge cs off v]:pK P l I (.load T x) ty v:=⟨fun _=>bBp⟩
instance {P:Program}{l:List Value}{I:List Atom}{ty:TypeId}{T:TypeId}{x:Operand}{b off k:Nat}{cs out:List Value}[h:Ev l x (.pointer (some ⟨b,off,none⟩))][hT:Ag P T k][hb:gD I b cs][hv:Tk cs off k out]:pK P l I (.load T x) ty (.agg out.toArray):=⟨fun _=>aKz⟩
instance {P:Program}{l:List Value}{I:List Atom}{ty:TypeId}{v:Value}{T:TypeId}{x:Operand}{p:Addr}[h:Ev l x (.pointer (some p))][hT:Sc P T][hp:kW I p [v]]:pK P l I (.load T x) ty v:=⟨fun _=>aBm⟩
instance {P:Program}{l:List Value}{I:List Atom}{ty:TypeId}{v:Value}{T off:Nat}{x:Operand}{p:Addr}{cs:List Value}[h:Ev l x (.pointer (some (p.add off)))][hT:Sc P T][hp:kW I p cs][hv:Ge cs off v]:pK P l I (.load T x) ty v:=⟨fun _=>aKu⟩
instance {P:Program}{l:List Value}{I:List Atom}{ty:TypeId}{T:TypeId}{ps:List (Nat×Operand)}{places:List (Nat×Nat)}{zs out:List Value}[hT:wI P T places zs][hb:aBa I l places zs ps out]:pK P l I (.build T ps.toArray) ty (.agg out.toArray):=⟨fun _=>aWb⟩
theorem bCn{P:Program}{ops:Array Oper}{Q:Exit->Act->World->Prop}{w0:World}{rest:List Oper}{l l':List Value}{I:List Atom}{ty:TypeId}{v:Value}{pos:String}{after:Array Edge}{d:Nat}{op:Op}
  [hy:pK P l I op ty v] [hd:Se l d v l'] (h:WL P ops Q w0 rest l' I):WL P ops Q w0 (⟨some d,op,ty,pos,after,none⟩::rest) l I:=vM (hy.run w0) h
end Go.Eng
namespace Go.Eng
open Go Go.RowKit
instance (priority:=900) dZ.app{V:Type}{i:cB V}{Y I:List Atom}{cs:List Value}{x:V}[h:dZ V i I cs x]:dZ V i (Y++I) cs x:=⟨fun hs=>by
 obtain ⟨f,g,rfl,_,h2⟩:=hs.split
 exact h.get h2⟩
instance (priority:=900) fK.app{V:Type}{i:cB V}{Y I:List Atom}{cs:List Value}{x:V}[h:fK V i I cs x]:fK V i (Y++I) cs x:=⟨fun hs=>by
 obtain ⟨f,g,rfl,_,h2⟩:=hs.split
 exact h.get h2⟩
instance (priority:=900) gD.app{Y I:List Atom}{b:Nat}{cs:List Value}[h:gD I b cs]:gD (Y++I) b cs:=⟨fun hs=>by
 obtain ⟨f,g,rfl,_,h2⟩:=hs.split
 exact h.get h2⟩
instance (priority:=900) kW.app{Y I:List Atom}{p:Addr}{cs:List Value}[h:kW I p cs]:kW (Y++I) p cs:=⟨fun hs=>by
 obtain ⟨f,g,rfl,_,h2⟩:=hs.split
 exact h.get h2⟩
theorem hy0{P:Program}{l:List Value}{op:Op}{ty:TypeId}{v:Value}(hy:∀ w0',Pu P w0' l [] op ty v)(w:World)(o:Oper)(ho:o.op=op)(ht:o.type=ty):(execOp (E l).eval o).run P w=.ok (.value v) w:=
 hy w w ⟨lK.refl _ _,[],by simp,by simp,rfl⟩ o ho ht
section wpg
variable {P:Program} {ops:Array Oper} {Q:Exit->Act->World->Prop} {S:Array Bool->World->Prop}
def kO(P:Program)(ops:Array Oper)(Q:Exit->Act->World->Prop)(S:Array Bool->World->Prop):Nat->Array Bool->Act->World->Prop
 | 0,listed,a,w=>Region.ready .any ops listed=[]/\Q .normal a w
 | fuel+1,listed,a,w=>
  (Region.ready .any ops listed=[]->Q .normal a w)/\
  ∀ i∈Region.ready .any ops listed,wpOp P ops Q i (fun a' w'=>S (listed.setIfInBounds i true) w'/\kO P ops Q S fuel (listed.setIfInBounds i true) a' w') a w
theorem aAi:∀ (fuel:Nat) (listed:Array Bool) (a:Act) (w:World),kO P ops Q S fuel listed a w->wpAny P .any ops Q fuel listed a w
 | 0,_,_,_,h=>h
 | fuel+1,_,_,_,h=>⟨h.1,fun i hi=>wpOp_mono (fun a' w' h'=>aAi fuel _ a' w' h'.2) (h.2 i hi)⟩
theorem yM{S':Array Bool->World->Prop}(hS:∀ L w,S' L w->S L w):∀ {fuel:Nat} {listed:Array Bool} {a:Act} {w:World},kO P ops Q S' fuel listed a w->kO P ops Q S fuel listed a w
 | 0,_,_,_,h=>h
 | _+1,_,_,_,h=>⟨h.1,fun i hi=>wpOp_mono (fun _ _ h'=>⟨hS _ _ h'.1,yM hS h'.2⟩) (h.2 i hi)⟩
def kS(lt:List Nat)(listed:Array Bool):Prop:=∀ j∈lt,listed.getD j true=false
def aF3(lt:List Nat)(T:World->Prop):Array Bool->World->Prop:=fun L w=>kS lt L->T w
theorem tV{lt:List Nat}{L:Array Bool}{i:Nat}(hi:i∉lt)(h:kS lt (L.setIfInBounds i true)):kS lt L:=fun j hj=>by
 have:=h j hj
 have hne:i≠j:=fun e=>hi (e▸hj)
 rwa [getD_set_ne true hne] at this
theorem qQ{lt:List Nat}{L:Array Bool}{i:Nat}(hi:i∉lt)(h:kS lt L):kS lt (L.setIfInBounds i true):=fun j hj=>by
 have hne:i≠j:=fun e=>hi (e▸hj)
 rw[getD_set_ne true hne];exact h j hj
def pP(ops:Array Oper)(L:Array Bool):Prop:=∀ j oj,ops[j]?=some oj->L.getD j false=true->∀ e∈oj.after,Region.binds .any e=true->L.getD e.on false=true
def anc(ops:Array Oper):Nat->Nat->Nat->Bool
 | 0,_,_=>false
 | f+1,i,j=>match ops[j]? with
  | some oj=>oj.after.any fun e=>Region.binds .any e&&(e.on==i||anc ops f i e.on)
  | none=>false
theorem aCj{L:Array Bool}(hc:pP ops L){i:Nat}:∀ (f j:Nat) (oj:Oper),ops[j]?=some oj->(∀ e∈oj.after,Region.binds .any e=true->L.getD e.on false=true)->anc ops f i j=true->L.getD i false=true
 | 0,j,oj,_,_,h=>by simp [anc] at h
 | f+1,j,oj,hj,hall,h=>by
  simp only[anc,hj] at h
  obtain ⟨e,he,hb⟩:=Array.any_eq_true'.1 h
  simp only[cN,Bool.or_eq_true,beq_iff_eq] at hb
  have hl:=hall e he hb.1
  rcases hb.2 with rfl|h2
  ·exact hl
  ·match ho:ops[e.on]? with
   | none=>cases f<;>simp [anc,ho] at h2
   | some oe=>exact aCj hc f e.on oe ho (fun e' he' hb'=>hc e.on oe ho hl e' he' hb') h2
theorem aSd{L:Array Bool}{i:Nat}(h:L.getD i true=false):L.getD i false=false:=by
 rcases Nat.lt_or_ge i L.size with h'|h'
 ·simpa [h'] using h
 ·simp [Array.getElem?_eq_none h']
theorem sU{L:Array Bool}{i j:Nat}(h:L.getD i false=true):(L.setIfInBounds j true).getD i false=true:=by
 by_cases e:j=i
 ·subst e
  rcases Nat.lt_or_ge j L.size with h'|h'
  ·simp [h']
  ·simp [Array.getElem?_eq_none h'] at h
 ·rw[getD_set_ne false e];exact h
theorem aMe{L:Array Bool}{j:Nat}(hc:pP ops L)(hj:j∈Region.ready .any ops L):pP ops (L.setIfInBounds j true):=fun k ok hk hl e he hb=>by
 by_cases hkj:j=k
 ·subst hkj
  obtain ⟨_,oj,hoj,hall⟩:=mem_ready.1 hj
  rw[hk] at hoj
  cases hoj
  exact sU (hall e he hb)
 ·rw[getD_set_ne false hkj] at hl
  exact sU (hc k ok hk hl e he hb)
theorem aHb{i:Nat}{oi:Oper}{v:Value}{lt:List Nat}{T:World->Prop}(hi:ops[i]?=some oi)(hsel:∀ (j:Nat) (o:Oper) cs b,ops[j]?=some o->o.op≠.select cs b)
  (hQ:∀ c a w,Q (.panic c) (a.put oi.dst v) w->Q (.panic c) a w) (hlt:i∉lt) (hle:∀ j∈lt,anc ops ops.size i j=true) :
  ∀ (fuel:Nat) (listed:Array Bool) (a:Act) (w:World),
   (∀ j oj,ops[j]?=some oj->j≠i->listed.getD j true=false->(∀ e∈oj.after,Region.binds .any e=true->e.on≠i)->oi.apart ops oj=true)->
   i∈Region.ready .any ops listed->YieldsIf P ops T oi v a->kS lt listed->(lt=[]∨pP ops listed)->T w->
   kO P ops Q (aF3 lt T) fuel (listed.setIfInBounds i true) (a.put oi.dst v) w->kO P ops Q (aF3 lt T) (fuel+1) listed a w:=by
 intro fuel
 induction fuel with
 | zero=>
  intro listed a w _ hr hy hnl hcl hS H
  refine⟨fun h=>(by rw[h] at hr;cases hr),fun j hj=>?_⟩
  by_cases hji:j=i
  ·subst hji;exact hy.wpOp hi hS ⟨fun _=>hS,H⟩
  ·have:=ready_mono hj hji
   rw[H.1] at this
   cases this
 | succ fuel ih=>
  intro listed a w hfree hr hy hnl hcl hS H
  refine⟨fun h=>(by rw[h] at hr;cases hr),fun j hj=>?_⟩
  by_cases hji:j=i
  ·subst hji;exact hy.wpOp hi hS ⟨fun _=>hS,H⟩
  ·have h1:=H.2 j (ready_mono hj hji)
   obtain ⟨hjun,oj,hoj,hall⟩:=mem_ready.1 hj
   have hnot:∀ e∈oj.after,Region.binds .any e=true->e.on≠i:=fun e he hb heq=>by
    have h1:=hall e he hb
    have h0:=(mem_ready.1 hr).1
    rw[heq] at h1
    rcases Nat.lt_or_ge i listed.size with h'|h'
    ·simp [h'] at h0 h1;rw[h0] at h1;cases h1
    ·simp [Array.getElem?_eq_none h'] at h1
   have hjl:j∉lt:=fun hm=>by
    have hcl':pP ops listed:=hcl.resolve_left (fun e=>by rw[e] at hm;cases hm)
    have h3:=aCj hcl' ops.size j oj hoj hall (hle j hm)
    rw[aSd (mem_ready.1 hr).1] at h3
    cases h3
   have hnl':kS lt (listed.setIfInBounds j true):=qQ hjl hnl
   have h2:=wpOp_putIf hoj (hfree j oj hoj hji hjun hnot) (fun cs b=>hsel i oi cs b hi) (fun cs b=>hsel j oj cs b hoj) hQ hy h1
   have hfree':∀ k ok,ops[k]?=some ok->k≠i->(listed.setIfInBounds j true).getD k true=false->
     (∀ e∈ok.after,Region.binds .any e=true->e.on≠i)->oi.apart ops ok=true:=fun k ok hk hki hun hno=>by
    refine hfree k ok hk hki ?_ hno
    by_cases hjk:j=k
    ·subst hjk;exact hjun
    ·rw[getD_set_ne true hjk] at hun;exact hun
   refine wpOp_mono (fun a' w' h3=>?_) h2
   have hT:T w':=h3.2.1 (by rw[Array.setIfInBounds_comm _ _ (Ne.symm hji)];exact qQ hlt hnl')
   refine⟨fun _=>hT,ih (listed.setIfInBounds j true) a' w' hfree' (ready_mono hr (Ne.symm hji)) h3.1 hnl' (hcl.imp id (fun h=>aMe h hj)) hT ?_⟩
   rw[Array.setIfInBounds_comm _ _ hji]
   exact h3.2.2
theorem aDh{i:Nat}{oi:Oper}{v:Value}{lt:List Nat}{T:World->Prop}(hi:ops[i]?=some oi)(hsel:∀ (j:Nat) (o:Oper) cs b,ops[j]?=some o->o.op≠.select cs b)
  (hQ:∀ c a w,Q (.panic c) (a.put oi.dst v) w->Q (.panic c) a w) (hlt:i∉lt) :
  ∀ (fuel:Nat) (listed:Array Bool) (a:Act) (w:World),
   (∀ j oj,ops[j]?=some oj->j≠i->listed.getD j true=false->(∀ e∈oj.after,Region.binds .any e=true->e.on≠i)->oi.apart ops oj=true)->
   i∈Region.ready .any ops listed->YieldsIf P ops (fun _=>True) oi v a->(kS lt listed->T w)->
   kO P ops Q (aF3 lt T) fuel (listed.setIfInBounds i true) (a.put oi.dst v) w->kO P ops Q (aF3 lt T) (fuel+1) listed a w:=by
 intro fuel
 induction fuel with
 | zero=>
  intro listed a w _ hr hy hS H
  refine⟨fun h=>(by rw[h] at hr;cases hr),fun j hj=>?_⟩
  by_cases hji:j=i
  ·subst hji;exact hy.wpOp hi trivial ⟨fun h=>hS (tV hlt h),H⟩
  ·have:=ready_mono hj hji
   rw[H.1] at this
   cases this
 | succ fuel ih=>
  intro listed a w hfree hr hy hS H
  refine⟨fun h=>(by rw[h] at hr;cases hr),fun j hj=>?_⟩
  by_cases hji:j=i
  ·subst hji;exact hy.wpOp hi trivial ⟨fun h=>hS (tV hlt h),H⟩
  ·have h1:=H.2 j (ready_mono hj hji)
   obtain ⟨hjun,oj,hoj,hall⟩:=mem_ready.1 hj
   have hnot:∀ e∈oj.after,Region.binds .any e=true->e.on≠i:=fun e he hb heq=>by
    have h1:=hall e he hb
    have h0:=(mem_ready.1 hr).1
    rw[heq] at h1
    rcases Nat.lt_or_ge i listed.size with h'|h'
    ·simp [h'] at h0 h1;rw[h0] at h1;cases h1
    ·simp [Array.getElem?_eq_none h'] at h1
   have h2:=wpOp_putIf hoj (hfree j oj hoj hji hjun hnot) (fun cs b=>hsel i oi cs b hi) (fun cs b=>hsel j oj cs b hoj) hQ hy h1
   have hfree':∀ k ok,ops[k]?=some ok->k≠i->(listed.setIfInBounds j true).getD k true=false->
     (∀ e∈ok.after,Region.binds .any e=true->e.on≠i)->oi.apart ops ok=true:=fun k ok hk hki hun hno=>by
    refine hfree k ok hk hki ?_ hno
    by_cases hjk:j=k
    ·subst hjk;exact hjun
    ·rw[getD_set_ne true hjk] at hun;exact hun
   refine wpOp_mono (fun a' w' h3=>?_) h2
   have hT:kS lt (listed.setIfInBounds j true)->T w':=fun hn=>h3.2.1 (by rw[Array.setIfInBounds_comm _ _ (Ne.symm hji)];exact qQ hlt hn)
   refine⟨hT,ih (listed.setIfInBounds j true) a' w' hfree' (ready_mono hr (Ne.symm hji)) h3.1 hT ?_⟩
   rw[Array.setIfInBounds_comm _ _ hji]
   exact h3.2.2
theorem uF{rs:List Nat}{fuel:Nat}{listed:Array Bool}{a:Act}{w:World}(hr:Region.ready .any ops listed=rs)(hne:rs≠[])
  (h:∀ i∈rs,wpOp P ops Q i (fun a' w'=>S (listed.setIfInBounds i true) w'/\kO P ops Q S fuel (listed.setIfInBounds i true) a' w') a w):kO P ops Q S (fuel+1) listed a w:=
 ⟨fun h0=>absurd (hr▸h0) hne,hr▸h⟩
theorem aJe{listed:Array Bool}{a:Act}{w:World}(hr:Region.ready .any ops listed=[])(h:Q .normal a w) :
  ∀ fuel,kO P ops Q S fuel listed a w
 | 0=>⟨hr,h⟩
 | _+1=>⟨fun _=>h,by rw[hr];simp⟩
theorem aJm{id:Nat}{a:Act}{w:World}(hm:P.follows .mixedOrders=true)
  (h:kO P ops Q S ops.size (Array.replicate ops.size false) a { w with drawn:=w.drawn+1 }):(Code.region id ops true).wp P Q a w:=
 wp_region_any hm (aAi _ _ _ _ h)
end wpg
def WA(P:Program)(ops:Array Oper)(Q:Exit->Act->World->Prop)(w0:World)(lt:List Nat)(Γb:List Atom)(fuel:Nat)(bl:List Bool)(l:List Value)(I:List Atom):Prop:=
 ∀ w,Sat w0 w I->(kS lt bl.toArray->Sat w0 w Γb)->kO P ops Q (aF3 lt (Sat w0 · Γb)) fuel bl.toArray (E l) w
class qG(P:Program):Prop where
 eq:P.follows .mixedOrders=true
def aFo(ops:Array Oper)(L:Array Bool):Bool:=(List.range ops.size).all fun j=>match ops[j]? with
 | some oj=>!L.getD j false||oj.after.all fun e=>!Region.binds .any e||L.getD e.on false
 | none=>true
theorem aF7{ops:Array Oper}{L:Array Bool}(h:aFo ops L=true):pP ops L:=fun j oj hj hl e he hb=>by
 simp only[aFo,List.all_eq_true,List.mem_range] at h
 have:=h j (bL.1 hj).1
 simp only[hj,hl,Bool.not_true,Bool.false_or] at this
 have h2:=Array.all_eq_true_iff_forall_mem.1 this e he
 simpa [hb] using h2
def gB(lt:List Nat)(ops:Array Oper)(bl:List Bool)(i:Nat):Bool:=Region.noSelect ops&&Region.free .any ops bl.toArray i&&(Region.ready .any ops bl.toArray).contains i &&
 !lt.contains i&&lt.all (fun j=>anc ops ops.size i j)&&lt.all (fun j=>bl.toArray.getD j true==false)&&(lt.isEmpty||aFo ops bl.toArray)
def wD(lt:List Nat)(ops:Array Oper)(bl:List Bool)(i:Nat):Bool:=Region.noSelect ops&&Region.free .any ops bl.toArray i&&(Region.ready .any ops bl.toArray).contains i&&!lt.contains i
section ck
variable {lt:List Nat} {ops:Array Oper} {bl:List Bool} {i:Nat}
theorem ck1(h:gB lt ops bl i=true):Region.noSelect ops=true:=by unfold gB at h;simp only[cN] at h;exact h.1.1.1.1.1.1
theorem ck2(h:gB lt ops bl i=true):Region.free .any ops bl.toArray i=true:=by unfold gB at h;simp only[cN] at h;exact h.1.1.1.1.1.2
theorem ck3(h:gB lt ops bl i=true):(Region.ready .any ops bl.toArray).contains i=true:=by unfold gB at h;simp only[cN] at h;exact h.1.1.1.1.2
theorem ck4(h:gB lt ops bl i=true):i∉lt:=by unfold gB at h;simp only[cN] at h;simpa using h.1.1.1.2
theorem ck5(h:gB lt ops bl i=true):∀ j∈lt,anc ops ops.size i j=true:=by
 unfold gB at h;simp only[cN,List.all_eq_true] at h
 exact h.1.1.2
theorem ck6(h:gB lt ops bl i=true):kS lt bl.toArray:=by
 unfold gB at h;simp only[cN,List.all_eq_true,beq_iff_eq] at h
 exact h.1.2
theorem ck7(h:gB lt ops bl i=true):lt=[]∨pP ops bl.toArray:=by
 unfold gB at h;simp only[cN,Bool.or_eq_true] at h
 rcases h.2 with h|h
 ·exact .inl (List.isEmpty_iff.1 h)
 ·exact .inr (aF7 h)
theorem ck0(h:wD lt ops bl i=true):Region.noSelect ops=true/\Region.free .any ops bl.toArray i=true/\(Region.ready .any ops bl.toArray).contains i=true/\i∉lt:=by
 unfold wD at h;simp only[cN] at h;exact⟨h.1.1.1,h.1.1.2,h.1.2,by simpa using h.2⟩
end ck
section any
variable {P:Program} {ops:Array Oper} {Q:Exit->Act->World->Prop} {w0:World} {l l':List Value} {I Γb Y:List Atom} {fuel:Nat} {bl bl':List Bool} {op:Op} {ty:TypeId} {v:Value} {pos:String} {after:Array Edge} {d:Nat} {lt:List Nat}
theorem mE[hm:qG P]{id n:Nat}{ol:List Oper}(lt:List Nat)(Γb:List Atom)(hb:Ent w0 I Γb)(hn:ol.length=n)(hbl:List.replicate n false=bl)(h:WA P ol.toArray Q w0 lt Γb n bl l I):WC P Q w0 (.region id ol.toArray true) l I:=fun w hs=>by
 refine aJm (S:=aF3 lt (Sat w0 · Γb)) hm.eq ?_
 have hd:Sat w0 w.drew I:=hs.drew
 have:=h w.drew hd (fun _=>hb _ hd)
 rw[← hbl,← hn] at this
 simpa using this
theorem bFi(hr:Region.ready .any ops bl.toArray=[])(h:WQ Q w0 .normal l I):WA P ops Q w0 lt Γb fuel bl l I:=fun w hs _=>aJe hr (h w hs) fuel
theorem aGy{i:Nat}{oi:Oper}{v:Value}(hi:ops[i]?=some oi)(hck:gB lt ops bl i=true)(hQ:∀ c a w,Q (.panic c) (a.put oi.dst v) w->Q (.panic c) a w)
  (hy:YieldsIf P ops (Sat w0 · Γb) oi v (E l)) (hd:(E l).put oi.dst v=E l') [hb:Se bl i true bl'] (h:WA P ops Q w0 lt Γb fuel bl' l' I):WA P ops Q w0 lt Γb (fuel+1) bl l I:=fun w hs hsb=>by
 have hsb':=hsb (ck6 hck)
 refine aHb hi (Region.noSelect_spec (ck1 hck)) hQ (ck4 hck) (ck5 hck) fuel _ _ w (Region.free_spec hi (ck2 hck)) (by simpa using ck3 hck) hy (ck6 hck) (ck7 hck) hsb' ?_
 have:=h w hs (fun _=>hsb')
 simp only[List.setIfInBounds_toArray]
 rw[hb.eq,hd]
 exact this
theorem aVf(i:Nat)(hi:ops[i]?=some ⟨some d,op,ty,pos,after,none⟩)(hck:wD lt ops bl i=true)
  (hQ:∀ c a w v,Q (.panic c) (a.put (some d) v) w->Q (.panic c) a w) (hy:∀ w0',Pu P w0' l [] op ty v) [hd:Se l d v l'] [hb:Se bl i true bl'] (h:WA P ops Q w0 lt Γb fuel bl' l' I):WA P ops Q w0 lt Γb (fuel+1) bl l I:=fun w hs hsb=>by
 obtain ⟨h1,h2,h3,h4⟩:=ck0 hck
 have hany:∀ w':World,∀ o:Oper,o.op=op->o.type=ty->(execOp (E l).eval o).run P w'=.ok (.value v) w':=fun w' o ho ht=>hy0 hy w' o ho ht
 refine aDh hi (Region.noSelect_spec h1) (fun c a w=>hQ c a w v) h4 fuel _ _ w (Region.free_spec hi h2) (by simpa using h3) (.inl ⟨rfl,fun w' _=>hany w' _ rfl rfl⟩) hsb ?_
 have:=h w hs (fun hn=>hsb (tV h4 (by simp only[List.setIfInBounds_toArray];rw[hb.eq];exact hn)))
 simp only[List.setIfInBounds_toArray]
 rw[hb.eq,gO,hd.eq]
 exact this
theorem aG3(i:Nat)(hi:ops[i]?=some ⟨some d,op,ty,pos,after,none⟩)(hck:gB lt ops bl i=true)
  (hQ:∀ c a w v,Q (.panic c) (a.put (some d) v) w->Q (.panic c) a w) (hy:Pu P w0 l Γb op ty v) [hd:Se l d v l'] [hb:Se bl i true bl'] (h:WA P ops Q w0 lt Γb fuel bl' l' I):WA P ops Q w0 lt Γb (fuel+1) bl l I:=
 aGy hi hck (fun c a w=>hQ c a w v) (.inl ⟨rfl,fun w hw=>hy w hw _ rfl rfl⟩) (by rw[gO,hd.eq]) h
theorem aNm{ol:List Oper}(i:Nat){j dj:Nat}{oj:Oper}{b:Bool}{vg:Value}[hi:Ge ol i ⟨some d,op,ty,pos,after,some (j,b)⟩][hj:Ge ol j oj][hdj:Dst oj dj][hg:Ge l dj vg][he:EqB vg b](hck:gB lt ol.toArray bl i=true)
  (hQ:∀ c a w v,Q (.panic c) (a.put (some d) v) w->Q (.panic c) a w) (hy:Pu P w0 l Γb op ty v) [hd:Se l d v l'] [hb:Se bl i true bl'] (h:WA P ol.toArray Q w0 lt Γb fuel bl' l' I):WA P ol.toArray Q w0 lt Γb (fuel+1) bl l I:=by
 have hw:Region.wanted (⟨some d,op,ty,pos,after,some (j,b)⟩:Oper) (yielded ol.toArray (E l).tmps)=true:=by
  have:=hg.eq;rw[he.eq] at this
  simp [Region.wanted,yielded,hj.eq,hdj.eq,E,this]
 exact aGy (by simpa using hi.eq) hck (fun c a w=>hQ c a w v) (.inl ⟨hw,fun w hw=>hy w hw _ rfl rfl⟩) (by rw[gO,hd.eq]) h
theorem bL9{ol:List Oper}(i:Nat){j dj:Nat}{oj:Oper}{b:Bool}{vg:Value}[hi:Ge ol i ⟨some d,op,ty,pos,after,some (j,b)⟩][hj:Ge ol j oj][hdj:Dst oj dj][hg:Ge l dj vg][he:NeB vg b][hd:Se l d undef l'][hb:Se bl i true bl'](hck:gB lt ol.toArray bl i=true)
  (hQ:∀ c a w v,Q (.panic c) (a.put (some d) v) w->Q (.panic c) a w) (h:WA P ol.toArray Q w0 lt Γb fuel bl' l' I):WA P ol.toArray Q w0 lt Γb (fuel+1) bl l I:=by
 have hw:Region.wanted (⟨some d,op,ty,pos,after,some (j,b)⟩:Oper) (yielded ol.toArray (E l).tmps)=false:=by
  have hgeq:=hg.eq
  rcases he.ne with e|⟨b',e,hne⟩
  ·rw[e] at hgeq;simp [Region.wanted,yielded,hj.eq,hdj.eq,E,hgeq,undef]
  ·rw[e] at hgeq
   have:yielded ol.toArray (E l).tmps j=some b':=by simp [yielded,hj.eq,hdj.eq,E,hgeq]
   simp only[Region.wanted,this];simpa using hne
 exact aGy (by simpa using hi.eq) hck (fun c a w=>hQ c a w undef) (.inr ⟨hw,rfl⟩) (by rw[gO,hd.eq]) h
theorem aZh(dj:Nat){b':Bool}{l1 l2:List Value}[hb:Ge l dj (.bool b')][h1:Se l dj (.bool true) l1][h2:Se l dj (.bool false) l2](ht:b'=true->WA P ops Q w0 lt Γb fuel bl l1 I)(hf:b'=false->WA P ops Q w0 lt Γb fuel bl l2 I):WA P ops Q w0 lt Γb fuel bl l I:=by
 have hl:∀ b'',b''=b'->l.set dj (.bool b'')=l:=by
  rintro _ rfl
  apply List.ext_getElem?
  intro i
  rw[List.getElem?_set]
  split
  ·rename_i h;subst h;split
   ·exact hb.eq.symm
   ·rename_i h3;have:=hb.eq;rw[dA (by omega)] at this;cases this
  ·rfl
 cases hb':b'
 ·have:=hl false hb'.symm;rw[h2.eq] at this;exact this▸hf hb'
 ·have:=hl true hb'.symm;rw[h1.eq] at this;exact this▸ht hb'
def gQ(P:Program)(ops:Array Oper)(Q:Exit->Act->World->Prop)(w0:World)(lt:List Nat)(Γb:List Atom)(fuel:Nat)(bl:List Bool):Act->World->Prop:=
 fun a w=>(kS lt bl.toArray->Sat w0 w Γb)/\kO P ops Q (aF3 lt (Sat w0 · Γb)) fuel bl.toArray a w
theorem bLo(hb:Ent w0 I Γb)(h:WA P ops Q w0 lt Γb fuel bl l I):WQ (Exit.then (gQ P ops Q w0 lt Γb fuel bl) Q) w0 .normal l I:=fun w hs=>⟨fun _=>hb w hs,h w hs (fun _=>hb w hs)⟩
theorem aK3(hb:¬ kS lt bl.toArray)(h:WA P ops Q w0 lt Γb fuel bl l I):WQ (Exit.then (gQ P ops Q w0 lt Γb fuel bl) Q) w0 .normal l I:=fun w hs=>⟨fun h=>absurd h hb,h w hs (fun h=>absurd h hb)⟩
theorem aTw{o:Oper}{a:Act}{K:Act->World->Prop}{r:Result Next}(h:o.upon P a K (Exit.then K Q) r):o.upon P a K Q r:=by
 cases r with
 | ok n w'=>
  cases n<;>simp only[Oper.upon] at h ⊢<;>first
   | exact h
   | exact Calls.mono h (fun e w'' he=>by cases e<;>exact he)
 | halt x w'=>cases x<;>simp only[Oper.upon] at h ⊢<;>exact h
theorem aG2{i:Nat}{o:Oper}{K:Act->World->Prop}{a:Act}{w:World}(hi:ops[i]?=some o)(h:wpList P ops (Exit.then K Q) [o] a w):wpOp P ops Q i K a w:=by
 unfold wpOp
 rw[hi]
 simp only[wpList] at h ⊢
 split
 ·rename_i hw
  rw[if_pos hw] at h
  exact h.imp (fun h=>aTw h) id
 ·rename_i hw
  rw[if_neg hw] at h
  exact h
theorem aD0{i:Nat}{o:Oper}(hi:ops[i]?=some o)[hb:Se bl i true bl'](h:WL P ops (Exit.then (gQ P ops Q w0 lt Γb fuel bl') Q) w0 [o] l I){w:World}(hs:Sat w0 w I) :
  wpOp P ops Q i (fun a' w'=>aF3 lt (Sat w0 · Γb) (bl.toArray.setIfInBounds i true) w'/\kO P ops Q (aF3 lt (Sat w0 · Γb)) fuel (bl.toArray.setIfInBounds i true) a' w') (E l) w:=by
 have:=aG2 hi (h w hs)
 simp only[List.setIfInBounds_toArray]
 rw[hb.eq]
 exact this
theorem bL0(i:Nat){o:Oper}(hr:Region.ready .any ops bl.toArray=[i])(hi:ops[i]?=some o)[hb:Se bl i true bl'](h:WL P ops (Exit.then (gQ P ops Q w0 lt Γb fuel bl') Q) w0 [o] l I):WA P ops Q w0 lt Γb (fuel+1) bl l I:=fun w hs hsb=>
 uF hr (by simp) (fun j hj=>by
   obtain rfl:j=i:=by simpa using hj
   exact aD0 hi h hs)
theorem bBj(i j:Nat){bi bj:List Bool}{oi oj:Oper}(hr:Region.ready .any ops bl.toArray=[i,j])(hi:ops[i]?=some oi)(hj:ops[j]?=some oj)[hb:Se bl i true bi][hb':Se bl j true bj]
  (h:WL P ops (Exit.then (gQ P ops Q w0 lt Γb fuel bi) Q) w0 [oi] l I) (h':WL P ops (Exit.then (gQ P ops Q w0 lt Γb fuel bj) Q) w0 [oj] l I):WA P ops Q w0 lt Γb (fuel+1) bl l I:=fun w hs hsb=>
 uF hr (by simp) (fun k hk=>by
  rcases cH.1 hk with rfl|hk
  ·exact aD0 hi h hs
  ·obtain rfl:k=j:=by simpa using hk
   exact aD0 hj h' hs)
theorem aQ5(i j k:Nat){bi bj bk:List Bool}{oi oj ok:Oper}(hr:Region.ready .any ops bl.toArray=[i,j,k])(hi:ops[i]?=some oi)(hj:ops[j]?=some oj)(hk:ops[k]?=some ok)[hb:Se bl i true bi][hb':Se bl j true bj][hb'':Se bl k true bk]
  (h:WL P ops (Exit.then (gQ P ops Q w0 lt Γb fuel bi) Q) w0 [oi] l I) (h':WL P ops (Exit.then (gQ P ops Q w0 lt Γb fuel bj) Q) w0 [oj] l I) (h'':WL P ops (Exit.then (gQ P ops Q w0 lt Γb fuel bk) Q) w0 [ok] l I):WA P ops Q w0 lt Γb (fuel+1) bl l I:=fun w hs hsb=>
 uF hr (by simp) (fun m hm=>by
  rcases cH.1 hm with rfl|hm
  ·exact aD0 hi h hs
  ·rcases cH.1 hm with rfl|hm
   ·exact aD0 hj h' hs
   ·obtain rfl:m=k:=by simpa using hm
    exact aD0 hk h'' hs)
end any
end Go.Eng
namespace Go.Eng
open Go Go.RowKit Go.ChangeShapes Go.WideShapes
theorem aEs{V β:Type}{f:V->Option β}:∀ {l:List V} {ys:List β},l.mapM f=some ys->l.length=ys.length/\∀ (i:Nat) a,l[i]?=some a->f a=ys[i]?
 | [],ys,h=>by simp at h;subst h;simp
 | a::l,ys,h=>by
  simp only[List.mapM_cons,Option.bind_eq_bind,Option.bind_eq_some_iff,Option.pure_def,Option.some.injEq] at h
  obtain ⟨y,hy,ys',hys,rfl⟩:=h
  obtain ⟨h1,h2⟩:=aEs hys
  refine⟨by simp [h1],fun i b hb=>?_⟩
  cases i with
  | zero=>simp at hb;subst hb;simpa using hy
  | succ i=>simpa using h2 i b (by simpa using hb)
theorem aJc{w:World}{base n:Nat}{a:Addr}{cs:List Value}(h:w.cells? base a n=some cs):cs.length=n/\∀ j,j<n->w.cell? (a.add j)=cs[j]?:=by
 unfold World.cells? at h
 split at h
 ·obtain ⟨h1,h2⟩:=aEs h
  refine⟨by simpa using h1.symm,fun j hj=>h2 j j (by simp [hj])⟩
 ·cases h
class Op_(P:Program)(T:TypeId)(V:outParam Type)(i:outParam (cB V)):Prop where
 rd:∀ {H:Type} {enc:TypeId×Value->H} {w:World} {base:Nat} {spare:Nat->Bool} {held:Bool} {fuel:Nat} {cs:List Value} {x:DataW H×List MemPlace},
  DataW.trod enc P w base spare held fuel T cs=some x->∃ d:V,@cB.rd V i (fun _=>True) w cs d
 size:P.cellsOf T=@cB.sz V i
theorem aN6{P:Program}{T:TypeId}(h:P.underlying T=some (.int .i64))(hs:P.cellsOf T=1):Op_ P T Int xD:=⟨fun ht=>by
 obtain ⟨n,rfl,_,hw⟩:=DataW.trod_int h ht
 exact⟨n,rfl,bounds_i64 hw⟩,hs⟩
theorem bB0{P:Program}{T:TypeId}(h:P.underlying T=some .bool)(hs:P.cellsOf T=1):Op_ P T Bool aGx:=⟨fun ht=>by
 obtain ⟨n,rfl,_⟩:=DataW.trod_bool h ht
 exact⟨n,rfl⟩,hs⟩
theorem bK9{P:Program}{T:TypeId}(h:P.underlying T=some .string)(hs:P.cellsOf T=1):Op_ P T ByteArray aBs:=⟨fun ht=>by
 obtain ⟨n,rfl,_,hl⟩:=DataW.trod_string h ht
 exact⟨n,rfl,by simpa [maxLen] using hl⟩,hs⟩
theorem aOs{V:Type}[cB V]{w:World}{b off:Nat}:∀ (n:Nat),(∀ i,i<n->∃ (c:List Value) (d:V),gM w b (off+i*cB.sz V) c/\cB.rd (fun _=>True) w c d)->
  ∃ (cells:List Value) (xs:List V),xs.length=n/\gM w b off cells/\kK (fun _=>True) w cells xs
 | 0,_=>⟨[],[],rfl,fun j hj=>by simp at hj,rfl⟩
 | n+1,h=>by
  obtain ⟨cells,xs,hl,hc,hr⟩:=aOs n (fun i hi=>h i (by omega))
  obtain ⟨c,d,hc',hd⟩:=h n (by omega)
  have hcl:cells.length=n*cB.sz V:=by rw[hr.len,hl]
  refine⟨cells++c,xs++[d],by simp [hl],fun j hj=>?_,kK.append (show kK _ w c [d] from⟨c,[],by simp,hd,rfl⟩) hr⟩
  by_cases hj':j<cells.length
  ·rw[dD hj'];exact hc j hj'
  ·rw[aD] at hj
   rw[cP (by omega),hcl]
   have:=hc' (j-n*cB.sz V) (by omega)
   rw[← this]
   congr 2
   omega
theorem gC{P:Program}{T e:TypeId}{V:Type}{iα:cB V}(h:P.underlying T=some (.slice e))(hs:P.cellsOf T=1)(he:Op_ P e V iα):Op_ P T (List V) bA:=⟨fun {H enc w base spare held fuel cs x} ht=>by
 rcases DataW.trod_slice h ht with⟨rfl,_⟩|⟨a,len,cap,elems,rest,n,_,rfl,_,_,hl,hm,hlen,hel,_⟩
 ·exact⟨[],none,0,rfl,by simp,by simp [maxLen],by simp,by simp⟩
 ·have each:∀ i,i<len->∃ (c:List Value) (d:V),(∀ j,j<c.length->w.cell? ((a.add (i*cB.sz V)).add j)=c[j]?)/\cB.rd (fun _=>True) w c d:=by
   intro i hi
   have h1:=hel i hi
   obtain ⟨y,hy⟩:∃ y,elems[i]?=some y:=⟨_,aG (by omega)⟩
   rw[hy,Option.bind_eq_some_iff] at h1
   obtain ⟨c,hc,hc'⟩:=h1
   obtain ⟨hcl,hcc⟩:=aJc hc
   obtain ⟨d,hd⟩:=he.rd hc'
   exact⟨c,d,fun j hj=>by rw[← he.size];exact hcc j (by omega),hd⟩
  have hlm:len<=9223372036854775807:=by simp only[maxLen] at hm;omega
  by_cases h0:0<len
  ·obtain ⟨c,d,hc,hd⟩:=each 0 h0
   have hcl:=cB.rd_len hd
   have h00:=hc 0 (by rw[hcl];exact cB.pos)
   rw[aG (by rw[hcl];exact cB.pos)] at h00
   simp only[Nat.zero_mul] at h00
   have hz:∀ p:Addr,p.add 0=p:=fun p=>by simp [Addr.add]
   rw[hz,hz] at h00
   obtain ⟨b,off,sp⟩:=a
   have hsp:sp=none:=World.cell?_spot h00
   subst hsp
   obtain ⟨cells,xs,hxl,hcells,hrd⟩:=aOs (V:=V) (w:=w) (b:=b) (off:=off) len (fun i hi=>by
    obtain ⟨c,d,hc,hd⟩:=each i hi
    exact⟨c,d,fun j hj=>by have:=hc j hj;rw[fB,fB] at this;exact this,hd⟩)
   exact⟨xs,some ⟨b,off,none⟩,cap,by rw[hxl],by omega,hm,by omega,fun _=>⟨b,off,cells,rfl,trivial,hcells,hrd⟩⟩
  ·have:len=0:=by omega
   subst this
   exact⟨[],some a,cap,rfl,by simp,hm,by simp,by simp⟩,hs⟩
class OpF(P:Program)(fs:List Field)(off:Nat)(V:outParam Type)(i:outParam (cB V)):Prop where
 rd:∀ {H:Type} {enc:TypeId×Value->H} {w:World} {base:Nat} {spare:Nat->Bool} {held:Bool} {fuel:Nat} {cs:List Value},off+@cB.sz V i<=cs.length->
  (∀ f∈fs,∃ x,DataW.trod enc P w base spare held fuel f.type ((cs.drop f.offset).take (P.cellsOf f.type))=some x)->∃ d:V,@cB.rd V i (fun _=>True) w ((cs.drop off).take (@cB.sz V i)) d
theorem eJ{P:Program}{f:Field}{off:Nat}{V:Type}{iα:cB V}(hf:f.offset=off)(h:Op_ P f.type V iα):OpF P [f] off V iα:=⟨fun hl ht=>by
 obtain ⟨x,hx⟩:=ht f (by simp)
 rw[hf,h.size] at hx
 exact h.rd hx⟩
theorem cE{P:Program}{f:Field}{fs:List Field}{off off':Nat}{V β:Type}{iα:cB V}{iβ:cB β}(hf:f.offset=off)(h:Op_ P f.type V iα)(ho:off'=off+cB.sz V)(hr:OpF P fs off' β iβ):OpF P (f::fs) off (V×β) eS:=⟨fun {H enc w base spare held fuel cs} hl ht=>by
 obtain ⟨x,hx⟩:=ht f (by simp)
 rw[hf,h.size] at hx
 have hl':off+(cB.sz V+cB.sz β)<=cs.length:=hl
 obtain ⟨d,hd⟩:=h.rd hx
 obtain ⟨d',hd'⟩:=hr.rd (cs:=cs) (by omega) (fun g hg=>ht g (by simp [hg]))
 refine⟨(d,d'),_,_,?_,hd,hd'⟩
 show(cs.drop off).take (cB.sz V+cB.sz β)=_
 rw[List.take_add,List.drop_drop,← ho]⟩
theorem dM{P:Program}{T:TypeId}{fs:List Field}{V:Type}{iα:cB V}(h:P.underlying T=some (.struct fs.toArray))(hs:P.cellsOf T=cB.sz V)(hf:OpF P fs 0 V iα):Op_ P T V iα:=⟨fun {H enc w base spare held fuel cs x} ht=>by
 obtain ⟨xs,n,_,_,hl,hxl,hfs⟩:=DataW.trod_struct h ht
 obtain ⟨d,hd⟩:=hf.rd (enc:=enc) (w:=w) (base:=base) (spare:=spare) (held:=held) (fuel:=n) (cs:=cs) (by omega) (fun f hf'=>by
  obtain ⟨i,hi⟩:=List.getElem?_of_mem hf'
  have:=hfs i f (by simpa using hi)
  rw[this]
  have:i<xs.length:=by rw[hxl];simpa using (dC.1 hi).1
  exact⟨_,aG this⟩)
 refine⟨d,?_⟩
 rwa [List.drop_zero,bE (by omega)] at hd,hs⟩
end Go.Eng
namespace Go.Eng
open Go Go.RowKit
class aH8(V:Type)[i:cB V]:Prop where
 ok:∀ {ok ok':Nat->Prop} {w:World} {F:List Nat} {cs:List Value} {x:V},cB.ow ok w F cs x->cB.ow ok' w F cs x
instance:aH8 Int:=⟨fun h=>h⟩
instance:aH8 Bool:=⟨fun h=>h⟩
instance {V β:Type}[cB V][cB β][ha:aH8 V][hb:aH8 β]:aH8 (V×β):=⟨fun ⟨f,g,c,d,e,e',h,h'⟩=>⟨f,g,c,d,e,e',ha.ok h,hb.ok h'⟩⟩
theorem jA.ok{V:Type}[cB V][ha:aH8 V]{ok ok':Nat->Prop}{w:World}:∀ {F:List Nat} {cells:List Value} {xs:List V},jA ok w F cells xs->jA ok' w F cells xs
 | _,_,[],h=>h
 | _,_,_::_,⟨f,g,c,d,e,e',h,h'⟩=>⟨f,g,c,d,e,e',ha.ok h,jA.ok h'⟩
instance {V:Type}[cB V][ha:aH8 V]:aH8 (List V):=⟨fun h=>by
 rcases h with h|⟨g,cap,dV,e,G,cells,h1,h2,h3,h4,h5,h6,h7,h8,h9⟩
 ·exact .inl h
 ·exact .inr ⟨g,cap,dV,e,G,cells,h1,h2,h3,h4,h5,h6,h7,h8,h9.ok⟩⟩
class aO5(A:List Atom):Prop where
 ok:∀ {ok ok':Nat->Prop} {w:World} {F:List Nat},jT ok w A F->jT ok' w A F
instance:aO5 []:=⟨fun h=>h⟩
instance {V:Type}{i:cB V}[ha:@aH8 V i]{cs:List Value}{x:V}{A:List Atom}[h:aO5 A]:aO5 (@Atom.ow V i cs x::A):=
 ⟨fun ⟨f,g,e,h1,h2⟩=>⟨f,g,e,ha.ok (show @cB.ow V i _ _ _ _ _ from h1),h.ok h2⟩⟩
class yE(I R:List Atom):Prop where
 get:∀ {ok w F},jT ok w I F->jT (fun _=>True) w R []
instance {I:List Atom}:yE I []:=⟨fun _=>rfl⟩
theorem aE{I:List Atom}{V:Type}{i:cB V}{cs:List Value}{x:V}{R:List Atom}(hr:dZ V i I cs x)(h:yE I R):yE I (@Atom.rd V i cs x::R):=
 ⟨fun hs=>⟨[],[],rfl,⟨rfl,hr.get hs⟩,h.get hs⟩⟩
theorem cL{P:Program}{f:FuncId}{vs:List Value}{w0:World}{I R:List Atom}{ρ:Type}{r:ρ->Value}{A:ρ->List Atom}(h:∀ w1,CJ P f vs w1 R r (fun p=>A p++R))(hr:yE I R)(hA:∀ p,aO5 (A p)) :
  CJ P f vs w0 I r (fun p=>A p++I):=by
 rintro w ⟨hb,F,hn,hl,hs⟩
 have hR:Sat w w R:=⟨lK.refl _ _,[],by simp,by simp,(hr.get hs).mono (fun b _ _=>⟨by simp,rfl⟩) (aM _) (fun b hb=>by cases hb)⟩
 refine(h w w hR).mono fun e w' ⟨p,he,hs'⟩=>⟨p,he,?_⟩
 obtain ⟨hb',F',hn',hl',hs''⟩:=hs'
 obtain ⟨f',g,rfl,h1,_⟩:=hs''.split
 have hlt:=hs.lt
 have hf':∀ b∈f',w.heap.size<=b:=fun b hb=>hl' b (by simp [hb])
 refine⟨hb.trans (hb'.mono hb.size),f'++F,?_,?_,jT.append (hs.mono (fun b hb hlt'=>⟨fun hm=>?_,hb'.block b hlt'⟩) hb'.size (fun b hb=>hb'.block b (hlt b hb))) ((hA p).ok h1)⟩
 ·rw[bJ]
  exact⟨(bJ.1 hn').1,hn,fun a ha b hb' e=>by have:=hf' a ha;have:=hlt b hb';omega⟩
 ·intro b hb'
  rcases aP.1 hb' with hm|hm
  ·exact Nat.le_trans hb.size (hf' b hm)
  ·exact hl b hm
 ·rcases aP.1 hm with hm|hm
  ·exact Nat.lt_irrefl _ (Nat.lt_of_lt_of_le hlt' (hf' b hm))
  ·exact hb hm
theorem fI{I:List Atom}:yE I []:=inferInstance
theorem jV{P:Program}{f:FuncId}{vs:List Value}{w0:World}{I R:List Atom}{ρ:Type}{r:ρ->Value}(h:∀ w1,CJ P f vs w1 R r (fun _=>R))(hr:yE I R):CJ P f vs w0 I r (fun _=>I):=cL (A:=fun _=>[]) h hr (fun _=>inferInstance)
theorem eN{P:Program}{f:FuncId}{vs:List Value}{w0:World}{I Γ':List Atom}{ρ:Type}{r:ρ->Value}{A:ρ->List Atom}(hp:I.Perm Γ')(h:CJ P f vs w0 Γ' r A):CJ P f vs w0 I r A:=fun w hs=>h w (hs.perm hp)
class UnO(V:Type)[cB V] where
 Pr:Type
 cells:Pr->V->List Value
 atoms:Pr->V->List Atom
 fact:V->Prop
 law:∀ {ok:Nat->Prop} {w:World} {F:List Nat} {cs:List Value} {x:V},cB.ow ok w F cs x->∃ p,cs=cells p x/\jT ok w (atoms p x) F/\fact x
instance bQp:UnO Int:=⟨Unit,fun _ n=>[.int .i64 n],fun _ _=>[],fun n=>-9223372036854775808<=n/\n<=9223372036854775807,fun h=>⟨(),h.2.1,h.1,h.2.2⟩⟩
instance bCg{V:Type}[cB V]:UnO (List V):=⟨Value,fun c _=>[c],fun c xs=>[.ow [c] xs],fun _=>True,fun {ok w F cs xs} h=>by
 have hl:=cB.rd_len (x:=xs) (cB.ow_rd (ok':=fun _=>True) h (fun _ _=>trivial) (fun _ _=>trivial))
 match cs,hl with
 | [c],_=>exact⟨c,rfl,⟨F,[],by simp,h,rfl⟩,trivial⟩⟩
instance bPd{V β:Type}[cB V][cB β][ua:UnO V][ub:UnO β]:UnO (V×β):=⟨ua.Pr×ub.Pr,fun p x=>ua.cells p.1 x.1++ub.cells p.2 x.2,fun p x=>ua.atoms p.1 x.1++ub.atoms p.2 x.2,fun x=>ua.fact x.1/\ub.fact x.2,fun h=>by
 obtain ⟨f,g,c,d,rfl,rfl,h1,h2⟩:=h
 obtain ⟨p,rfl,hp,hf⟩:=ua.law h1
 obtain ⟨q,rfl,hq,hg⟩:=ub.law h2
 exact⟨(p,q),rfl,jT.append hq hp,hf,hg⟩⟩
structure jF(V:Type) where
 xs:List V
 i:Nat
 ec:List Value
instance lX{V:Type}[cB V]:cB (jF V) where
 sz:=1
 rd ok w cs h:=∃ b cap,cs=[.slice (some ⟨b,0,none⟩) h.xs.length cap]/\h.i<h.xs.length/\ok b/\b<w.heap.size/\gM w b (h.i*cB.sz V) h.ec
 ow ok w F cs h:=∃ b cap dV e p s t f1 f2,cs=[.slice (some ⟨b,0,none⟩) h.xs.length cap]/\F=b::(f1++f2)/\w.heap[b]?=some (.cells dV e (0,0))/\dV.toList=p++h.ec++s++t/\
  h.xs.length<=cap/\cap<=maxLen/\h.xs.length<=9223372036854775807/\cap*cB.sz V<=dV.size/\h.ec.length=cB.sz V/\h.i<h.xs.length/\
  jA ok w f1 p (h.xs.take h.i)/\jA ok w f2 s (h.xs.drop (h.i+1))
 pos:=by decide
 rd_len:=by rintro _ _ _ _ ⟨_,_,rfl,_⟩;rfl
 rd_one:=by rintro _ _ _ _ ⟨_,_,rfl,_⟩;simp [Value.oneCell']
 rd_mono:=by
  rintro ok ok' w w' _ x ⟨b,cap,rfl,h1,h2,h3,h4⟩ hm
  have hlt:b<w'.heap.size:=by
   have:=(hm b h2 h3).2
   unfold gH at this
   rw[Array.getElem?_eq_getElem h3] at this
   exact(bL.1 this).1
  exact⟨b,cap,rfl,h1,(hm b h2 h3).1,hlt,h4.mono (hm b h2 h3).2⟩
 ow_mono:=by
  rintro ok ok' w w' F _ x ⟨b,cap,dV,e,p,s,t,f1,f2,rfl,rfl,h1,h2,h3,h4,h5,h6,h7,h8,h9,h10⟩ hf hm
  exact⟨b,cap,dV,e,p,s,t,f1,f2,rfl,rfl,(hf b (by simp)).trans h1,h2,h3,h4,h5,h6,h7,h8,h9.mono hm (fun k hk=>hf k (by simp [hk])),h10.mono hm (fun k hk=>hf k (by simp [hk]))⟩
 ow_rd:=by
  rintro ok ok' w F _ x ⟨b,cap,dV,e,p,s,t,f1,f2,rfl,rfl,h1,h2,h3,h4,h5,h6,h7,h8,h9,h10⟩ ho hf
  refine⟨b,cap,rfl,h8,hf b (by simp),(bL.1 h1).1,fun j hj=>?_⟩
  have hp:p.length=x.i*cB.sz V:=by rw[h9.len,aN];congr 1;omega
  simp only[World.cell?,h1]
  rw[← hp,← Array.getElem?_toList,h2]
  simp only[aT]
  rw[cP (by omega),Nat.add_sub_cancel_left,dD hj]
  rfl
 ow_lt:=by
  rintro ok w F _ x ⟨b,cap,dV,e,p,s,t,f1,f2,rfl,rfl,h1,h2,h3,h4,h5,h6,h7,h8,h9,h10⟩ k hk
  simp only[cH,aP] at hk
  rcases hk with rfl|hk|hk
  ·exact(bL.1 h1).1
  ·exact h9.lt k hk
  ·exact h10.lt k hk
theorem aSi{V:Type}[cB V][un:UnO V]{ok:Nat->Prop}{w:World}{sv:Value}{xs:List V}{i:Nat}{y:V}(hi:xs[i]?=some y){F:List Nat}(h:cB.ow ok w F [sv] xs) :
  ∃ (p:un.Pr) (G:List Nat),G.Perm F/\un.fact y/\jT ok w (.ow [sv] (jF.mk xs i (un.cells p y))::un.atoms p y) G:=by
 obtain ⟨hlt,hy⟩:=dC.1 hi
 rw[fL] at h
 rcases h with⟨_,rfl,rfl⟩|⟨b,cap,dV,e,G,cells,hov,rfl,hgb,hcap,hcapm,hlen,hcs,htake,hO⟩
 ·simp at hlt
 obtain ⟨f1,fo,f2,p,c,s,rfl,hcells,hold,hO1,hO2⟩:=hO.get i hlt
 rw[hy] at hold
 have hcl:c.length=cB.sz V:=cB.rd_len (x:=y) (cB.ow_rd (ok':=fun _=>True) hold (fun _ _=>trivial) (fun _ _=>trivial))
 obtain ⟨q,rfl,hat,hf⟩:=un.law hold
 refine⟨q,(b::(f1++f2))++fo,?_,hf,b::(f1++f2),fo,rfl,⟨b,cap,dV,e,p,s,dV.toList.drop (xs.length*cB.sz V),f1,f2,hov,rfl,hgb,?_,hcap,hcapm,hlen,hcs,hcl,hlt,hO1,hO2⟩,hat⟩
 ·rw[aA]
  refine List.Perm.cons b ?_
  rw[aT,aT]
  exact List.perm_append_comm.append_left f1
 ·rw[← hcells,← htake];simp
theorem yL{V:Type}[cB V]{ok:Nat->Prop}{w:World}{sv:Value}{xs:List V}{i:Nat}{ec:List Value}{y:V}{F G:List Nat}(h:cB.ow ok w F [sv] (jF.mk xs i ec))(hy:cB.ow ok w G ec y) :
  ∃ H:List Nat,H.Perm (F++G)/\cB.ow ok w H [sv] (xs.set i y):=by
 obtain ⟨b,cap,dV,e,p,s,t,f1,f2,h0,rfl,h1,h2,h3,h4,h5,h6,h7,h8,h9,h10⟩:=h
 simp only at h0 h2 h3 h5 h8 h9 h10 h7
 refine⟨b::(f1++G++f2),?_,?_⟩
 ·rw[aA]
  refine List.Perm.cons b ?_
  rw[aT,aT]
  exact List.perm_append_comm.append_left f1
 ·rw[fL]
  have hset:xs.set i y=xs.take i++[y]++xs.drop (i+1):=by
   rw[List.set_eq_take_append_cons_drop,if_pos h8];simp
  have hO:jA ok w (f1++G++f2) (p++ec++s) (xs.set i y):=by
   rw[hset]
   exact jA.append h10 (jA.append (show jA ok w G ec [y] from⟨G,[],ec,[],by simp,by simp,hy,rfl,rfl⟩) h9)
  refine .inr ⟨b,cap,dV,e,f1++G++f2,p++ec++s,by rw[aV];exact h0,rfl,h1,by simpa using h3,h4,by simpa using h5,h6,?_,hO⟩
  rw[h2,← hO.len]
  exact List.take_left ..
section walk
variable {P:Program} {ops:Array Oper} {Q:Exit->Act->World->Prop} {w0:World} {rest:List Oper} {l l':List Value} {I Y Ε:List Atom} {ty:TypeId} {v:Value} {pos:String} {after:Array Edge} {d:Nat}
theorem xK{V:Type}{iα:cB V}[un:UnO V]{sv:Value}{xs:List V}{i:Nat}{y:V}[hp:cQ (List V) bA I [sv] xs Y](hi:xs[i]?=some y){w:World}(hs:Sat w0 w I) :
  ∃ p:un.Pr,un.fact y/\Sat w0 w (.ow [sv] (jF.mk xs i (un.cells p y))::(un.atoms p y++Y)):=by
 obtain ⟨hb,F,hn,hl,f,g,rfl,hf,hΔ⟩:=hs.perm hp.perm
 obtain ⟨p,G,hG,hfact,hsep⟩:=aSi (un:=un) hi (show cB.ow _ _ _ _ _ from hf)
 have hperm:(G++g).Perm (f++g):=hG.append_right g
 refine⟨p,hfact,hb,G++g,hperm.symm.nodup hn,fun b hb'=>hl b (hperm.mem_iff.1 hb'),?_⟩
 have:=jT.append hΔ hsep
 exact jT.notin hperm (by simpa using this)
theorem aAo{V:Type}{iα:cB V}[un:UnO V](sv:Value)(i:Nat){xs:List V}{y:V}[hp:cQ (List V) bA I [sv] xs Y](hi:xs[i]?=some y)
  (h:∀ p:un.Pr,un.fact y->WL P ops Q w0 rest l (.ow [sv] (jF.mk xs i (un.cells p y))::(un.atoms p y++Y))):WL P ops Q w0 rest l I:=fun w hs=>by
 obtain ⟨p,hf,hs'⟩:=xK (un:=un) (hp:=hp) hi hs
 exact h p hf w hs'
theorem aIp{V:Type}{iα:cB V}[un:UnO V]{c:Code}(sv:Value)(i:Nat){xs:List V}{y:V}[hp:cQ (List V) bA I [sv] xs Y](hi:xs[i]?=some y)
  (h:∀ p:un.Pr,un.fact y->WC P Q w0 c l (.ow [sv] (jF.mk xs i (un.cells p y))::(un.atoms p y++Y))):WC P Q w0 c l I:=fun w hs=>by
 obtain ⟨p,hf,hs'⟩:=xK (un:=un) (hp:=hp) hi hs
 exact h p hf w hs'
theorem yN{V:Type}{iα:cB V}{sv:Value}{xs:List V}{i:Nat}{ec:List Value}{y:V}[hp:cQ (jF V) lX I [sv] (jF.mk xs i ec) Y](ho:Own Y ec y Ε){w:World}(hs:Sat w0 w I):Sat w0 w (.ow [sv] (xs.set i y)::Ε):=by
 obtain ⟨hb,F,hn,hl,f,g,rfl,hf,hΔ⟩:=hs.perm hp.perm
 obtain ⟨g2,hg2,fx,ge,rfl,hx2,hE⟩:=ho hΔ
 obtain ⟨H,hH,how⟩:=yL (show cB.ow _ _ _ _ _ from hf) (show cB.ow _ _ _ _ _ from hx2)
 have hperm:(H++ge).Perm (f++g):=(hH.append_right ge).trans (by rw[aT];exact hg2.append_left f)
 refine⟨hb,H++ge,hperm.symm.nodup hn,fun b hb'=>hl b (hperm.mem_iff.1 hb'),?_⟩
 exact jT.notin hperm ⟨H,ge,rfl,how,hE⟩
theorem tY{V:Type}{iα:cB V}{e:Exit}(sv:Value){xs:List V}{i:Nat}{ec:List Value}(y:V)[hp:cQ (jF V) lX I [sv] (jF.mk xs i ec) Y](ho:Own Y ec y Ε)
  (h:WQ Q w0 e l (.ow [sv] (xs.set i y)::Ε)):WQ Q w0 e l I:=fun w hs=>h w (yN (hp:=hp) ho hs)
theorem aDf{T k by_:Nat}{x y:Operand}{sv:Value}{i:Nat}{V:Type}{iα:cB V}{xs:List V}{ec:List Value}{kk:IntKind}[h:Ev l x sv][hn:Ev l y (.int kk (i:Int))][hT:Sl P T k by_][hr:dZ (jF V) lX I [sv] (jF.mk xs i ec)]
  [hd:Se l d (.pointer (some (dW sv (i:Int) k))) l'] (hw:WL P ops Q w0 rest l' I):WL P ops Q w0 (⟨some d,.indexAddr T x y,ty,pos,after,none⟩::rest) l I:=by
 refine vM (v:=.pointer (some (dW sv (i:Int) k))) (hd:=hd) ?_ hw
 obtain ⟨e,inf,z,ht,hinf,hk,_⟩:=hT.ex
 refine fT (s:=Instr.indexAt T sv (.int kk (i:Int))) (fun o ho _=>by unfold execOp;rw[ho];simp only[h.eq,hn.eq]) (fun w hs=>?_)
 obtain ⟨b,cap,hsv,hi,_⟩:=hs.rd (hr:=hr)
 obtain rfl:sv=_:=by simpa using hsv
 simp only at hi
 have h1:(i:Int)<(xs.length:Int):=by omega
 simp [Instr.indexAt,asIntOf,run_underlying ht,sizeOf,typeInfo,hinf,hk,hi,dW]
theorem aL3{V:Type}{iα:cB V}{sv:Value}{xs:List V}{i k:Nat}{ec:List Value}{w:World}(hr:cB.rd (fun _=>True) w [sv] (jF.mk xs i ec))(hk:k=cB.sz V) :
  aGu w (dW sv (i:Int) k) ec:=by
 obtain ⟨b,cap,hsv,hi,_,_,hc⟩:=hr
 obtain rfl:sv=_:=by simpa using hsv
 intro j hj
 simp only[dW,fB,cR,bH,hk]
 exact hc j hj
class iI(V:Type)[cB V](k:outParam Nat):Prop where
 eq:k=cB.sz V
instance:iI Int 1:=⟨rfl⟩
instance:iI Bool 1:=⟨rfl⟩
instance:iI ByteArray 1:=⟨rfl⟩
instance:iI UInt8 1:=⟨rfl⟩
instance {V:Type}[cB V]:iI (List V) 1:=⟨rfl⟩
instance {V β:Type}[cB V][cB β]{a b k:Nat}[ha:iI V a][hb:iI β b][h:oS a b k]:iI (V×β) k:=⟨by rw[← h.eq,ha.eq,hb.eq];rfl⟩
theorem kD{V:Type}{iα:cB V}[inh:Inhabited V][un:Un V]{c:Code}{k:Nat}(sv:Value)(n:Nat){xs:List V}[hr:fK (List V) bA I [sv] xs][hk:iI V k](hi:n<xs.length)
  (h:∀ p:Un.Pr V,Un.fact (xs.getD n default)->WC P Q w0 c l (.pt (dW sv (n:Int) k) (Un.cells p (xs.getD n default))::(Un.atoms p (xs.getD n default)++I))):WC P Q w0 c l I:=by
 refine bB7 sv (n:Int) ⟨by omega,by omega⟩ fun p hf=>?_
 rw[← hk.eq]
 simp only[bH] at hf ⊢
 exact h p hf
instance (priority:=1095) kW.hole{V:Type}{iα:cB V}{sv:Value}{xs:List V}{i k:Nat}{ec:List Value}[hk:iI V k]:kW (.ow [sv] (jF.mk xs i ec)::I) (dW sv (i:Int) k) ec:=
 ⟨fun ⟨_,_,_,h,_⟩=>aL3 (cB.ow_rd (ok':=fun _=>True) (show cB.ow _ _ _ [sv] (jF.mk xs i ec) from h) (fun _ _=>trivial) (fun _ _=>trivial)) hk.eq⟩
theorem aCu{V:Type}{iα:cB V}{T k kk m:Nat}{x y:Operand}{sv:Value}{xs:List V}{i:Nat}{ec vc ec':List Value}[hx:Ev l x (.pointer (some ((dW sv (i:Int) k).add m)))][hy:Ev l y v][hc:Cs I v vc][hT:Sz P T kk]
  [hb:cQ (jF V) lX I [sv] (jF.mk xs i ec) Y] [hsz:iI V k] [hsp:Sp ec m vc ec'] (hkk:vc.length=kk) (h:WL P ops Q w0 rest l (.ow [sv] (jF.mk xs i ec')::Y)) :
  WL P ops Q w0 (⟨none,.store T x y,ty,pos,after,none⟩::rest) l I:=by
 intro w hs
 obtain ⟨hvc,hone⟩:=hs.cs (hc:=hc)
 obtain ⟨he',hle'⟩:=hsp.eq
 obtain ⟨hbelow,F,hnd,hl,f,g,rfl,hf,hΔ⟩:=hs.perm hb.perm
 obtain ⟨b,cap,dV,e,p,s,t,f1,f2,h0,rfl,h1,h2,h3,h4,h5,h6,h7,h8,h9,h10⟩:=(show cB.ow (·∉f++g) w f [sv] (jF.mk xs i ec) from hf)
 simp only at h0 h2 h3 h5 h8 h9 h10 h7
 obtain rfl:sv=_:=by simpa using h0
 have hpl:p.length=i*cB.sz V:=by rw[h9.len,aN];congr 1;omega
 have hle:p.length+m+0+vc.length<=dV.size:=by
  have:=congrArg List.length h2
  simp only[aD,bZ] at this
  omega
 have hr:=run_storeCells_at P b (p.length+m) e vc 0 dV w h1 hle hone
 simp only[Nat.add_zero] at hr
 have hnew:dV.toList.take (p.length+m)++vc++dV.toList.drop (p.length+m+vc.length)=p++ec'++s++t:=by
  rw[h2,he',show p++ec++s++t=p++(ec++(s++t)) by simp,List.take_length_add_append,show p.length+m+vc.length=p.length+(m+vc.length) by omega,List.drop_length_add_append,
   List.take_append_of_le_length (by omega),List.drop_append_of_le_length (by omega)]
  simp
 rw[hnew] at hr
 have hrun:(execOp (E l).eval ⟨none,.store T x y,ty,pos,after,none⟩).run P w=.ok .skip (w.setRow b (p++ec'++s++t).toArray):=by
  show(do Instr.storeAt T ((E l).eval x) ((E l).eval y);pure Next.skip:Sem Next).run P w=_
  have hea:(dW (.slice (some ⟨b,0,none⟩) xs.length cap) (i:Int) k).add m=⟨b,p.length+m,none⟩:=by
   simp only[dW,fB,cR,bH,hpl,hsz.eq]
  simp only[hx.eq,hy.eq,Sem.run_bind,Instr.storeAt,Instr.sureAddr,Sem.run_pure,Result.andThen_ok,storeVar,hT.size,hvc,hea]
  simp only[dP,hkk,ne_eq,not_true_eq_false,if_false,Sem.run_pure,Result.andThen_ok,Sem.run_bind]
  simp only[hr,Result.andThen_ok]
 refine wpList_plain rfl fun K hK=>?_
 unfold Oper.wp
 rw[hrun,Oper.upon_skip,nN]
 refine hK _ _ (h _ ?_)
 have hblt:b<w.heap.size:=(bL.1 h1).1
 have hsame:∀ k,k≠b->gH w (w.setRow b (p++ec'++s++t).toArray) k:=fun k hk=>setRow_other w b k _ hk
 have hnd1:=bJ.1 hnd
 have hbf:b∉f1++f2:=(List.nodup_cons.1 hnd1.1).1
 refine Sat.step' (Δ':=[.ow [_] (jF.mk xs i ec')]) (I:=Y) (f:=b::(f1++f2)) (g:=g) (w:=w) hbelow hnd hl hΔ
  ⟨rfl,rfl,rfl,by simp,(by first|exact aM _|exact cW _ _)⟩ (fun k _ hk=>hsame k (fun h=>hk (by simp [h]))) (b::(f1++f2)) hnd1.1 (fun k hk=>.inl hk) (fun ok' hok'=>⟨b::(f1++f2),[],by simp,?_,rfl⟩)
 have hok2:∀ k,k∉(b::(f1++f2))++g->k<w.heap.size->ok' k/\gH w (w.setRow b (p++ec'++s++t).toArray) k:=
  fun k hk hlt=>⟨hok' k hk hlt,hsame k (fun h=>hk (by simp [h]))⟩
 have hel:ec'.length=ec.length:=by
  have:=congrArg List.length he'
  simp only[aD,aN,aR] at this
  omega
 refine⟨b,cap,(p++ec'++s++t).toArray,e,p,s,t,f1,f2,rfl,rfl,setRow_heap w b dV _ e _ h1,by simp,h3,h4,h5,?_,by simpa [hel] using h7,h8,?_,?_⟩
 ·have:=congrArg List.length h2
  simp only[aD,bZ] at this
  simp only[dP,aD]
  omega
 ·exact h9.mono hok2 (fun k hk=>hsame k (fun h=>hbf (by simp [← h,hk])))
 ·exact h10.mono hok2 (fun k hk=>hsame k (fun h=>hbf (by simp [← h,hk])))
end walk
end Go.Eng
namespace Go.Eng
open Go Go.RowKit
class nA(V:Type) where
 size:V->Nat
instance:nA Int:=⟨fun _=>0⟩
instance {V β:Type}[nA V][nA β]:nA (V×β):=⟨fun x=>nA.size x.1+nA.size x.2⟩
def nR{V:Type}[nA V]:List V->Nat
 | []=>0
 | x::xs=>nA.size x+nR xs
instance bO9{V:Type}[nA V]:nA (List V):=⟨fun xs=>xs.length+nR xs⟩
theorem iE{V:Type}[nA V](xs:List V):nA.size xs=xs.length+nR xs:=rfl
theorem nM{V β:Type}[nA V][nA β](x:V×β):nA.size x=nA.size x.1+nA.size x.2:=rfl
theorem aH0(x:Int):nA.size x=0:=rfl
theorem aY7(xs:List Int):nR xs=0:=by
 induction xs with
 | nil=>rfl
 | cons x xs ih=>simp only[nR,aH0,ih]
theorem lE(xs:List Int):nA.size xs=xs.length:=by rw[iE,aY7,Nat.add_zero]
theorem aAt{V:Type}[nA V]{xs:List V}{k:Nat}{y:V}(h:xs[k]?=some y):nR (xs.take (k+1))=nR (xs.take k)+nA.size y:=by
 induction xs generalizing k with
 | nil=>simp at h
 | cons x xs ih=>
  cases k with
  | zero=>
   simp only[dO,Option.some.injEq] at h
   subst h
   simp [nR]
  | succ k=>
   simp only[List.getElem?_cons_succ] at h
   simp only[List.take_succ_cons,nR,ih h]
   omega
theorem aGv{V:Type}[nA V](xs:List V)(k:Nat):nR (xs.take k)<=nR xs:=by
 induction xs generalizing k with
 | nil=>simp [nR]
 | cons x xs ih=>
  cases k with
  | zero=>simp [nR]
  | succ k=>
   simp only[List.take_succ_cons,nR]
   have:=ih k
   omega
theorem aQf{V:Type}[nA V]{xs:List V}{k:Nat}{y:V}(h:xs[k]?=some y):nA.size y<=nR xs:=by
 have:=aAt h
 have:=aGv xs (k+1)
 omega
theorem mM{V:Type}[Inhabited V]{xs:List V}{k:Nat}(h:k<xs.length):xs[k]?=some (xs.getD k default):=by
 rw[aC,aG h];rfl
theorem aRr{V:Type}[Inhabited V]{xs ys:List V}{k:Nat}(h:xs.take k=ys.take k)(h1:k<xs.length)(h2:k<ys.length)(he:xs.getD k default=ys.getD k default):xs.take (k+1)=ys.take (k+1):=by
 rw[aC,aC,aG h1,aG h2] at he
 simp only[aZ] at he
 rw[bC h1,bC h2,h,he]
theorem aVs{V:Type}{xs ys:List V}{k:Nat}(h:xs.take k=ys.take k)(h1:xs.length<=k)(h2:xs.length=ys.length):xs=ys:=by
 rw[bE h1,bE (by omega)] at h
 exact h
theorem bCo{V:Type}[Inhabited V]{xs ys:List V}{k:Nat}(h:¬ xs.getD k default=ys.getD k default):xs≠ys:=fun e=>h (by rw[e])
section auto
variable {P:Program} {ops:Array Oper} {Q:Exit->Act->World->Prop} {w0:World} {rest:List Oper} {l l':List Value} {I Γb Y Ε:List Atom} {ty:TypeId} {v:Value} {pos:String} {after:Array Edge} {d:Nat} {fuel:Nat} {bl bl':List Bool} {op:Op} {lt:List Nat}
theorem aRy{T k by_:Nat}{x y:Operand}{kx ky:IntKind}{n m:Int}{V:Type}{iα:cB V}{zs:List Value}{z:V}[ho:Op_ P T (List V) bA][hx:Ev l x (.int kx n)][hy:Ev l y (.int ky m)][hT:Sl P T k by_][hzs:SlZ P T zs][hz:Zo V zs z]
  (hn:0<=n/\n<=m) (hm:m*by_<=140737488355328) (h:∀ sv,WL P ops Q w0 rest (l.set d sv) (.ow [sv] (List.replicate n.toNat z)::I)) :
  WL P ops Q w0 (⟨some d,.makeSlice T x y,ty,pos,after,none⟩::rest) l I:=bB2 V hn hm h
theorem aI8{T k by_:Nat}{x y:Operand}{ov tv:Value}{V:Type}{iα:cB V}{xs ys:List V}[hx:Ev l x ov][hy:Ev l y tv][hT:Sl P T k by_][h1:cQ (List V) bA I [ov] xs Y][h2:cQ (List V) bA Y [tv] ys Ε][hk:iI V k]
  (hbytes:(xs.length+ys.length)*by_<=140737488355328) (h:∀ sv,WL P ops Q w0 rest (l.set d sv) (.ow [sv] (xs++ys)::Ε)) :
  WL P ops Q w0 (⟨some d,.call { callee:=.builtin .append,args:=#[x,y],argTypes:=#[T,T] },ty,pos,after,none⟩::rest) l I:=aFb hk.eq hbytes h
theorem aBq{T k by_:Nat}{x y:Operand}{ov tv:Value}{V:Type}{iα:cB V}{xs ys:List V}[hx:Ev l x ov][hy:Ev l y tv][hT:Sl P T k by_][h1:cQ (List V) bA I [ov] xs Y][h2:dZ (List V) bA Y [tv] ys][hcp:Cp V][hk:iI V k]
  (hbytes:(xs.length+ys.length)*by_<=140737488355328) (h:∀ sv,WL P ops Q w0 rest (l.set d sv) (.ow [sv] (xs++ys)::Y)) :
  WL P ops Q w0 (⟨some d,.call { callee:=.builtin .append,args:=#[x,y],argTypes:=#[T,T] },ty,pos,after,none⟩::rest) l I:=aG7 hk.eq hbytes h
theorem zC{T k by_ n:Nat}{ps:List (Nat×Operand)}{groups:List (List Value)}{V:Type}{iα:cB V}{xs:List V}[hO:Op_ P T (List V) bA][hT:Sl P T k by_][hp:oW I l k 0 ps groups][hk:iI V k](ho:xH I groups xs Y)(hn:n=xs.length)(hnk:n*k<=16777216)
  (h:∀ sv,WL P ops Q w0 rest (l.set d sv) (.ow [sv] xs::Y)):WL P ops Q w0 (⟨some d,.buildSlice T n ps.toArray,ty,pos,after,none⟩::rest) l I:=oQ ho hk.eq hn hnk h
theorem yY{V:Type}{iα:cB V}{T k kk:Nat}{x y:Operand}{sv:Value}{n:Int}{xs:List V}{vc:List Value}{u:V}[hx:Ev l x (.pointer (some (dW sv n k)))][hy:Ev l y v][hc:Cs I v vc][hT:Sz P T kk][h1:cQ (List V) bA I [sv] xs Y]
  [hk:iI V k] [hkk:iI V kk] (ho:Own Y vc u Ε) (hi:0<=n/\n<xs.length) (h:WL P ops Q w0 rest l (.ow [sv] (xs.set n.toNat u)::Ε)) :
  WL P ops Q w0 (⟨none,.store T x y,ty,pos,after,none⟩::rest) l I:=aC7 ho hk.eq hkk.eq hi h
theorem aQw{V:Type}{iα:cB V}(h:WL P ops Q w0 rest l (.ow [.slice none 0 0] ([]:List V)::I)):WL P ops Q w0 rest l I:=bJu zP h
theorem xI{V:Type}{iα:cB V}{c:Code}(h:WC P Q w0 c l (.ow [.slice none 0 0] ([]:List V)::I)):WC P Q w0 c l I:=bLz zP h
theorem aDm{T k by_:Nat}{x y:Operand}{tv:Value}{V:Type}{iα:cB V}{ys:List V}[hx:Ev l x (.slice none 0 0)][hO:Op_ P T (List V) bA][hy:Ev l y tv][hT:Sl P T k by_][h2:cQ (List V) bA I [tv] ys Ε][hk:iI V k]
  (hbytes:ys.length*by_<=140737488355328) (h:∀ sv,WL P ops Q w0 rest (l.set d sv) (.ow [sv] ys::Ε)) :
  WL P ops Q w0 (⟨some d,.call { callee:=.builtin .append,args:=#[x,y],argTypes:=#[T,T] },ty,pos,after,none⟩::rest) l I:=
 aQw (V:=V) (aFb (h1:=cQ.here) (h2:=h2) hk.eq (by simpa using hbytes) (by simpa using h))
theorem zA{w:World}{Ε:List Atom}(hp:I.Perm (Γb++Ε))(hs:Sat w0 w I)(hd:∀ F:List Nat,(∀ G:List Nat,jT (·∉F) w Γb G->jT (·∉F) w Y []))
  : Sat w0 w (Y++I)/\Sat w0 w (Y++Γb):=by
 have h1:Sat w0 w (Y++(Γb++Ε)):=(hs.perm hp).addSep fun F hF=>by
  obtain ⟨f,g,rfl,h,_⟩:=hF.split
  exact hd _ f h
 refine⟨h1.perm (hp.symm.append_left Y),?_⟩
 have h2:Sat w0 w (Ε++(Y++Γb)):=h1.perm (by rw[← aT];exact List.perm_append_comm)
 exact h2.dropN
theorem bDh{V:Type}{iα:cB V}[inh:Inhabited V][un:Un V][hsub:sR I Γb](sv:Value)(n:Int){xs:List V}[hr:fK (List V) bA Γb [sv] xs](hnl:kS lt bl.toArray)(hi:0<=n/\n<xs.length)
  (h:∀ p:Un.Pr V,Un.fact (xs.getD n.toNat default)->WA P ops Q w0 lt (.pt (dW sv n (cB.sz V)) (Un.cells p (xs.getD n.toNat default))::(Un.atoms p (xs.getD n.toNat default)++Γb)) fuel bl l (.pt (dW sv n (cB.sz V)) (Un.cells p (xs.getD n.toNat default))::(Un.atoms p (xs.getD n.toNat default)++I))) :
  WA P ops Q w0 lt Γb fuel bl l I:=fun w hs hsb=>by
 obtain ⟨Ε,hE⟩:=hsub.get
 have hin:n.toNat<xs.length:=by omega
 have hget:xs.getD n.toNat default=xs[n.toNat]:=by rw[aC,aG hin,aZ]
 obtain ⟨_,Fb,_,_,hsepb⟩:=hsb hnl
 obtain ⟨a,cap,b,off,pc,c,s,rfl,ha,hok,hca,hp,hea,hrd⟩:=gV (hr.get hsepb) hi.1 hi.2
 rw[← hget] at hrd
 obtain ⟨q,rfl,_,hf⟩:=un.law hrd
 have key:=zA (Y:=.pt (dW (.slice (some ⟨b,off,none⟩) xs.length cap) n (cB.sz V)) (Un.cells q (xs.getD n.toNat default))::Un.atoms q (xs.getD n.toNat default)) hE hs (fun F G hG=>by
  obtain ⟨a',cap',b',off',pc',c',s',hsv,ha',hok',hca',hp',hea',hrd'⟩:=gV (hr.get hG) hi.1 hi.2
  simp only[Value.slice.injEq,Option.some.injEq,Addr.mk.injEq,and_true] at hsv
  obtain ⟨⟨rfl,rfl⟩,_,rfl⟩:=hsv
  rw[← hget] at hrd'
  have hlen:=cB.rd_len hrd
  have hlen':=cB.rd_len hrd'
  have hcc:c'=Un.cells q (xs.getD n.toNat default):=by
   apply List.ext_getElem?
   intro j
   by_cases hj:j<cB.sz V
   ·have e1:=hca.part j (by omega)
    have e2:=hca'.part j (by omega)
    rw[hp] at e1
    rw[hp'] at e2
    rw[← e1,← e2]
   ·rw[dA (by omega),dA (by omega)]
  subst hcc
  refine⟨[],[],rfl,⟨rfl,?_⟩,?_⟩
  ·rw[hea]
   refine⟨hok',hca.lt (by have:=cB.pos (V:=V);simp only[aD];omega),fun j hj=>?_⟩
   rw[fB]
   exact hca.part j hj
  ·exact un.ext hrd')
 exact yM (fun L w hw hn=>Sat.dropN (Y:=_::Un.atoms q _) (hw hn)) (h q hf w key.1 (fun _=>key.2))
theorem aDq{ol:List Oper}(i:Nat){V:Type}{iα:cB V}[inh:Inhabited V][un:Un V][dp:uS V]{T k by_:Nat}{x y:Operand}{sv:Value}{n:Int}{kk:IntKind}{xs:List V}[hi:Ge ol i ⟨some d,.indexAddr T x y,ty,pos,after,none⟩][hx:Ev l x sv][hy:Ev l y (.int kk n)]
  [hT:Sl P T k by_] [hr:fK (List V) bA Γb [sv] xs] [hsub:sR I Γb] [hk:iI V k] [hd:Se l d (.pointer (some (dW sv n k))) l'] [hb:Se bl i true bl'] (hck:gB lt ol.toArray bl i=true)
  (hQ:∀ c a w v,Q (.panic c) (a.put (some d) v) w->Q (.panic c) a w) (hin:0<=n/\n<xs.length)
  (h:∀ (p:Un.Pr V) (cs:List Value) (as asb:List Atom),Un.cells p (xs.getD n.toNat default)=cs->Un.atoms p (xs.getD n.toNat default)++I=as->Un.atoms p (xs.getD n.toNat default)++Γb=asb->Un.fact (xs.getD n.toNat default)->
   WA P ol.toArray Q w0 lt (.pt (dW sv n k) cs::asb) fuel bl' l' (.pt (dW sv n k) cs::as)):WA P ol.toArray Q w0 lt Γb (fuel+1) bl l I:=by
 refine bDh sv n (ck6 hck) hin fun p hf=>?_
 rw[← hk.eq]
 refine aG3 i (v:=.pointer (some (dW sv n k))) (hd:=hd) (by simpa using hi.eq) hck hQ ?_ (h p _ _ _ rfl rfl rfl hf)
 intro w hw
 exact qZ (hr:=dZ.im) hin w (Sat.dropN (Y:=.pt _ _::Un.atoms p _) hw)
theorem aDo{T:TypeId}{x:Operand}{sv:Value}{n:Int}{xs:List Int}[h:Ev l x (.pointer (some (dW sv n 1)))][hT:Sc P T][hr:dZ (List Int) bA I [sv] xs]
  (hi:0<=n/\n<xs.length) [hd:Se l d (.int .i64 (xs.getD n.toNat 0)) l'] (hw:-9223372036854775808<=xs.getD n.toNat 0/\xs.getD n.toNat 0<=9223372036854775807->WL P ops Q w0 rest l' I):WL P ops Q w0 (⟨some d,.load T x,ty,pos,after,none⟩::rest) l I:=by
 intro w hs
 have hin:=hs.rd (hr:=hr)
 obtain ⟨a,cap,_,_,_,_,h2⟩:=hin
 obtain ⟨b,off,cells,rfl,_,_,hrd⟩:=h2 (by omega)
 have:=kK.in64 hrd (xs.getD n.toNat 0) (by rw[aC,aG (by omega)];simp)
 exact vM (rO hi) (hw this) w hs
class qA(I Y:List Atom):Prop where
 get:∀ {ok:Nat->Prop} {w:World} {F:List Nat},jT ok w I F->∃ G H:List Nat,(G++H).Perm F/\jT ok w Y G
instance qA.nil:qA I []:=⟨fun {_ _ F} _=>⟨[],F,.refl _,rfl⟩⟩
instance (priority:=2000) qA.refl:qA I I:=⟨fun {_ _ F} h=>⟨F,[],by simp,h⟩⟩
instance qA.cons{Γ':List Atom}{A:Atom}[h:aJ1 I A Γ'][h':qA Γ' Y]:qA I (A::Y):=⟨fun hs=>by
 obtain ⟨F',hp,f,g,rfl,hA,hr⟩:=jT.perm h.perm hs
 obtain ⟨G,H,hGH,hD⟩:=h'.get hr
 exact⟨f++G,H,by rw[aT];exact(hGH.append_left f).trans hp,f,G,rfl,hA,hD⟩⟩
instance (priority:=1500) qA.nils{V:Type}{iα:cB V}[h:qA I Y]:qA I (@Atom.ow (List V) bA [.slice none 0 0] []::Y):=⟨fun hs=>by
 obtain ⟨G,H,hGH,hD⟩:=h.get hs
 exact⟨G,H,hGH,[],G,rfl,.inl ⟨rfl,rfl,rfl⟩,hD⟩⟩
instance (priority:=500) qA.skip{A:Atom}[h:qA I Y]:qA (A::I) Y:=⟨fun ⟨f,g,e,_,hs⟩=>by
 obtain ⟨G,H,hGH,hD⟩:=h.get hs
 exact⟨G,H++f,by rw[e,← aT];exact(hGH.append_right f).trans List.perm_append_comm,hD⟩⟩
theorem aH[h:qA I Y]:Ent w0 I Y:=by
 rintro w ⟨hb,F,hn,hl,hs⟩
 obtain ⟨G,H,hGH,hD⟩:=h.get hs
 have hm:∀ b∈G,b∈F:=fun b hb=>hGH.mem_iff.1 (by simp [hb])
 exact⟨hb,G,(bJ.1 (hGH.symm.nodup hn)).1,fun b hb=>hl b (hm b hb),hD.mono (fun b hb _=>⟨fun h=>hb (hm b h),rfl⟩) (aM _) (fun _ _=>rfl)⟩
class qK(I:List Atom)(Y:outParam (List Atom)):Prop where
 sub:sR I Y
theorem iW{A:Atom}(h:sR I Y):sR (A::I) Y:=sR.skip
theorem oZ{A:Atom}(h:sR I Y):sR (A::I) (A::Y):=sR.cons
instance:qK [] []:=⟨sR.nil⟩
instance {V:Type}{iα:cB V}{cs:List Value}{x:V}[h:qK I Y]:qK (@Atom.ow V iα cs x::I) Y:=⟨iW h.sub⟩
instance {V:Type}{iα:cB V}{cs:List Value}{x:V}[h:qK I Y]:qK (@Atom.rd V iα cs x::I) (@Atom.rd V iα cs x::Y):=⟨oZ h.sub⟩
instance {p:Addr}{cs:List Value}[h:qK I Y]:qK (.pt p cs::I) (.pt p cs::Y):=⟨oZ h.sub⟩
instance {b:Nat}{cs:List Value}[h:qK I Y]:qK (.bk b cs::I) (.bk b cs::Y):=⟨oZ h.sub⟩
instance (priority:=50):qK I I:=⟨sR.refl⟩
theorem aDv{V:Type}{iα:cB V}{T k by_:Nat}{x y:Operand}{sv:Value}{kk:IntKind}{n:Int}{xs:List V}[hx:Ev l x sv][hy:Ev l y (.int kk n)][hT:Sl P T k by_][hr:fK (List V) bA I [sv] xs][hk:iI V k](hn:0<=n/\n<=xs.length)
  (h:∀ sv',WL P ops Q w0 rest (l.set d sv') (.rd [sv'] (xs.drop n.toNat)::I)):WL P ops Q w0 (⟨some d,.slice T x (some y) none none,ty,pos,after,none⟩::rest) l I:=aI0 hk.eq hn h
theorem aDb{V:Type}{iα:cB V}{T k by_:Nat}{x y:Operand}{sv:Value}{kk:IntKind}{n:Int}{xs:List V}[hx:Ev l x sv][hy:Ev l y (.int kk n)][hT:Sl P T k by_][hr:fK (List V) bA I [sv] xs][hk:iI V k](hn:0<=n/\n<=xs.length)
  (h:∀ sv',WL P ops Q w0 rest (l.set d sv') (.rd [sv'] (xs.take n.toNat)::I)):WL P ops Q w0 (⟨some d,.slice T x none (some y) none,ty,pos,after,none⟩::rest) l I:=aJ8 hk.eq hn h
theorem aCz{V:Type}{iα:cB V}{T k by_:Nat}{x y z:Operand}{sv:Value}{kk kk':IntKind}{n m:Int}{xs:List V}[hx:Ev l x sv][hy:Ev l y (.int kk n)][hz:Ev l z (.int kk' m)][hT:Sl P T k by_][hr:fK (List V) bA I [sv] xs][hk:iI V k](hn:0<=n/\n<=m/\m<=xs.length)
  (h:∀ sv',WL P ops Q w0 rest (l.set d sv') (.rd [sv'] ((xs.take m.toNat).drop n.toNat)::I)):WL P ops Q w0 (⟨some d,.slice T x (some y) (some z) none,ty,pos,after,none⟩::rest) l I:=aIx hk.eq hn h
theorem bI1{T U:TypeId}{x y:Operand}{a b:Int}{k:IntKind}[hx:Ev l x (.int k a)][hy:Ev l y (.int k b)](h:b≠0):Pu P w0 l I (.binOp .rem T x y U) ty (.int k (a.tmod b)):=
 fZ eR (fun w=>by simp only[binOp,Op.intDiv,ne_eq,not_true_eq_false,if_false,h];rfl)
theorem bI3{T U:TypeId}{x y:Operand}{a b:Int}[hx:Ev l x (.int .i64 a)][hy:Ev l y (.int .i64 b)](h:b≠0)(h':-9223372036854775808<=a.tdiv b/\a.tdiv b<=9223372036854775807):Pu P w0 l I (.binOp .quo T x y U) ty (.int .i64 (a.tdiv b)):=
 fZ eR (fun w=>by simp only[binOp,Op.intDiv,ne_eq,not_true_eq_false,if_false,h];rw[IntWalk.i64_in _ (by omega)];rfl)
theorem bK0{x y:Operand}{ts:Array TypeId}{a b:Int}{k:IntKind}[hx:Ev l x (.int k a)][hy:Ev l y (.int k b)]:Pu P w0 l I (.call { callee:=.builtin .min,args:=#[x,y],argTypes:=ts }) ty (.int k (min a b)):=by
 refine fT (s:=Builtin.min_ ts ty #[.int k a,.int k b]) (fun o ho h2=>?_) (fun w hs=>?_)
 ·unfold execOp
  rw[ho]
  simp [resolve,invoke,builtin,hx.eq,hy.eq,h2,Pure.pure,Bind.bind,Sem.bind]
 ·have:min a b=if b<a then b else a:=by split<;>omega
  rw[this]
  simp [Builtin.min_,Builtin.min2]
instance {x y:Operand}{ts:Array TypeId}{a b:Int}{k:IntKind}[hx:Ev l x (.int k a)][hy:Ev l y (.int k b)]:pK P l I (.call { callee:=.builtin .min,args:=#[x,y],argTypes:=ts }) ty (.int k (min a b)):=⟨fun _=>bK0⟩
theorem bO{a b:Bool}(h:a=b):Value.bool a=Value.bool b:=by rw[h]
theorem iG{k:IntKind}{a b:Int}(h:a=b):Value.int k a=Value.int k b:=by rw[h]
end auto
end Go.Eng
namespace Go.Eng
open Go Go.RowKit
class fJ(n:Int)(k:outParam Nat):Prop where
 eq:n.toNat=k
instance (priority:=100) {n:Int}:fJ n n.toNat:=⟨rfl⟩
instance {k:Nat}:fJ (k:Int) k:=⟨bH k⟩
instance {k:Nat}:fJ ((k:Int)+1) (k+1):=⟨by omega⟩
instance {k:Nat}:fJ ((k:Int)+2) (k+2):=⟨by omega⟩
instance {k j:Nat}:fJ ((k:Int)+(j:Int)) (k+j):=⟨by omega⟩
instance {k:Nat}:fJ ((k:Int)+1-1) k:=⟨by omega⟩
instance {k:Nat}:fJ ((k:Int)-1) (k-1):=⟨by omega⟩
instance:fJ 0 0:=⟨rfl⟩
instance:fJ 1 1:=⟨rfl⟩
instance:fJ 2 2:=⟨rfl⟩
instance:fJ 3 3:=⟨rfl⟩
instance:fJ 4 4:=⟨rfl⟩
instance:fJ 5 5:=⟨rfl⟩
instance:fJ 6 6:=⟨rfl⟩
instance:fJ 7 7:=⟨rfl⟩
instance:fJ 8 8:=⟨rfl⟩
instance:fJ 9 9:=⟨rfl⟩
instance:fJ 10 10:=⟨rfl⟩
instance:fJ 11 11:=⟨rfl⟩
instance:fJ 12 12:=⟨rfl⟩
instance:fJ 13 13:=⟨rfl⟩
instance:fJ 14 14:=⟨rfl⟩
instance:fJ 15 15:=⟨rfl⟩
instance:fJ 16 16:=⟨rfl⟩
instance:fJ 17 17:=⟨rfl⟩
instance:fJ 18 18:=⟨rfl⟩
instance:fJ 19 19:=⟨rfl⟩
instance:fJ 20 20:=⟨rfl⟩
instance:fJ 21 21:=⟨rfl⟩
instance:fJ 22 22:=⟨rfl⟩
instance:fJ 23 23:=⟨rfl⟩
instance:fJ 24 24:=⟨rfl⟩
instance:fJ 48 48:=⟨rfl⟩
instance:fJ 60 60:=⟨rfl⟩
class jB(b:Bool)(p:outParam Prop):Prop where
 iff:b=true↔p
class jQ(b:Bool)(p:outParam Prop):Prop where
 iff:b=false↔p
instance (priority:=10) {b:Bool}:jB b (b=true):=⟨Iff.rfl⟩
instance (priority:=10) {b:Bool}:jQ b (b=false):=⟨Iff.rfl⟩
instance (priority:=100) {p:Prop}[Decidable p]:jB (decide p) p:=⟨decide_eq_true_iff⟩
instance (priority:=100) {p:Prop}[Decidable p]:jQ (decide p) (¬ p):=⟨decide_eq_false_iff_not⟩
instance {V:Type}{a b:V}[Decidable (a≠b)]:jB (decide (a≠b)) (¬ a=b):=⟨decide_eq_true_iff⟩
instance {V:Type}{a b:V}[Decidable (a≠b)]:jQ (decide (a≠b)) (a=b):=⟨by rw[decide_eq_false_iff_not];exact Classical.not_not⟩
instance {a b:Int}:jQ (decide (a<b)) (b<=a):=⟨by rw[decide_eq_false_iff_not,Int.not_lt]⟩
instance {a b:Int}:jQ (decide (a<=b)) (b<a):=⟨by rw[decide_eq_false_iff_not,Int.not_le]⟩
instance {a b:Bool}:jB (a==b) (a=b):=⟨beq_iff_eq⟩
instance {a b:Bool}:jQ (a==b) (¬ a=b):=⟨by rw[beq_eq_false_iff_ne]⟩
instance {b:Bool}{p:Prop}[h:jQ b p]:jB (!b) p:=⟨by rw[← h.iff];simp⟩
instance {b:Bool}{p:Prop}[h:jB b p]:jQ (!b) p:=⟨by rw[← h.iff];simp⟩
instance {a b:Bool}{p q:Prop}[h:jB a p][h':jB b q]:jB (a&&b) (p/\q):=⟨by rw[cN,h.iff,h'.iff]⟩
instance {a b:Bool}{p q:Prop}[h:jB a p][h':jB b q]:jQ (a&&b) (¬ (p/\q)):=⟨by rw[← h.iff,← h'.iff,← cN];simp⟩
class nD(G:Prop)(G':outParam Prop):Prop where
 run:G'->G
theorem aU{G G':Prop}[h:nD G G'](g:G'):G:=h.run g
class aRw(G:Prop)(S:outParam Prop)(G':outParam Prop):Prop where
 run:S->G'->G
theorem bP{G S G':Prop}[h:aRw G S G'](g:G')(s:S:=by first|exact True.intro|omega|assumption|((repeat' apply And.intro)<;>first|assumption|omega)|(simp only[true_and,and_true,aD,aF,aL,cA,aV,aR,aN];omega)):G:=h.run s g
class mW(G:Prop)(S:outParam Prop)(G':outParam (Value->Prop)):Prop where
 run:S->(∀ v,G' v)->G
theorem bG{G S:Prop}{G':Value->Prop}[h:mW G S G'](g:∀ v,G' v)(s:S:=by first|exact True.intro|omega|assumption|((repeat' apply And.intro)<;>first|assumption|omega)|(simp only[true_and,and_true,aD,aF,aL,cA,aV,aR,aN];omega)):G:=h.run s g
class bFq(G:Prop)(G':outParam (Nat->Prop)):Prop where
 run:(∀ v,G' v)->G
theorem bT{G:Prop}{G':Nat->Prop}[h:bFq G G'](g:∀ v,G' v):G:=h.run g
class bNt(G:Prop)(S F:outParam Prop)(G':outParam Prop):Prop where
 run:S->(F->G')->G
theorem eF{G S F G':Prop}[h:bNt G S F G'](g:F->G')(s:S:=by first|exact True.intro|omega|assumption|((repeat' apply And.intro)<;>first|assumption|omega)|(simp only[true_and,and_true,aD,aF,aL,cA,aV,aR,aN];omega)):G:=h.run s g
class bDd(G:Prop)(S:outParam Prop)(ρ:outParam Type)(G':outParam (ρ->Prop)):Prop where
 run:S->(∀ p,G' p)->G
theorem aW{G S:Prop}{ρ:Type}{G':ρ->Prop}[h:bDd G S ρ G'](g:∀ p,G' p)(s:S:=by first|exact True.intro|omega|assumption|((repeat' apply And.intro)<;>first|assumption|omega)|(simp only[true_and,and_true,aD,aF,aL,cA,aV,aR,aN];omega)):G:=h.run s g
theorem cV{G S:Prop}{V:Type}{F:V->Prop}{G':{ a:V // F a }->Prop}[h:bDd G S { a:V // F a } G'](g:∀ p:{ a:V // F a },F p.1->G' p)(s:S:=by first|exact True.intro|omega|assumption|((repeat' apply And.intro)<;>first|assumption|omega)|(simp only[true_and,and_true,aD,aF,aL,cA,aV,aR,aN];omega)):G:=h.run s fun p=>g p p.2
class aT0(G:Prop)(p q:outParam Prop)(G1 G2:outParam Prop):Prop where
 run:(p->G1)->(q->G2)->G
theorem aS{G p q G1 G2:Prop}[h:aT0 G p q G1 G2](g1:p->G1)(g2:q->G2):G:=h.run g1 g2
theorem bV{G p q G1 G2:Prop}[h:aT0 G p q G1 G2](g2:q->G2)(hx:p->False:=by intro hc;first|omega|with_reducible first|exact absurd rfl hc|exact absurd hc dU|exact absurd hc dU.symm):G:=h.run (fun c=>(hx c).elim) g2
theorem bW{G p q G1 G2:Prop}[h:aT0 G p q G1 G2](g1:p->G1)(hx:q->False:=by intro hc;first|omega|with_reducible first|exact absurd rfl hc|exact absurd hc dU|exact absurd hc dU.symm):G:=h.run g1 (fun c=>(hx c).elim)
class bOa(G:Prop)(S:outParam Prop)(V:outParam Type)(iα:outParam (cB V))(un:outParam (Un V))(x:outParam V)(I:outParam (List Atom))(G':outParam (List Value->List Atom->Prop)):Prop where
 run:S->(∀ (p:un.Pr) (cs:List Value) (as:List Atom),un.cells p x=cs->un.atoms p x++I=as->un.fact x->G' cs as)->G
theorem iH{G S:Prop}{V:Type}{iα:cB V}{un:Un V}{x:V}{I:List Atom}{G':List Value->List Atom->Prop}[h:bOa G S V iα un x I G']
  (g:∀ (p:un.Pr) (cs:List Value) (as:List Atom),un.cells p x=cs->un.atoms p x++I=as->un.fact x->G' cs as) (s:S:=by first|exact True.intro|omega|assumption|((repeat' apply And.intro)<;>first|assumption|omega)|(simp only[true_and,and_true,aD,aF,aL,cA,aV,aR,aN];omega)):G:=h.run s g
class mI(P:Program)(l:List Value)(I:List Atom)(op:Op)(ty:TypeId)(v:outParam Value)(S:outParam Prop):Prop where
 run:S->∀ w0,Pu P w0 l I op ty v
class bQ(P:Program)(f:FuncId)(vs:List Value)(I:List Atom)(S:outParam Prop)(ρ:outParam Type)(r:outParam (ρ->Value))(Γ':outParam (ρ->List Atom)):Prop where
 run:S->∀ w0,CJ P f vs w0 I r Γ'
class zB(V:Type)[cB V](I:List Atom)(c:List Value)(x:outParam V)(Y:outParam (List Atom))(S:outParam Prop):Prop where
 run:S->Own I c x Y
class aQk(V:Type)[cB V](I:List Atom)(c:List (List Value))(x:outParam (List V))(Y:outParam (List Atom))(S:outParam Prop):Prop where
 run:S->xH I c x Y
section inst
variable {P:Program} {ops:Array Oper} {Q:Exit->Act->World->Prop} {w0:World} {rest:List Oper} {l l':List Value} {I Γb Y Ε:List Atom} {ty:TypeId} {v:Value} {pos:String} {after:Array Edge} {d:Nat} {fuel:Nat} {bl bl':List Bool} {op:Op} {x y:Code} {next:Act->World->Prop} {id:Nat} {lt:List Nat}
instance {n:Int}:zB Int I [.int .i64 n] n I (-9223372036854775808<=n/\n<=9223372036854775807):=⟨fun h=>bDo h⟩
instance {b:Bool}:zB Bool I [.bool b] b I True:=⟨fun _=>aV6⟩
instance {s:ByteArray}:zB ByteArray I [.string s] s I (s.size<=9223372036854775807):=⟨fun h=>bEr h⟩
instance {V:Type}[cB V]:zB (List V) I [.slice none 0 0] [] I True:=⟨fun _=>zP⟩
instance (priority:=500) {V:Type}{iα:cB V}{c:Value}{xs:List V}[h:cQ (List V) bA I [c] xs Y]:zB (List V) I [c] xs Y True:=⟨fun _=>uX⟩
instance {V:Type}{iα:cB V}{c:List Value}{xs:V}[h:fK V iα I c xs]:zB (Sh V) I c (Sh.mk xs) I True:=⟨fun _=>lC⟩
class aRj(S T:Prop)(U:outParam Prop):Prop where
 run:U->S/\T
instance (priority:=10) {S T:Prop}:aRj S T (S/\T):=⟨fun h=>h⟩
instance {T:Prop}:aRj True T T:=⟨fun h=>⟨trivial,h⟩⟩
instance {S:Prop}:aRj S True S:=⟨fun h=>⟨h,trivial⟩⟩
class One(V:Type):Prop where
 t:True
instance:One Int:=⟨trivial⟩
instance:One Bool:=⟨trivial⟩
instance {V:Type}:One (List V):=⟨trivial⟩
instance {V β:Type}[cB V][cB β][One V]{c:Value}{d:List Value}{x:V}{y:β}{S T U:Prop}[h:zB V I [c] x Y S][h':zB β Y d y Ε T][hu:aRj S T U]:zB (V×β) I (c::d) (x,y) Ε U:=
 ⟨fun u=>aWc (h.run (hu.run u).1) (h'.run (hu.run u).2)⟩
instance {V:Type}[cB V]:aQk V I [] [] I True:=⟨fun _=>xH.nil⟩
instance {V:Type}[cB V]{c:List Value}{cs:List (List Value)}{x:V}{xs:List V}{S T U:Prop}[h:zB V I c x Y S][h':aQk V Y cs xs Ε T][hu:aRj S T U]:aQk V I (c::cs) (x::xs) Ε U:=
 ⟨fun u=>.cons (h.run (hu.run u).1) (h'.run (hu.run u).2)⟩
class aZp(lt:List Nat)(bl:List Bool):Prop where
 no:¬ kS lt bl.toArray
instance {i:Nat}{lt:List Nat}{bl:List Bool}[h:Ge bl i true]:aZp (i::lt) bl:=⟨fun hn=>by
 have:=hn i (by simp)
 have h2:=h.eq
 obtain ⟨hlt,h3⟩:=dC.1 h2
 simp [hlt,h3] at this⟩
instance [hy:pK P l I op ty v][hd:Se l d v l']:nD (WL P ops Q w0 (⟨some d,op,ty,pos,after,none⟩::rest) l I) (WL P ops Q w0 rest l' I):=⟨fun h=>bCn h⟩
instance (priority:=2000) [hd:Se l d v l']:nD (WL P ops Q w0 rest (l.set d v) I) (WL P ops Q w0 rest l' I):=⟨fun h=>bKu h⟩
instance:nD (WL P ops Q w0 [] l I) (WQ Q w0 .normal l I):=⟨fun h=>bKg h⟩
instance:nD (WC P Q w0 (.seq x y) l I) (WC P (Exit.then (y.wp P Q) Q) w0 x l I):=⟨fun h=>bJw h⟩
instance:nD (WC P Q w0 .skip l I) (WQ Q w0 .normal l I):=⟨fun h=>bBd h⟩
instance:nD (WC P Q w0 .ret l I) (WQ Q w0 .ret l I):=⟨fun h=>bJh h⟩
instance:nD (WC P Q w0 (.exit id) l I) (WQ Q w0 (.exit id) l I):=⟨fun h=>bEj h⟩
instance:nD (WC P Q w0 (.block id x) l I) (WC P (Exit.inBlock id Q) w0 x l I):=⟨fun h=>aVy h⟩
instance {ol:List Oper}:nD (WC P Q w0 (.region id ol.toArray false) l I) (WL P ol.toArray Q w0 ol l I):=⟨fun h=>aTo h⟩
instance {c:Operand}[hc:Ev l c (.bool true)]:nD (WC P Q w0 (.cond c x y) l I) (WC P Q w0 x l I):=⟨fun h=>aSn h⟩
instance {c:Operand}[hc:Ev l c (.bool false)]:nD (WC P Q w0 (.cond c x y) l I) (WC P Q w0 y l I):=⟨fun h=>aRg h⟩
instance:nD (WQ (Exit.then (y.wp P Q) Q) w0 .normal l I) (WC P Q w0 y l I):=⟨fun h=>aQ4 h⟩
instance:nD (WQ (Exit.then next Q) w0 .ret l I) (WQ Q w0 .ret l I):=⟨fun h=>aTz h⟩
instance:nD (WQ (Exit.then next Q) w0 (.exit id) l I) (WQ Q w0 (.exit id) l I):=⟨fun h=>aRb h⟩
instance:nD (WQ (Exit.inBlock id Q) w0 .normal l I) (WQ Q w0 .normal l I):=⟨fun h=>aV8 h⟩
instance:nD (WQ (Exit.inBlock id Q) w0 .ret l I) (WQ Q w0 .ret l I):=⟨fun h=>aVn h⟩
instance:nD (WQ (Exit.inBlock id Q) w0 (.exit id) l I) (WQ Q w0 .normal l I):=⟨fun h=>aWt h⟩
instance (priority:=1100) [h:aZp lt bl]:nD (WQ (Exit.then (gQ P ops Q w0 lt Γb fuel bl) Q) w0 .normal l I) (WA P ops Q w0 lt Γb fuel bl l I):=⟨fun h'=>aK3 h.no h'⟩
instance [h:qA I Γb]:nD (WQ (Exit.then (gQ P ops Q w0 lt Γb fuel bl) Q) w0 .normal l I) (WA P ops Q w0 lt Γb fuel bl l I):=⟨fun h=>bLo aH h⟩
instance {ol:List Oper}{j dj:Nat}{oj:Oper}{b:Bool}{dst:Option Tmp}[hj:Ge ol j oj][hdj:Dst oj dj][hb:Ge l dj v][he:EqB v b] :
  nD (WL P ol.toArray Q w0 (⟨dst,op,ty,pos,after,some (j,b)⟩::rest) l I) (WL P ol.toArray Q w0 (⟨dst,op,ty,pos,after,none⟩::rest) l I):=⟨fun h=>bN1 h⟩
instance {ol:List Oper}{j dj:Nat}{oj:Oper}{b:Bool}{d:Nat}[hj:Ge ol j oj][hdj:Dst oj dj][hb:Ge l dj v][he:NeB v b][hd:Se l d undef l'] :
  nD (WL P ol.toArray Q w0 (⟨some d,op,ty,pos,after,some (j,b)⟩::rest) l I) (WL P ol.toArray Q w0 rest l' I):=⟨fun h=>bJk h⟩
instance {T k:Nat}{x y:Operand}{b off:Nat}{cs vc cs':List Value}{n:Nat}[hx:Ev l x (.pointer (some ⟨b,off,none⟩))][hy:Ev l y v][hc:Cs I v vc][hT:Sz P T k][hb:eO I b cs Y][hl:qX vc n][hk:wH n k][hsp:Sp cs off vc cs'] :
  nD (WL P ops Q w0 (⟨none,.store T x y,ty,pos,after,none⟩::rest) l I) (WL P ops Q w0 rest l (.bk b cs'::Y)):=⟨fun h=>aV2 (hl.eq.trans hk.eq) h⟩
instance (priority:=1100) {T k by_:Nat}{x y:Operand}{sv:Value}{i:Nat}{V:Type}{iα:cB V}{xs:List V}{ec:List Value}{kk:IntKind}[h:Ev l x sv][hn:Ev l y (.int kk (i:Int))][hT:Sl P T k by_][hr:dZ (jF V) lX I [sv] (jF.mk xs i ec)]
  [hd:Se l d (.pointer (some (dW sv (i:Int) k))) l']:nD (WL P ops Q w0 (⟨some d,.indexAddr T x y,ty,pos,after,none⟩::rest) l I) (WL P ops Q w0 rest l' I):=⟨fun h=>aDf h⟩
instance {T k n:Nat}{x:Operand}{p:Addr}{cs:List Value}[h:Ev l x (.pointer (some p))][hT:Ag P T k][hp:kW I p cs][hl:qX cs n][hk:wH n k]:pK P l I (.load T x) ty (.agg cs.toArray):=⟨fun _=>aA4 (hl.eq.trans hk.eq)⟩
theorem uA{sv:Value}{n:Int}{m k:Nat}(h:n.toNat=m):dW sv n k=dW sv (m:Int) k:=by
 subst h
 unfold dW
 split
 ·simp only[bH]
 ·rfl
instance (priority:=10) [h:pK P l I op ty v]:mI P l I op ty v True:=⟨fun _=>h.run⟩
instance {S:Prop}[hy:mI P l I op ty v S][hd:Se l d v l']:aRw (WL P ops Q w0 (⟨some d,op,ty,pos,after,none⟩::rest) l I) S (WL P ops Q w0 rest l' I):=⟨fun s h=>vM (hy.run s w0) h⟩
section arith
variable {T U:TypeId} {x y:Operand} {a b:Int}
instance [hx:Ev l x (.int .i64 a)][hy:Ev l y (.int .i64 b)]:mI P l I (.binOp .add T x y U) ty (.int .i64 (a+b)) (-9223372036854775808<=a+b/\a+b<=9223372036854775807):=⟨fun h _=>bKx h⟩
instance [hx:Ev l x (.int .i64 a)][hy:Ev l y (.int .i64 b)]:mI P l I (.binOp .sub T x y U) ty (.int .i64 (a-b)) (-9223372036854775808<=a-b/\a-b<=9223372036854775807):=⟨fun h _=>bJf h⟩
instance [hx:Ev l x (.int .i64 a)][hy:Ev l y (.int .i64 b)]:mI P l I (.binOp .mul T x y U) ty (.int .i64 (a*b)) (-9223372036854775808<=a*b/\a*b<=9223372036854775807):=⟨fun h _=>bJ5 h⟩
instance {k:IntKind}[hx:Ev l x (.int k a)][hy:Ev l y (.int k b)]:mI P l I (.binOp .rem T x y U) ty (.int k (a.tmod b)) (b≠0):=⟨fun h _=>bI1 h⟩
instance [hx:Ev l x (.int .i64 a)][hy:Ev l y (.int .i64 b)]:mI P l I (.binOp .quo T x y U) ty (.int .i64 (a.tdiv b)) (b≠0/\-9223372036854775808<=a.tdiv b/\a.tdiv b<=9223372036854775807):=⟨fun h _=>bI3 h.1 h.2⟩
instance [h:Ev l x (.int .i64 a)]:mI P l I (.unOp .neg T x) ty (.int .i64 (-a)) (-9223372036854775808<a/\a<=9223372036854775807):=⟨fun h _=>aRp h⟩
end arith
section mem
variable {T k by_:Nat} {x y:Operand} {sv:Value} {n:Int} {V:Type} {iα:cB V} {xs:List V} {kk:IntKind} {cs:List Value} {m:Nat}
instance [fl:aY2 V][h:Ev l x sv][hn:Ev l y (.int kk n)][hm:fJ n m][hT:Sl P T k by_][hr:dZ (List V) bA I [sv] xs]:mI P l I (.indexAddr T x y) ty (.pointer (some (dW sv (m:Int) k))) (0<=n/\n<xs.length):=⟨fun h _=>uA (sv:=sv) (k:=k) hm.eq▸qZ h⟩
instance (priority:=900) [h:Ev l x sv][hn:Ev l y (.int kk n)][hm:fJ n m][hT:Sl P T k by_][hp:kW I (dW sv (m:Int) k) cs][hr:dZ (List V) bA I [sv] xs]:mI P l I (.indexAddr T x y) ty (.pointer (some (dW sv (m:Int) k))) (0<=n/\n<xs.length):=⟨fun h _=>uA (sv:=sv) (k:=k) hm.eq▸qZ h⟩
instance (priority:=800) [h:Ev l x sv][hn:Ev l y (.int kk n)][hm:fJ n m][hT:Sl P T k by_][hp:cQ (List V) bA I [sv] xs Y][hr:dZ (List V) bA I [sv] xs]:mI P l I (.indexAddr T x y) ty (.pointer (some (dW sv (m:Int) k))) (0<=n/\n<xs.length):=⟨fun h _=>uA (sv:=sv) (k:=k) hm.eq▸qZ h⟩
instance {xs:List Int}[h:Ev l x (.pointer (some (dW sv n 1)))][hm:fJ n m][hT:Sc P T][hr:dZ (List Int) bA I [sv] xs]:mI P l I (.load T x) ty (.int .i64 (xs.getD m 0)) (0<=n/\n<xs.length):=⟨fun h _=>hm.eq▸rO h⟩
instance {xs:List Bool}[h:Ev l x (.pointer (some (dW sv n 1)))][hm:fJ n m][hT:Sc P T][hr:dZ (List Bool) bA I [sv] xs]:mI P l I (.load T x) ty (.bool (xs.getD m false)) (0<=n/\n<xs.length):=⟨fun h _=>hm.eq▸aH7 h⟩
instance {xs:List ByteArray}[h:Ev l x (.pointer (some (dW sv n 1)))][hm:fJ n m][hT:Sc P T][hr:dZ (List ByteArray) bA I [sv] xs]:mI P l I (.load T x) ty (.string (xs.getD m ByteArray.empty)) (0<=n/\n<xs.length):=⟨fun h _=>hm.eq▸aKp h⟩
instance (priority:=1100) {xs:List Int}[h:Ev l x (.pointer (some (dW sv n 1)))][hm:fJ n m][hT:Sc P T][hr:dZ (List Int) bA I [sv] xs][hd:Se l d (.int .i64 (xs.getD m 0)) l'] :
  bNt (WL P ops Q w0 (⟨some d,.load T x,ty,pos,after,none⟩::rest) l I) (0<=n/\n<xs.length) (-9223372036854775808<=xs.getD m 0/\xs.getD m 0<=9223372036854775807) (WL P ops Q w0 rest l' I):=
 ⟨fun s h=>by have e:=hm.eq;subst e;exact aDo s h⟩
instance {vc:List Value}{u:V}{kk:Nat}{S U:Prop}[hx:Ev l x (.pointer (some (dW sv n k)))][hy:Ev l y v][hm:fJ n m][hc:Cs I v vc][hT:Sz P T kk][h1:cQ (List V) bA I [sv] xs Y]
  [hk:iI V k] [hkk:iI V kk] [ho:zB V Y vc u Ε S] [hu:aRj S (0<=n/\n<xs.length) U]:aRw (WL P ops Q w0 (⟨none,.store T x y,ty,pos,after,none⟩::rest) l I) U (WL P ops Q w0 rest l (.ow [sv] (xs.set m u)::Ε)):=
 ⟨fun s h=>yY (V:=V) (iα:=iα) (k:=k) (kk:=kk) (u:=u) (hk:=hk) (hkk:=hkk) (hT:=hT) (h1:=h1) (ho.run (hu.run s).1) (hu.run s).2 (hm.eq▸h)⟩
instance {ky:IntKind}{m':Int}{zs:List Value}{z:V}[ho:Op_ P T (List V) bA][hx:Ev l x (.int kk n)][hy:Ev l y (.int ky m')][hm:fJ n m][hT:Sl P T k by_][hzs:SlZ P T zs][hz:Zo V zs z] :
  mW (WL P ops Q w0 (⟨some d,.makeSlice T x y,ty,pos,after,none⟩::rest) l I) ((0<=n/\n<=m')/\m'*by_<=140737488355328) (fun sv=>WL P ops Q w0 rest (l.set d sv) (.ow [sv] (List.replicate m z)::I)):=⟨fun s h=>aRy s.1 s.2 (hm.eq▸h)⟩
class bB9(xs ys:List V)(zs:outParam (List V)):Prop where
 eq:xs++ys=zs
instance {xs:List V}:bB9 [] xs xs:=⟨rfl⟩
instance (priority:=500) {xs ys:List V}:bB9 xs ys (xs++ys):=⟨rfl⟩
instance (priority:=1100) {ov tv:Value}{xs ys zs:List V}[hx:Ev l x ov][hy:Ev l y tv][hT:Sl P T k by_][h1:cQ (List V) bA I [ov] xs Y][h2:dZ (List V) bA Y [tv] ys][hcp:Cp V][hk:iI V k][hz:bB9 xs ys zs] :
  mW (WL P ops Q w0 (⟨some d,.call { callee:=.builtin .append,args:=#[x,y],argTypes:=#[T,T] },ty,pos,after,none⟩::rest) l I) ((xs.length+ys.length)*by_<=140737488355328) (fun sv=>WL P ops Q w0 rest (l.set d sv) (.ow [sv] zs::Y)):=⟨fun s h=>aBq s (hz.eq▸h)⟩
instance {ov tv:Value}{xs ys zs:List V}[hx:Ev l x ov][hy:Ev l y tv][hT:Sl P T k by_][h1:cQ (List V) bA I [ov] xs Y][h2:cQ (List V) bA Y [tv] ys Ε][hk:iI V k][hz:bB9 xs ys zs] :
  mW (WL P ops Q w0 (⟨some d,.call { callee:=.builtin .append,args:=#[x,y],argTypes:=#[T,T] },ty,pos,after,none⟩::rest) l I) ((xs.length+ys.length)*by_<=140737488355328) (fun sv=>WL P ops Q w0 rest (l.set d sv) (.ow [sv] zs::Ε)):=⟨fun s h=>aI8 s (hz.eq▸h)⟩
instance (priority:=900) {tv:Value}{ys:List V}[hx:Ev l x (.slice none 0 0)][hO:Op_ P T (List V) bA][hy:Ev l y tv][hT:Sl P T k by_][h2:cQ (List V) bA I [tv] ys Ε][hk:iI V k] :
  mW (WL P ops Q w0 (⟨some d,.call { callee:=.builtin .append,args:=#[x,y],argTypes:=#[T,T] },ty,pos,after,none⟩::rest) l I) (ys.length*by_<=140737488355328) (fun sv=>WL P ops Q w0 rest (l.set d sv) (.ow [sv] ys::Ε)):=⟨fun s h=>aDm s h⟩
instance {N:Nat}{ps:List (Nat×Operand)}{groups:List (List Value)}{xs:List V}{S:Prop}{len:Nat}[hO:Op_ P T (List V) bA][hT:Sl P T k by_][hp:oW I l k 0 ps groups][hk:iI V k][ho:aQk V I groups xs Y S][hl:qX xs len][hn:wH len N] :
  mW (WL P ops Q w0 (⟨some d,.buildSlice T N ps.toArray,ty,pos,after,none⟩::rest) l I) (S/\N*k<=16777216) (fun sv=>WL P ops Q w0 rest (l.set d sv) (.ow [sv] xs::Y)):=⟨fun s h=>zC (hk:=hk) (hT:=hT) (hO:=hO) (ho.run s.1) (hn.eq▸hl.eq.symm) s.2 h⟩
instance [hx:Ev l x sv][hy:Ev l y (.int kk n)][hm:fJ n m][hT:Sl P T k by_][hr:fK (List V) bA I [sv] xs][hk:iI V k] :
  mW (WL P ops Q w0 (⟨some d,.slice T x (some y) none none,ty,pos,after,none⟩::rest) l I) (0<=n/\n<=xs.length) (fun sv'=>WL P ops Q w0 rest (l.set d sv') (.rd [sv'] (xs.drop m)::I)):=⟨fun s h=>aDv s (hm.eq▸h)⟩
instance [hx:Ev l x sv][hy:Ev l y (.int kk n)][hm:fJ n m][hT:Sl P T k by_][hr:fK (List V) bA I [sv] xs][hk:iI V k] :
  mW (WL P ops Q w0 (⟨some d,.slice T x none (some y) none,ty,pos,after,none⟩::rest) l I) (0<=n/\n<=xs.length) (fun sv'=>WL P ops Q w0 rest (l.set d sv') (.rd [sv'] (xs.take m)::I)):=⟨fun s h=>aDb s (hm.eq▸h)⟩
instance {z:Operand}{kk':IntKind}{n':Int}{m':Nat}[hx:Ev l x sv][hy:Ev l y (.int kk n)][hz:Ev l z (.int kk' n')][hm:fJ n m][hm':fJ n' m'][hT:Sl P T k by_][hr:fK (List V) bA I [sv] xs][hk:iI V k] :
  mW (WL P ops Q w0 (⟨some d,.slice T x (some y) (some z) none,ty,pos,after,none⟩::rest) l I) (0<=n/\n<=n'/\n'<=xs.length) (fun sv'=>WL P ops Q w0 rest (l.set d sv') (.rd [sv'] ((xs.take m').drop m)::I)):=⟨fun s h=>aCz s (hm.eq▸hm'.eq▸h)⟩
end mem
instance {T:TypeId}{zs:List Value}[hz:Zr P T zs]:bFq (WL P ops Q w0 (⟨some d,.alloc T,ty,pos,after,none⟩::rest) l I) (fun b=>WL P ops Q w0 rest (l.set d (.pointer (some ⟨b,0,none⟩))) (.bk b zs::I)):=⟨fun h=>aYn h⟩
instance {T:TypeId}{x:Operand}{cs:List Value}[hx:Ev l x v][hc:Cs I v cs]:bFq (WL P ops Q w0 (⟨some d,.box T x,ty,pos,after,none⟩::rest) l I) (fun b=>WL P ops Q w0 rest (l.set d (.pointer (some ⟨b,0,none⟩))) (.bk b cs::I)):=⟨fun h=>bLd h⟩
theorem bNx{c:Operand}{b:Bool}{p q:Prop}[hc:Ev l c (.bool b)][hp:jB b p][hn:jQ b q](ht:p->WC P Q w0 x l I)(hf:q->WC P Q w0 y l I):WC P Q w0 (.cond c x y) l I:=
 bDt (fun h=>ht (hp.iff.1 h)) (fun h=>hf (hn.iff.1 h))
theorem bOt{ol:List Oper}{j dj:Nat}{oj:Oper}{b b':Bool}{dst:Option Tmp}{l1 l2:List Value}{p q:Prop}[hj:Ge ol j oj][hdj:Dst oj dj][hb:Ge l dj v][he:IsB v b'][hp:jB b' p][hn:jQ b' q][h1:Se l dj (.bool true) l1][h2:Se l dj (.bool false) l2]
  (ht:p->WL P ol.toArray Q w0 (⟨dst,op,ty,pos,after,some (j,b)⟩::rest) l1 I) (hf:q->WL P ol.toArray Q w0 (⟨dst,op,ty,pos,after,some (j,b)⟩::rest) l2 I) :
  WL P ol.toArray Q w0 (⟨dst,op,ty,pos,after,some (j,b)⟩::rest) l I:=aZ0 (fun h=>ht (hp.iff.1 h)) (fun h=>hf (hn.iff.1 h))
theorem bY{ol:List Oper}(i:Nat){S:Prop}[hi:Ge ol i ⟨some d,op,ty,pos,after,none⟩][hy:mI P l Γb op ty v S][hd:Se l d v l'][hb:Se bl i true bl'](h:WA P ol.toArray Q w0 lt Γb fuel bl' l' I)
  (s:S:=by first|exact True.intro|omega|assumption|((repeat' apply And.intro)<;>first|assumption|omega)|(simp only[true_and,and_true,aD,aF,aL,cA,aV,aR,aN];omega))
  (hck:gB lt ol.toArray bl i=true:=by decide +kernel) (hQ:∀ c a w v,Q (.panic c) (a.put (some d) v) w->Q (.panic c) a w:=by exact fun _ _ _ _ h=>h):WA P ol.toArray Q w0 lt Γb (fuel+1) bl l I:=
 aG3 i (by simpa using hi.eq) hck hQ (hy.run s w0) h
theorem aPo{ol:List Oper}(i:Nat){S:Prop}[hi:Ge ol i ⟨some d,op,ty,pos,after,none⟩][hy:mI P l [] op ty v S][hd:Se l d v l'][hb:Se bl i true bl'](h:WA P ol.toArray Q w0 lt Γb fuel bl' l' I)
  (s:S:=by first|exact True.intro|omega|assumption|((repeat' apply And.intro)<;>first|assumption|omega))
  (hck:wD lt ol.toArray bl i=true:=by decide +kernel) (hQ:∀ c a w v,Q (.panic c) (a.put (some d) v) w->Q (.panic c) a w:=by exact fun _ _ _ _ h=>h):WA P ol.toArray Q w0 lt Γb (fuel+1) bl l I:=
 aVf i (by simpa using hi.eq) hck hQ (hy.run s) h
theorem iF{ol:List Oper}(i:Nat){S:Prop}{j dj:Nat}{oj:Oper}{b:Bool}{vg:Value}[hi:Ge ol i ⟨some d,op,ty,pos,after,some (j,b)⟩][hj:Ge ol j oj][hdj:Dst oj dj][hg:Ge l dj vg][he:EqB vg b][hy:mI P l Γb op ty v S][hd:Se l d v l'][hb:Se bl i true bl'](h:WA P ol.toArray Q w0 lt Γb fuel bl' l' I)
  (s:S:=by first|exact True.intro|omega|assumption|((repeat' apply And.intro)<;>first|assumption|omega)|(simp only[true_and,and_true,aD,aF,aL,cA,aV,aR,aN];omega))
  (hck:gB lt ol.toArray bl i=true:=by decide +kernel) (hQ:∀ c a w v,Q (.panic c) (a.put (some d) v) w->Q (.panic c) a w:=by exact fun _ _ _ _ h=>h):WA P ol.toArray Q w0 lt Γb (fuel+1) bl l I:=aNm i hck hQ (hy.run s w0) h
theorem gJ{ol:List Oper}(i:Nat){j dj:Nat}{oj:Oper}{b:Bool}{vg:Value}[hi:Ge ol i ⟨some d,op,ty,pos,after,some (j,b)⟩][hj:Ge ol j oj][hdj:Dst oj dj][hg:Ge l dj vg][he:NeB vg b][hd:Se l d undef l'][hb:Se bl i true bl'](h:WA P ol.toArray Q w0 lt Γb fuel bl' l' I)
  (hck:gB lt ol.toArray bl i=true:=by decide +kernel) (hQ:∀ c a w v,Q (.panic c) (a.put (some d) v) w->Q (.panic c) a w:=by exact fun _ _ _ _ h=>h):WA P ol.toArray Q w0 lt Γb (fuel+1) bl l I:=bL9 i hck hQ h
theorem aD2(dj:Nat){b':Bool}{l1 l2:List Value}{p q:Prop}[hb:Ge l dj (.bool b')][hp:jB b' p][hn:jQ b' q][h1:Se l dj (.bool true) l1][h2:Se l dj (.bool false) l2](ht:p->WA P ops Q w0 lt Γb fuel bl l1 I)(hf:q->WA P ops Q w0 lt Γb fuel bl l2 I):WA P ops Q w0 lt Γb fuel bl l I:=
 aZh dj (fun h=>ht (hp.iff.1 h)) (fun h=>hf (hn.iff.1 h))
theorem bX{ol:List Oper}(i:Nat){o:Oper}[hi:Ge ol i o][hb:Se bl i true bl'](h:WL P ol.toArray (Exit.then (gQ P ol.toArray Q w0 lt Γb fuel bl') Q) w0 [o] l I)(hr:Region.ready .any ol.toArray bl.toArray=[i]:=by decide +kernel):WA P ol.toArray Q w0 lt Γb (fuel+1) bl l I:=
 bL0 i hr (by simpa using hi.eq) h
theorem fH{ol:List Oper}(i j:Nat){bi bj:List Bool}{oi oj:Oper}[hi:Ge ol i oi][hj:Ge ol j oj][hb:Se bl i true bi][hb':Se bl j true bj]
  (h:WL P ol.toArray (Exit.then (gQ P ol.toArray Q w0 lt Γb fuel bi) Q) w0 [oi] l I) (h':WL P ol.toArray (Exit.then (gQ P ol.toArray Q w0 lt Γb fuel bj) Q) w0 [oj] l I) (hr:Region.ready .any ol.toArray bl.toArray=[i,j]:=by decide +kernel):WA P ol.toArray Q w0 lt Γb (fuel+1) bl l I:=
 bBj i j hr (by simpa using hi.eq) (by simpa using hj.eq) h h'
theorem vQ{ol:List Oper}(i j k:Nat){bi bj bk:List Bool}{oi oj ok:Oper}[hi:Ge ol i oi][hj:Ge ol j oj][hk:Ge ol k ok][hb:Se bl i true bi][hb':Se bl j true bj][hb'':Se bl k true bk]
  (h:WL P ol.toArray (Exit.then (gQ P ol.toArray Q w0 lt Γb fuel bi) Q) w0 [oi] l I) (h':WL P ol.toArray (Exit.then (gQ P ol.toArray Q w0 lt Γb fuel bj) Q) w0 [oj] l I) (h'':WL P ol.toArray (Exit.then (gQ P ol.toArray Q w0 lt Γb fuel bk) Q) w0 [ok] l I) (hr:Region.ready .any ol.toArray bl.toArray=[i,j,k]:=by decide +kernel):WA P ol.toArray Q w0 lt Γb (fuel+1) bl l I:=
 aQ5 i j k hr (by simpa using hi.eq) (by simpa using hj.eq) (by simpa using hk.eq) h h' h''
theorem oF{ol:List Oper}(i:Nat){V:Type}{iα:cB V}[inh:Inhabited V][un:Un V][dp:uS V]{T k by_:Nat}{x y:Operand}{sv:Value}{n:Int}{m:Nat}{kk:IntKind}{xs:List V}[hi:Ge ol i ⟨some d,.indexAddr T x y,ty,pos,after,none⟩][hx:Ev l x sv][hy:Ev l y (.int kk n)][hm:fJ n m]
  [hT:Sl P T k by_] [hr:fK (List V) bA Γb [sv] xs] [hsub:sR I Γb] [hk:iI V k] [hd:Se l d (.pointer (some (dW sv (m:Int) k))) l'] [hb:Se bl i true bl']
  (h:∀ (p:Un.Pr V) (cs:List Value) (as asb:List Atom),Un.cells p (xs.getD m default)=cs->Un.atoms p (xs.getD m default)++I=as->Un.atoms p (xs.getD m default)++Γb=asb->Un.fact (xs.getD m default)->
   WA P ol.toArray Q w0 lt (.pt (dW sv (m:Int) k) cs::asb) fuel bl' l' (.pt (dW sv (m:Int) k) cs::as))
  (hin:0<=n/\n<xs.length:=by first|omega|(simp only[aD,aF,aL,cA,aV,aR,aN];omega))
  (hck:gB lt ol.toArray bl i=true:=by decide +kernel) (hQ:∀ c a w v,Q (.panic c) (a.put (some d) v) w->Q (.panic c) a w:=by exact fun _ _ _ _ h=>h):WA P ol.toArray Q w0 lt Γb (fuel+1) bl l I:=
 aDq i (hd:=uA (sv:=sv) (k:=k) hm.eq▸hd) hck hQ hin (by have e:=hm.eq;subst e;rw[uA (sv:=sv) (n:=n) (k:=k) rfl];exact h)
theorem bBk{V:Type}{iα:cB V}[inh:Inhabited V][un:Un V][dp:uS V]{T k by_:Nat}{x y:Operand}{sv:Value}{n:Int}{m:Nat}{kk:IntKind}{xs:List V}[hx:Ev l x sv][hy:Ev l y (.int kk n)][hm:fJ n m][hT:Sl P T k by_][hr:fK (List V) bA I [sv] xs][hk:iI V k]
  [hd:Se l d (.pointer (some (dW sv (m:Int) k))) l']
  (h:∀ (p:Un.Pr V) (cs:List Value) (as:List Atom),Un.cells p (xs.getD m default)=cs->Un.atoms p (xs.getD m default)++I=as->Un.fact (xs.getD m default)->WL P ops Q w0 rest l' (.pt (dW sv (m:Int) k) cs::as))
  (hi:0<=n/\n<xs.length:=by first|omega|(simp only[aD,aF,aL,cA,aV,aR,aN];omega)) :
  WL P ops Q w0 (⟨some d,.indexAddr T x y,ty,pos,after,none⟩::rest) l I:=aDi (hd:=uA (sv:=sv) (k:=k) hm.eq▸hd) hk.eq hi (by have e:=hm.eq;subst e;rw[uA (sv:=sv) (n:=n) (k:=k) rfl];exact h)
theorem aYf[hm:qG P]{n:Nat}{ol:List Oper}(id:Nat)(bl:List Bool)(lt:List Nat)(h:WA P ol.toArray Q w0 lt I n bl l I)(hn:ol.length=n:=by rfl)(hbl:List.replicate n false=bl:=by rfl):WC P Q w0 (.region id ol.toArray true) l I:=mE lt I (fun _ h=>h) hn hbl h
theorem aR2[hm:qG P]{n:Nat}{ol:List Oper}(id:Nat)(bl:List Bool)(lt:List Nat)[hk:qK I Γb](h:WA P ol.toArray Q w0 lt Γb n bl l I)(hn:ol.length=n:=by rfl)(hbl:List.replicate n false=bl:=by rfl):WC P Q w0 (.region id ol.toArray true) l I:=
 mE lt Γb (fun _ hs=>hs.sub hk.sub) hn hbl h
class FlO(ol:List Oper)(bl:outParam (List Bool)):Prop where
 eq:List.replicate ol.length false=bl
instance:FlO [] []:=⟨rfl⟩
instance {o:Oper}{ol:List Oper}{bl:List Bool}[h:FlO ol bl]:FlO (o::ol) (false::bl):=⟨congrArg (List.cons false) h.eq⟩
theorem wb[hm:qG P]{ol:List Oper}(id:Nat)(lt:List Nat)[hf:FlO ol bl](h:WA P ol.toArray Q w0 lt I ol.length bl l I):WC P Q w0 (.region id ol.toArray true) l I:=aYf id bl lt h rfl hf.eq
theorem wb1[hm:qG P]{ol:List Oper}(id:Nat)(lt:List Nat)[hf:FlO ol bl][hk:qK I Γb](h:WA P ol.toArray Q w0 lt Γb ol.length bl l I):WC P Q w0 (.region id ol.toArray true) l I:=aR2 id bl lt h rfl hf.eq
theorem bI(h:WQ Q w0 .normal l I)(hr:Region.ready .any ops bl.toArray=[]:=by decide +kernel):WA P ops Q w0 lt Γb fuel bl l I:=bFi hr h
theorem aMq{ol:List Oper}(i:Nat){T:TypeId}{x:Operand}{sv:Value}{n:Int}{m:Nat}{xs:List Int}[hi:Ge ol i ⟨some d,.load T x,ty,pos,after,none⟩][h:Ev l x (.pointer (some (dW sv n 1)))][hm:fJ n m][hT:Sc P T][hr:dZ (List Int) bA Γb [sv] xs]
  [hd:Se l d (.int .i64 (xs.getD m 0)) l'] [hb:Se bl i true bl'] (hw:-9223372036854775808<=xs.getD m 0/\xs.getD m 0<=9223372036854775807->WA P ol.toArray Q w0 lt Γb fuel bl' l' I)
  (hin:0<=n/\n<xs.length:=by first|omega|(simp only[aD,aF,aL,cA,aV,aR,aN];omega))
  (hck:gB lt ol.toArray bl i=true:=by decide +kernel) (hQ:∀ c a w v,Q (.panic c) (a.put (some d) v) w->Q (.panic c) a w:=by exact fun _ _ _ _ h=>h):WA P ol.toArray Q w0 lt Γb (fuel+1) bl l I:=fun w hs hsb=>by
 have e:=hm.eq
 subst e
 have h3:=(hsb (ck6 hck)).rd (hr:=hr)
 obtain ⟨a,cap,_,_,_,_,h2⟩:=h3
 obtain ⟨b,off,cells,rfl,_,_,hrd⟩:=h2 (by omega)
 have hb:=kK.in64 hrd (xs.getD n.toNat 0) (by rw[aC,aG (by omega)];simp)
 exact aG3 i (by simpa using hi.eq) hck hQ (rO hin) (hw hb) w hs hsb
class Nxa(B:List Bool)(es:List Edge):Prop where
 t:True
instance {B:List Bool}:Nxa B []:=⟨trivial⟩
instance {B:List Bool}{j:Nat}{g:Ground}{es:List Edge}[Ge B j true][Nxa B es]:Nxa B (⟨j,g⟩::es):=⟨trivial⟩
instance {B:List Bool}{j:Nat}{g:Departure}{es:List Edge}[Nxa B es]:Nxa B (⟨j,.gcOnly g⟩::es):=⟨trivial⟩
instance {B:List Bool}{j:Nat}{g:Departure}{es:List Edge}[Nxa B es]:Nxa B (⟨j,.textOnly g⟩::es):=⟨trivial⟩
class Nxo(op:Op):Prop where
 t:True
instance {x:Operand}:Nxo (.move x):=⟨trivial⟩
instance {x:Operand}:Nxo (.assign x):=⟨trivial⟩
instance {x y z:Operand}:Nxo (.pick x y z):=⟨trivial⟩
instance {t:TypeId}{x:Operand}:Nxo (.load t x):=⟨trivial⟩
instance {x:Operand}:Nxo (.nilCheck x):=⟨trivial⟩
instance {o:BinOp}{t u:TypeId}{x y:Operand}:Nxo (.binOp o t x y u):=⟨trivial⟩
instance {o:UnOp}{t:TypeId}{x:Operand}:Nxo (.unOp o t x):=⟨trivial⟩
instance {t u:TypeId}{x:Operand}:Nxo (.convert t u x):=⟨trivial⟩
instance {t:TypeId}{x:Operand}{i:Nat}:Nxo (.fieldAddr t x i):=⟨trivial⟩
instance {t:TypeId}{x:Operand}{i:Nat}:Nxo (.field t x i):=⟨trivial⟩
instance {t:TypeId}{x y:Operand}:Nxo (.indexAddr t x y):=⟨trivial⟩
instance {t:TypeId}{x y:Operand}:Nxo (.index t x y):=⟨trivial⟩
instance {x:Operand}{i:Nat}:Nxo (.extract x i):=⟨trivial⟩
instance {f:Fn}{a b:Array Operand}:Nxo (.makeFunc f a b):=⟨trivial⟩
instance {a:Array Operand}{t:Array TypeId}:Nxo (.call { callee:=.builtin .len,args:=a,argTypes:=t }):=⟨trivial⟩
instance {a:Array Operand}{t:Array TypeId}:Nxo (.call { callee:=.builtin .cap,args:=a,argTypes:=t }):=⟨trivial⟩
instance {a:Array Operand}{t:Array TypeId}:Nxo (.call { callee:=.builtin .min,args:=a,argTypes:=t }):=⟨trivial⟩
instance {a:Array Operand}{t:Array TypeId}:Nxo (.call { callee:=.builtin .max,args:=a,argTypes:=t }):=⟨trivial⟩
class Nxp(B:List Bool)(ol:List Oper)(bl:List Bool)(i:outParam Nat)(o:outParam Oper)(bl':outParam (List Bool)):Prop where
 ge:ol[i]?=some o
 se:bl.set i true=bl'
instance {B bl:List Bool}{ol:List Oper}{d:Option Nat}{op:Op}{ty:TypeId}{pos:String}{es:List Edge}{g:Option (Nat×Bool)}[Nxo op][Nxa B es]:Nxp B (⟨d,op,ty,pos,es.toArray,g⟩::ol) (false::bl) 0 ⟨d,op,ty,pos,es.toArray,g⟩ (true::bl):=⟨rfl,rfl⟩
instance (priority:=500) {B bl bl':List Bool}{ol:List Oper}{i:Nat}{o o':Oper}{b:Bool}[h:Nxp B ol bl i o bl']:Nxp B (o'::ol) (b::bl) (i+1) o (b::bl'):=⟨h.ge,congrArg (List.cons b) h.se⟩
class Nxe(B:List Bool)(ol:List Oper)(bl:List Bool)(i:outParam Nat)(o:outParam Oper)(bl':outParam (List Bool)):Prop where
 ge:ol[i]?=some o
 se:bl.set i true=bl'
instance {B bl:List Bool}{ol:List Oper}{d:Option Nat}{op:Op}{ty:TypeId}{pos:String}{es:List Edge}{g:Option (Nat×Bool)}[Nxa B es]:Nxe B (⟨d,op,ty,pos,es.toArray,g⟩::ol) (false::bl) 0 ⟨d,op,ty,pos,es.toArray,g⟩ (true::bl):=⟨rfl,rfl⟩
instance (priority:=500) {B bl bl':List Bool}{ol:List Oper}{i:Nat}{o o':Oper}{b:Bool}[h:Nxe B ol bl i o bl']:Nxe B (o'::ol) (b::bl) (i+1) o (b::bl'):=⟨h.ge,congrArg (List.cons b) h.se⟩
class Nx2(B:List Bool)(ol:List Oper)(bl:List Bool)(i:outParam Nat)(o:outParam Oper)(bl':outParam (List Bool))(j:outParam Nat)(u:outParam Oper)(cl:outParam (List Bool)):Prop where
 ge:ol[i]?=some o/\ol[j]?=some u
 se:bl.set i true=bl'/\bl.set j true=cl
instance {B bl cl:List Bool}{ol:List Oper}{d:Option Nat}{op:Op}{ty:TypeId}{pos:String}{es:List Edge}{g:Option (Nat×Bool)}{j:Nat}{u:Oper}[Nxa B es][h:Nxe B ol bl j u cl]:Nx2 B (⟨d,op,ty,pos,es.toArray,g⟩::ol) (false::bl) 0 ⟨d,op,ty,pos,es.toArray,g⟩ (true::bl) (j+1) u (false::cl):=⟨⟨rfl,h.ge⟩,rfl,congrArg (List.cons false) h.se⟩
instance (priority:=500) {B bl bl' cl:List Bool}{ol:List Oper}{i j:Nat}{o o' u:Oper}{b:Bool}[h:Nx2 B ol bl i o bl' j u cl]:Nx2 B (o'::ol) (b::bl) (i+1) o (b::bl') (j+1) u (b::cl):=⟨h.ge,congrArg (List.cons b) h.se.1,congrArg (List.cons b) h.se.2⟩
theorem xp{ol:List Oper}{i:Nat}{S:Prop}[hi:Nxp bl ol bl i ⟨some d,op,ty,pos,after,none⟩ bl'][hy:mI P l Γb op ty v S][hd:Se l d v l'](h:WA P ol.toArray Q w0 lt Γb fuel bl' l' I)
  (s:S:=by first|exact True.intro|omega|assumption|((repeat' apply And.intro)<;>first|assumption|omega)|(simp only[true_and,and_true,aD,aF,aL,cA,aV,aR,aN];omega))
  (hck:gB lt ol.toArray bl i=true:=by decide +kernel) (hQ:∀ c a w v,Q (.panic c) (a.put (some d) v) w->Q (.panic c) a w:=by exact fun _ _ _ _ h=>h):WA P ol.toArray Q w0 lt Γb (fuel+1) bl l I:=bY (hi:=⟨hi.ge⟩) (hb:=⟨hi.se⟩) i h s hck hQ
theorem x0{ol:List Oper}{i:Nat}{S:Prop}[hi:Nxp bl ol bl i ⟨some d,op,ty,pos,after,none⟩ bl'][hy:mI P l [] op ty v S][hd:Se l d v l'](h:WA P ol.toArray Q w0 lt Γb fuel bl' l' I)
  (s:S:=by first|exact True.intro|omega|assumption|((repeat' apply And.intro)<;>first|assumption|omega))
  (hck:wD lt ol.toArray bl i=true:=by decide +kernel) (hQ:∀ c a w v,Q (.panic c) (a.put (some d) v) w->Q (.panic c) a w:=by exact fun _ _ _ _ h=>h):WA P ol.toArray Q w0 lt Γb (fuel+1) bl l I:=aPo (hi:=⟨hi.ge⟩) (hb:=⟨hi.se⟩) i h s hck hQ
theorem xg{ol:List Oper}{i:Nat}{S:Prop}{j dj:Nat}{oj:Oper}{b:Bool}{vg:Value}[hi:Nxp bl ol bl i ⟨some d,op,ty,pos,after,some (j,b)⟩ bl'][hj:Ge ol j oj][hdj:Dst oj dj][hg:Ge l dj vg][he:EqB vg b][hy:mI P l Γb op ty v S][hd:Se l d v l'](h:WA P ol.toArray Q w0 lt Γb fuel bl' l' I)
  (s:S:=by first|exact True.intro|omega|assumption|((repeat' apply And.intro)<;>first|assumption|omega)|(simp only[true_and,and_true,aD,aF,aL,cA,aV,aR,aN];omega))
  (hck:gB lt ol.toArray bl i=true:=by decide +kernel) (hQ:∀ c a w v,Q (.panic c) (a.put (some d) v) w->Q (.panic c) a w:=by exact fun _ _ _ _ h=>h):WA P ol.toArray Q w0 lt Γb (fuel+1) bl l I:=iF (hi:=⟨hi.ge⟩) (hb:=⟨hi.se⟩) i h s hck hQ
theorem xn{ol:List Oper}{i:Nat}{j dj:Nat}{oj:Oper}{b:Bool}{vg:Value}[hi:Nxp bl ol bl i ⟨some d,op,ty,pos,after,some (j,b)⟩ bl'][hj:Ge ol j oj][hdj:Dst oj dj][hg:Ge l dj vg][he:NeB vg b][hd:Se l d undef l'](h:WA P ol.toArray Q w0 lt Γb fuel bl' l' I)
  (hck:gB lt ol.toArray bl i=true:=by decide +kernel) (hQ:∀ c a w v,Q (.panic c) (a.put (some d) v) w->Q (.panic c) a w:=by exact fun _ _ _ _ h=>h):WA P ol.toArray Q w0 lt Γb (fuel+1) bl l I:=gJ (hi:=⟨hi.ge⟩) (hb:=⟨hi.se⟩) i h hck hQ
theorem xi{ol:List Oper}{i j dj:Nat}{b b':Bool}{oj:Oper}{l1 l2:List Value}{p q:Prop}[hi:Nxp bl ol bl i ⟨some d,op,ty,pos,after,some (j,b)⟩ bl'][hj:Ge ol j oj][hdj:Dst oj dj][hb:Ge l dj (.bool b')][hp:jB b' p][hn:jQ b' q][h1:Se l dj (.bool true) l1][h2:Se l dj (.bool false) l2](ht:p->WA P ol.toArray Q w0 lt Γb fuel bl l1 I)(hf:q->WA P ol.toArray Q w0 lt Γb fuel bl l2 I):WA P ol.toArray Q w0 lt Γb fuel bl l I:=
 aD2 dj ht hf
theorem pM{ol:List Oper}{i j dj:Nat}{b b':Bool}{oj:Oper}{l1 l2:List Value}{p q:Prop}[hi:Nxp bl ol bl i ⟨some d,op,ty,pos,after,some (j,b)⟩ bl'][hj:Ge ol j oj][hdj:Dst oj dj][hb:Ge l dj (.bool b')][hp:jB b' p][hn:jQ b' q][h1:Se l dj (.bool true) l1][h2:Se l dj (.bool false) l2](hf:q->WA P ol.toArray Q w0 lt Γb fuel bl l2 I)
  (hx:p->False:=by intro hc;first|omega|with_reducible first|exact absurd rfl hc|exact absurd hc dU|exact absurd hc dU.symm):WA P ol.toArray Q w0 lt Γb fuel bl l I:=
 aD2 (l1:=l1) dj (fun c=>(hx c).elim) hf
theorem pN{ol:List Oper}{i j dj:Nat}{b b':Bool}{oj:Oper}{l1 l2:List Value}{p q:Prop}[hi:Nxp bl ol bl i ⟨some d,op,ty,pos,after,some (j,b)⟩ bl'][hj:Ge ol j oj][hdj:Dst oj dj][hb:Ge l dj (.bool b')][hp:jB b' p][hn:jQ b' q][h1:Se l dj (.bool true) l1][h2:Se l dj (.bool false) l2](ht:p->WA P ol.toArray Q w0 lt Γb fuel bl l1 I)
  (hx:q->False:=by intro hc;first|omega|with_reducible first|exact absurd rfl hc|exact absurd hc dU|exact absurd hc dU.symm):WA P ol.toArray Q w0 lt Γb fuel bl l I:=
 aD2 (l2:=l2) dj ht (fun c=>(hx c).elim)
theorem xy{ol:List Oper}{i:Nat}{o:Oper}[hi:Nxe bl ol bl i o bl'](h:WL P ol.toArray (Exit.then (gQ P ol.toArray Q w0 lt Γb fuel bl') Q) w0 [o] l I)(hr:Region.ready .any ol.toArray bl.toArray=[i]:=by decide +kernel):WA P ol.toArray Q w0 lt Γb (fuel+1) bl l I:=bX (hi:=⟨hi.ge⟩) (hb:=⟨hi.se⟩) i h hr
theorem x2{ol:List Oper}{i j:Nat}{bi bj:List Bool}{oi oj:Oper}[hi:Nx2 bl ol bl i oi bi j oj bj]
  (h:WL P ol.toArray (Exit.then (gQ P ol.toArray Q w0 lt Γb fuel bi) Q) w0 [oi] l I) (h':WL P ol.toArray (Exit.then (gQ P ol.toArray Q w0 lt Γb fuel bj) Q) w0 [oj] l I) (hr:Region.ready .any ol.toArray bl.toArray=[i,j]:=by decide +kernel):WA P ol.toArray Q w0 lt Γb (fuel+1) bl l I:=
 fH (hi:=⟨hi.ge.1⟩) (hj:=⟨hi.ge.2⟩) (hb:=⟨hi.se.1⟩) (hb':=⟨hi.se.2⟩) i j h h' hr
theorem xd{ol:List Oper}{i:Nat}{V:Type}{iα:cB V}[inh:Inhabited V][un:Un V][dp:uS V]{T k by_:Nat}{x y:Operand}{sv:Value}{n:Int}{m:Nat}{kk:IntKind}{xs:List V}[hi:Nxp bl ol bl i ⟨some d,.indexAddr T x y,ty,pos,after,none⟩ bl'][hx:Ev l x sv][hy:Ev l y (.int kk n)][hm:fJ n m]
  [hT:Sl P T k by_] [hr:fK (List V) bA Γb [sv] xs] [hsub:sR I Γb] [hk:iI V k] [hd:Se l d (.pointer (some (dW sv (m:Int) k))) l']
  (h:∀ (p:Un.Pr V) (cs:List Value) (as asb:List Atom),Un.cells p (xs.getD m default)=cs->Un.atoms p (xs.getD m default)++I=as->Un.atoms p (xs.getD m default)++Γb=asb->Un.fact (xs.getD m default)->
   WA P ol.toArray Q w0 lt (.pt (dW sv (m:Int) k) cs::asb) fuel bl' l' (.pt (dW sv (m:Int) k) cs::as))
  (hin:0<=n/\n<xs.length:=by first|omega|(simp only[aD,aF,aL,cA,aV,aR,aN];omega))
  (hck:gB lt ol.toArray bl i=true:=by decide +kernel) (hQ:∀ c a w v,Q (.panic c) (a.put (some d) v) w->Q (.panic c) a w:=by exact fun _ _ _ _ h=>h):WA P ol.toArray Q w0 lt Γb (fuel+1) bl l I:=
 oF (hi:=⟨hi.ge⟩) (hb:=⟨hi.se⟩) i h hin hck hQ
theorem xf{ol:List Oper}{i:Nat}{T:TypeId}{x:Operand}{sv:Value}{n:Int}{m:Nat}{xs:List Int}[hi:Nxp bl ol bl i ⟨some d,.load T x,ty,pos,after,none⟩ bl'][h:Ev l x (.pointer (some (dW sv n 1)))][hm:fJ n m][hT:Sc P T][hr:dZ (List Int) bA Γb [sv] xs]
  [hd:Se l d (.int .i64 (xs.getD m 0)) l'] (hw:-9223372036854775808<=xs.getD m 0/\xs.getD m 0<=9223372036854775807->WA P ol.toArray Q w0 lt Γb fuel bl' l' I)
  (hin:0<=n/\n<xs.length:=by first|omega|(simp only[aD,aF,aL,cA,aV,aR,aN];omega))
  (hck:gB lt ol.toArray bl i=true:=by decide +kernel) (hQ:∀ c a w v,Q (.panic c) (a.put (some d) v) w->Q (.panic c) a w:=by exact fun _ _ _ _ h=>h):WA P ol.toArray Q w0 lt Γb (fuel+1) bl l I:=aMq (hi:=⟨hi.ge⟩) (hb:=⟨hi.se⟩) i hw hin hck hQ
theorem eB{K JJ:List Nat}{l0:List Value}{Z:Type}{vals:Z->List Value}{ctx:Z->List Atom}{pre:Z->Prop}{μ:Z->Nat}{i:Z}(i':Z)(hp:pre i')(hμ:μ i'<μ i:=by first|omega|(simp only;omega))
  (hl:bM (bM l0 K (vals i')) JJ (JJ.map fun j=>l.getD j undef)=l:=by kernel_rfl) [hs:qA I (ctx i')]:WQ (Exit.then (aKa w0 l0 K JJ vals ctx pre μ i) Q) w0 .normal l I:=dH i' hp hμ hl aH
class bU(fn:Func)(rs:outParam (List ResultVar)):Prop where
 eq:fn.results=rs.toArray
class aNt(vs:List Value)(v:outParam Value):Prop where
 eq:aA3 vs=v
instance {v:Value}:aNt [v] v:=⟨rfl⟩
instance:aNt [] (.tuple #[]):=⟨rfl⟩
instance {a b:Value}{vs:List Value}:aNt (a::b::vs) (.tuple (a::b::vs).toArray):=⟨rfl⟩
instance {fn:Func}{rs:List ResultVar}{vs:List Value}{v:Value}{ρ:Type}{r:ρ->Value}{Γ':ρ->List Atom}[hf:bU fn rs][hr:Rs P I l rs vs][ht:aNt vs v] :
  nD (WQ (bodyPost P fn (aC5 w0 r Γ')) w0 .ret l I) (∃ p,r p=v/\Ent w0 I (Γ' p)):=⟨fun ⟨p,h1,h2⟩=>bMd hf.eq p (by rw[h1,ht.eq]) h2⟩
instance {fn:Func}{rs:List ResultVar}{vs:List Value}{v:Value}{ρ:Type}{r:ρ->Value}{Γ':ρ->List Atom}[hf:bU fn rs][hr:Rs P I l rs vs][ht:aNt vs v] :
  nD (WQ (bodyPost P fn (aC5 w0 r Γ')) w0 .normal l I) (∃ p,r p=v/\Ent w0 I (Γ' p)):=⟨fun ⟨p,h1,h2⟩=>bKd hf.eq p (by rw[h1,ht.eq]) h2⟩
instance {f:FuncId}{xs:List Operand}{vs:List Value}{ts:Array TypeId}{S:Prop}{ρ:Type}{r:ρ->Value}{Γ':ρ->List Atom}[hx:EvL l xs vs][hc:bQ P f vs I S ρ r Γ'][hf:bS P f] :
  bDd (WL P ops Q w0 (⟨some d,.call { callee:=.value (.func f),args:=xs.toArray,argTypes:=ts },ty,pos,after,none⟩::rest) l I) S ρ (fun p=>WL P ops Q w0 rest (l.set d (r p)) (Γ' p)):=⟨fun s h=>vT (hc.run s w0) h⟩
instance {c:Operand}{b:Bool}{p q:Prop}[hc:Ev l c (.bool b)][hp:jB b p][hn:jQ b q]:aT0 (WC P Q w0 (.cond c x y) l I) p q (WC P Q w0 x l I) (WC P Q w0 y l I):=⟨fun h1 h2=>bNx h1 h2⟩
instance {ol:List Oper}{j dj:Nat}{oj:Oper}{b b':Bool}{dst:Option Tmp}{l1 l2:List Value}{p q:Prop}[hj:Ge ol j oj][hdj:Dst oj dj][hb:Ge l dj v][he:IsB v b'][hp:jB b' p][hn:jQ b' q][h1:Se l dj (.bool true) l1][h2:Se l dj (.bool false) l2] :
  aT0 (WL P ol.toArray Q w0 (⟨dst,op,ty,pos,after,some (j,b)⟩::rest) l I) p q (WL P ol.toArray Q w0 (⟨dst,op,ty,pos,after,some (j,b)⟩::rest) l1 I) (WL P ol.toArray Q w0 (⟨dst,op,ty,pos,after,some (j,b)⟩::rest) l2 I):=⟨fun h1 h2=>bOt h1 h2⟩
instance {V:Type}{iα:cB V}[inh:Inhabited V][un:Un V][dp:uS V]{T k by_:Nat}{x y:Operand}{sv:Value}{n:Int}{m:Nat}{kk:IntKind}{xs:List V}[hx:Ev l x sv][hy:Ev l y (.int kk n)][hm:fJ n m][hT:Sl P T k by_][hr:fK (List V) bA I [sv] xs][hk:iI V k]
  [hd:Se l d (.pointer (some (dW sv (m:Int) k))) l']:bOa (WL P ops Q w0 (⟨some d,.indexAddr T x y,ty,pos,after,none⟩::rest) l I) (0<=n/\n<xs.length) V iα un (xs.getD m default) I (fun cs as=>WL P ops Q w0 rest l' (.pt (dW sv (m:Int) k) cs::as)):=
 ⟨fun s h=>bBk h s⟩
theorem aK{f:FuncId}{fn:Func}{c:Code}{vs:List Value}{n:Nat}{ρ:Type}{r:ρ->Value}{Γ':ρ->List Atom}(hf:P.funcs[f]?=some fn)(hn:fn.ntmps=n)(h:WC P (bodyPost P fn (aC5 w0 r Γ')) w0 c l I)
  (hl:vs++List.replicate (n-vs.length) undef=l:=by simp only[aF,aL,Nat.reduceAdd,Nat.reduceSub,List.replicate_succ,List.replicate_zero,aA,aB];rfl) (hb:fn.body=some c:=by rfl):CJ P f vs w0 I r Γ':=aZ4 hf hb hn hl h
theorem bN(K JJ:List Nat){Z:Type}(vals:Z->List Value)(pre:Z->Prop)(μ:Z->Nat){c:Code}(i0:Z)
  (h0:bM (bM l K (vals i0)) JJ (JJ.map fun j=>l.getD j undef)=l) (hp:pre i0)
  (round:∀ i u l',bM (bM l K (vals i)) JJ (JJ.map u)=l'->pre i->WC P (Exit.then (aKa w0 l K JJ vals (fun _=>I) pre μ i) Q) w0 c l' I):WC P Q w0 (.loop c) l I:=
 zQ K JJ vals (fun _=>I) pre μ i0 h0 hp (fun _ h=>h) round
class aEy(I A:List Atom)(Y:outParam (List Atom)):Prop where
 ent:gX I (A++Y)
instance:aEy I [] I:=⟨gX.refl I⟩
instance {A:Atom}{B:List Atom}[h:aJ1 I A Y][h':aEy Y B Ε]:aEy I (A::B) Ε:=⟨gX.trans (gX.perm h.perm) (gX.cons A h'.ent)⟩
instance (priority:=1500) {V:Type}{iα:cB V}{B:List Atom}[h:aEy I B Ε]:aEy I (@Atom.ow (List V) bA [.slice none 0 0] []::B) Ε:=⟨fun hs=>by
 obtain ⟨G,hG,h1⟩:=h.ent hs
 exact⟨G,hG,[],G,rfl,.inl ⟨rfl,rfl,rfl⟩,h1⟩⟩
theorem bD(K JJ:List Nat){Z:Type}(vals:Z->List Value)(A:Z->List Atom)(pre:Z->Prop)(μ:Z->Nat){c:Code}(i0:Z)(A0:List Atom)[ht:aEy I A0 Y]
  (h0:bM (bM l K (vals i0)) JJ (JJ.map fun j=>l.getD j undef)=l) (hp:pre i0) (hA:A i0=A0)
  (round:∀ i u l',bM (bM l K (vals i)) JJ (JJ.map u)=l'->pre i->WC P (Exit.then (aKa w0 l K JJ vals (fun i=>A i++Y) pre μ i) Q) w0 c l' (A i++Y)):WC P Q w0 (.loop c) l I:=
 zQ K JJ vals (fun i=>A i++Y) pre μ i0 h0 hp (fun w hs=>by rw[hA];exact gX.sat ht.ent hs) round
theorem lp_(K JJ:List Nat){Z:Type}(vals:Z->List Value)(A:Z->List Atom)(pre:Z->Prop)(μ:Z->Nat){c:Code}(i0:Z)(A0:List Atom)[ht:aEy I A0 Y](hp:pre i0)
  (round:∀ i u l',bM (bM l K (vals i)) JJ (JJ.map u)=l'->pre i->WC P (Exit.then (aKa w0 l K JJ vals (fun i=>A i++Y) pre μ i) Q) w0 c l' (A i++Y))
  (h0:bM (bM l K (vals i0)) JJ (JJ.map fun j=>l.getD j undef)=l:=by kernel_rfl) (hA:A i0=A0:=by rfl):WC P Q w0 (.loop c) l I:=bD K JJ vals A pre μ i0 A0 h0 hp hA round
theorem lc_(K JJ:List Nat){Z:Type}(vals:Z->List Value)(pre:Z->Prop)(μ:Z->Nat){c:Code}(i0:Z)(hp:pre i0)
  (round:∀ i u l',bM (bM l K (vals i)) JJ (JJ.map u)=l'->pre i->WC P (Exit.then (aKa w0 l K JJ vals (fun _=>I) pre μ i) Q) w0 c l' I)
  (h0:bM (bM l K (vals i0)) JJ (JJ.map fun j=>l.getD j undef)=l:=by kernel_rfl):WC P Q w0 (.loop c) l I:=bN K JJ vals pre μ i0 h0 hp round
end inst
end Go.Eng
namespace Go.Eng
open Go Go.RowKit
structure NE(V:Type) where
 xs:List V
def bDk{V:Type}[cB V](ok:Nat->Prop)(w:World)(cs:List Value)(x:List V):Prop:=(cs=[.slice none 0 0]/\x=[])∨(x≠[]/\cB.rd ok w cs x)
theorem bDk.list{V:Type}[cB V]{ok:Nat->Prop}{w:World}{cs:List Value}{x:List V}(h:bDk ok w cs x):cB.rd ok w cs x:=by
 rcases h with⟨rfl,rfl⟩|h
 ·exact⟨none,0,rfl,by simp,by simp [maxLen],by simp,by simp⟩
 ·exact h.2
instance bQw{V:Type}[cB V]:cB (NE V) where
 sz:=1
 rd ok w cs x:=bDk ok w cs x.xs
 ow ok w F cs x:=F=[]/\bDk ok w cs x.xs
 pos:=by decide
 rd_len:=fun h=>cB.rd_len h.list
 rd_one:=fun h=>cB.rd_one h.list
 rd_mono:=fun h hm=>h.imp id (fun h=>⟨h.1,cB.rd_mono h.2 hm⟩)
 ow_mono:=fun h _ hm=>⟨h.1,h.2.imp id (fun h=>⟨h.1,cB.rd_mono h.2 hm⟩)⟩
 ow_rd:=fun h ho _=>h.2.imp id (fun h=>⟨h.1,cB.rd_mono h.2 (fun b hb _=>⟨ho b hb,rfl⟩)⟩)
 ow_lt:=by rintro _ _ _ _ _ ⟨rfl,_⟩ b hb;cases hb
class ArT(P:Program)(T:TypeId)(n:outParam Nat):Prop where
 ex:∃ e i,P.underlying T=some (.array n e)/\P.info? e=some i/\i.size=1/\2<=n
class bN0(G:Prop)(S:outParam Prop)(G':outParam (Value->Prop)):Prop where
 run:S->(∀ v,G' v)->G
theorem bQk{G S:Prop}{G':Value->Prop}[h:bN0 G S G'](g:∀ v,G' v)(s:S:=by first|omega|assumption|(simp only[aD,aF,aL,cA,aV,aR,aN];omega)):G:=h.run s g
class bN7(G:Prop)(S:outParam Prop)(G':outParam (Option Addr->Nat->Prop)):Prop where
 run:S->(∀ a c,G' a c)->G
theorem bNh{G S:Prop}{G':Option Addr->Nat->Prop}[h:bN7 G S G'](g:∀ a c,G' a c)(s:S:=by first|omega|assumption|(simp only[aD,aF,aL,cA,aV,aR,aN];omega)):G:=h.run s g
section inst
variable {P:Program} {ops:Array Oper} {Q:Exit->Act->World->Prop} {w0:World} {rest:List Oper} {l l':List Value} {I Γb Y Ε:List Atom} {ty:TypeId} {v:Value} {pos:String} {after:Array Edge} {d:Nat} {x y:Operand}
theorem aFy{T n b:Nat}{m:Nat}{k:Int}{kk:IntKind}[h:Ev l x (.pointer (some ⟨b,0,none⟩))][hy:Ev l y (.int kk k)][hm:fJ k m][hT:ArT P T n](hk:0<=k/\k<n):Pu P w0 l I (.indexAddr T x y) ty (.pointer (some ⟨b,m,none⟩)):=by
 obtain ⟨e,i,ht,hi,hs,hn⟩:=hT.ex
 refine fT (s:=Instr.indexAt T (.pointer (some ⟨b,0,none⟩)) (.int kk k)) (fun o ho _=>by unfold execOp;rw[ho];simp only[h.eq,hy.eq]) (fun w hs'=>?_)
 have e1:=hm.eq
 simp [Instr.indexAt,asIntOf,run_underlying ht,sizeOf,typeInfo,hi,hs,hk.1,hk.2,Instr.sureAddr,e1,fB]
instance {T n b m:Nat}{k:Int}{kk:IntKind}[h:Ev l x (.pointer (some ⟨b,0,none⟩))][hy:Ev l y (.int kk k)][hm:fJ k m][hT:ArT P T n]:mI P l I (.indexAddr T x y) ty (.pointer (some ⟨b,m,none⟩)) (0<=k/\k<n):=⟨fun h _=>aFy h⟩
theorem kK.set{V:Type}[cB V]{ok:Nat->Prop}{w:World}(hsz:cB.sz V=1):∀ {cs:List Value} {xs:List V} {v:Value} {y:V} {m:Nat},kK ok w cs xs->cB.rd ok w [v] y->kK ok w (cs.set m v) (xs.set m y)
 | cs,[],v,y,m,h,hy=>by simp [kK] at h ⊢;simp [h]
 | cs,x::xs,v,y,0,⟨c,d,e,h,h'⟩,hy=>by
  have hcl:=cB.rd_len h
  rw[hsz] at hcl
  match c,hcl with
  | [u],_=>subst e;exact⟨[v],d,rfl,hy,h'⟩
 | cs,x::xs,v,y,m+1,⟨c,d,e,h,h'⟩,hy=>by
  have hcl:=cB.rd_len h
  rw[hsz] at hcl
  match c,hcl with
  | [u],_=>subst e;exact⟨[u],d.set m v,rfl,h,kK.set hsz h' hy⟩
theorem kK.ne{V:Type}[cB V]{ok:Nat->Prop}{w:World}:∀ {cs:List Value} {xs:List (NE V)},kK ok w cs xs->kK ok w cs (xs.map NE.xs)
 | _,[],h=>h
 | _,x::xs,⟨c,d,e,h,h'⟩=>⟨c,d,e,h.list,kK.ne h'⟩
theorem jA.take{V:Type}[cB V]{ok:Nat->Prop}{w:World}:∀ {F:List Nat} {cells:List Value} {xs:List V} (m:Nat),jA ok w F cells xs->∃ f g,F=f++g/\jA ok w f (cells.take (m*cB.sz V)) (xs.take m)
 | F,cells,[],m,h=>⟨[],F,rfl,by obtain ⟨rfl,rfl⟩:=h;rw[List.take_nil,List.take_nil];exact⟨rfl,rfl⟩⟩
 | F,cells,x::xs,0,h=>⟨[],F,rfl,by rw[Nat.zero_mul,List.take_zero,List.take_zero];exact⟨rfl,rfl⟩⟩
 | F,cells,x::xs,m+1,h0=>by
  obtain ⟨f,g,c,d,rfl,rfl,h,h'⟩:=h0
  obtain ⟨f',g',rfl,h2⟩:=jA.take m h'
  have hl:c.length=cB.sz V:=cB.rd_len (x:=x) (cB.ow_rd (ok':=fun _=>True) h (fun _ _=>trivial) (fun _ _=>trivial))
  refine⟨f++f',g',by simp,?_⟩
  rw[dE,Nat.one_mul,Nat.add_comm,← hl,List.take_length_add_append,hl]
  exact⟨f,f',c,_,rfl,rfl,h,h2⟩
theorem aLb{V:Type}{iα:cB V}{T k by_:Nat}{sv:Value}{kk:IntKind}{n:Int}{m:Nat}{xs:List V}[hx:Ev l x sv][hy:Ev l y (.int kk n)][hm:fJ n m][hT:Sl P T k by_][hp:cQ (List V) bA I [sv] xs Y](hn:0<=n/\n<=xs.length)
  (h:∀ sv',WL P ops Q w0 rest (l.set d sv') (.ow [sv'] (xs.take m)::Y)):WL P ops Q w0 (⟨some d,.slice T x none (some y) none,ty,pos,after,none⟩::rest) l I:=by
 intro w hs
 obtain ⟨e,i,z,ht,hi',hik,hib,hz,hzk,hpos⟩:=hT.ex
 obtain ⟨hb,F,hnd,hl,f,g,rfl,hA,hsep⟩:=hs.perm hp.perm
 have how:cB.ow (·∉f++g) w f [sv] xs:=hA
 have hm':=hm.eq
 have hml:m<=xs.length:=by omega
 have hlt:(xs.take m).length=m:=by rw[aN];omega
 rw[fL] at how
 have key:∃ (a:Option Addr) (cap:Nat) (f1 f2:List Nat),sv=.slice a xs.length cap/\m<=cap/\(f1++f2).Perm f/\(∀ sv',sv'=Value.slice a m cap->cB.ow (·∉f++g) w f1 [sv'] (xs.take m))/\a.map (·.add 0)=a:=by
  rcases how with⟨h0,rfl,rfl⟩|⟨b,cap,dV,ee,G,cells,h0,rfl,h1,h2,h3,h4,h5,h6,h7⟩
  ·have:m=0:=by simpa using hml
   subst this
   exact⟨none,0,[],[],by simpa using h0,aM _,by simp,fun sv' h=>by rw[fL];exact .inl ⟨by rw[h],by simp,rfl⟩,rfl⟩
  ·obtain ⟨g1,g2,rfl,h8⟩:=jA.take m h7
   refine⟨some ⟨b,0,none⟩,cap,b::g1,g2,by simpa using h0,by omega,by simp,fun sv' h=>?_,by simp [fB]⟩
   rw[fL]
   refine .inr ⟨b,cap,dV,ee,g1,cells.take (m*cB.sz V),by rw[h,hlt],rfl,h1,by omega,h3,by omega,h5,?_,h8⟩
   rw[hlt,← h6,List.take_take]
   congr 1
   have:=Nat.mul_le_mul_right (cB.sz V) hml
   omega
 obtain ⟨a,cap,f1,f2,rfl,hcap,hperm,hnew,hadd⟩:=key
 have hrun:=lQ (P:=P) (T:=T) (a:=a) (n:=xs.length) (cap:=cap) (lo:=0) (hi:=m) (vlo:=none) (vhi:=some (.int kk n)) ht hi' (.inl ⟨rfl,rfl⟩) (.inr ⟨kk,by rw[show n=(m:Int) by omega]⟩) (by omega) hcap w
 have hres:(Value.slice (if cap=0 then a else a.map (·.add (0*i.size))) (m-0) (cap-0))=.slice a m cap:=by
  rw[Nat.zero_mul,hadd];split<;>simp
 rw[hres] at hrun
 refine jW rfl (v:=.slice a m cap) (w':=w) ?_ ?_
 ·refine fW (f:=Next.value) (s:=Instr.sliceAt T ((E l).eval x) (Option.map (E l).eval none) (Option.map (E l).eval (some y)) (Option.map (E l).eval none)) ?_
  rw[hx.eq];simp only[Option.map_none,Option.map_some,hy.eq];exact hrun
 ·rw[gO]
  have hp2:(f1++(f2++g)).Perm (f++g):=by rw[← aT];exact hperm.append_right g
  have hmem:∀ b,b∈f1++g->b∈f++g:=fun b hb=>hp2.mem_iff.1 (by rcases aP.1 hb with h|h<;>simp [h])
  have hn2:(f1++g).Nodup:=by
   have:=hp2.symm.nodup hnd
   rw[bJ] at this ⊢
   exact⟨this.1,(bJ.1 this.2.1).2.1,fun a ha b hb=>this.2.2 a ha b (by simp [hb])⟩
  refine h _ _ ⟨hb,f1++g,hn2,fun b hb=>hl b (hmem b hb),f1,g,rfl,?_,hsep.mono (fun b hb _=>⟨fun hm=>hb (hmem b hm),rfl⟩) (aM _) (fun _ _=>rfl)⟩
  exact cB.ow_mono (hnew _ rfl) (fun _ _=>rfl) (fun b hb _=>⟨fun hm=>hb (hmem b hm),rfl⟩)
instance {V:Type}{iα:cB V}{T k by_:Nat}{sv:Value}{kk:IntKind}{n:Int}{m:Nat}{xs:List V}[hx:Ev l x sv][hy:Ev l y (.int kk n)][hm:fJ n m][hT:Sl P T k by_][hp:cQ (List V) bA I [sv] xs Y] :
  mW (WL P ops Q w0 (⟨some d,.slice T x none (some y) none,ty,pos,after,none⟩::rest) l I) (0<=n/\n<=xs.length) (fun sv'=>WL P ops Q w0 rest (l.set d sv') (.ow [sv'] (xs.take m)::Y)):=⟨fun s h=>aLb s h⟩
instance (priority:=900) {β:Type}{iβ:cB β}{T m:Nat}{sv:Value}{xs:List (List β)}[h:Ev l x (.pointer (some (dW sv (m:Int) 1)))][hT:Sc P T][hp:cQ (List (List β)) bA I [sv] xs Y] :
  bN0 (WL P ops Q w0 (⟨some d,.load T x,ty,pos,after,none⟩::rest) l I) (m<xs.length) (fun v=>WL P ops Q w0 rest (l.set d v) (.ow [sv] (jF.mk xs m [v])::.ow [v] (xs.getD m default)::Y)):=⟨fun s hw=>
 aAo (un:=bCg) sv m (mM s) fun v _=>by
  refine vM (v:=v) (hd:=⟨rfl⟩) ?_ (hw v)
  have:kW (.ow [sv] (jF.mk xs m [v])::.ow [v] (xs.getD m default)::Y) (dW sv (m:Int) 1) [v]:=kW.hole (hk:=(⟨rfl⟩:iI (List β) 1))
  exact aBm (hp:=this)⟩
instance {V:Type}{iα:cB V}{T k by_:Nat}{j:Int}{m:Nat}{sv:Value}{xs:List V}{ec:List Value}{kk:IntKind}[h:Ev l x sv][hn:Ev l y (.int kk j)][hm:fJ j m][hT:Sl P T k by_][hr:dZ (jF V) lX I [sv] (jF.mk xs m ec)] :
  mI P l I (.indexAddr T x y) ty (.pointer (some (dW sv (m:Int) k))) (0<=j):=⟨fun s w0=>by
 have e:j=(m:Int):=by have:=hm.eq;omega
 obtain ⟨el,inf,z,ht,hinf,hk,_⟩:=hT.ex
 refine fT (s:=Instr.indexAt T sv (.int kk (m:Int))) (fun o ho _=>by unfold execOp;rw[ho];simp only[h.eq,hn.eq,e]) (fun w hs=>?_)
 obtain ⟨b,cap,hsv,hi,_⟩:=hs.rd (hr:=hr)
 obtain rfl:sv=_:=by simpa using hsv
 simp only at hi
 have h1:(m:Int)<(xs.length:Int):=by omega
 simp [Instr.indexAt,asIntOf,run_underlying ht,sizeOf,typeInfo,hinf,hk,hi,dW]⟩
instance {V:Type}{iα:cB V}{T k kk n:Nat}{sv:Value}{xs:List V}{i:Nat}{ec vc:List Value}[hx:Ev l x (.pointer (some (dW sv (i:Int) k)))][hy:Ev l y v][hc:Cs I v vc][hT:Sz P T kk]
  [hb:cQ (jF V) lX I [sv] (jF.mk xs i ec) Y] [hsz:iI V k] [hsp:Sp ec 0 vc vc] [hl:qX vc n] [hk:wH n kk] :
  nD (WL P ops Q w0 (⟨none,.store T x y,ty,pos,after,none⟩::rest) l I) (WL P ops Q w0 rest l (.ow [sv] (jF.mk xs i vc)::Y)):=⟨fun h=>
 aCu (m:=0) (hx:=⟨by rw[hx.eq];simp [Addr.add]⟩) (hl.eq.trans hk.eq) h⟩
instance {β:Type}{iβ:cB β}{T m:Nat}{sv:Value}{xs:List (List β)}[h:Ev l x (.pointer (some (dW sv (m:Int) 1)))][hT:Sc P T][hp:dZ (List (List β)) bA I [sv] xs] :
  bN7 (WL P ops Q w0 (⟨some d,.load T x,ty,pos,after,none⟩::rest) l I) (m<xs.length) (fun a c=>WL P ops Q w0 rest (l.set d (.slice a (xs.getD m default).length c)) I):=⟨fun s hw w hs=>by
 obtain ⟨a,cap,b,off,p,c,s',rfl,_,_,hca,hpl,he,hrd⟩:=gV (hs.rd (hr:=hp)) (n:=(m:Int)) (by omega) (by omega)
 obtain ⟨a',cap',rfl,_⟩:=hrd
 have hget:xs[(m:Int).toNat]'(by omega)=xs.getD m default:=by
  simp only[bH];rw[aC,aG s];rfl
 rw[hget] at hca
 have h0:=hca.part 0 (by simp)
 simp only[Nat.add_zero,dO] at h0
 have he':dW (.slice (some ⟨b,off,none⟩) xs.length cap) (m:Int) 1=⟨b,off+p.length,none⟩:=he
 refine jW (v:=.slice a' (xs.getD m default).length cap') (w':=w) rfl (fW (f:=Next.value) (s:=Instr.loadAt T ((E l).eval x)) ?_) ?_
 ·rw[h.eq,he'];simp [Instr.loadAt,Instr.sureAddr,loadVar,Sem.run_bind,hT.agg,load,Sem.run,h0]
 ·rw[gO];exact hw _ _ w hs⟩
instance {T k b n c:Nat}{a:Option Addr}[h:Ev l x (.slice a n c)][ht:Sl P T k b]:pK P l I (.call { callee:=.builtin .len,args:=#[x],argTypes:=#[T] }) ty (.int .i64 n):=⟨fun w0=>by
 obtain ⟨e,i,z,ht,_⟩:=ht.ex
 refine fT (s:=Builtin.len_ #[T] ty #[.slice a n c]) (fun o ho h2=>?_) (fun w hs=>?_)
 ·unfold execOp
  rw[ho]
  simp [resolve,invoke,builtin,h.eq,h2,Pure.pure,Bind.bind,Sem.bind]
 ·simp [Builtin.len_,run_underlying ht,goInt]⟩
theorem aWx{V:Type}{iα:cB V}{c:Code}(cs:List Value){z:V}[h:fK V iα I cs z](hw:WC P Q w0 c l (.rd cs z::I)):WC P Q w0 c l I:=fun w hs=>hw w (by
 obtain ⟨hbel,F,hnd,hl,hsep⟩:=hs
 exact⟨hbel,F,hnd,hl,[],F,rfl,⟨rfl,h.get hsep⟩,hsep⟩)
end inst
end Go.Eng
namespace Go.Eng
open Go Go.RowKit
variable {P:Program} {ops:Array Oper} {Q:Exit->Act->World->Prop} {w0:World} {rest:List Oper} {l l':List Value} {I Γb Y Ε:List Atom} {ty:TypeId} {v:Value} {pos:String} {after:Array Edge} {d:Nat} {x y:Operand}
instance {T k b n c:Nat}{a:Option Addr}[h:Ev l x (.slice a n c)][ht:Sl P T k b]:pK P l I (.call { callee:=.builtin .cap,args:=#[x],argTypes:=#[T] }) ty (.int .i64 c):=⟨fun w0=>by
 obtain ⟨e,i,z,ht,_⟩:=ht.ex
 refine fT (s:=Builtin.cap_ #[T] ty #[.slice a n c]) (fun o ho h2=>?_) (fun w hs=>?_)
 ·unfold execOp
  rw[ho]
  simp [resolve,invoke,builtin,h.eq,h2,Pure.pure,Bind.bind,Sem.bind]
 ·simp [Builtin.cap_,run_underlying ht,goInt]⟩
instance (priority:=1200) {T k b:Nat}{kk:IntKind}{n:Int}[hx:Ev l x (.slice none 0 0)][hy:Ev l y (.int kk n)][hn:fJ n 0][hT:Sl P T k b]:mI P l I (.slice T x none (some y) none) ty (.slice none 0 0) (n=0):=⟨fun h0 w0=>by
 subst h0
 obtain ⟨e,i,z,ht,hi,_⟩:=hT.ex
 refine fT (s:=Instr.sliceAt T (.slice none 0 0) none (some (.int kk 0)) none) (fun o ho h2=>?_) (fun w hs=>?_)
 ·unfold execOp
  rw[ho]
  simp [hx.eq,hy.eq]
 ·exact lQ (lo:=0) (hi:=0) ht hi (.inl ⟨rfl,rfl⟩) (.inr ⟨kk,rfl⟩) (by omega) (by omega) w⟩
theorem aFr(zs:List Value)(n:Nat)(h:0<zs.length):(Builtin.zeroCells zs.toArray n).toList=(List.replicate n zs).flatten:=by
 rw[← rI zs zs.length n n rfl h (aM _)]
 refine(bE ?_).symm
 rw[bZ,size_zeroCells]
 simp
theorem xQ{w:World}(t u ty e:TypeId)(i:TypeInfo)(z:Value)(ht:P.underlying t=some (.slice e))(hu:P.underlying u=some (.int .i64))(hi:P.info? e=some i)(hz:i.zero=some z)
  (n:Nat) (h0:0<n) (hsz:0<i.size) (h63:(n:Int)<=9223372036854775807) (h48:n*i.bytes<=281474976710656) :
  (Builtin.append_ #[t,u] ty #[.slice none 0 0,.int .i64 n]).run P w =
   .ok (.slice (some ⟨w.heap.size,0,none⟩) n (grownCap w n 0 e)) (w.drew.alloc (.cells (Builtin.zeroCells z.cells n++Builtin.zeroCells z.cells (grownCap w n 0 e-n)) e)):=by
 have hn:n≠0:=by omega
 have hw:IntKind.i64.wrap (n:Int)=n:=IntWalk.i64_in _ (by omega)
 have hs:¬ n*i.size=0:=by
  have:=Nat.mul_pos h0 hsz
  omega
 have h63':¬ (9223372036854775807<(n:Int)):=by omega
 have hneg:¬ ((n:Int)<0):=by omega
 have h48':¬ (281474976710656<Builtin.nextslicecap n 0*i.bytes):=by rw[nextslicecap_zero h0];omega
 have h48n:¬ ((n:Int)*(i.bytes:Int)>281474976710656):=by
  have:((n*i.bytes:Nat):Int)<=281474976710656:=Int.ofNat_le.2 h48
  rw[Int.natCast_mul] at this;omega
 simp [Builtin.append_,run_underlying ht,run_underlying hu,sizeOf,typeInfo,zeroValue,hi,hz,hn,h63',h48',h48n,hw,hs,asInt,asIntOf,hneg,Question.forced,run_firstCells_none,newRow,grownCap]
theorem nW{T U:TypeId}{x y:Operand}{ov tv:Value}[hx:Ev l x ov][hy:Ev l y tv]{w w':World}(hr:(Builtin.append_ #[T,U] ty #[ov,tv]).run P w=.ok v w') :
  (execOp (E l).eval ⟨some d,.call { callee:=.builtin .append,args:=#[x,y],argTypes:=#[T,U] },ty,pos,after,none⟩).run P w=.ok (.value v) w':=by
 have:execOp (E l).eval ⟨some d,.call { callee:=.builtin .append,args:=#[x,y],argTypes:=#[T,U] },ty,pos,after,none⟩=(do pure (.value (← Builtin.append_ #[T,U] ty #[ov,tv])):Sem Next):=by
  unfold execOp
  simp [resolve,invoke,builtin,hx.eq,hy.eq,Pure.pure,Bind.bind,Sem.bind]
 rw[this]
 exact fW hr
theorem zI{T U k by_:Nat}{x y:Operand}{n:Int}{m:Nat}{V:Type}{iα:cB V}{zs:List Value}{z:V}[ho:Op_ P T (List V) bA][hx:Ev l x (.slice none 0 0)][hy:Ev l y (.int .i64 n)][hm:fJ n m][hT:Sl P T k by_][hU:aM6 P U][hzs:SlZ P T zs][hz:Zo V zs z]
  (hn:1<=n) (hb:n*by_<=140737488355328) (h:∀ sv,WL P ops Q w0 rest (l.set d sv) (.ow [sv] (List.replicate m z)::I)) :
  WL P ops Q w0 (⟨some d,.call { callee:=.builtin .append,args:=#[x,y],argTypes:=#[T,U] },ty,pos,after,none⟩::rest) l I:=by
 intro w hs
 obtain ⟨e,i,z',ht,hi,hk,hbb,hz',hzk,hpos⟩:=hT.ex
 have hzc:z'.cells=zs.toArray:=hzs.eq ht hi hz'
 have hsz:zs.length=cB.sz V:=cB.rd_len (x:=z) (cB.ow_rd (ok':=fun _=>True) (hz.ow (fun _=>True) w) (fun _ _=>trivial) (fun _ _=>trivial))
 have hkk:k=cB.sz V:=by rw[← hsz,← hzk,hzc];simp
 have hnm:n=(m:Int):=by rw[← hm.eq,Int.toNat_of_nonneg (by omega)]
 subst hnm
 have hbn:m*by_<=140737488355328:=Int.ofNat_le.1 (by rw[Int.natCast_mul];exact hb)
 have hmm:m<=140737488355328:=Nat.le_trans (Nat.le_mul_of_pos_right _ hpos) hbn
 have hr:=xQ (P:=P) (w:=w) T U ty e i z' ht hU.eq hi hz' m (by omega) (by rw[hk,hkk];exact cB.pos) (by omega) (by rw[hbb];omega)
 refine jW (v:=_) (w':=_) rfl (nW hr) ?_
 rw[gO]
 refine h _ _ ?_
 have hge:=grownCap_ge w m 0 e
 refine Sat.step (Y:=[]) (Δ':=[.ow _ _]) hs ⟨rfl,rfl,rfl,by simp,(by first|exact aM _|exact cW _ _)⟩ (fun f ok hf hnd _=>⟨fun b hb _=>Below.heap_alloc w.drew _ _ hb,[w.heap.size],by simp,fun b hb=>.inr (by simp at hb;omega),fun ok' _=>?_⟩)
 refine⟨[w.heap.size],[],rfl,?_,rfl⟩
 show cB.ow _ _ _ _ _
 rw[fL]
 refine .inr ⟨w.heap.size,grownCap w m 0 e,_,e,[],(List.replicate m zs).flatten,by simp,rfl,heap_alloc_new w.drew _,by simpa using hge,grownCap_le_maxLen w _ 0 e (by simp only[maxLen];omega),by simp;omega,?_,?_,jA.replicate (hz.ow _ _) _⟩
 ·simp only[Array.size_append,size_zeroCells,hzk,hkk]
  rw[← dE]
  refine Nat.le_of_eq ?_
  congr 1
  omega
 ·rw[Array.toList_append,hzc,aFr _ _ (by rw[hsz];exact cB.pos),cA]
  have hl:((List.replicate m zs).flatten).length=m*cB.sz V:=by simp [hsz]
  rw[← hl]
  exact List.take_left
instance {T U k by_:Nat}{x y:Operand}{n:Int}{m:Nat}{V:Type}{iα:cB V}{zs:List Value}{z:V}[ho:Op_ P T (List V) bA][hx:Ev l x (.slice none 0 0)][hy:Ev l y (.int .i64 n)][hm:fJ n m][hT:Sl P T k by_][hU:aM6 P U][hzs:SlZ P T zs][hz:Zo V zs z] :
  mW (WL P ops Q w0 (⟨some d,.call { callee:=.builtin .append,args:=#[x,y],argTypes:=#[T,U] },ty,pos,after,none⟩::rest) l I) (1<=n/\n*by_<=140737488355328) (fun sv=>WL P ops Q w0 rest (l.set d sv) (.ow [sv] (List.replicate m z)::I)):=⟨fun s h=>zI s.1 s.2 h⟩
theorem kK.shmap{V:Type}[cB V]{ok:Nat->Prop}{w:World}:∀ {cells:List Value} {xs:List V},kK ok w cells (xs.map Sh.mk)->kK ok w cells xs
 | _,[],h=>h
 | _,_::_,⟨c,d,e,h,h'⟩=>⟨c,d,e,h,kK.shmap h'⟩
theorem aVu{V:Type}[cB V]{ok:Nat->Prop}{w:World}{cs:List Value}{xs:List V}(h:cB.rd ok w cs (xs.map Sh.mk:List (Sh V))):cB.rd ok w cs xs:=by
 obtain ⟨a,cap,h1,h2,h3,h4,h5⟩:=h
 simp only[aY] at h1 h2 h3 h4 h5
 exact⟨a,cap,h1,h2,h3,h4,fun h0=>by
  obtain ⟨b,off,cells,e1,e2,e3,e4⟩:=h5 h0
  exact⟨b,off,cells,e1,e2,e3,e4.shmap⟩⟩
class aXl(I:List Atom)(gs:List (List Value))(Y:outParam (List Atom)):Prop where
 run:∀ {w0 w:World},Sat w0 w I->Sat w0 w Y
instance:aXl I [] I:=⟨fun h=>h⟩
instance (priority:=500) {g:List Value}{gs:List (List Value)}[h:aXl I gs Ε]:aXl I (g::gs) Ε:=⟨h.run⟩
class ShL(V:Type)[cB V](I:List Atom)(gs:List (List Value))(ys:outParam (List V)):Prop where
 run:xH I gs (ys.map Sh.mk) I
instance {V:Type}[cB V]:ShL V I [] []:=⟨xH.nil⟩
instance {V:Type}{iα:cB V}{g:List Value}{gs:List (List Value)}{y:V}{ys:List V}[h:fK V iα I g y][h':ShL V I gs ys]:ShL V I (g::gs) (y::ys):=⟨xH.cons lC h'.run⟩
instance (priority:=300) {V:Type}{iα:cB V}{T k by_ N:Nat}{ps:List (Nat×Operand)}{groups:List (List Value)}{ys:List V}{len:Nat}[hO:Op_ P T (List V) bA][hT:Sl P T k by_][hp0:oW I l k 0 ps groups][hf:aXl I groups Y][hp:oW Y l k 0 ps groups][hk:iI V k][ho:ShL V Y groups ys][hl:qX ys len][hn:wH len N] :
  mW (WL P ops Q w0 (⟨some d,.buildSlice T N ps.toArray,ty,pos,after,none⟩::rest) l I) (N*k<=16777216) (fun sv=>WL P ops Q w0 rest (l.set d sv) (.rd [sv] ys::Y)):=⟨fun s h w hs=>by
 refine oQ (V:=Sh V) (k:=k) (hT:=hT) (hp:=hp) ho.run (by rw[hk.eq];rfl) (by rw[aY,← hn.eq,← hl.eq]) s (fun sv w' hs'=>?_) w (hf.run hs)
 refine h sv w' ?_
 obtain ⟨hb,F,hnd,hlt,f,g,e,h1,h2⟩:=hs'.share
 exact⟨hb,F,hnd,hlt,f,g,e,⟨h1.1,aVu h1.2⟩,h2⟩⟩
end Go.Eng
namespace Go.Eng
open Go Go.RowKit
set_option synthInstance.maxHeartbeats 400000
set_option synthInstance.maxSize 1000
class aSg(a b c:List Value)(o:outParam (List Value)):Prop where
 eq:a++b++c=o
instance {c:List Value}:aSg [] [] c c:=⟨by simp⟩
instance (priority:=900) {x:Value}{b c o:List Value}[h:aSg [] b c o]:aSg [] (x::b) c (x::o):=⟨by have:=h.eq;simpa using this⟩
instance (priority:=1500) qA.nilr{I Y:List Atom}{V:Type}{iα:cB V}[h:qA I Y]:qA I (@Atom.rd (List V) bA [.slice none 0 0] []::Y):=⟨fun hs=>by
 obtain ⟨G,H,hGH,hD⟩:=h.get hs
 exact⟨G,H,hGH,[],G,rfl,⟨rfl,none,0,rfl,by simp,by simp [maxLen],by simp,fun h=>by simp at h⟩,hD⟩⟩
section q
variable {P:Program} {ops:Array Oper} {Q:Exit->Act->World->Prop} {w0:World} {rest:List Oper} {l l':List Value} {I Γb Y Ε:List Atom} {ty:TypeId} {v:Value} {pos:String} {after:Array Edge} {d:Nat}
theorem aI6{f:Fn}{xs ys:List Operand}{vs us:List Value}[hx:EvL l xs vs][hy:EvL l ys us]:Pu P w0 l I (.makeFunc f xs.toArray ys.toArray) ty (.func f vs.toArray us.toArray):=fun w _ o ho _=>by
 have h1:Array.map (E l).eval xs.toArray=vs.toArray:=by simp [hx.eq]
 have h2:Array.map (E l).eval ys.toArray=us.toArray:=by simp [hy.eq]
 simp only[execOp,ho,h1,h2]
 rfl
instance {f:Fn}{xs ys:List Operand}{vs us:List Value}[hx:EvL l xs vs][hy:EvL l ys us]:pK P l I (.makeFunc f xs.toArray ys.toArray) ty (.func f vs.toArray us.toArray):=⟨fun _=>aI6⟩
theorem aS4{x:Operand}{xs:List Operand}{vs fs cs as:List Value}{f:FuncId}{ts:Array TypeId}{dst:Option Tmp}{g:Option (Nat×Bool)}[hv:Ev l x (.func (.func f) fs.toArray cs.toArray)][hx:EvL l xs vs][ha:aSg fs vs cs as][hf:bS P f](w:World) :
  (execOp (E l).eval ⟨dst,.call { callee:=.value x,args:=xs.toArray,argTypes:=ts },ty,pos,after,g⟩).run P w=.ok (.enter f as.toArray) w:=by
 have:=hf.run as.toArray w
 simp only[execOp,resolve,Sem.run_bind]
 have he:Array.map (E l).eval xs.toArray=vs.toArray:=by simp [hx.eq]
 rw[he,hv.eq]
 have h3:fs++(vs++cs)=as:=by rw[← ha.eq];simp
 simpa [Deferred.ofValue,invoke,h3] using this
theorem aZf{x:Operand}{f:FuncId}{xs:List Operand}{vs fs cs as:List Value}{ts:Array TypeId}{ρ:Type}{r:ρ->Value}{Γ':ρ->List Atom}[hv:Ev l x (.func (.func f) fs.toArray cs.toArray)][hx:EvL l xs vs][ha:aSg fs vs cs as][hf:bS P f](hc:CJ P f as w0 I r Γ')
  (h:∀ p,WL P ops Q w0 rest (l.set d (r p)) (Γ' p)):WL P ops Q w0 (⟨some d,.call { callee:=.value x,args:=xs.toArray,argTypes:=ts },ty,pos,after,none⟩::rest) l I:=by
 intro w hs
 refine wpList_plain rfl fun K hK=>?_
 unfold Oper.wp
 rw[aS4 (fs:=fs) (cs:=cs) w,Oper.upon_enter]
 refine(hc w hs).mono ?_
 rintro e w' ⟨p,rfl,hs'⟩
 show K ((E l).put (some d) (r p)) w'
 rw[gO]
 exact hK _ _ (h p w' hs')
class bNp(v:Value)(f:outParam FuncId)(fs cs:outParam (List Value)):Prop where
 eq:v=.func (.func f) fs.toArray cs.toArray
instance {f:FuncId}{fs cs:List Value}:bNp (.func (.func f) fs.toArray cs.toArray) f fs cs:=⟨rfl⟩
instance {n:Tmp}{f:FuncId}{xs:List Operand}{vs fs cs as:List Value}{ts:Array TypeId}{S:Prop}{ρ:Type}{r:ρ->Value}{Γ':ρ->List Atom}[hv:Ev l (.tmp n) v][hk:bNp v f fs cs][hx:EvL l xs vs][ha:aSg fs vs cs as][hc:bQ P f as I S ρ r Γ'][hf:bS P f] :
  bDd (WL P ops Q w0 (⟨some d,.call { callee:=.value (.tmp n),args:=xs.toArray,argTypes:=ts },ty,pos,after,none⟩::rest) l I) S ρ (fun p=>WL P ops Q w0 rest (l.set d (r p)) (Γ' p)):=
 ⟨fun s h=>aZf (fs:=fs) (cs:=cs) (hv:=⟨hv.eq.trans hk.eq⟩) (hc.run s w0) h⟩
theorem aX0{Q:Exit->Act->World->Prop}{V:Type}{iα:cB V}{e:Exit}(sv:Value){x:V}[hp:cQ V iα I [sv] x Y](h:WQ Q w0 e l (.rd [sv] x::Y)):WQ Q w0 e l I:=fun w hs=>h w (hs.perm hp.perm).share
theorem wW{V:Type}{iα:cB V}(sv:Value){x:V}[hp:cQ V iα I [sv] x Y](h:Ent w0 (.rd [sv] x::Y) Ε):Ent w0 I Ε:=fun w hs=>h w (hs.perm hp.perm).share
end q
instance {V:Type}[Inhabited V]:Inhabited (Sh V):=⟨⟨default⟩⟩
instance {V:Type}[cB V]{k:Nat}[h:iI V k]:iI (Sh V) k:=⟨h.eq⟩
theorem kK.sh{β:Type}[cB β]{ok:Nat->Prop}{w:World}:∀ {cells:List Value} {ys:List β},kK ok w cells ys->jA ok w [] cells (ys.map Sh.mk)
 | _,[],h=>⟨rfl,h⟩
 | _,_::_,⟨c,d,e,h,h'⟩=>⟨[],[],c,d,rfl,e,⟨rfl,h⟩,kK.sh h'⟩
section sh
variable {P:Program} {ops:Array Oper} {Q:Exit->Act->World->Prop} {w0:World} {rest:List Oper} {l l':List Value} {I Γb Y Ε:List Atom} {ty:TypeId} {v:Value} {pos:String} {after:Array Edge} {d:Nat}
theorem vO{T k by_:Nat}{x y:Operand}{ov tv:Value}{β:Type}{iβ:cB β}{xs:List (Sh β)}{ys:List β}[hx:Ev l x ov][hy:Ev l y tv][hT:Sl P T k by_][h1:cQ (List (Sh β)) bA I [ov] xs Y][h2:fK (List β) bA Y [tv] ys]
  (hk:k=cB.sz β) (hbytes:(xs.length+ys.length)*by_<=140737488355328) (h:∀ sv,WL P ops Q w0 rest (l.set d sv) (.ow [sv] (xs++ys.map Sh.mk)::Y)) :
  WL P ops Q w0 (⟨some d,.call { callee:=.builtin .append,args:=#[x,y],argTypes:=#[T,T] },ty,pos,after,none⟩::rest) l I:=by
 intro w hs
 have hs1:Sat w0 w ([.ow [ov] xs]++Y):=hs.perm h1.perm
 obtain ⟨hb,F,hn,hl,f,g,rfl,hf,hrest⟩:=hs1
 obtain ⟨a,c,hc,_,_,_,hrd⟩:=h2.get hrest
 simp only[bR,and_true] at hc
 subst hc
 obtain ⟨news,hsrc,hyo⟩:∃ news,(0<(ys.map Sh.mk).length->∃ b off,a=some (⟨b,off,none⟩:Addr)/\gM w b off news)/\jA (·∉f++g) w [] news (ys.map Sh.mk):=by
  by_cases h0:0<ys.length
  ·obtain ⟨b,off,cells,rfl,_,hca,hr⟩:=hrd h0
   exact⟨cells,fun _=>⟨b,off,rfl,hca⟩,kK.sh hr⟩
  ·have:ys=[]:=dG (by omega)
   subst this
   exact⟨[],by simp,rfl,rfl⟩
 obtain ⟨v',w',hr,ho,hsame,fn,hfn,hnew,hrep⟩:=oA (P:=P) (T:=T) (ty:=ty) (c:=c) (ys:=ys.map Sh.mk) (show k=cB.sz (Sh β) from hk) hf hsrc hyo (by simpa using (bJ.1 hn).1) (fun b hb hok=>hok (by simp at hb;simp [hb])) (by rw[aY];exact hbytes)
 rw[aY] at hr
 refine jW rfl (mB hr) ?_
 rw[gO]
 refine h _ _ ?_
 exact Sat.step' (Δ':=[.ow [v'] (xs++ys.map Sh.mk)]) (I:=Y) hb hn hl hrest ho hsame fn hfn
  (fun b hb=>(hnew b hb).imp (fun h=>by simpa using h) id) (fun ok' hok'=>⟨fn,[],by simp,hrep ok' hok',rfl⟩)
instance (priority:=1200) {T k by_:Nat}{x y:Operand}{ov tv:Value}{β:Type}{iβ:cB β}{xs:List (Sh β)}{ys:List β}[hx:Ev l x ov][hy:Ev l y tv][hT:Sl P T k by_][h1:cQ (List (Sh β)) bA I [ov] xs Y][h2:fK (List β) bA Y [tv] ys][hk:iI β k] :
  mW (WL P ops Q w0 (⟨some d,.call { callee:=.builtin .append,args:=#[x,y],argTypes:=#[T,T] },ty,pos,after,none⟩::rest) l I) ((xs.length+ys.length)*by_<=140737488355328) (fun sv=>WL P ops Q w0 rest (l.set d sv) (.ow [sv] (xs++ys.map Sh.mk)::Y)):=⟨fun s h=>vO hk.eq s h⟩
theorem aH1{V β:Type}{iα:cB V}{iβ:cB β}{c:Code}(sv:Value)(hz:cB.sz V=cB.sz β)[hp:cQ (List V) bA I [sv] [] Y](h:WC P Q w0 c l (.ow [sv] ([]:List β)::Y)):WC P Q w0 c l I:=fun w hs=>by
 refine h w (gX.sat (fun {ok w F} hs=>?_) (hs.perm hp.perm))
 obtain ⟨f,g,e,h1,h2⟩:=hs
 refine⟨F,.refl _,f,g,e,?_,h2⟩
 have h1:=fL.1 h1
 refine fL.2 ?_
 rcases h1 with⟨a,b,c⟩|⟨g,cap,dV,e,G,cells,h1,h2,h3,h4,h5,h6,h7,h8,h9⟩
 ·exact .inl ⟨a,rfl,c⟩
 ·exact .inr ⟨g,cap,dV,e,G,cells,h1,h2,h3,by simp,h5,by simp,by rw[← hz];exact h7,by simpa using h8,h9⟩
theorem kK.unsh{β:Type}[cB β]{ok:Nat->Prop}{w:World}:∀ {cells:List Value} {ys:List β},kK ok w cells (ys.map Sh.mk)->kK ok w cells ys
 | _,[],h=>h
 | _,_::_,⟨c,d,e,h,h'⟩=>⟨c,d,e,h,kK.unsh h'⟩
theorem aO4{β:Type}[cB β]{ok:Nat->Prop}{w:World}{cs:List Value}{ys:List β}(h:cB.rd (V:=List (Sh β)) ok w cs (ys.map Sh.mk)):cB.rd (V:=List β) ok w cs ys:=by
 obtain ⟨a,cap,h1,h2,h3,h4,h5⟩:=h
 rw[aY] at h1 h2 h4 h5
 refine⟨a,cap,h1,h2,h3,h4,fun hp=>?_⟩
 obtain ⟨b,off,cells,e1,e2,e3,e4⟩:=h5 hp
 exact⟨b,off,cells,e1,e2,e3,kK.unsh e4⟩
theorem iN{β:Type}{iβ:cB β}(sv:Value){ys:List β}[hp:cQ (List (Sh β)) bA I [sv] (ys.map Sh.mk) Y](h:Ent w0 (.rd [sv] ys::Y) Ε):Ent w0 I Ε:=fun w hs=>by
 have h1:=(hs.perm hp.perm).share
 refine h w ?_
 obtain ⟨hb,F,hn,hl,f,g,rfl,hf,hrest⟩:=h1
 exact⟨hb,_,hn,hl,f,g,rfl,⟨hf.1,aO4 hf.2⟩,hrest⟩
theorem aS1{c:Code}(n b0:Nat){b:Nat}{k x y z:Value}[hv:Ev l (.tmp n) (.pointer (some ⟨b,0,none⟩))][hp:eO I b [k,x,y,z] Y](h:∀ (b':Nat) (x' y':Value),b'=b->x'=x->y'=y->WC P Q w0 c l I):WC P Q w0 c l I:=h _ _ _ rfl rfl rfl
end sh
structure Fv where
 v:Value
instance:Inhabited Fv:=⟨⟨.nilFunc⟩⟩
instance bQ1:cB Fv where
 sz:=1
 rd _ _ cs x:=cs=[x.v]/\x.v.oneCell'=true
 ow _ _ F cs x:=F=[]/\cs=[x.v]/\x.v.oneCell'=true
 pos:=by decide
 rd_len:=by rintro _ _ _ _ ⟨rfl,_⟩;rfl
 rd_one:=by rintro _ _ _ _ ⟨rfl,h⟩;simp [h]
 rd_mono:=fun h _=>h
 ow_mono:=fun h _ _=>h
 ow_rd:=fun h _ _=>h.2
 ow_lt:=by rintro _ _ _ _ _ ⟨rfl,_⟩ b hb;cases hb
section fv
variable {P:Program} {ops:Array Oper} {Q:Exit->Act->World->Prop} {w0:World} {rest:List Oper} {l l':List Value} {I Γb Y Ε:List Atom} {ty:TypeId} {v:Value} {pos:String} {after:Array Edge} {d:Nat}
theorem aMw{T:TypeId}{x:Operand}{sv:Value}{n:Int}{xs:List Fv}[h:Ev l x (.pointer (some (dW sv n 1)))][hT:Sc P T][hr:dZ (List Fv) bA I [sv] xs]
  (hi:0<=n/\n<xs.length):Pu P w0 l I (.load T x) ty (xs.getD n.toNat default).v:=
 fT (s:=Instr.loadAt T (.pointer (some (dW sv n 1)))) (fun o ho _=>by unfold execOp;rw[ho];simp only[h.eq]) (fun w hs=>by
  obtain ⟨a,cap,b,off,p,c,s,rfl,_,_,hca,hp,he,hrd⟩:=gV (hs.rd (hr:=hr)) hi.1 hi.2
  have hrd':c=[_]:=hrd.1
  subst hrd'
  have he':dW (.slice (some ⟨b,off,none⟩) xs.length cap) n 1=⟨b,off+p.length,none⟩:=he
  have:=hca.part 0 (by simp)
  simp only[Nat.add_zero,dO] at this
  rw[he',aC,aG (by omega),aZ]
  simp [Instr.loadAt,Instr.sureAddr,loadVar,Sem.run_bind,hT.agg,load,Sem.run,this])
instance {T:TypeId}{x:Operand}{sv:Value}{n:Int}{m:Nat}{xs:List Fv}[h:Ev l x (.pointer (some (dW sv n 1)))][hm:fJ n m][hT:Sc P T][hr:dZ (List Fv) bA I [sv] xs]:mI P l I (.load T x) ty (xs.getD m default).v (0<=n/\n<xs.length):=⟨fun h _=>hm.eq▸aMw h⟩
end fv
end Go.Eng
namespace Go.Eng
open Go Go.RowKit
set_option synthInstance.maxHeartbeats 400000
set_option synthInstance.maxSize 1000
section r
variable {P:Program} {ops:Array Oper} {Q:Exit->Act->World->Prop} {w0:World} {rest:List Oper} {l l':List Value} {I Γb Y Ε:List Atom} {ty:TypeId} {v:Value} {pos:String} {after:Array Edge} {d:Nat}
end r
end Go.Eng
namespace Go.Eng
open Go Go.RowKit
set_option synthInstance.maxHeartbeats 400000
set_option synthInstance.maxSize 1000
section s
variable {P:Program} {w0:World} {l:List Value} {I:List Atom} {ty:TypeId}
def bLk(m:Nat):Nat:=2 ^ m
def bOc(a m:Nat):Nat:=a / 2 ^ m
section ops
variable {T U:TypeId} {x y:Operand} {a b m:Nat} {k:Int}
theorem aXv[hx:Ev l x (.int .u32 (a:Int))][hy:Ev l y (.int .u64 k)][hm:fJ k m](h:0<=k/\k<=31):Pu P w0 l I (.binOp .shr T x y U) ty (.int .u32 ((bOc a m:Nat):Int)):=
 fZ eR (fun w=>by
  have e:binOp .shr T (.int .u32 (a:Int)) (.int .u64 k)=Op.shift .shr .u32 a .u64 k:=rfl
  rw[e,shift_shr_any _ _ _ _ h.1]
  have hk:=hm.eq
  have h32:min k.toNat (IntKind.bits .u32)=m:=by
   show min k.toNat 32=m
   omega
  rw[h32,Sem.run_pure]
  congr 2)
theorem aXq[hx:Ev l x (.int .u32 1)][hy:Ev l y (.int .u64 k)][hm:fJ k m](h:0<=k/\k<=31):Pu P w0 l I (.binOp .shl T x y U) ty (.int .u32 ((bLk m:Nat):Int)):=
 fZ eR (fun w=>by
  have e:binOp .shl T (.int .u32 1) (.int .u64 k)=Op.shift .shl .u32 1 .u64 k:=rfl
  rw[e,shift_shl_any _ _ _ _ h.1]
  have hk:=hm.eq
  have h32:min k.toNat (IntKind.bits .u32)=m:=by
   show min k.toNat 32=m
   omega
  rw[h32,Sem.run_pure]
  congr 2
  rw[IntKind.wrap_u32']
  unfold bLk
  have h2:2 ^ m<2 ^ 32:=Nat.pow_lt_pow_right (by omega) (by omega)
  have h3:((2:Int) ^ m)=((2 ^ m:Nat):Int):=by simp
  rw[h3,Int.one_mul]
  generalize 2 ^ m=z at h2
  exact Int.emod_eq_of_lt (by omega) (by omega))
instance [hx:Ev l x (.int .u32 (a:Int))][hy:Ev l y (.int .u64 k)][hm:fJ k m]:mI P l I (.binOp .shr T x y U) ty (.int .u32 ((bOc a m:Nat):Int)) (0<=k/\k<=31):=⟨fun h _=>aXv h⟩
instance [hx:Ev l x (.int .u32 1)][hy:Ev l y (.int .u64 k)][hm:fJ k m]:mI P l I (.binOp .shl T x y U) ty (.int .u32 ((bLk m:Nat):Int)) (0<=k/\k<=31):=⟨fun h _=>aXq h⟩
end ops
end s
end Go.Eng
namespace Go.Eng
open Go Go.RowKit
set_option synthInstance.maxHeartbeats 400000
set_option synthInstance.maxSize 1000
structure U32:Type where
 n:Nat
instance:Inhabited U32:=⟨⟨0⟩⟩
instance bP4:cB U32 where
 sz:=1
 rd _ _ cs b:=cs=[.int .u32 (b.n:Int)]
 ow _ _ F cs b:=F=[]/\cs=[.int .u32 (b.n:Int)]
 pos:=by decide
 rd_len:=by rintro _ _ _ _ rfl;rfl
 rd_one:=by rintro _ _ _ _ rfl;simp [Value.oneCell']
 rd_mono:=fun h _=>h
 ow_mono:=fun h _ _=>h
 ow_rd:=fun h _ _=>h.2
 ow_lt:=by rintro _ _ _ _ _ ⟨rfl,_⟩ b hb;cases hb
section t
variable {P:Program} {ops:Array Oper} {Q:Exit->Act->World->Prop} {w0:World} {rest:List Oper} {l l':List Value} {I Γb Y Ε:List Atom} {ty:TypeId} {v:Value} {pos:String} {after:Array Edge} {d:Nat}
theorem aIn{T:TypeId}{x:Operand}{sv:Value}{n:Int}{xs:List U32}[h:Ev l x (.pointer (some (dW sv n 1)))][hT:Sc P T][hr:dZ (List U32) bA I [sv] xs]
  (hi:0<=n/\n<xs.length):Pu P w0 l I (.load T x) ty (.int .u32 ((xs.getD n.toNat default).n:Int)):=
 fT (s:=Instr.loadAt T (.pointer (some (dW sv n 1)))) (fun o ho _=>by unfold execOp;rw[ho];simp only[h.eq]) (fun w hs=>by
  obtain ⟨a,cap,b,off,p,c,s,rfl,_,_,hca,hp,he,hrd⟩:=gV (hs.rd (hr:=hr)) hi.1 hi.2
  have hrd':c=[.int .u32 _]:=hrd
  subst hrd'
  have he':dW (.slice (some ⟨b,off,none⟩) xs.length cap) n 1=⟨b,off+p.length,none⟩:=he
  have:=hca.part 0 (by simp)
  simp only[Nat.add_zero,dO] at this
  rw[he',aC,aG (by omega),aZ]
  simp [Instr.loadAt,Instr.sureAddr,loadVar,Sem.run_bind,hT.agg,load,Sem.run,this])
instance {T:TypeId}{x:Operand}{sv:Value}{n:Int}{m:Nat}{xs:List U32}[h:Ev l x (.pointer (some (dW sv n 1)))][hm:fJ n m][hT:Sc P T][hr:dZ (List U32) bA I [sv] xs]:mI P l I (.load T x) ty (.int .u32 ((xs.getD m default).n:Int)) (0<=n/\n<xs.length):=⟨fun h _=>hm.eq▸aIn h⟩
end t
end Go.Eng
namespace Go.Eng
open Go Go.RowKit
set_option synthInstance.maxHeartbeats 400000
set_option synthInstance.maxSize 1000
section u
variable {P:Program} {ops:Array Oper} {Q:Exit->Act->World->Prop} {w0:World} {rest:List Oper} {l l':List Value} {I Γb Y Ε:List Atom} {ty:TypeId} {v:Value} {pos:String} {after:Array Edge} {d:Nat} {x y:Operand}
theorem aC3{T n b:Nat}{m:Nat}{k:Int}{kk:IntKind}[h:Ev l x (.pointer (some ⟨b,1,none⟩))][hy:Ev l y (.int kk k)][hm:fJ k m][hT:ArT P T n](hk:0<=k/\k<n):Pu P w0 l I (.indexAddr T x y) ty (.pointer (some ⟨b,m+1,none⟩)):=by
 obtain ⟨e,i,ht,hi,hs,hn⟩:=hT.ex
 refine fT (s:=Instr.indexAt T (.pointer (some ⟨b,1,none⟩)) (.int kk k)) (fun o ho _=>by unfold execOp;rw[ho];simp only[h.eq,hy.eq]) (fun w hs'=>?_)
 have e1:=hm.eq
 simp [Instr.indexAt,asIntOf,run_underlying ht,sizeOf,typeInfo,hi,hs,hk.1,hk.2,Instr.sureAddr,e1,Addr.add,Nat.add_comm]
instance {T n b m:Nat}{k:Int}{kk:IntKind}[h:Ev l x (.pointer (some ⟨b,1,none⟩))][hy:Ev l y (.int kk k)][hm:fJ k m][hT:ArT P T n]:mI P l I (.indexAddr T x y) ty (.pointer (some ⟨b,m+1,none⟩)) (0<=k/\k<n):=⟨fun h _=>aC3 h⟩
theorem aFu{T b by_ n c:Nat}{m:Nat}{k:Int}{kk:IntKind}[h:Ev l x (.slice (some ⟨b,1,none⟩) n c)][hy:Ev l y (.int kk k)][hm:fJ k m][hT:Sl P T 1 by_](hk:0<=k/\k<n):Pu P w0 l I (.indexAddr T x y) ty (.pointer (some ⟨b,m+1,none⟩)):=by
 obtain ⟨el,inf,z,ht,hinf,hks,_⟩:=hT.ex
 refine fT (s:=Instr.indexAt T (.slice (some ⟨b,1,none⟩) n c) (.int kk k)) (fun o ho _=>by unfold execOp;rw[ho];simp only[h.eq,hy.eq]) (fun w hs'=>?_)
 have e1:=hm.eq
 have h1:k<(n:Int):=hk.2
 simp [Instr.indexAt,asIntOf,run_underlying ht,sizeOf,typeInfo,hinf,hks,hk.1,h1,Instr.sureAddr,e1,Addr.add,Nat.add_comm]
instance {T b by_ n c:Nat}{m:Nat}{k:Int}{kk:IntKind}[h:Ev l x (.slice (some ⟨b,1,none⟩) n c)][hy:Ev l y (.int kk k)][hm:fJ k m][hT:Sl P T 1 by_]:mI P l I (.indexAddr T x y) ty (.pointer (some ⟨b,m+1,none⟩)) (0<=k/\k<n):=⟨fun h _=>aFu h⟩
theorem aCw{T n b:Nat}{m:Nat}{kk:IntKind}{k:Int}[hx:Ev l x (.pointer (some ⟨b,1,none⟩))][hy:Ev l y (.int kk k)][hm:fJ k m][hT:ArT P T n](hk:0<=k/\k<=n):Pu P w0 l I (.slice T x none (some y) none) ty (.slice (some ⟨b,1,none⟩) m n):=by
 obtain ⟨e,i,ht,hi,hs1,hn2⟩:=hT.ex
 refine fT (s:=Instr.sliceAt T (.pointer (some ⟨b,1,none⟩)) none (some (.int kk k)) none) (fun o ho _=>by unfold execOp;rw[ho];simp only[Option.map_none,Option.map_some,hx.eq,hy.eq]) (fun w hs'=>?_)
 have e1:=hm.eq
 have h1:¬ n=0:=by omega
 have h2:m<=n:=by omega
 have h3:k=(m:Int):=by omega
 subst h3
 simp [Instr.sliceAt,Instr.sliceBounds,Instr.sureAddr,run_underlying ht,sizeOf,typeInfo,hi,h1,h2,Addr.add,asIntOf,Instr.sliceBound]
instance {T n b:Nat}{m:Nat}{kk:IntKind}{k:Int}[hx:Ev l x (.pointer (some ⟨b,1,none⟩))][hy:Ev l y (.int kk k)][hm:fJ k m][hT:ArT P T n]:mI P l I (.slice T x none (some y) none) ty (.slice (some ⟨b,1,none⟩) m n) (0<=k/\k<=n):=⟨fun h _=>aCw h⟩
class vE(G:Prop)(S:outParam Prop)(ρ σ:outParam Type)(G':outParam (ρ->Prop))(G'':outParam (σ->Prop)):Prop where
 run:S->(∀ p,G' p)->(∀ q,G'' q)->G
end u
end Go.Eng
namespace Go.Eng
open Go Go.RowKit
set_option synthInstance.maxHeartbeats 400000
set_option synthInstance.maxSize 1000
section s
variable {P:Program} {w0:World} {l:List Value} {I:List Atom} {ty:TypeId}
def wr(n:Int):Int:=IntKind.i64.wrap n
def xr(a b:Int):Int:=bits .xor .i64 a b
def bJa(a:Int)(m:Nat):Int:=a / 2 ^ min m 64
theorem oY{n:Int}(h:-9223372036854775808<=n/\n<=9223372036854775807):wr n=n:=IntWalk.i64_in _ (by omega)
theorem aJn(n:Int)(k:Nat)(hk:k<63):bits .and .i64 n ((2 ^ k-1:Nat):Int)=n % ((2 ^ k:Nat):Int):=by
 have hlt:2 ^ k<2 ^ 63:=Nat.pow_lt_pow_right (by omega) hk
 have hp:0<2 ^ k:=Nat.two_pow_pos k
 have h127:(BitVec.ofInt 64 ((2 ^ k-1:Nat):Int)).toNat=2 ^ k-1:=by
  rw[BitVec.toNat_ofInt]
  have h2:(2 ^ 63:Nat)=9223372036854775808:=by decide
  have h3:(2 ^ 64:Nat)=18446744073709551616:=by decide
  generalize 2 ^ k=z at *
  omega
 have key:(BitVec.ofInt 64 n &&& BitVec.ofInt 64 ((2 ^ k-1:Nat):Int)).toNat=(n % ((2 ^ 64:Nat):Int)).toNat % 2 ^ k:=by
  rw[BitVec.toNat_and,BitVec.toNat_ofInt,h127,Nat.and_two_pow_sub_one_eq_mod]
 show IntKind.i64.wrap ((BitVec.ofInt 64 n &&& BitVec.ofInt 64 ((2 ^ k-1:Nat):Int)).toNat:Nat)=n % ((2 ^ k:Nat):Int)
 rw[key]
 have h1:(n % ((2 ^ 64:Nat):Int)).toNat % 2 ^ k<2 ^ k:=Nat.mod_lt _ hp
 have h2:(2 ^ 63:Nat)=9223372036854775808:=by decide
 rw[IntWalk.i64_in _ (by generalize 2 ^ k=z at *;omega)]
 rw[Int.natCast_emod,Int.toNat_of_nonneg (Int.emod_nonneg _ (by decide))]
 exact Int.emod_emod_of_dvd _ (Int.natCast_dvd_natCast.2 (Nat.pow_dvd_pow 2 (by omega)))
section ops
variable {T U:TypeId} {x y:Operand} {a b:Int} {m:Nat} {k:Int} {yk:IntKind}
theorem aY4[hx:Ev l x (.int .i64 a)][hy:Ev l y (.int .i64 b)]:Pu P w0 l I (.binOp .add T x y U) ty (.int .i64 (wr (a+b))):=
 fZ eR (fun w=>by simp only[binOp,Op.intArith,ne_eq,not_true_eq_false,if_false];rfl)
theorem aZt[hx:Ev l x (.int .i64 a)][hy:Ev l y (.int .i64 b)]:Pu P w0 l I (.binOp .mul T x y U) ty (.int .i64 (wr (a*b))):=
 fZ eR (fun w=>by simp only[binOp,Op.intArith,ne_eq,not_true_eq_false,if_false];rfl)
theorem bAb[hx:Ev l x (.int .i64 a)][hy:Ev l y (.int .i64 b)]:Pu P w0 l I (.binOp .xor T x y U) ty (.int .i64 (xr a b)):=
 fZ eR (fun w=>by rw[binOp_xor,intBits_xor,Sem.run_pure];rfl)
theorem aWg[hx:Ev l x (.int .i64 a)][hy:Ev l y (.int yk k)][hm:fJ k m](h:0<=k):Pu P w0 l I (.binOp .shr T x y U) ty (.int .i64 (bJa a m)):=
 fZ eR (fun w=>by
  have e:binOp .shr T (.int .i64 a) (.int yk k)=Op.shift .shr .i64 a yk k:=rfl
  rw[e,shift_shr_any _ _ _ _ h,hm.eq,Sem.run_pure]
  rfl)
theorem aS9[hx:Ev l x (.int .i64 a)][hy:Ev l y (.int .i64 255)]:Pu P w0 l I (.binOp .and T x y U) ty (.int .i64 (a % 256)):=
 fZ eR (fun w=>by
  rw[binOp_and,intBits_and,show(255:Int)=((2 ^ 8-1:Nat):Int) from rfl,aJn _ _ (by omega),Sem.run_pure]
  rfl)
theorem aXx[hx:Ev l x (.int .i64 a)][hy:Ev l y (.int .i64 1073741823)]:Pu P w0 l I (.binOp .and T x y U) ty (.int .i64 (a % 1073741824)):=
 fZ eR (fun w=>by
  rw[binOp_and,intBits_and,show(1073741823:Int)=((2 ^ 30-1:Nat):Int) from rfl,aJn _ _ (by omega),Sem.run_pure]
  rfl)
instance [hx:Ev l x (.int .i64 a)][hy:Ev l y (.int .i64 b)]:mI P l I (.binOp .xor T x y U) ty (.int .i64 (xr a b)) True:=⟨fun _ _=>bAb⟩
instance [hx:Ev l x (.int .i64 a)][hy:Ev l y (.int yk k)][hm:fJ k m]:mI P l I (.binOp .shr T x y U) ty (.int .i64 (bJa a m)) (0<=k):=⟨fun h _=>aWg h⟩
instance [hx:Ev l x (.int .i64 a)][hy:Ev l y (.int .i64 255)]:mI P l I (.binOp .and T x y U) ty (.int .i64 (a % 256)) True:=⟨fun _ _=>aS9⟩
instance [hx:Ev l x (.int .i64 a)][hy:Ev l y (.int .i64 1073741823)]:mI P l I (.binOp .and T x y U) ty (.int .i64 (a % 1073741824)) True:=⟨fun _ _=>aXx⟩
theorem addW[hx:Ev l x (.int .i64 a)][hy:Ev l y (.int .i64 b)]:mI P l I (.binOp .add T x y U) ty (.int .i64 (wr (a+b))) True:=⟨fun _ _=>aY4⟩
theorem mulW[hx:Ev l x (.int .i64 a)][hy:Ev l y (.int .i64 b)]:mI P l I (.binOp .mul T x y U) ty (.int .i64 (wr (a*b))) True:=⟨fun _ _=>aZt⟩
end ops
class U8T(P:Program)(T:TypeId):Prop where
 eq:P.underlying T=some (.int .u8)
theorem aSr{S T:TypeId}{x:Operand}{n:Nat}[hx:Ev l x (.int .u8 (n:Int))][hS:U8T P S][hT:aM6 P T](h:n<256):Pu P w0 l I (.convert S T x) ty (.int .i64 (n:Int)):=
 fT (s:=convert S T (.int .u8 (n:Int))) (fun o ho _=>by unfold execOp;rw[ho];simp only[hx.eq]) (fun w _=>by
  simp only[convert,Sem.run_bind,run_underlying hS.eq,run_underlying hT.eq,Result.andThen_ok,Conv.intToInt,Sem.run_pure]
  rw[IntWalk.i64_in _ (by omega)])
instance {S T:TypeId}{x:Operand}{b:UInt8}[hx:Ev l x (.int .u8 ((b.toNat:Nat):Int))][hS:U8T P S][hT:aM6 P T]:mI P l I (.convert S T x) ty (.int .i64 ((b.toNat:Nat):Int)) True:=⟨fun _ _=>aSr b.toNat_lt⟩
theorem aMk{T:TypeId}{x:Operand}{sv:Value}{n:Int}{xs:List UInt8}[h:Ev l x (.pointer (some (dW sv n 1)))][hT:Sc P T][hr:dZ (List UInt8) bA I [sv] xs]
  (hi:0<=n/\n<xs.length):Pu P w0 l I (.load T x) ty (.int .u8 ((((xs.getD n.toNat 0).toNat:Nat)):Int)):=
 fT (s:=Instr.loadAt T (.pointer (some (dW sv n 1)))) (fun o ho _=>by unfold execOp;rw[ho];simp only[h.eq]) (fun w hs=>by
  obtain ⟨a,cap,b,off,p,c,s,rfl,_,_,hca,hp,he,hrd⟩:=gV (hs.rd (hr:=hr)) hi.1 hi.2
  have hrd':c=[.int .u8 _]:=hrd
  subst hrd'
  have he':dW (.slice (some ⟨b,off,none⟩) xs.length cap) n 1=⟨b,off+p.length,none⟩:=he
  have:=hca.part 0 (by simp)
  simp only[Nat.add_zero,dO] at this
  rw[he',aC,aG (by omega),aZ]
  simp [Instr.loadAt,Instr.sureAddr,loadVar,Sem.run_bind,hT.agg,load,Sem.run,this])
instance {T:TypeId}{x:Operand}{sv:Value}{n:Int}{m:Nat}{xs:List UInt8}[h:Ev l x (.pointer (some (dW sv n 1)))][hm:fJ n m][hT:Sc P T][hr:dZ (List UInt8) bA I [sv] xs]:mI P l I (.load T x) ty (.int .u8 (((xs.getD m 0).toNat:Nat):Int)) (0<=n/\n<xs.length):=⟨fun h _=>hm.eq▸aMk h⟩
end s
attribute [irreducible] wr xr bJa
theorem dJ{w0:World}{I Y Ε:List Atom}{V:Type}{iα:cB V}(sv:Value){x:V}[hp:cQ V iα I [sv] x Y](h:Ent w0 (.rd [sv] x::Y) Ε):Ent w0 I Ε:=fun w hs=>h w (hs.perm hp.perm).share
theorem jA.toSh{β:Type}[cB β]{ok ok':Nat->Prop}{w:World}(ho:∀ b,ok b->ok' b):∀ {G:List Nat} {cells:List Value} {xs:List β},jA ok w G cells xs->(∀ b∈G,ok' b)->jA ok' w [] cells (xs.map Sh.mk)
 | _,_,[],h,_=>⟨rfl,h.2⟩
 | _,_,x::xs,⟨f,g,c,d,e,e',h,h'⟩,hG=>⟨[],[],c,d,rfl,e',⟨rfl,cB.ow_rd h ho (fun b hb=>hG b (by rw[e];exact List.mem_append_left _ hb))⟩,jA.toSh ho h' (fun b hb=>hG b (by rw[e];exact List.mem_append_right _ hb))⟩
theorem nP{w0:World}{I Y:List Atom}{β:Type}{iβ:cB β}(sv:Value){xs:List β}[hp:cQ (List β) bA I [sv] xs Y]:Ent w0 I (@Atom.ow (List (Sh β)) bA [sv] (xs.map Sh.mk)::Y):=by
 intro w hs
 obtain ⟨hb,F,hnd,hl,f,g,rfl,hA,hsep⟩:=hs.perm hp.perm
 have how:cB.ow (·∉f++g) w f [sv] xs:=hA
 rw[fL] at how
 rcases how with⟨h0,rfl,rfl⟩|⟨b,cap,dV,ee,G,cells,h0,rfl,h1,h2,h3,h4,h5,h6,h7⟩
 ·refine⟨hb,[]++g,hnd,hl,[],g,rfl,?_,hsep⟩
  show cB.ow (V:=List (Sh β)) _ w [] [sv] _
  rw[fL]
  exact .inl ⟨h0,rfl,rfl⟩
 ·have hp2:([b]++(G++g)).Perm ((b::G)++g):=by simp
  have hmem:∀ c,c∈[b]++g->c∈(b::G)++g:=fun c hc=>by
   rcases aP.1 hc with h|h
   ·exact List.mem_append_left _ (by rw[aO] at h;simp [h])
   ·exact List.mem_append_right _ h
  have hnd':=hnd
  rw[aA,List.nodup_cons,bJ] at hnd'
  have hn2:([b]++g).Nodup:=by
   rw[aA,aB,List.nodup_cons]
   exact⟨fun h=>hnd'.1 (List.mem_append_right _ h),hnd'.2.2.1⟩
  refine⟨hb,[b]++g,hn2,fun c hc=>hl c (hmem c hc),[b],g,rfl,?_,hsep.mono (fun c hc _=>⟨fun hm=>hc (hmem c hm),rfl⟩) (aM _) (fun _ _=>rfl)⟩
  show cB.ow (V:=List (Sh β)) _ w [b] [sv] _
  rw[fL]
  refine .inr ⟨b,cap,dV,ee,[],cells,by rw[aY];exact h0,rfl,h1,by rw[aY];exact h2,h3,by rw[aY];exact h4,h5,by rw[aY];exact h6,?_⟩
  refine h7.toSh (fun c hc hm=>hc (hmem c hm)) (fun c hc hm=>?_)
  rcases aP.1 hm with h|h
  ·rw[aO] at h
   exact hnd'.1 (by rw[← h];exact List.mem_append_left _ hc)
  ·exact hnd'.2.2.2 c hc c h rfl
theorem vJ{P:Program}{ops:Array Oper}{Q:Exit->Act->World->Prop}{w0:World}{rest:List Oper}{l:List Value}{I Y:List Atom}{β:Type}{iβ:cB β}(sv:Value){xs:List β}[hp:cQ (List β) bA I [sv] xs Y](h:WL P ops Q w0 rest l (@Atom.ow (List (Sh β)) bA [sv] (xs.map Sh.mk)::Y)):WL P ops Q w0 rest l I:=fun w hs=>h w (nP sv w hs)
abbrev eL(code:List UInt8):Type:={ p:Nat×Int // p.1<=code.length }
def dV{code:List UInt8}(vb:Value)(p:eL code):List Value:=[vb,.int .i64 (p.1.1:Int),.int .i64 p.1.2]
class yI(I:List Atom)(Y:outParam (List Atom)):Prop where
 sub:sR I Y
instance:yI [] []:=⟨sR.nil⟩
instance (priority:=2000) {I Y:List Atom}{code:List UInt8}{b:Nat}{vb:Value}{p:eL code}[h:yI I Y]:yI (.bk b (dV vb p)::I) Y:=⟨iW h.sub⟩
instance (priority:=500) {I Y:List Atom}{A:Atom}[h:yI I Y]:yI (A::I) (A::Y):=⟨oZ h.sub⟩
instance (priority:=50) {I:List Atom}:yI I I:=⟨sR.refl⟩
theorem aRv{P:Program}{Q:Exit->Act->World->Prop}{w0:World}{l:List Value}{I Γb:List Atom}[hm:qG P]{n:Nat}{ol:List Oper}(id:Nat)(bl:List Bool)(lt:List Nat)[hk:yI I Γb](h:WA P ol.toArray Q w0 lt Γb n bl l I)(hn:ol.length=n:=by rfl)(hbl:List.replicate n false=bl:=by rfl):WC P Q w0 (.region id ol.toArray true) l I:=
 mE lt Γb (fun _ hs=>hs.sub hk.sub) hn hbl h
theorem wN{P:Program}{Q:Exit->Act->World->Prop}{w0:World}{l:List Value}{bl:List Bool}{I Γb:List Atom}[hm:qG P]{ol:List Oper}(id:Nat)(lt:List Nat)[hf:FlO ol bl][hk:yI I Γb](h:WA P ol.toArray Q w0 lt Γb ol.length bl l I):WC P Q w0 (.region id ol.toArray true) l I:=aRv id bl lt h rfl hf.eq
class kV(I:List Atom)(Y:outParam (List Atom)):Prop where
 sub:sR I Y
instance:kV [] []:=⟨sR.nil⟩
instance (priority:=2000) {I Y:List Atom}{code:List UInt8}{b:Nat}{vb:Value}{p:eL code}[h:kV I Y]:kV (.bk b (dV vb p)::I) Y:=⟨iW h.sub⟩
instance (priority:=500) {I Y:List Atom}{A:Atom}[h:kV I Y]:kV (A::I) (A::Y):=⟨oZ h.sub⟩
instance (priority:=50) {I:List Atom}:kV I I:=⟨sR.refl⟩
theorem aR0{P:Program}{Q:Exit->Act->World->Prop}{w0:World}{l:List Value}{I Γb:List Atom}[hm:qG P]{n:Nat}{ol:List Oper}(id:Nat)(bl:List Bool)(lt:List Nat)[hk:kV I Γb](h:WA P ol.toArray Q w0 lt Γb n bl l I)(hn:ol.length=n:=by rfl)(hbl:List.replicate n false=bl:=by rfl):WC P Q w0 (.region id ol.toArray true) l I:=
 mE lt Γb (fun _ hs=>hs.sub hk.sub) hn hbl h
theorem wbd{P:Program}{Q:Exit->Act->World->Prop}{w0:World}{l:List Value}{bl:List Bool}{I Γb:List Atom}[hm:qG P]{ol:List Oper}(id:Nat)(lt:List Nat)[hf:FlO ol bl][hk:kV I Γb](h:WA P ol.toArray Q w0 lt Γb ol.length bl l I):WC P Q w0 (.region id ol.toArray true) l I:=aR0 id bl lt h rfl hf.eq
theorem aV5{P:Program}{T:TypeId}(h:P.underlying T=some (.int .u8))(hs:P.cellsOf T=1):Op_ P T UInt8 aPb:=⟨fun ht=>by
 obtain ⟨n,rfl,_,hw⟩:=DataW.trod_int h ht
 have h1:0<=n/\n<256:=by
  simp [Lit.wf,IntKind.min,IntKind.max,IntKind.signed,IntKind.bits] at hw
  omega
 refine⟨UInt8.ofNat n.toNat,?_⟩
 show[Value.int .u8 n]=[Value.int .u8 (((UInt8.ofNat n.toNat).toNat:Nat):Int)]
 rw[dR,Nat.mod_eq_of_lt (by omega),Int.toNat_of_nonneg h1.1],hs⟩
end Go.Eng
