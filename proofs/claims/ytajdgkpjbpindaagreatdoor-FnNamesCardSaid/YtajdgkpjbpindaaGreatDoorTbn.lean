/- Texts of the proof of FnNames. -/
import Derived.Test.YtajdgkpjbpindaaGreatDoorTbh
import Derived.Lib.MakeNoZero
import Derived.Laws.IdiomCopy
set_option linter.unusedVariables false
set_option linter.unusedSimpArgs false
set_option linter.unusedSectionVars false
namespace Go.Proofs.YtajdgkpjbpindaaGreatDoor
open Go Go.Eng Go.RowKit Tryz
set_option synthInstance.maxHeartbeats 400000
set_option synthInstance.maxSize 1000
set_option maxRecDepth 20000
structure wQ(T:TypeId) where
 n:Nat
instance wM{T:TypeId}:cB (wQ T) where
 sz:=1
 rd _ _ cells x:=∃ a cap,cells=[.slice a x.n cap]
 ow _ w F cells x:=∃ g cap dV,cells=[.slice (some ⟨g,0,none⟩) x.n cap]/\F=[g]/\w.heap[g]?=some (.cells dV T (0,0))/\x.n<=cap/\cap<=maxLen/\cap<=dV.size
 pos:=by decide
 rd_len:=by rintro _ _ _ _ ⟨a,c,rfl⟩;rfl
 rd_one:=by rintro _ _ _ _ ⟨a,c,rfl⟩ x hx;simp at hx;subst hx;rfl
 rd_mono:=fun h _=>h
 ow_mono:=by
  rintro _ _ _ _ _ _ _ ⟨g,cap,dV,h1,h2,h3,h4⟩ hf _
  exact⟨g,cap,dV,h1,h2,(hf g (by simp [h2])).trans h3,h4⟩
 ow_rd:=by
  rintro _ _ _ _ _ x ⟨g,cap,dV,h1,_⟩ _ _
  exact⟨_,cap,h1⟩
 ow_lt:=by
  rintro _ _ _ _ _ ⟨_,_,_,_,rfl,h3,_⟩ b hb
  simp at hb;subst hb;exact(bL.1 h3).1
class bJg(P:Program)(f:FuncId)(e:outParam TypeId):Prop where
 run:∀ (n:Nat) (w:World),n<=140737488355328->∃ cs:Array Value,(callFunc f #[.int .i64 n]).run P w=.ok (.value (.slice (some ⟨w.heap.size,0,none⟩) n cs.size)) (w.drew.drew.alloc (.cells cs e))/\n<=cs.size/\cs.size<=maxLen
section
variable {P:Program} {ops:Array Oper} {Q:Exit->Act->World->Prop} {w0:World} {rest:List Oper} {l l':List Value} {I Γb Y Ε:List Atom} {ty:TypeId} {v:Value} {pos:String} {after:Array Edge} {d:Nat}
theorem aCx{f:FuncId}{e:TypeId}{x:Operand}{n:Int}{ts:Array TypeId}[hx:Ev l x (.int .i64 n)][hf:bJg P f e](hn:0<=n/\n<=140737488355328)
  (h:∀ sv,WL P ops Q w0 rest (l.set d sv) (@Atom.ow (wQ e) wM [sv] (wQ.mk n.toNat)::I)) :
  WL P ops Q w0 (⟨some d,.call { callee:=.value (.func f),args:=#[x],argTypes:=ts },ty,pos,after,none⟩::rest) l I:=by
 intro w hs
 obtain ⟨m,rfl⟩:∃ m:Nat,n=m:=⟨n.toNat,by omega⟩
 obtain ⟨cs,hrun,hc1,hc2⟩:=hf.run m w (by omega)
 have hexec:(execOp (E l).eval (⟨some d,.call { callee:=.value (.func f),args:=#[x],argTypes:=ts },ty,pos,after,none⟩:Oper)).run P w=.ok (.value (.slice (some ⟨w.heap.size,0,none⟩) m cs.size)) (w.drew.drew.alloc (.cells cs e)):=by
  unfold execOp
  simp only[resolve,Sem.run_bind]
  show(Sem.run P (Deferred.ofValue (.func (.func f) #[] #[]) _) w).andThen _=_
  simpa [Deferred.ofValue,invoke,hx.eq] using hrun
 refine jW rfl hexec ?_
 rw[gO]
 refine h _ _ ?_
 obtain ⟨hb,F,hnd,hl,hsep⟩:=hs
 refine Sat.step' (Δ':=[@Atom.ow (wQ e) wM [_] (wQ.mk (m:Int).toNat)]) (I:=I) (f:=[]) (g:=F) (w:=w) hb (by simpa using hnd) (by simpa using hl) (by simpa using hsep) ⟨rfl,rfl,rfl,by simp,(by first|exact aM _|exact cW w.drawn 2)⟩ (fun b hlt _=>?_) [w.heap.size] (by simp) (fun b hb=>.inr (by simp at hb;omega)) (fun ok' hok'=>⟨[w.heap.size],[],by simp,⟨w.heap.size,cs.size,cs,by simp,rfl,?_,by simpa using hc1,hc2,aM _⟩,rfl⟩)
 ·show(w.drew.drew.alloc (.cells cs e)).heap[b]?=w.heap[b]?
  exact Below.heap_alloc w.drew.drew _ b (by simpa using hlt)
 ·show(w.heap.push (.cells cs e (0,0)))[w.heap.size]?=_
  simp
instance {f:FuncId}{e:TypeId}{x:Operand}{n:Int}{ts:Array TypeId}[hx:Ev l x (.int .i64 n)][hf:bJg P f e] :
  mW (WL P ops Q w0 (⟨some d,.call { callee:=.value (.func f),args:=#[x],argTypes:=ts },ty,pos,after,none⟩::rest) l I) (0<=n/\n<=140737488355328) (fun sv=>WL P ops Q w0 rest (l.set d sv) (@Atom.ow (wQ e) wM [sv] (wQ.mk n.toNat)::I)):=⟨fun s h=>aCx s h⟩
theorem aLu{T e:TypeId}{x y:Operand}{v:Value}{m:Nat}[hx:Ev l x v][hy:Ev l y (.int .i64 0)][hT:aBv P T e][hp:cQ (wQ e) wM I [v] (wQ.mk m) Y]
  (h:∀ sv,WL P ops Q w0 rest (l.set d sv) (@Atom.ow (gP e) eY [sv] (gP.mk [])::Y)) :
  WL P ops Q w0 (⟨some d,.slice T x none (some y) none,ty,pos,after,none⟩::rest) l I:=by
 intro w hs
 obtain ⟨i,z,hi,_⟩:=hT.info
 have hs1:=hs.perm hp.perm
 obtain ⟨hb,F,hn,hl,f,g,rfl,hf,hrest⟩:=hs1
 obtain ⟨r,cap,dV,h1,rfl,h3,h4,h5,h6⟩:=(show cB.ow (V:=wQ e) _ w f [v] (wQ.mk m) from hf)
 simp only[bR,and_true] at h1
 subst h1
 have hrun:=lQ (P:=P) (T:=T) (a:=some ⟨r,0,none⟩) (n:=m) (cap:=cap) (lo:=0) (hi:=0) (vlo:=none) (vhi:=some (.int .i64 0)) hT.eq hi (.inl ⟨rfl,rfl⟩) (.inr ⟨.i64,rfl⟩) (by omega) (by omega) w
 have hexec:(execOp (E l).eval (⟨some d,.slice T x none (some y) none,ty,pos,after,none⟩:Oper)).run P w=.ok (.value (.slice (some ⟨r,0,none⟩) 0 cap)) w:=by
  unfold execOp
  simp only[hx.eq,hy.eq,Option.map,Sem.run_bind]
  have ez:(if cap=0 then (some ⟨r,0,none⟩:Option Addr) else Option.map (fun x:Addr=>x.add (0*i.size)) (some (⟨r,0,none⟩:Addr)))=some (⟨r,0,none⟩:Addr):=by
   split
   ·rfl
   ·simp [fB]
  rw[hrun,ez]
  rfl
 refine jW rfl hexec ?_
 rw[gO]
 refine h _ _ ⟨hb,[r]++g,hn,hl,[r],g,rfl,.inr ⟨r,cap,dV,rfl,rfl,h3,aI _,h5,h6,rfl⟩,hrest⟩
instance (priority:=1600) {T e:TypeId}{x y:Operand}{v:Value}{m:Nat}[hx:Ev l x v][hy:Ev l y (.int .i64 0)][hT:aBv P T e][hp:cQ (wQ e) wM I [v] (wQ.mk m) Y] :
  mW (WL P ops Q w0 (⟨some d,.slice T x none (some y) none,ty,pos,after,none⟩::rest) l I) True (fun sv=>WL P ops Q w0 rest (l.set d sv) (@Atom.ow (gP e) eY [sv] (gP.mk [])::Y)):=⟨fun _ h=>aLu h⟩
instance (priority:=1600) {T e:TypeId}{x y:Operand}{v:Value}{xs:List UInt8}[h:Ev l x v][hy:Ev l y (.slice none 0 0)][hT:aBv P T e][hp:cQ (gP e) eY I [v] (gP.mk xs) Y]:mI P l I (.call { callee:=.builtin .copy,args:=#[x,y],argTypes:=#[T,T] }) ty (.int .i64 0) True:=⟨fun _ w0=>by
 obtain ⟨i,z,hi,hsz,_⟩:=hT.info
 refine fT (s:=Builtin.copy_ #[T,T] ty #[v,.slice none 0 0]) (fun o ho h2=>?_) (fun w hs=>?_)
 ·unfold execOp
  rw[ho]
  simp [resolve,invoke,builtin,h.eq,hy.eq,h2,Pure.pure,Bind.bind,Sem.bind]
 ·obtain ⟨_,F,_,_,f,g2,_,hf,_⟩:=hs.perm hp.perm
  have hv:∃ a c,v=.slice a xs.length c:=by
   rcases (show cB.ow (V:=gP e) _ w f [v] (gP.mk xs) from hf) with⟨h1,hx,_⟩|⟨g,cap,dV,h1,_⟩
   ·have hx:xs=[]:=hx
    simp only[bR,and_true] at h1
    exact⟨none,0,by rw[h1,hx];rfl⟩
   ·simp only[bR,and_true] at h1
    exact⟨_,cap,h1⟩
  obtain ⟨a,c,rfl⟩:=hv
  exact run_copy_none w T T ty e _ _ _ _ _ _ hT.eq (by rw[hi];simp [hsz]) (Nat.zero_min _)⟩
end
instance:bJg prog 131 5:=⟨fun n w hn=>by
 obtain ⟨cs,hrun,hle,hmax⟩:=Lib.run_makeNoZero (P:=prog) w #[3] 22 5 underlying22 n (by omega)
 refine⟨cs,?_,hle,hmax (by unfold maxLen;omega)⟩
 rw[run_callFunc_extern func131 (by kernel_rfl) (by kernel_rfl) (by kernel_rfl) (e:=Extern.BytealgMakeNoZero.makeNoZero #[3] #[22]) (by kernel_rfl),hrun]
 rfl⟩
instance bNn{I Y:List Atom}{b:Nat}{n:Int}[h:iV I b tB [.pointer (some ⟨b,0,none⟩),.slice none 0 0] Y] :
  bQ prog 97 [.pointer (some ⟨b,0,none⟩),.int .i64 n] I (0<=n/\n<=100000000000) (Value) (fun _:Value=>.tuple #[]) (fun q=>@Atom.ow (TB tB) jJ [.pointer (some ⟨b,0,none⟩)] (TB.mk [.pointer (some ⟨b,0,none⟩),q])::@Atom.ow (gP t8) eY [q] (gP.mk [])::Y):=⟨fun hn w0=>by
 refine eN h.perm ?_
 refine aK func97 ntmps97 ?_
 repeat' (first|refine aU ?_|refine bP ?_|refine bG fun sv=>?_|refine wb 0 [] ?_|refine xp ?_|refine xy ?_|refine bI ?_|fail)
 exact⟨sv,rfl,aH⟩⟩
instance bN2{I Y:List Atom}{b:Nat}{n:Int}[h:iV I b tB [.pointer none,.slice none 0 0] Y] :
  bQ prog 67 [.pointer (some ⟨b,0,none⟩),.int .i64 n] I (0<=n/\n<=100000000000) (Value) (fun _:Value=>.tuple #[]) (fun q=>@Atom.ow (TB tB) jJ [.pointer (some ⟨b,0,none⟩)] (TB.mk [.pointer (some ⟨b,0,none⟩),q])::@Atom.ow (gP t8) eY [q] (gP.mk [])::Y):=⟨fun hn w0=>by
 refine eN h.perm ?_
 have hp:(Value.pointer none=.pointer none∨Value.pointer none=.pointer (some ⟨b,0,none⟩)):=.inl rfl
 refine aK func67 ntmps67 ?_
 repeat' (first|refine aU ?_|refine aW fun r=>?_|refine bV fun hc=>?_|refine bW fun hc=>?_|refine aS (fun hc=>?_) fun hc=>?_|refine wb 3 [] ?_|refine xp ?_|refine bI ?_|fail)
 ·exact⟨r,rfl,aH⟩
 ·exact⟨.slice none 0 0,rfl,fun w hs=>by
   obtain ⟨hb,F,hnd,hl,f,g,rfl,hf,hg⟩:=hs
   exact⟨hb,f++g,hnd,hl,f,g,rfl,hf,[],g,rfl,.inl ⟨rfl,rfl,rfl⟩,hg⟩⟩⟩
def qD(c:UInt8)(ss:List ByteArray):Nat->List UInt8
 | 0=>[]
 | k+1=>qD c ss k++((if k=0 then [] else [c])++(ss.getD k ByteArray.empty).data.toList)
def rB(ss:List ByteArray):Nat->Nat
 | 0=>0
 | k+1=>rB ss k+(ss.getD k ByteArray.empty).size
theorem pV(c:UInt8)(ss:List ByteArray):∀ k,(qD c ss k).length<=rB ss k+k/\k<=(qD c ss k).length+1
 | 0=>⟨aM _,aI _⟩
 | k+1=>by
  have h:=pV c ss k
  have h2:(ss.getD k ByteArray.empty).data.toList.length=(ss.getD k ByteArray.empty).size:=bZ
  unfold qD rB
  simp only[aD,h2]
  split<;>simp only[aL,aJ]<;>omega
theorem mF(ss:List ByteArray)(k:Nat):∀ j,rB ss k<=rB ss (k+j)
 | 0=>aM _
 | j+1=>Nat.le_trans (mF ss k j) (cW _ _)
instance bN5{I:List Atom}{v:Value}{ss:List ByteArray}{c:UInt8}[h:bK ByteArray I v ss] :
  bQ prog 36 [v,.string { data:=#[c] }] I (rB ss ss.length+ss.length<=1000000000) (Unit) (fun _:Unit=>.string ⟨(qD c ss ss.length).toArray⟩) (fun _=>I):=⟨fun hB w0=>by
 refine jV (fun w1=>?_) (aE h fI)
 have hcs:({ data:=#[c] }:ByteArray).size=1:=rfl
 have hq:2<=ss.length->2<=(9223372036854775807:Int).tdiv ((ss.length:Int)-1)/\(9223372036854775807:Int).tdiv ((ss.length:Int)-1)<=9223372036854775807:=fun h2=>by
  rw[Int.tdiv_eq_ediv_of_nonneg (by decide)]
  exact⟨(Int.le_ediv_iff_mul_le (by omega)).2 (by omega),Int.ediv_le_self _ (by decide)⟩
 have hm:((({ data:=#[c] }:ByteArray).size:Nat):Int)*((ss.length:Int)-1)=(ss.length:Int)-1:=by rw[hcs];omega
 refine aK func36 ntmps36 ?_
 by_cases hL:2<=ss.length
 ·have hq2:=hq hL
  repeat' (first|refine aU ?_|refine bP ?_|refine bV fun hc=>?_|refine bW fun hc=>?_|refine aS (fun hc=>?_) fun hc=>?_|fail)
  refine lc_ [5,41] [42,43,44,7,45,46,47,48,49,50,51,52,53,54,55] (Z:=Int×Nat) (fun k=>[.int .i64 k.1,.int .i64 k.2]) (fun k=>k.2<=ss.length/\k.1=(ss.length:Int)-1+rB ss k.2) (fun k=>ss.length-k.2) (0+(({ data:=#[c] }:ByteArray).size:Int)*((ss.length:Int)-1),0) ⟨aI _,by simp only[hm];show 0+_=_+(0:Int);omega⟩ ?_
  intro ⟨n,k⟩ u l' hl' ⟨hk,hn⟩
  simp only[bM,List.map,List.set] at hl'
  subst hl'
  simp only at hk hn ⊢
  have hmono:=mF ss k (ss.length-k)
  rw[show k+(ss.length-k)=ss.length by omega] at hmono
  have hsc:k<ss.length->rB ss (k+1)=rB ss k+(ss.getD ((k:Nat):Int).toNat ByteArray.empty).size:=fun _=>rfl
  have hsc':k<ss.length->rB ss (k+1)=rB ss k+(ss.getD k ByteArray.empty).size:=fun _=>rfl
  have hmono2:k<ss.length->rB ss (k+1)<=rB ss ss.length:=fun hkl=>by
   have:=mF ss (k+1) (ss.length-(k+1))
   rw[show k+1+(ss.length-(k+1))=ss.length by omega] at this
   exact this
  repeat' (first|refine aU ?_|refine bP ?_|refine aW fun r=>?_|refine bT fun b=>?_|refine bV fun hc=>?_|refine bW fun hc=>?_|refine aS (fun hc=>?_) fun hc=>?_|fail)
  ·exact eB (n+(ss.getD ((k:Nat):Int).toNat ByteArray.empty).size,k+1) ⟨by simp only;omega,by have:=hsc (by omega);simp only;omega⟩
  have hself:(Value.pointer (some ⟨b,0,none⟩)=.pointer none∨Value.pointer (some ⟨b,0,none⟩)=.pointer (some ⟨b,0,none⟩)):=.inr rfl
  have h01:rB ss 1<=rB ss ss.length:=by
   have:=mF ss 1 (ss.length-1)
   rw[show 1+(ss.length-1)=ss.length by omega] at this
   exact this
  have h00:(ss.getD (((0:Nat):Int)).toNat ByteArray.empty).size=rB ss 1:=(cR _).symm
  have hl0:([]:List UInt8).length+(ss.getD (((0:Nat):Int)).toNat ByteArray.empty).size<=140737488355328:=by rw[h00,aL];omega
  repeat' (first|refine aU ?_|refine aW fun r=>?_|refine bG fun sv=>?_|fail)
  refine lp_ [65] [66,67,68,10,69,70,71,72,73] (Z:=Nat×Value) (fun k=>[.int .i64 k.1]) (fun k=>[@Atom.ow (TB tB) jJ [.pointer (some ⟨b,0,none⟩)] (TB.mk [.pointer (some ⟨b,0,none⟩),k.2]),@Atom.ow (gP t8) eY [k.2] (gP.mk (qD c ss (k.1+1)))]) (fun k=>k.1+1<=ss.length) (fun k=>ss.length-k.1) (0,r) [@Atom.ow (TB tB) jJ [.pointer (some ⟨b,0,none⟩)] (TB.mk [.pointer (some ⟨b,0,none⟩),r]),@Atom.ow (gP t8) eY [r] (gP.mk ([]++(ss.getD (((0:Nat):Int)).toNat ByteArray.empty).data.toList))] (by simp only;omega) ?_
  intro ⟨k,q⟩ u l' hl' hk
  simp only[bM,List.map,List.set] at hl'
  subst hl'
  simp only[aA,aB] at hk ⊢
  have hjl:=pV c ss (k+1)
  have hdr:(ss.drop 1).length=ss.length-1:=aR
  have hgd:(ss.drop 1).getD ((k:Nat):Int).toNat ByteArray.empty=ss.getD (k+1) ByteArray.empty:=by
   rw[aC,List.getElem?_drop,← aC,bH,Nat.add_comm]
  have hm1:rB ss (k+1)<=rB ss ss.length:=by
   have:=mF ss (k+1) (ss.length-(k+1))
   rw[show k+1+(ss.length-(k+1))=ss.length by omega] at this
   exact this
  have hl1:(qD c ss (k+1)).length+({ data:=#[c] }:ByteArray).size<=140737488355328:=by omega
  have hl2:k+1<ss.length->(qD c ss (k+1)++({ data:=#[c] }:ByteArray).data.toList).length+((ss.drop 1).getD ((k:Nat):Int).toNat ByteArray.empty).size<=140737488355328:=fun hkl=>by
   have h2:=mF ss (k+1+1) (ss.length-(k+1+1))
   rw[show k+1+1+(ss.length-(k+1+1))=ss.length by omega] at h2
   have h3:rB ss (k+1+1)=rB ss (k+1)+(ss.getD (k+1) ByteArray.empty).size:=rfl
   rw[hgd,aD]
   show(qD c ss (k+1)).length+1+_<=_
   omega
  by_cases hkl:k+1<ss.length
  ·have hl3:=hl2 hkl
   repeat' (first|refine aU ?_|refine bP ?_|refine aW fun r=>?_|refine bV fun hc=>?_|refine bW fun hc=>?_|refine aS (fun hc=>?_) fun hc=>?_|fail)
   have hjs:qD c ss (k+1)++({ data:=#[c] }:ByteArray).data.toList++((ss.drop 1).getD ((k:Nat):Int).toNat ByteArray.empty).data.toList=qD c ss (k+1+1):=by
    rw[hgd,aT];rfl
   rw[hjs]
   exact eB (k+1,r) (by simp only;omega)
  ·have hlp:0<(qD c ss (k+1)).length:=by omega
   repeat' (first|refine aU ?_|refine aW fun r=>?_|refine bV fun hc=>?_|refine bW fun hc=>?_|refine aS (fun hc=>?_) fun hc=>?_|fail)
   rw[show k+1=ss.length by omega]
   exact⟨(),rfl,aH⟩
 ·repeat' (first|refine aU ?_|refine bP ?_|refine bV fun hc=>?_|refine bW fun hc=>?_|refine aS (fun hc=>?_) fun hc=>?_|fail)
  ·refine⟨(),congrArg Value.string ?_,aH⟩
   rw[show ss.length=0 by omega];rfl
  ·refine⟨(),congrArg Value.string ?_,aH⟩
   rw[show ss.length=1 by omega]
   show _=(ss.getD 0 ByteArray.empty)
   simp [qD]⟩
end Go.Proofs.YtajdgkpjbpindaaGreatDoor
