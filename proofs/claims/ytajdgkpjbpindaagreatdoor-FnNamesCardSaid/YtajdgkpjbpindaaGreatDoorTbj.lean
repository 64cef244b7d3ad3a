/- Texts of the proof of FnNames. -/
import Derived.Test.YtajdgkpjbpindaaGreatDoorTbi
import Derived.Test.YtajdgkpjbpindaaGreatDoorTbh
import Derived.Test.YtajdgkpjbpindaaGreatDoorTaj
import Derived.Lib.ConvBytes
set_option linter.unusedVariables false
set_option linter.unusedSimpArgs false
set_option linter.unusedSectionVars false
namespace Go.Eng
open Go Go.RowKit
structure Bw where
 xs:List UInt8
theorem aBb{ok:Nat->Prop}{w:World}:∀ xs:List UInt8,kK ok w (mJ xs) xs
 | []=>rfl
 | x::xs=>⟨[.int .u8 x.toNat],mJ xs,rfl,rfl,aBb xs⟩
theorem aP0{ok:Nat->Prop}{w:World}:∀ {G:List Nat} {cells:List Value} {xs:List UInt8},jA ok w G cells xs->G=[]/\cells=mJ xs
 | _,_,[],h=>h
 | _,_,x::xs,⟨f,g,c,d,e,e',h,h'⟩=>by
  obtain ⟨h1,h2⟩:=aP0 h'
  have h3:f=[]/\c=[.int .u8 x.toNat]:=h
  rw[e,e',h1,h2,h3.1,h3.2]
  exact⟨rfl,rfl⟩
instance tE:cB Bw where
 sz:=1
 rd ok w cs x:=cB.rd (V:=List UInt8) ok w cs x.xs
 ow _ w F cs x:=(cs=[.slice none 0 0]/\x.xs=[]/\F=[])∨∃ g cap dV T fz,cs=[.slice (some ⟨g,0,none⟩) x.xs.length cap]/\F=[g]/\w.heap[g]?=some (.cells dV T fz)/\(∀ j,j<x.xs.length->¬ (fz.1<=j/\j<fz.2))/\x.xs.length<=cap/\cap<=maxLen/\x.xs.length<=9223372036854775807/\x.xs.length<=dV.size/\dV.toList.take x.xs.length=mJ x.xs
 pos:=by decide
 rd_len:=fun h=>cB.rd_len (V:=List UInt8) h
 rd_one:=fun h=>cB.rd_one (V:=List UInt8) h
 rd_mono:=fun h hm=>cB.rd_mono (V:=List UInt8) h hm
 ow_mono:=by
  rintro _ _ _ _ _ _ _ (h|⟨g,cap,dV,T,fz,h1,h2,h3,h4⟩) hf _
  ·exact .inl h
  ·exact .inr ⟨g,cap,dV,T,fz,h1,h2,(hf g (by simp [h2])).trans h3,h4⟩
 ow_rd:=by
  rintro _ _ _ _ _ x (⟨h1,h2,_⟩|⟨g,cap,dV,T,fz,h1,rfl,h3,_,h5,h6,h7,h8,h9⟩) _ hf
  ·exact⟨none,0,by rw[h1,h2];rfl,by rw[h2];exact aI _,by simp [maxLen],by rw[h2];exact aI _,fun h=>by rw[h2] at h;exact absurd h (by simp)⟩
  ·refine⟨_,cap,h1,h5,h6,h7,fun hp=>⟨g,0,mJ x.xs,rfl,hf g (by simp),?_,aBb _⟩⟩
   intro j hj
   rw[← h9] at hj ⊢
   rw[cU]
   have:j<x.xs.length:=by
    have:=hj;rw[aN] at this;omega
   rw[if_pos this]
   simp [World.cell?,h3]
 ow_lt:=by
  rintro _ _ _ _ _ (⟨_,_,rfl⟩|⟨g,cap,dV,T,fz,_,rfl,h3,_⟩) b hb
  ·cases hb
  ·simp at hb;subst hb;exact(bL.1 h3).1
theorem aLs{P:Program}(g o:Nat)(t:TypeId)(fz:Nat×Nat)(v:Value)(dV:Array Value)(w:World)(hg:w.heap[g]?=some (.cells dV t fz))(hfz:¬ (fz.1<=o/\o<fz.2))(ho:o<dV.size)(h1:v.oneCell'=true) :
  (storeCells ⟨g,o,none⟩ [v] 0).run P w=.ok () (w.setRow g (dV.setIfInBounds o v)):=by
 have hadd:(⟨g,o,none⟩:Addr).add 0=⟨g,o,none⟩:=by unfold Addr.add;split<;>simp_all
 have hcell:w.cell? ⟨g,o,none⟩=some dV[o]:=by simp [World.cell?,hg,ho]
 have hfro:w.frozen? ⟨g,o,none⟩=false:=by
  obtain ⟨lo,hi⟩:=fz
  simp only[World.frozen?,hg,Bool.and_eq_false_iff,decide_eq_false_iff_not]
  simp only at hfz
  omega
 have hst:(store ((⟨g,o,none⟩:Addr).add 0) v).run P w=.ok () (w.setRow g (dV.setIfInBounds o v)):=by
  rw[hadd,run_store P w _ v _ h1,hcell]
  simp [hfro,setCell_eq_setRow w g o dV t fz v hg]
 simp only[storeCells,Sem.run_bind,hst,Result.andThen_ok]
 rfl
section
variable {P:Program} {ops:Array Oper} {Q:Exit->Act->World->Prop} {w0:World} {rest:List Oper} {l l':List Value} {I Y Ε:List Atom} {ty:TypeId} {pos:String} {after:Array Edge} {d:Nat}
instance (priority:=1200) bO2{v:Value}{xs:List UInt8}:dZ (List UInt8) bA (@Atom.ow Bw tE [v] (Bw.mk xs)::I) [v] xs:=⟨fun ⟨_,_,_,h,_⟩=>cB.ow_rd (V:=Bw) (show cB.ow (V:=Bw) _ _ _ [v] (Bw.mk xs) from h) (fun _ _=>trivial) (fun _ _=>trivial)⟩
theorem aYv{w:World}(sv:Value){xs:List UInt8}[hp:cQ Bw tE I [sv] (Bw.mk xs) Y](hs:Sat w0 w I):Sat w0 w (@Atom.rd (List UInt8) bA [sv] xs::Y):=by
 obtain ⟨hb,g,hn,hl,f,g',e,⟨h1,h2⟩,h3⟩:=(hs.perm hp.perm).share
 exact⟨hb,g,hn,hl,f,g',e,⟨h1,h2⟩,h3⟩
theorem aPt{c:Code}(sv:Value){xs:List UInt8}[hp:cQ Bw tE I [sv] (Bw.mk xs) Y](h:WC P Q w0 c l (@Atom.rd (List UInt8) bA [sv] xs::Y)):WC P Q w0 c l I:=fun w hs=>h w (aYv sv hs)
theorem aYq(sv:Value){xs:List UInt8}[hp:cQ (List UInt8) bA I [sv] xs Y](h:Go.Eng.Ent w0 (@Atom.ow Bw tE [sv] (Bw.mk xs)::Y) Ε):Go.Eng.Ent w0 I Ε:=fun w hs=>h w (by
 obtain ⟨hb,F,hn,hl,f,g,rfl,hf,hΔ⟩:=hs.perm hp.perm
 refine⟨hb,f++g,hn,hl,f,g,rfl,?_,hΔ⟩
 have hf':=(show cB.ow (V:=List UInt8) _ w f [sv] xs from hf)
 rw[fL] at hf'
 rcases hf' with h1|⟨b,cap,dV,e,G,cells,h1,rfl,h3,h4,h5,h6,h7,h8,h9⟩
 ·exact .inl h1
 ·obtain ⟨rfl,h10⟩:=aP0 h9
  have hsz:cB.sz UInt8=1:=rfl
  rw[hsz,Nat.mul_one] at h7 h8
  exact .inr ⟨b,cap,dV,e,(0,0),h1,rfl,h3,fun j _=>by simp,h4,h5,h6,by simp only;omega,h8.trans h10⟩)
theorem aHi{S T:TypeId}{x:Operand}{s:ByteArray}[hx:Ev l x (.string s)][hS:kX P S][hT:aMm P T](hl:s.size<=1048576)(h:∀ sv,WL P ops Q w0 rest (l.set d sv) (.ow [sv] (Bw.mk s.data.toList)::I)) :
  WL P ops Q w0 (⟨some d,.convert S T x,ty,pos,after,none⟩::rest) l I:=by
 intro w hs
 obtain ⟨e,h1,h2⟩:=hT.ex
 have hr:=Lib.run_convert_string_bytes (P:=P) w S T e s hS.eq h1 h2
 have hcg:=grownCap_ge w s.size 0 e
 have hcm:=grownCap_le_maxLen w s.size 0 e (by simp only[maxLen];omega)
 have hll:s.data.toList.length=s.size:=bZ
 have hcs:(Lib.bytesCells w e s).size=grownCap w s.size 0 e:=by
  have:s.data.size=s.size:=rfl
  simp only[Lib.bytesCells,Array.size_append,Array.size_map,Array.size_replicate,this]
  omega
 obtain ⟨hb,F,hn,hlt,hsep⟩:=hs
 refine jW (v:=.slice (some ⟨w.heap.size,0,none⟩) s.size (grownCap w s.size 0 e)) (w':=Lib.bytesWorld w e s) rfl ?_ ?_
 ·exact fW (f:=Next.value) (s:=convert S T ((E l).eval x)) (by rw[hx.eq];exact hr)
 ·rw[gO]
  refine h _ _ ?_
  have hall:=Sat.step' (w':=Lib.bytesWorld w e s) (Δ':=[@Atom.ow Bw tE [.slice (some ⟨w.heap.size,0,none⟩) s.size (grownCap w s.size 0 e)] (Bw.mk s.data.toList)]) (I:=I) (f:=[]) (g:=F) hb hn hlt hsep
   ⟨by simp [Lib.bytesWorld,World.freeze,World.alloc,World.drew,-World.alloc_eq,-World.drew_eq],by simp [Lib.bytesWorld,World.freeze,World.alloc,World.drew,-World.alloc_eq,-World.drew_eq],by simp [Lib.bytesWorld,World.freeze,World.alloc,World.drew,-World.alloc_eq,-World.drew_eq],by rw[Lib.bytesWorld_size];omega,by simp [Lib.bytesWorld,World.freeze,World.alloc,World.drew,-World.alloc_eq,-World.drew_eq]⟩
   (fun b hblt _=>Lib.bytesWorld_at_old w e s b hblt) [w.heap.size] (by simp) (fun b hb=>.inr (by simp at hb;omega))
   (fun ok' hok'=>⟨[w.heap.size],[],by simp,.inr ⟨w.heap.size,grownCap w s.size 0 e,Lib.bytesCells w e s,e,_,by rw[hll],rfl,Lib.bytesWorld_at_new w e s,fun j hj=>by simp only at hj ⊢;omega,by simp only;omega,hcm,by simp only;omega,by simp only;omega,?_⟩,rfl⟩)
  ·simpa using hall
  ·simp only[Lib.bytesCells,Array.toList_append,Array.toList_map,Array.toList_replicate]
   rw[List.take_left' (by rw[aY])]
   rfl
instance {S T:TypeId}{x:Operand}{s:ByteArray}[hx:Ev l x (.string s)][hS:kX P S][hT:aMm P T] :
  mW (WL P ops Q w0 (⟨some d,.convert S T x,ty,pos,after,none⟩::rest) l I) (s.size<=1048576) (fun sv=>WL P ops Q w0 rest (l.set d sv) (.ow [sv] (Bw.mk s.data.toList)::I)):=⟨fun s h=>aHi s h⟩
theorem aIs{T:TypeId}{x y:Operand}{sv:Value}{n:Int}{m:Nat}{xs:List UInt8}{u:UInt8}[hx:Ev l x (.pointer (some (dW sv n 1)))][hy:Ev l y (.int .u8 ((u.toNat:Nat):Int))][hT:Sz P T 1][hm:fJ n m][hp:cQ Bw tE I [sv] (Bw.mk xs) Y](hi:0<=n/\n<xs.length)
  (h:WL P ops Q w0 rest l (.ow [sv] (Bw.mk (xs.set m u))::Y)):WL P ops Q w0 (⟨none,.store T x y,ty,pos,after,none⟩::rest) l I:=by
 intro w hs
 have hmn:n=(m:Int):=by have:=hm.eq;omega
 obtain ⟨hb,F,hn,hl,f,g,rfl,hf,hΔ⟩:=hs.perm hp.perm
 rcases (show cB.ow (V:=Bw) _ w f [sv] (Bw.mk xs) from hf) with⟨_,h2,_⟩|⟨b,cap,dV,e,fz,h1,rfl,h3,h4,h5,h6,h7,h8,h9⟩
 ·simp only at h2;subst h2;simp at hi;omega
 simp only[bR,and_true] at h1
 simp only at h4 h5 h7 h8 h9
 subst h1
 have hr:=aLs (P:=P) b m e fz (.int .u8 ((u.toNat:Nat):Int)) dV w h3 (h4 m (by omega)) (by omega) rfl
 have hea:dW (.slice (some ⟨b,0,none⟩) xs.length cap) n 1=⟨b,m,none⟩:=by
  simp only[dW,fB,cR,hmn];simp
 refine wpList_plain rfl fun K hK=>?_
 unfold Oper.wp
 have hrun:(execOp (E l).eval ⟨none,.store T x y,ty,pos,after,none⟩).run P w=.ok .skip (w.setRow b (dV.setIfInBounds m (.int .u8 ((u.toNat:Nat):Int)))):=by
  show(do Instr.storeAt T ((E l).eval x) ((E l).eval y);pure Next.skip:Sem Next).run P w=_
  simp only[hx.eq,hy.eq,Sem.run_bind,Instr.storeAt,Instr.sureAddr,Sem.run_pure,Result.andThen_ok,storeVar,hT.size,hea]
  simp only[Value.cells,dP,aJ,ne_eq,not_true_eq_false,if_false,Sem.run_pure,Result.andThen_ok,Sem.run_bind]
  simp only[hr,Result.andThen_ok]
 rw[hrun,Oper.upon_skip,nN]
 refine hK _ _ (h _ ?_)
 refine Sat.step' (Δ':=[@Atom.ow Bw tE [_] (Bw.mk (xs.set m u))]) (I:=Y) (f:=[b]) (g:=g) (w:=w) hb hn hl hΔ ⟨rfl,rfl,rfl,by simp,(by first|exact aM _|exact cW _ _)⟩ (fun k _ hk=>setRow_other w b k _ (fun e=>hk (by simp [e]))) [b] (by simp) (fun k hk=>.inl hk) (fun ok' hok'=>⟨[b],[],by simp,.inr ⟨b,cap,_,e,fz,by simp only[aV],rfl,setRow_heap w b dV _ e fz h3,by simpa only[aV] using h4,by simpa only[aV] using h5,h6,by simpa only[aV] using h7,by simpa only[aV,Array.size_setIfInBounds] using h8,?_⟩,rfl⟩)
 simp only[aV,Array.toList_setIfInBounds,List.take_set,h9,mJ,List.map_set]
instance (priority:=1300) {T:TypeId}{x y:Operand}{sv:Value}{n:Int}{m:Nat}{xs:List UInt8}{u:UInt8}[hx:Ev l x (.pointer (some (dW sv n 1)))][hy:Ev l y (.int .u8 ((u.toNat:Nat):Int))][hT:Sz P T 1][hm:fJ n m][hp:cQ Bw tE I [sv] (Bw.mk xs) Y] :
  aRw (WL P ops Q w0 (⟨none,.store T x y,ty,pos,after,none⟩::rest) l I) (0<=n/\n<xs.length) (WL P ops Q w0 rest l (.ow [sv] (Bw.mk (xs.set m u))::Y)):=⟨fun s h=>aIs s h⟩
theorem aLc{T k by_:Nat}{x y:Operand}{sv:Value}{kk:IntKind}{n:Int}{m:Nat}{xs:List UInt8}[hx:Ev l x sv][hy:Ev l y (.int kk n)][hm:fJ n m][hT:Sl P T k by_][hp:cQ Bw tE I [sv] (Bw.mk xs) Y](hn:0<=n/\n<=xs.length)
  (h:∀ sv',WL P ops Q w0 rest (l.set d sv') (.ow [sv'] (Bw.mk (xs.take m))::Y)):WL P ops Q w0 (⟨some d,.slice T x none (some y) none,ty,pos,after,none⟩::rest) l I:=by
 intro w hs
 have hmn:n=(m:Int):=by have:=hm.eq;omega
 obtain ⟨e,i,z',ht,hi',hik,hib,hz',hzk,hpos⟩:=hT.ex
 obtain ⟨hb,F,hnd,hl,f,g,rfl,hf,hΔ⟩:=hs.perm hp.perm
 rcases (show cB.ow (V:=Bw) _ w f [sv] (Bw.mk xs) from hf) with⟨h1,h2,rfl⟩|⟨b,cap,dV,e',fz,h1,rfl,h3,h4,h5,h6,h7,h8,h9⟩
 ·simp only at h2
  subst h2
  simp only[bR,and_true] at h1
  subst h1
  have hm0:m=0:=by simp at hn;omega
  have hrun:=lQ (P:=P) (T:=T) (a:=none) (n:=0) (cap:=0) (lo:=0) (hi:=m) (vlo:=none) (vhi:=some (.int kk m)) ht hi' (.inl ⟨rfl,rfl⟩) (.inr ⟨kk,rfl⟩) (by omega) (by omega) w
  refine jW (v:=.slice none 0 0) (w':=w) rfl ?_ ?_
  ·refine fW (f:=Next.value) (s:=Instr.sliceAt T ((E l).eval x) none (some ((E l).eval y)) none) ?_
   rw[hx.eq,hy.eq,hmn,hrun,hm0];rfl
  ·rw[gO]
   exact h _ w ⟨hb,[]++g,hnd,hl,[],g,rfl,.inl ⟨rfl,by simp,rfl⟩,hΔ⟩
 ·simp only[bR,and_true] at h1
  simp only at h4 h5 h7 h8 h9
  subst h1
  have hrun:=lQ (P:=P) (T:=T) (a:=some ⟨b,0,none⟩) (n:=xs.length) (cap:=cap) (lo:=0) (hi:=m) (vlo:=none) (vhi:=some (.int kk m)) ht hi' (.inl ⟨rfl,rfl⟩) (.inr ⟨kk,rfl⟩) (by omega) (by omega) w
  refine jW (v:=.slice (some ⟨b,0,none⟩) m cap) (w':=w) rfl ?_ ?_
  ·refine fW (f:=Next.value) (s:=Instr.sliceAt T ((E l).eval x) none (some ((E l).eval y)) none) ?_
   have ez:(if cap=0 then (some ⟨b,0,none⟩:Option Addr) else Option.map (fun x:Addr=>x.add (0*i.size)) (some (⟨b,0,none⟩:Addr)))=some (⟨b,0,none⟩:Addr):=by
    split
    ·rfl
    ·simp [fB]
   rw[hx.eq,hy.eq,hmn,hrun,ez];rfl
  ·rw[gO]
   have hlen:(xs.take m).length=m:=by rw[aN];omega
   refine h _ w ⟨hb,[b]++g,hnd,hl,[b],g,rfl,.inr ⟨b,cap,dV,e',fz,by simp only[hlen],rfl,h3,fun j hj=>h4 j (by simp only[hlen] at hj;omega),by simp only[hlen];omega,h6,by simp only[hlen];omega,by simp only[hlen];omega,?_⟩,hΔ⟩
   simp only[hlen]
   rw[show dV.toList.take m=(dV.toList.take xs.length).take m by rw[List.take_take,Nat.min_eq_left (by omega)],h9]
   simp only[mJ,List.map_take]
instance (priority:=1300) {T k by_:Nat}{x y:Operand}{sv:Value}{kk:IntKind}{n:Int}{m:Nat}{xs:List UInt8}[hx:Ev l x sv][hy:Ev l y (.int kk n)][hm:fJ n m][hT:Sl P T k by_][hp:cQ Bw tE I [sv] (Bw.mk xs) Y] :
  mW (WL P ops Q w0 (⟨some d,.slice T x none (some y) none,ty,pos,after,none⟩::rest) l I) (0<=n/\n<=xs.length) (fun sv'=>WL P ops Q w0 rest (l.set d sv') (.ow [sv'] (Bw.mk (xs.take m))::Y)):=⟨fun s h=>aLc s h⟩
theorem aDe{S T:TypeId}{x:Operand}{v:Value}{ys:List UInt8}[hx:Ev l x v][hS:aMm P S][hT:kX P T][hr:bK UInt8 I v ys]:Pu P w0 l I (.convert S T x) ty (.string ⟨ys.toArray⟩):=by
 by_cases h0:0<ys.length
 ·exact uT h0
 ·obtain rfl:ys=[]:=List.length_eq_zero_iff.1 (by omega)
  exact fT (s:=convert S T v) (fun o ho _=>by unfold execOp;rw[ho];simp only[hx.eq]) (fun w hs=>by
   obtain ⟨e,h1,h2⟩:=hS.ex
   obtain ⟨a,c,hc,_,_,_,hrd⟩:=hs.rd (hr:=hr)
   simp only[bR,and_true] at hc
   subst hc
   cases a with
   | none=>rw[run_convert_bytes_string w S T e none _ c h1 h2 hT.eq];rfl
   | some a=>exact run_convert_bytes_back w S T e a c [] h1 h2 hT.eq (fun j hj=>absurd hj (by simp)))
instance (priority:=1300) {S T:TypeId}{x:Operand}{v:Value}{ys:List UInt8}[hx:Ev l x v][hS:aMm P S][hT:kX P T][hr:bK UInt8 I v ys]:pK P l I (.convert S T x) ty (.string ⟨ys.toArray⟩):=⟨fun _=>aDe⟩
end
end Go.Eng
namespace Go.Proofs.YtajdgkpjbpindaaGreatDoor
open Go Go.Eng Tryz
set_option synthInstance.maxHeartbeats 400000
set_option synthInstance.maxSize 1000
set_option maxHeartbeats 4000000
set_option maxRecDepth 20000
theorem aKc{w0:World}{I Y:List Atom}{bc:Nat}{vb:Value}{code:List UInt8}{p:eL code}{s g:ByteArray}[hb:eO I bc (dV vb p) Y][hv:bK UInt8 Y vb code](hs:s.size<=1000000/\0<g.size/\g.size<=1000) :
  CJ prog 20 [.pointer (some ⟨bc,0,none⟩),.string s,.string g] w0 I (fun q:{ q:ByteArray×eL code // q.1.size<=s.size+2 }=>.string q.1.1) (fun q=>.bk bc (dV vb q.1.2)::Y):=by
 obtain ⟨hs1,hg0,hg1⟩:=hs
 refine eN hb.perm ?_
 have hsl:s.data.toList.length=s.size:=bZ
 refine aK func20 ntmps20 ?_
 repeat' (first|refine aU ?_|refine cV fun r hr=>?_|refine aW fun r=>?_|refine bG fun sv=>?_|fail)
 refine lp_ [7,8] [14,15,16,17,18,19,20,23,24,25,26,9,27,28,30,29,31,32,33,34,35,36,37,38,39,41,40,42,43,44,46,45,47,48,49,50,51,52,53,54,55,56,58,57,59,60,61,62,63,64,65,66,67,68,69,70,71,72,73,74,75,21,22] (Z:=(Value×List UInt8)×Int×eL code) (fun k=>[k.1.1,.int .i64 k.2.1]) (fun k=>[.ow [k.1.1] (Bw.mk k.1.2),.bk bc (dV vb k.2.2)]) (fun k=>0<=k.2.1/\k.1.2.length+k.2.1<=s.size+2) (fun k=>k.2.1.toNat) ((sv,s.data.toList),r.1.1,r.1.2) [.ow [sv] (Bw.mk s.data.toList),.bk bc (dV vb r.1.2)] ⟨by simp only;omega,by simp only;omega⟩ ?_
 intro ⟨⟨bv,bs⟩,n,p1⟩ u l' hl' ⟨hn0,hbn⟩
 simp only[bM,List.map,List.set] at hl'
 subst hl'
 simp only[aA,aB] at hn0 hbn ⊢
 repeat' (first|refine aU ?_|refine bP ?_|refine cV fun r hr=>?_|refine aW fun r=>?_|refine bG fun sv=>?_|refine bV fun hc=>?_|refine bW fun hc=>?_|refine aS (fun hc=>?_) fun hc=>?_|fail)
 ·rename { q:Int×eL code // (0<(bs.length:Int)->0<=q.1/\q.1<bs.length)/\((bs.length:Int)<=0->q.1=0) }=>d
  exact eB ((bv,bs.set d.1.1.toNat (g.data.toList.getD r.1.1.toNat 0)),n-1,r.1.2) ⟨by simp only;omega,by simp only[aV];omega⟩
 ·rename { q:Int×eL code // (0<(bs.length:Int)->0<=q.1/\q.1<bs.length)/\((bs.length:Int)<=0->q.1=0) }=>d
  exact eB ((sv,bs.take d.1.1.toNat),n-1,r.1.2) ⟨by simp only;omega,by simp only[aN];omega⟩
 ·rename { q:Int×eL code // (0<(bs.length:Int)->0<=q.1/\q.1<bs.length)/\((bs.length:Int)<=0->q.1=0) }=>d
  have hd:=d.2
  refine aPt bv ?_
  ((refine wb1 12 [] ?_<;>refine bY 1 ?_<;>refine bY 2 ?_<;>refine bY 5 ?_<;>refine bY 6 ?_<;>refine bY 7 ?_<;>(refine vQ 0 3 8 ?_ ?_ ?_;rotate_right;(focus ((repeat' (first|refine aU ?_|refine bG fun sv=>?_|fail))<;>(refine fH 0 3 ?_ ?_;rotate_right;(focus ((repeat' (first|refine aU ?_|refine bG fun sv=>?_|fail))<;>(refine bX 0 ?_<;>(repeat' (first|refine aU ?_|refine bG fun sv=>?_|fail)))<;>(refine bX 4 ?_<;>(repeat' (first|refine aU ?_|refine bG fun sv=>?_|fail)))<;>(refine bX 9 ?_<;>(repeat' (first|refine aU ?_|refine bG fun sv=>?_|fail)))<;>refine bY 10 ?_));rotate_right;(focus ((repeat' (first|refine aU ?_|refine bG fun sv=>?_|fail))<;>(refine bX 3 ?_<;>(repeat' (first|refine aU ?_|refine bG fun sv=>?_|fail)))<;>(refine bX 4 ?_<;>(repeat' (first|refine aU ?_|refine bG fun sv=>?_|fail)))<;>(refine bX 9 ?_<;>(repeat' (first|refine aU ?_|refine bG fun sv=>?_|fail)))<;>refine bY 10 ?_)))));rotate_right;(focus ((repeat' (first|refine aU ?_|refine bG fun sv=>?_|fail))<;>(refine fH 0 8 ?_ ?_;rotate_right;(focus ((repeat' (first|refine aU ?_|refine bG fun sv=>?_|fail))<;>(refine bX 0 ?_<;>(repeat' (first|refine aU ?_|refine bG fun sv=>?_|fail)))<;>(refine bX 4 ?_<;>(repeat' (first|refine aU ?_|refine bG fun sv=>?_|fail)))<;>(refine bX 9 ?_<;>(repeat' (first|refine aU ?_|refine bG fun sv=>?_|fail)))<;>refine bY 10 ?_));rotate_right;(focus ((repeat' (first|refine aU ?_|refine bG fun sv=>?_|fail))<;>(refine fH 4 8 ?_ ?_;rotate_right;(focus ((repeat' (first|refine aU ?_|refine bG fun sv=>?_|fail))<;>(refine bX 4 ?_<;>(repeat' (first|refine aU ?_|refine bG fun sv=>?_|fail)))<;>(refine bX 9 ?_<;>(repeat' (first|refine aU ?_|refine bG fun sv=>?_|fail)))<;>refine bY 10 ?_));rotate_right;(focus ((repeat' (first|refine aU ?_|refine bG fun sv=>?_|fail))<;>(refine bX 8 ?_<;>(repeat' (first|refine aU ?_|refine bG fun sv=>?_|fail)))<;>(refine bX 9 ?_<;>(repeat' (first|refine aU ?_|refine bG fun sv=>?_|fail)))<;>refine bY 10 ?_))))))));rotate_right;(focus ((repeat' (first|refine aU ?_|refine bG fun sv=>?_|fail))<;>(refine fH 3 8 ?_ ?_;rotate_right;(focus ((repeat' (first|refine aU ?_|refine bG fun sv=>?_|fail))<;>(refine bX 3 ?_<;>(repeat' (first|refine aU ?_|refine bG fun sv=>?_|fail)))<;>(refine bX 4 ?_<;>(repeat' (first|refine aU ?_|refine bG fun sv=>?_|fail)))<;>(refine bX 9 ?_<;>(repeat' (first|refine aU ?_|refine bG fun sv=>?_|fail)))<;>refine bY 10 ?_));rotate_right;(focus ((repeat' (first|refine aU ?_|refine bG fun sv=>?_|fail))<;>(refine fH 4 8 ?_ ?_;rotate_right;(focus ((repeat' (first|refine aU ?_|refine bG fun sv=>?_|fail))<;>(refine bX 4 ?_<;>(repeat' (first|refine aU ?_|refine bG fun sv=>?_|fail)))<;>(refine bX 9 ?_<;>(repeat' (first|refine aU ?_|refine bG fun sv=>?_|fail)))<;>refine bY 10 ?_));rotate_right;(focus ((repeat' (first|refine aU ?_|refine bG fun sv=>?_|fail))<;>(refine bX 8 ?_<;>(repeat' (first|refine aU ?_|refine bG fun sv=>?_|fail)))<;>(refine bX 9 ?_<;>(repeat' (first|refine aU ?_|refine bG fun sv=>?_|fail)))<;>refine bY 10 ?_))))))))))<;>refine bI ?_)
  all_goals repeat' (first|refine aU ?_|refine bP ?_|fail)
  all_goals exact dH ((sv,bs.take d.1.1.toNat++bs.drop (d.1.1+1).toNat),n-1,r.1.2) ⟨by simp only;omega,by simp only[aD,aN,aR];omega⟩ (by simp only;omega) (by kernel_rfl) (aYq sv aH)
 ·rename { q:Int×eL code // (0<(bs.length:Int)->0<=q.1/\q.1<bs.length)/\((bs.length:Int)<=0->q.1=0) }=>d
  have hd:=d.2
  refine aPt bv ?_
  ((refine wbi 14 [] ?_<;>refine bY 1 ?_<;>refine bY 2 ?_<;>refine bY 5 ?_<;>refine bY 6 ?_<;>refine bY 7 ?_<;>refine bY 8 ?_<;>refine bY 13 ?_<;>refine bY 14 ?_<;>(refine vQ 0 3 15 ?_ ?_ ?_;rotate_right;(focus ((repeat' (first|refine aU ?_|refine bG fun sv=>?_|fail))<;>(refine fH 0 3 ?_ ?_;rotate_right;(focus ((repeat' (first|refine aU ?_|refine bG fun sv=>?_|fail))<;>(refine bX 0 ?_<;>(repeat' (first|refine aU ?_|refine bG fun sv=>?_|fail)))<;>(refine bX 4 ?_<;>(repeat' (first|refine aU ?_|refine bG fun sv=>?_|fail)))<;>(refine bX 9 ?_<;>(repeat' (first|refine aU ?_|refine cV fun r hr=>?_|refine aW fun r=>?_|fail)))<;>refine bY 10 ?_<;>(refine bX 11 ?_<;>(repeat' (first|refine aU ?_|refine bG fun sv=>?_|fail)))<;>(refine bX 12 ?_<;>(repeat' (first|refine aU ?_|refine bG fun sv=>?_|fail)))<;>(refine bX 16 ?_<;>(repeat' (first|refine aU ?_|refine bG fun sv=>?_|fail)))<;>refine bY 17 ?_));rotate_right;(focus ((repeat' (first|refine aU ?_|refine bG fun sv=>?_|fail))<;>(refine bX 3 ?_<;>(repeat' (first|refine aU ?_|refine bG fun sv=>?_|fail)))<;>(refine bX 4 ?_<;>(repeat' (first|refine aU ?_|refine bG fun sv=>?_|fail)))<;>(refine bX 9 ?_<;>(repeat' (first|refine aU ?_|refine cV fun r hr=>?_|refine aW fun r=>?_|fail)))<;>refine bY 10 ?_<;>(refine bX 11 ?_<;>(repeat' (first|refine aU ?_|refine bG fun sv=>?_|fail)))<;>(refine bX 12 ?_<;>(repeat' (first|refine aU ?_|refine bG fun sv=>?_|fail)))<;>(refine bX 16 ?_<;>(repeat' (first|refine aU ?_|refine bG fun sv=>?_|fail)))<;>refine bY 17 ?_)))));rotate_right;(focus ((repeat' (first|refine aU ?_|refine bG fun sv=>?_|fail))<;>(refine fH 0 15 ?_ ?_;rotate_right;(focus ((repeat' (first|refine aU ?_|refine bG fun sv=>?_|fail))<;>(refine bX 0 ?_<;>(repeat' (first|refine aU ?_|refine bG fun sv=>?_|fail)))<;>(refine bX 4 ?_<;>(repeat' (first|refine aU ?_|refine bG fun sv=>?_|fail)))<;>(refine bX 9 ?_<;>(repeat' (first|refine aU ?_|refine cV fun r hr=>?_|refine aW fun r=>?_|fail)))<;>refine bY 10 ?_<;>(refine bX 11 ?_<;>(repeat' (first|refine aU ?_|refine bG fun sv=>?_|fail)))<;>(refine bX 12 ?_<;>(repeat' (first|refine aU ?_|refine bG fun sv=>?_|fail)))<;>(refine bX 16 ?_<;>(repeat' (first|refine aU ?_|refine bG fun sv=>?_|fail)))<;>refine bY 17 ?_));rotate_right;(focus ((repeat' (first|refine aU ?_|refine bG fun sv=>?_|fail))<;>(refine fH 4 15 ?_ ?_;rotate_right;(focus ((repeat' (first|refine aU ?_|refine bG fun sv=>?_|fail))<;>(refine bX 4 ?_<;>(repeat' (first|refine aU ?_|refine bG fun sv=>?_|fail)))<;>(refine bX 9 ?_<;>(repeat' (first|refine aU ?_|refine cV fun r hr=>?_|refine aW fun r=>?_|fail)))<;>refine bY 10 ?_<;>(refine bX 11 ?_<;>(repeat' (first|refine aU ?_|refine bG fun sv=>?_|fail)))<;>(refine bX 12 ?_<;>(repeat' (first|refine aU ?_|refine bG fun sv=>?_|fail)))<;>(refine bX 16 ?_<;>(repeat' (first|refine aU ?_|refine bG fun sv=>?_|fail)))<;>refine bY 17 ?_));rotate_right;(focus ((repeat' (first|refine aU ?_|refine bG fun sv=>?_|fail))<;>(refine fH 9 15 ?_ ?_;rotate_right;(focus ((repeat' (first|refine aU ?_|refine bG fun sv=>?_|fail))<;>(refine bX 9 ?_<;>(repeat' (first|refine aU ?_|refine cV fun r hr=>?_|refine aW fun r=>?_|fail)))<;>refine bY 10 ?_<;>(refine bX 11 ?_<;>(repeat' (first|refine aU ?_|refine bG fun sv=>?_|fail)))<;>(refine bX 12 ?_<;>(repeat' (first|refine aU ?_|refine bG fun sv=>?_|fail)))<;>(refine bX 16 ?_<;>(repeat' (first|refine aU ?_|refine bG fun sv=>?_|fail)))<;>refine bY 17 ?_));rotate_right;(focus ((repeat' (first|refine aU ?_|refine cV fun r hr=>?_|refine aW fun r=>?_|fail))<;>refine bY 10 ?_<;>(refine fH 11 15 ?_ ?_;rotate_right;(focus ((repeat' (first|refine aU ?_|refine bG fun sv=>?_|fail))<;>(refine bX 11 ?_<;>(repeat' (first|refine aU ?_|refine bG fun sv=>?_|fail)))<;>(refine bX 12 ?_<;>(repeat' (first|refine aU ?_|refine bG fun sv=>?_|fail)))<;>(refine bX 16 ?_<;>(repeat' (first|refine aU ?_|refine bG fun sv=>?_|fail)))<;>refine bY 17 ?_));rotate_right;(focus ((repeat' (first|refine aU ?_|refine bG fun sv=>?_|fail))<;>(refine fH 12 15 ?_ ?_;rotate_right;(focus ((repeat' (first|refine aU ?_|refine bG fun sv=>?_|fail))<;>(refine bX 12 ?_<;>(repeat' (first|refine aU ?_|refine bG fun sv=>?_|fail)))<;>(refine bX 16 ?_<;>(repeat' (first|refine aU ?_|refine bG fun sv=>?_|fail)))<;>refine bY 17 ?_));rotate_right;(focus ((repeat' (first|refine aU ?_|refine bG fun sv=>?_|fail))<;>(refine bX 15 ?_<;>(repeat' (first|refine aU ?_|refine bG fun sv=>?_|fail)))<;>(refine bX 16 ?_<;>(repeat' (first|refine aU ?_|refine bG fun sv=>?_|fail)))<;>refine bY 17 ?_)))))))))))))))));rotate_right;(focus ((repeat' (first|refine aU ?_|refine bG fun sv=>?_|fail))<;>(refine fH 3 15 ?_ ?_;rotate_right;(focus ((repeat' (first|refine aU ?_|refine bG fun sv=>?_|fail))<;>(refine bX 3 ?_<;>(repeat' (first|refine aU ?_|refine bG fun sv=>?_|fail)))<;>(refine bX 4 ?_<;>(repeat' (first|refine aU ?_|refine bG fun sv=>?_|fail)))<;>(refine bX 9 ?_<;>(repeat' (first|refine aU ?_|refine cV fun r hr=>?_|refine aW fun r=>?_|fail)))<;>refine bY 10 ?_<;>(refine bX 11 ?_<;>(repeat' (first|refine aU ?_|refine bG fun sv=>?_|fail)))<;>(refine bX 12 ?_<;>(repeat' (first|refine aU ?_|refine bG fun sv=>?_|fail)))<;>(refine bX 16 ?_<;>(repeat' (first|refine aU ?_|refine bG fun sv=>?_|fail)))<;>refine bY 17 ?_));rotate_right;(focus ((repeat' (first|refine aU ?_|refine bG fun sv=>?_|fail))<;>(refine fH 4 15 ?_ ?_;rotate_right;(focus ((repeat' (first|refine aU ?_|refine bG fun sv=>?_|fail))<;>(refine bX 4 ?_<;>(repeat' (first|refine aU ?_|refine bG fun sv=>?_|fail)))<;>(refine bX 9 ?_<;>(repeat' (first|refine aU ?_|refine cV fun r hr=>?_|refine aW fun r=>?_|fail)))<;>refine bY 10 ?_<;>(refine bX 11 ?_<;>(repeat' (first|refine aU ?_|refine bG fun sv=>?_|fail)))<;>(refine bX 12 ?_<;>(repeat' (first|refine aU ?_|refine bG fun sv=>?_|fail)))<;>(refine bX 16 ?_<;>(repeat' (first|refine aU ?_|refine bG fun sv=>?_|fail)))<;>refine bY 17 ?_));rotate_right;(focus ((repeat' (first|refine aU ?_|refine bG fun sv=>?_|fail))<;>(refine fH 9 15 ?_ ?_;rotate_right;(focus ((repeat' (first|refine aU ?_|refine bG fun sv=>?_|fail))<;>(refine bX 9 ?_<;>(repeat' (first|refine aU ?_|refine cV fun r hr=>?_|refine aW fun r=>?_|fail)))<;>refine bY 10 ?_<;>(refine bX 11 ?_<;>(repeat' (first|refine aU ?_|refine bG fun sv=>?_|fail)))<;>(refine bX 12 ?_<;>(repeat' (first|refine aU ?_|refine bG fun sv=>?_|fail)))<;>(refine bX 16 ?_<;>(repeat' (first|refine aU ?_|refine bG fun sv=>?_|fail)))<;>refine bY 17 ?_));rotate_right;(focus ((repeat' (first|refine aU ?_|refine cV fun r hr=>?_|refine aW fun r=>?_|fail))<;>refine bY 10 ?_<;>(refine fH 11 15 ?_ ?_;rotate_right;(focus ((repeat' (first|refine aU ?_|refine bG fun sv=>?_|fail))<;>(refine bX 11 ?_<;>(repeat' (first|refine aU ?_|refine bG fun sv=>?_|fail)))<;>(refine bX 12 ?_<;>(repeat' (first|refine aU ?_|refine bG fun sv=>?_|fail)))<;>(refine bX 16 ?_<;>(repeat' (first|refine aU ?_|refine bG fun sv=>?_|fail)))<;>refine bY 17 ?_));rotate_right;(focus ((repeat' (first|refine aU ?_|refine bG fun sv=>?_|fail))<;>(refine fH 12 15 ?_ ?_;rotate_right;(focus ((repeat' (first|refine aU ?_|refine bG fun sv=>?_|fail))<;>(refine bX 12 ?_<;>(repeat' (first|refine aU ?_|refine bG fun sv=>?_|fail)))<;>(refine bX 16 ?_<;>(repeat' (first|refine aU ?_|refine bG fun sv=>?_|fail)))<;>refine bY 17 ?_));rotate_right;(focus ((repeat' (first|refine aU ?_|refine bG fun sv=>?_|fail))<;>(refine bX 15 ?_<;>(repeat' (first|refine aU ?_|refine bG fun sv=>?_|fail)))<;>(refine bX 16 ?_<;>(repeat' (first|refine aU ?_|refine bG fun sv=>?_|fail)))<;>refine bY 17 ?_)))))))))))))))))))<;>refine bI ?_)
  all_goals repeat' (first|refine aU ?_|refine bP ?_|fail)
  all_goals exact dH ((sv,bs.take d.1.1.toNat++[g.data.toList.getD r.1.1.toNat 0]++bs.drop d.1.1.toNat),n-1,r.1.2) ⟨by simp only;omega,by simp only[aD,aN,aR,aJ];omega⟩ (by simp only;omega) (by kernel_rfl) (aYq sv aH)
 all_goals exact⟨⟨(⟨bs.toArray⟩,p1),by show bs.toArray.size<=_;simp only[dP];omega⟩,rfl,aH⟩
end Go.Proofs.YtajdgkpjbpindaaGreatDoor
