/- Texts of the proof of FnNames. -/
import Derived.Test.YtajdgkpjbpindaaGreatDoorTaa
import Derived.Lib.AppendStr
import Derived.Lib.Builder
import Derived.Lib.UnsafeStr
import Derived.Laws.IdiomStrings
import Derived.Laws.Pointers
set_option linter.unusedVariables false
set_option linter.unusedSimpArgs false
set_option linter.unusedSectionVars false
namespace Go.Eng
open Go
theorem jA.unsh{β:Type}[cB β]{ok:Nat->Prop}{w:World}:∀ {G:List Nat} {cells:List Value} {xs:List (Sh β)},jA ok w G cells xs->kK ok w cells (xs.map Sh.v)
 | _,_,[],h=>h.2
 | _,_,x::xs,⟨f,g,c,d,_,e',h,h'⟩=>⟨c,d,e',h.2,jA.unsh h'⟩
section
variable {P:Program} {ops:Array Oper} {Q:Exit->Act->World->Prop} {w0:World} {rest:List Oper} {l l':List Value} {I Y:List Atom} {ty:TypeId} {pos:String} {after:Array Edge} {d:Nat}
theorem aM8{T:TypeId}{x:Operand}{sv:Value}{n:Int}{m:Nat}{xs:List (Sh (List Int))}[h:Ev l x (.pointer (some (dW sv n 1)))][hm:fJ n m][hT:Sc P T][hp:cQ (List (Sh (List Int))) bA I [sv] xs Y][hr:dZ (List (Sh (List Int))) bA I [sv] xs](hi:0<=n/\n<xs.length)
  (g:∀ p,WL P ops Q w0 rest (l.set d p) (.rd [p] (xs.getD m default).v::I)):WL P ops Q w0 (⟨some d,.load T x,ty,pos,after,none⟩::rest) l I:=by
 intro w hs
 have hn:n.toNat=m:=by have:=hm.eq;omega
 obtain ⟨a,cap,b,off,p,c,s,rfl,_,_,hca,hp1,he,hrd⟩:=gV (hs.rd (hr:=hr)) hi.1 hi.2
 have hs2:=hs.perm hp.perm
 obtain ⟨hb,F,hnd,hl,f,g2,rfl,hf,hrest⟩:=hs2
 have hf:=fL.1 hf
 rcases hf with⟨h1,h2,_⟩|⟨g0,cap',dV,e,G,cells,h1,h2,h3,h4,h5,h6,h7,h8,h9⟩
 ·subst h2;simp at hi;omega
 ·obtain ⟨p1,c1,s1,e1,e2,e3⟩:=kK.get h9.unsh m (by rw[aY];omega)
  simp only[bR,and_true,Value.slice.injEq,Option.some.injEq,Addr.mk.injEq] at h1
  obtain ⟨⟨rfl,rfl,_⟩,_,_⟩:=h1
  have hsz:cB.sz (Sh (List Int))=1:=rfl
  have hsz2:cB.sz (List Int)=1:=rfl
  obtain ⟨v1,rfl⟩:=List.length_eq_one_iff.1 (show c1.length=1 from(cB.rd_len e3).trans hsz2)
  obtain ⟨v2,rfl⟩:=List.length_eq_one_iff.1 (show c.length=1 from(cB.rd_len hrd).trans hsz)
  have hcell:w.cell? ⟨b,0+p.length,none⟩=some v2:=by
   have:=hca.part 0 (by simp)
   simpa using this
  have hcur:w.cell? ⟨b,0+p.length,none⟩=some v1:=by
   rw[hsz] at hp1
   rw[hsz2] at e2
   have h10:dV.toList[m]?=some v1:=by
    have:cells[m]?=some v1:=by
     rw[e1,aT,cP (by omega),e2];simp
    rw[← h8] at this
    rw[cU] at this
    split at this
    ·exact this
    ·cases this
   rw[show 0+p.length=m by omega]
   simp [World.cell?,h3] at h10 ⊢
   exact h10
  rw[hcell] at hcur
  injection hcur with hcur
  subst hcur
  have he':dW (.slice (some ⟨b,0,none⟩) xs.length cap) n 1=⟨b,0+p.length,none⟩:=he
  have hrun:(execOp (E l).eval (⟨some d,.load T x,ty,pos,after,none⟩:Oper)).run P w=.ok (.value v2) w:=by
   simp only[execOp,h.eq]
   rw[he']
   have hcell':w.cell? ⟨b,p.length,none⟩=some v2:=by simpa using hcell
   simp [hcell',Result.andThen,Instr.loadAt,Instr.sureAddr,loadVar,Sem.run_bind,hT.agg,load,Sem.run,hcell]
  refine jW rfl hrun ?_
  rw[gO]
  have e4:cB.rd (fun b=>b∉f++g2) w [v2] (xs.getD m default).v:=by
   rw[aC,aG (by omega),aZ]
   rw[List.getElem_map] at e3
   exact e3
  have hsat:Sat w0 w (@Atom.rd (List Int) bA [v2] (xs.getD m default).v::@Atom.ow (List (Sh (List Int))) bA [.slice (some ⟨b,0,none⟩) xs.length cap] xs::Y):=⟨hb,f++g2,hnd,hl,[],f++g2,rfl,⟨rfl,e4⟩,f,g2,rfl,hf,hrest⟩
  exact g v2 w (hsat.perm (hp.perm.symm.cons _))
instance {T:TypeId}{x:Operand}{sv:Value}{n:Int}{m:Nat}{xs:List (Sh (List Int))}[h:Ev l x (.pointer (some (dW sv n 1)))][hm:fJ n m][hT:Sc P T][hp:cQ (List (Sh (List Int))) bA I [sv] xs Y][hr:dZ (List (Sh (List Int))) bA I [sv] xs] :
  mW (WL P ops Q w0 (⟨some d,.load T x,ty,pos,after,none⟩::rest) l I) (0<=n/\n<xs.length) (fun p=>WL P ops Q w0 rest (l.set d p) (.rd [p] (xs.getD m default).v::I)):=⟨fun s g=>aM8 s g⟩
end
end Go.Eng
namespace Go.Eng
open Go Go.RowKit
section
variable {P:Program} {ops:Array Oper} {Q:Exit->Act->World->Prop} {w0:World} {rest:List Oper} {l l':List Value} {I Y:List Atom} {ty:TypeId} {pos:String} {after:Array Edge} {d:Nat}
variable {T U:TypeId} {x y:Operand} {a b:ByteArray}
theorem aVk[hx:Ev l x (.string a)][hy:Ev l y (.string b)](h:a.size+b.size<=9223372036854775807):Pu P w0 l I (.binOp .add T x y U) ty (.string (a++b)):=
 fZ qU (fun w=>by
  simp only[binOp,Op.stringOp]
  rw[if_neg (by have:IntKind.i64.max=9223372036854775807:=rfl;omega)];rfl)
instance [hx:Ev l x (.string a)][hy:Ev l y (.string b)]:mI P l I (.binOp .add T x y U) ty (.string (a++b)) (a.size+b.size<=9223372036854775807):=⟨fun h _=>aVk h⟩
theorem aZq{i j:Operand}{m n:Int}{k:IntKind}[hT:kX P T][hx:Ev l x (.string a)][hi:Ev l i (.int k m)][hj:Ev l j (.int k n)](h:0<=m/\m<=n/\n<=a.size):Pu P w0 l I (.slice T x (some i) (some j) none) ty (.string (a.extract m.toNat n.toNat)):=by
 obtain ⟨M,rfl⟩:∃ M:Nat,m=M:=⟨m.toNat,by omega⟩
 obtain ⟨N,rfl⟩:∃ M:Nat,n=M:=⟨n.toNat,by omega⟩
 have h1:M<=N:=by omega
 have h2:N<=a.size:=by omega
 exact fT (s:=Instr.sliceAt T (.string a) (some (.int k M)) (some (.int k N)) none) (fun o ho _=>by unfold execOp;rw[ho];simp only[hx.eq,hi.eq,hj.eq,Option.map]) (fun w _=>by
  simp [Instr.sliceAt,Instr.slice,run_underlying hT.eq,Instr.sliceBounds,Instr.sliceBound,asIntOf,Sem.run_bind,h1,h2])
instance {i j:Operand}{m n:Int}{k:IntKind}[hT:kX P T][hx:Ev l x (.string a)][hi:Ev l i (.int k m)][hj:Ev l j (.int k n)]:mI P l I (.slice T x (some i) (some j) none) ty (.string (a.extract m.toNat n.toNat)) (0<=m/\m<=n/\n<=a.size):=⟨fun h _=>aZq h⟩
end
section
variable {P:Program} {ops:Array Oper} {Q:Exit->Act->World->Prop} {w0:World} {rest:List Oper} {l l':List Value} {I Y:List Atom} {ty:TypeId} {pos:String} {after:Array Edge} {d:Nat}
end
structure TB(T:TypeId) where
 cs:List Value
instance jJ{T:TypeId}:cB (TB T) where
 sz:=1
 rd _ _ cells x:=∃ b:Nat,cells=[.pointer (some ⟨b,0,none⟩)]
 ow _ w F cells x:=∃ b:Nat,cells=[.pointer (some ⟨b,0,none⟩)]/\F=[b]/\w.heap[b]?=some (.cells x.cs.toArray T (0,0))
 pos:=by decide
 rd_len:=by rintro _ _ _ _ ⟨b,rfl⟩;rfl
 rd_one:=by rintro _ _ _ _ ⟨b,rfl⟩ x hx;simp at hx;subst hx;rfl
 rd_mono:=fun h _=>h
 ow_mono:=fun ⟨b,h1,h2,h3⟩ hf _=>⟨b,h1,h2,(hf b (by simp [h2])).trans h3⟩
 ow_rd:=fun ⟨b,h1,_,_⟩ _ _=>⟨b,h1⟩
 ow_lt:=by
  rintro _ _ _ _ _ ⟨b,_,rfl,h3⟩ b' hb
  simp at hb;subst hb
  exact(bL.1 h3).1
section
variable {P:Program} {ops:Array Oper} {Q:Exit->Act->World->Prop} {w0:World} {rest:List Oper} {l l':List Value} {I Y:List Atom} {ty:TypeId} {pos:String} {after:Array Edge} {d:Nat}
instance (priority:=1100) gD.tb{I:List Atom}{b:Nat}{T:TypeId}{cs:List Value}:gD (@Atom.ow (TB T) jJ [.pointer (some ⟨b,0,none⟩)] (TB.mk cs)::I) b cs:=⟨fun ⟨_,_,_,⟨b',h1,_,h3⟩,_⟩=>by
 simp only[bR,Value.pointer.injEq,Option.some.injEq,Addr.mk.injEq,and_true] at h1
 subst h1
 exact⟨T,h3⟩⟩
class iV(I:List Atom)(b:Nat)(T:outParam TypeId)(cs:outParam (List Value))(Y:outParam (List Atom)):Prop where
 perm:I.Perm (@Atom.ow (TB T) jJ [.pointer (some ⟨b,0,none⟩)] (TB.mk cs)::Y)
instance (priority:=1100) iV.here{I:List Atom}{b:Nat}{T:TypeId}{cs:List Value}:iV (@Atom.ow (TB T) jJ [.pointer (some ⟨b,0,none⟩)] (TB.mk cs)::I) b T cs I:=⟨.refl _⟩
instance (priority:=1000) iV.skip{I Y:List Atom}{b:Nat}{T:TypeId}{cs:List Value}{B:Atom}[h:iV I b T cs Y]:iV (B::I) b T cs (B::Y):=⟨(h.perm.cons B).trans (.swap _ _ _)⟩
theorem aHe{w w0:World}{I:List Atom}{b:Nat}{T:TypeId}{cs:List Value}(h:Sat w0 w (@Atom.ow (TB T) jJ [.pointer (some ⟨b,0,none⟩)] (TB.mk cs)::I)):w.heap[b]?=some (.cells cs.toArray T (0,0)):=by
 obtain ⟨_,F,_,_,f,g,_,⟨b',h1,_,h3⟩,_⟩:=h
 simp only[bR,Value.pointer.injEq,Option.some.injEq,Addr.mk.injEq,and_true] at h1
 subst h1
 exact h3
theorem Sat.storeT{w0 w:World}{I:List Atom}{b:Nat}{T:TypeId}{cs:List Value}(h:Sat w0 w (@Atom.ow (TB T) jJ [.pointer (some ⟨b,0,none⟩)] (TB.mk cs)::I))(i:Nat)(v:Value):Sat w0 (w.setCell ⟨b,i,none⟩ v) (@Atom.ow (TB T) jJ [.pointer (some ⟨b,0,none⟩)] (TB.mk (cs.set i v))::I):=by
 have hc0:=aHe h
 obtain ⟨hb,F,hn,hl,f,g,rfl,⟨b',h1,rfl,hc⟩,hs⟩:=h
 simp only[bR,Value.pointer.injEq,Option.some.injEq,Addr.mk.injEq,and_true] at h1
 subst h1
 have hlt:b<w.heap.size:=(bL.1 hc).1
 have hg:b∉g:=by have:=hn;simp at this;exact this.1
 have hsame:∀ k,k≠b->gH w (w.setCell ⟨b,i,none⟩ v) k:=fun k hk=>Below.heap_setCell _ _ _ _ hk
 refine⟨hb.setCell (hl b (by simp)) v,[b]++g,hn,hl,[b],g,rfl,⟨b,rfl,rfl,?_⟩,?_⟩
 ·simp only[World.setCell,Array.getElem?_modify,if_true,hc,Option.map_some]
  simp
 ·refine hs.mono (fun k hk _=>⟨hk,hsame k (fun e=>hk (by simp [e]))⟩) (by simp) (fun k hk=>hsame k (fun e=>hg (e▸hk)))
theorem aS5{T U:TypeId}{x y:Operand}{b off:Nat}{cs:List Value}{v:Value}[hx:Ev l x (.pointer (some ⟨b,off,none⟩))][hy:Ev l y v][hc:Cs I v [v]][hT:Sz P U 1][hb:iV I b T cs Y](hlt:off<cs.length)
  (h:WL P ops Q w0 rest l (@Atom.ow (TB T) jJ [.pointer (some ⟨b,0,none⟩)] (TB.mk (cs.set off v))::Y)):WL P ops Q w0 (⟨none,.store U x y,ty,pos,after,none⟩::rest) l I:=by
 intro w hs
 obtain ⟨h1,h2⟩:=hs.cs (hc:=hc)
 have hs2:=hs.perm hb.perm
 have he:=aHe hs2
 have hc1:v.oneCell'=true:=h2 v (by simp)
 have hcell:w.cell? ⟨b,off,none⟩=some (cs[off]'(by omega)):=by simp [World.cell?,he,aG (show off<cs.length by omega)]
 have hfr:w.frozen? ⟨b,off,none⟩=false:=by simp [World.frozen?,he]
 have hst:(store ((⟨b,off,none⟩:Addr).add 0) v).run P w=.ok () (w.setCell ⟨b,off,none⟩ v):=by
  rw[fB]
  cases v<;>simp_all [store,Sem.run,Value.oneCell']
 refine wpList_plain rfl fun K hK=>?_
 unfold Oper.wp
 have:(execOp (E l).eval ⟨none,.store U x y,ty,pos,after,none⟩).run P w=.ok .skip (w.setCell ⟨b,off,none⟩ v):=by
  show(do Instr.storeAt U ((E l).eval x) ((E l).eval y);pure Next.skip:Sem Next).run P w=_
  simp only[hx.eq,hy.eq,Sem.run_bind,Instr.storeAt,Instr.sureAddr,Sem.run_pure,Result.andThen_ok,storeVar,hT.size,h1]
  simp [storeCells,Sem.run_bind,hst]
 rw[this,Oper.upon_skip,nN]
 exact hK _ _ (h _ (hs2.storeT off v))
instance (priority:=1500) {T U:TypeId}{x y:Operand}{b off:Nat}{cs cs':List Value}{v:Value}[hx:Ev l x (.pointer (some ⟨b,off,none⟩))][hy:Ev l y v][hc:Cs I v [v]][hT:Sz P U 1][hb:iV I b T cs Y][hs:Se cs off v cs'] :
  aRw (WL P ops Q w0 (⟨none,.store U x y,ty,pos,after,none⟩::rest) l I) (off<cs.length) (WL P ops Q w0 rest l (@Atom.ow (TB T) jJ [.pointer (some ⟨b,0,none⟩)] (TB.mk cs')::Y)):=⟨fun h g=>aS5 h (hs.eq▸g)⟩
class bOm(P:Program)(T:TypeId):Prop where
 t:True
theorem Sat.allocT{w0 w:World}{I:List Atom}(h:Sat w0 w I)(cs:List Value)(T:TypeId):Sat w0 (w.alloc (.cells cs.toArray T)) (@Atom.ow (TB T) jJ [.pointer (some ⟨w.heap.size,0,none⟩)] (TB.mk cs)::I):=by
 obtain ⟨hb,F,hn,hl,hs⟩:=h
 have hlt:=hs.lt
 refine⟨hb.alloc hb.size _,w.heap.size::F,?_,?_,[w.heap.size],F,rfl,⟨w.heap.size,rfl,rfl,heap_alloc_new w _⟩,?_⟩
 ·exact List.nodup_cons.2 ⟨fun hm=>Nat.lt_irrefl _ (hlt _ hm),hn⟩
 ·intro b hb'
  rcases cH.1 hb' with rfl|hb'
  ·exact hb.size
  ·exact hl b hb'
 ·refine hs.mono (fun b hb hlt=>⟨?_,Below.heap_alloc _ _ _ hlt⟩) (by simp) (fun b hb=>Below.heap_alloc _ _ _ (hlt b hb))
  intro hm
  rcases cH.1 hm with rfl|hm
  ·exact Nat.lt_irrefl _ hlt
  ·exact hb hm
theorem aTa{T:TypeId}{zs:List Value}[hz:Zr P T zs](h:∀ b,WL P ops Q w0 rest (l.set d (.pointer (some ⟨b,0,none⟩))) (@Atom.ow (TB T) jJ [.pointer (some ⟨b,0,none⟩)] (TB.mk zs)::I)) :
  WL P ops Q w0 (⟨some d,.alloc T,ty,pos,after,none⟩::rest) l I:=by
 intro w hs
 obtain ⟨z,hz,hc⟩:=hz.zero
 refine jW (v:=.pointer (some ⟨w.heap.size,0,none⟩)) (w':=w.alloc (.cells zs.toArray T)) rfl ?_ ?_
 ·refine fW (f:=Next.value) (s:=Instr.alloc T true (.tuple #[])) ?_
  simp only[Instr.alloc,newVar,newRow,newObj,Sem.run_bind,hz,Result.andThen_ok,hc]
  rfl
 ·rw[gO];exact h _ _ (hs.allocT zs T)
instance (priority:=2000) {T:TypeId}{zs:List Value}[ht:bOm P T][hz:Zr P T zs]:bFq (WL P ops Q w0 (⟨some d,.alloc T,ty,pos,after,none⟩::rest) l I) (fun b=>WL P ops Q w0 rest (l.set d (.pointer (some ⟨b,0,none⟩))) (@Atom.ow (TB T) jJ [.pointer (some ⟨b,0,none⟩)] (TB.mk zs)::I)):=⟨fun h=>aTa h⟩
theorem yK{op:BinOp}{T:TypeId}{x y:Operand}{a b:Option Addr}(w:World):(eqGuard op T x y (.pointer a) (.pointer b)).run P w=.ok () w:=by
 unfold eqGuard;split<;>rfl
class aYd(P:Program)(T:TypeId):Prop where
 eq:P.underlying T=some (.pointer (P.pointee T))
 info:∃ j,P.info? (P.pointee T)=some j/\j.size≠0
theorem aI9{T U:TypeId}{x y:Operand}{a:Option Addr}[hT:aYd P T][hx:Ev l x (.pointer a)][hy:Ev l y (.pointer none)]:Pu P w0 l I (.binOp .eql T x y U) ty (.bool a.isNone):=
 fZ yK (fun w=>by
  have:=run_equal_pointer_nil (P:=P) w T a hT.eq
  cases a<;>simp [binOp,this,Sem.run_bind])
instance {T U:TypeId}{x y:Operand}[hT:aYd P T][hx:Ev l x (.pointer none)][hy:Ev l y (.pointer none)]:pK P l I (.binOp .eql T x y U) ty (.bool true):=⟨fun _=>aI9 (a:=none)⟩
instance {T U:TypeId}{x y:Operand}{a:Addr}[hT:aYd P T][hx:Ev l x (.pointer (some a))][hy:Ev l y (.pointer none)]:pK P l I (.binOp .eql T x y U) ty (.bool false):=⟨fun _=>aI9 (a:=some a)⟩
end
def mJ(bs:List UInt8):List Value:=bs.map fun b=>Value.int .u8 b.toNat
theorem bEf(bs:List UInt8):∀ u∈mJ bs,u.oneCell'=true:=by
 intro u hu
 obtain ⟨b,_,rfl⟩:=dT.1 hu
 rfl
theorem iP(bs:List UInt8):(mJ bs).length=bs.length:=by simp [mJ]
structure gP(T:TypeId) where
 bs:List UInt8
instance eY{T:TypeId}:cB (gP T) where
 sz:=1
 rd _ _ cells x:=∃ a cap,cells=[.slice a x.bs.length cap]
 ow _ w F cells x:=(cells=[.slice none 0 0]/\x.bs=[]/\F=[])∨∃ g cap dV,cells=[.slice (some ⟨g,0,none⟩) x.bs.length cap]/\F=[g]/\w.heap[g]?=some (.cells dV T (0,0))/\x.bs.length<=cap/\cap<=maxLen/\cap<=dV.size/\dV.toList.take x.bs.length=mJ x.bs
 pos:=by decide
 rd_len:=by rintro _ _ _ _ ⟨a,c,rfl⟩;rfl
 rd_one:=by rintro _ _ _ _ ⟨a,c,rfl⟩ x hx;simp at hx;subst hx;rfl
 rd_mono:=fun h _=>h
 ow_mono:=by
  rintro _ _ _ _ _ _ _ (h|⟨g,cap,dV,h1,h2,h3,h4⟩) hf _
  ·exact .inl h
  ·exact .inr ⟨g,cap,dV,h1,h2,(hf g (by simp [h2])).trans h3,h4⟩
 ow_rd:=by
  rintro _ _ _ _ _ x (⟨h1,h2,_⟩|⟨g,cap,dV,h1,_⟩) _ _
  ·exact⟨none,0,by rw[h1,h2];rfl⟩
  ·exact⟨_,cap,h1⟩
 ow_lt:=by
  rintro _ _ _ _ _ (⟨_,_,rfl⟩|⟨g,cap,dV,_,rfl,h3,_⟩) b hb
  ·cases hb
  ·simp at hb;subst hb;exact(bL.1 h3).1
section
variable {P:Program} {ops:Array Oper} {Q:Exit->Act->World->Prop} {w0:World} {rest:List Oper} {l l':List Value} {I Y:List Atom} {ty:TypeId} {pos:String} {after:Array Edge} {d:Nat}
class aBv(P:Program)(T:TypeId)(e:outParam TypeId):Prop where
 eq:P.underlying T=some (.slice e)
 info:∃ i z,P.info? e=some i/\i.size=1/\i.bytes=1/\i.zero=some z/\z.cells.size=1
theorem aFh{T U ty e:TypeId}[hT:aBv P T e][hU:kX P U]{w:World}{ok:Nat->Prop}{f:List Nat}{ov:Value}{xs:List UInt8}{s:ByteArray}
  (hf:cB.ow ok w f [ov] (gP.mk xs:gP e)) (hnd:f.Nodup) (hoky:∀ b∈f,¬ ok b) (hbytes:xs.length+s.size<=140737488355328) :
  ∃ v' w',(Builtin.append_ #[T,U] ty #[ov,.string s]).run P w=.ok v' w'/\(w'.os=w.os/\w'.tape=w.tape/\w'.output=w.output/\w.heap.size<=w'.heap.size/\w.drawn<=w'.drawn)/\
   (∀ b,b<w.heap.size->b∉f->gH w w' b)/\∃ f',f'.Nodup/\(∀ b∈f',b∈f∨w.heap.size<=b)/\∀ ok':Nat->Prop,(∀ b,ok b->b<w.heap.size->ok' b)->cB.ow ok' w' f' [v'] (gP.mk (xs++s.data.toList):gP e):=by
 obtain ⟨i,z,hi,hs1,hb1,hz,hz1⟩:=hT.info
 have ht:=hT.eq
 have hsl:s.data.toList.length=s.size:=by rw[bZ];rfl
 have hsc:Lib.strCells s=mJ s.data.toList:=rfl
 have hfc:(Builtin.firstCells i.size s.size (.string s)).run P w=.ok (Lib.strCells s).toArray w:=Lib.run_firstCells_string w i.size s
 have grown:∀ (old:Nat) (cells:List Value),cells=mJ xs->
   let w':=w.drew.alloc (.cells (cells.toArray++(Lib.strCells s).toArray++Builtin.zeroCells z.cells (grownCap w (xs.length+s.size) old e-(xs.length+s.size))) e)
   (w'.os=w.os/\w'.tape=w.tape/\w'.output=w.output/\w.heap.size<=w'.heap.size/\w.drawn<=w'.drawn)/\(∀ b,b<w.heap.size->b∉f->gH w w' b)/\
   ∃ f',f'.Nodup/\(∀ b∈f',b∈f∨w.heap.size<=b)/\∀ ok':Nat->Prop,(∀ b,ok b->b<w.heap.size->ok' b)->cB.ow ok' w' f' [.slice (some ⟨w.heap.size,0,none⟩) (xs.length+s.size) (grownCap w (xs.length+s.size) old e)] (gP.mk (xs++s.data.toList):gP e):=by
  intro old cells hcells w'
  have hge:=grownCap_ge w (xs.length+s.size) old e
  have hcm:=grownCap_le_maxLen w (xs.length+s.size) old e (by simp only[maxLen];omega)
  refine⟨⟨rfl,rfl,rfl,by simp [w'],(by first|exact aM _|exact cW _ _)⟩,fun b hb _=>Below.heap_alloc w.drew _ _ hb,[w.heap.size],by simp,fun b hb=>.inr (by simp at hb;omega),fun ok' _=>.inr ⟨w.heap.size,_,_,?_,rfl,heap_alloc_new w.drew _,?_,hcm,?_,?_⟩⟩
  ·simp [hsl]
  ·simp [hsl];exact hge
  ·simp only[Array.size_append,dP,size_zeroCells,hz1,hcells,iP,hsc,hsl]
   omega
  ·simp only[Array.toList_append,aD,hsl]
   have e1:mJ (xs++s.data.toList)=mJ xs++mJ s.data.toList:=by simp [mJ]
   rw[hcells,hsc,e1]
   exact List.take_left' (by rw[aD,iP,iP,hsl])
 rcases hf with⟨hov,hx0,rfl⟩|⟨g,cap,dV,hov,rfl,hg,hcap,hcapm,hcs,htake⟩
 ·simp only[bR,and_true] at hov
  subst hov
  have hx0:xs=[]:=hx0
  subst hx0
  by_cases h0:s.size=0
  ·have hd:s.data.toList=[]:=dG (by omega)
   refine⟨.slice none 0 0,w,?_,⟨rfl,rfl,rfl,aM _,aM _⟩,fun _ _ _=>rfl,[],by simp,by simp,fun ok' _=>.inl ⟨rfl,?_,rfl⟩⟩
   ·rw[h0] at hfc
    simp [Builtin.append_,run_underlying ht,run_underlying hU.eq,sizeOf,typeInfo,hi,Builtin.lenOf,h0,hfc]
   ·simp [hd]
  ·have hr:=run_append_nil_string (P:=P) w T U ty e i z ht hU.eq hi hz s (by omega) (by omega) (by rw[hb1];omega)
   have hne:s.data.map (fun b=>Value.int .u8 b.toNat)=(Lib.strCells s).toArray:=by apply Array.ext';simp [Lib.strCells]
   rw[hne] at hr
   have hgr:=grown 0 [] rfl
   simp only[aL,cR,aB,Array.empty_append] at hgr ⊢
   exact⟨_,_,hr,hgr.1,hgr.2.1,hgr.2.2⟩
 ·simp only[bR,and_true] at hov
  subst hov
  have hcap:xs.length<=cap:=hcap
  have htake:dV.toList.take xs.length=mJ xs:=htake
  by_cases hroom:xs.length+s.size<=cap
  ·have hr:=Lib.run_append_room_string w T U ty e i ht hU.eq hi hs1 g xs.length cap dV hg s hroom (by omega)
   have hsame:∀ k,k≠g->gH w (w.setRow g (dV.toList.take xs.length++Lib.strCells s++dV.toList.drop (xs.length+s.size)).toArray) k:=fun k hk=>setRow_other w g k _ hk
   refine⟨_,_,hr,⟨rfl,rfl,rfl,by simp,(by first|exact aM _|exact cW _ _)⟩,fun b _ hb=>hsame b (fun h=>hb (by simp [h])),[g],by simp,fun b hb=>.inl hb,fun ok' _=>.inr ⟨g,cap,_,?_,rfl,setRow_heap w g dV _ e _ hg,?_,hcapm,?_,?_⟩⟩
   ·simp [hsl]
   ·simp [hsl];exact hroom
   ·simp only[dP,aD,aN,aR,bZ,Lib.strCells_length]
    omega
   ·have e1:mJ (xs++s.data.toList)=mJ xs++mJ s.data.toList:=by simp [mJ]
    simp only[aD,hsl]
    rw[htake,e1,hsc]
    exact List.take_left' (by rw[aD,iP,iP,hsl])
  ·have holds:∀ j u,(mJ xs)[j]?=some u->w.cell? ((⟨g,0,none⟩:Addr).add j)=some u:=fun j u hj=>by
    rw[fB,cR]
    rw[← htake,cU] at hj
    split at hj
    ·simpa [World.cell?,hg] using hj
    ·cases hj
   have hr:=Lib.run_append_grow_string (P:=P) w T U ty e i z ht hU.eq hi hz ⟨g,0,none⟩ xs.length cap (mJ xs) (by rw[iP,hs1];omega) holds s (by omega) (by omega) (growslice_fits (by omega) (by rw[hb1];omega))
   have hgr:=grown cap (mJ xs) rfl
   exact⟨_,_,hr,hgr.1,hgr.2.1,hgr.2.2⟩
theorem aK4{T ty e:TypeId}[hT:aBv P T e]{w:World}{ok:Nat->Prop}{f:List Nat}{ov:Value}{xs ys:List UInt8}{a:Addr}{c:Nat}
  (hf:cB.ow ok w f [ov] (gP.mk xs:gP e)) (hnd:f.Nodup) (hoky:∀ b∈f,¬ ok b) (hnews:∀ j v,(mJ ys)[j]?=some v->w.cell? (a.add j)=some v) (hy0:0<ys.length) (hbytes:xs.length+ys.length<=140737488355328) :
  ∃ v' w',(Builtin.append_ #[T,T] ty #[ov,.slice (some a) ys.length c]).run P w=.ok v' w'/\(w'.os=w.os/\w'.tape=w.tape/\w'.output=w.output/\w.heap.size<=w'.heap.size/\w.drawn<=w'.drawn)/\
   (∀ b,b<w.heap.size->b∉f->gH w w' b)/\∃ f',f'.Nodup/\(∀ b∈f',b∈f∨w.heap.size<=b)/\∀ ok':Nat->Prop,(∀ b,ok b->b<w.heap.size->ok' b)->cB.ow ok' w' f' [v'] (gP.mk (xs++ys):gP e):=by
 obtain ⟨i,z,hi,hs1,hb1,hz,hz1⟩:=hT.info
 have ht:=hT.eq
 have hyl:(mJ ys).length=ys.length*i.size:=by rw[iP,hs1,Nat.mul_one]
 have hfc:(Builtin.firstCells i.size ys.length (.slice (some a) ys.length c)).run P w=.ok (mJ ys).toArray w:=run_firstCells_some (P:=P) w i.size ys.length a ys.length c (mJ ys) hyl hnews
 have grown:∀ (old:Nat) (cells:List Value),cells=mJ xs->
   let w':=w.drew.alloc (.cells (cells.toArray++(mJ ys).toArray++Builtin.zeroCells z.cells (grownCap w (xs.length+ys.length) old e-(xs.length+ys.length))) e)
   (w'.os=w.os/\w'.tape=w.tape/\w'.output=w.output/\w.heap.size<=w'.heap.size/\w.drawn<=w'.drawn)/\(∀ b,b<w.heap.size->b∉f->gH w w' b)/\
   ∃ f',f'.Nodup/\(∀ b∈f',b∈f∨w.heap.size<=b)/\∀ ok':Nat->Prop,(∀ b,ok b->b<w.heap.size->ok' b)->cB.ow ok' w' f' [.slice (some ⟨w.heap.size,0,none⟩) (xs.length+ys.length) (grownCap w (xs.length+ys.length) old e)] (gP.mk (xs++ys):gP e):=by
  intro old cells hcells w'
  have hge:=grownCap_ge w (xs.length+ys.length) old e
  have hcm:=grownCap_le_maxLen w (xs.length+ys.length) old e (by simp only[maxLen];omega)
  refine⟨⟨rfl,rfl,rfl,by simp [w'],(by first|exact aM _|exact cW _ _)⟩,fun b hb _=>Below.heap_alloc w.drew _ _ hb,[w.heap.size],by simp,fun b hb=>.inr (by simp at hb;omega),fun ok' _=>.inr ⟨w.heap.size,_,_,?_,rfl,heap_alloc_new w.drew _,?_,hcm,?_,?_⟩⟩
  ·simp
  ·simp;exact hge
  ·simp only[Array.size_append,dP,size_zeroCells,hz1,hcells,iP,iP]
   omega
  ·simp only[Array.toList_append,aD]
   have e1:mJ (xs++ys)=mJ xs++mJ ys:=by simp [mJ]
   rw[hcells,e1]
   exact List.take_left' (by rw[aD,iP,iP])
 rcases hf with⟨hov,hx0,rfl⟩|⟨g,cap,dV,hov,rfl,hg,hcap,hcapm,hcs,htake⟩
 ·simp only[bR,and_true] at hov
  subst hov
  have hx0:xs=[]:=hx0
  subst hx0
  ·have hr:=run_append_nil (P:=P) w T ty e i z ht hi hz a ys.length c (mJ ys) hyl hnews hy0 (by omega) (by rw[hb1];omega)
   have hgr:=grown 0 [] rfl
   simp only[aL,cR,aB,Array.empty_append] at hgr ⊢
   exact⟨_,_,hr,hgr.1,hgr.2.1,hgr.2.2⟩
 ·simp only[bR,and_true] at hov
  subst hov
  have hcap:xs.length<=cap:=hcap
  have htake:dV.toList.take xs.length=mJ xs:=htake
  by_cases hroom:xs.length+ys.length<=cap
  ·have hr:=pH w T ty e e i ht hi g xs.length cap dV hg (.slice (some a) ys.length c) ys.length (mJ ys) (fun w=>mL w) hfc (bEf ys) hroom (by rw[hyl,hs1];omega)
   rw[hs1,Nat.mul_one,iP] at hr
   have hsame:∀ k,k≠g->gH w (w.setRow g (dV.toList.take xs.length++mJ ys++dV.toList.drop (xs.length+ys.length)).toArray) k:=fun k hk=>setRow_other w g k _ hk
   refine⟨_,_,hr,⟨rfl,rfl,rfl,by simp,(by first|exact aM _|exact cW _ _)⟩,fun b _ hb=>hsame b (fun h=>hb (by simp [h])),[g],by simp,fun b hb=>.inl hb,fun ok' _=>.inr ⟨g,cap,_,?_,rfl,setRow_heap w g dV _ e _ hg,?_,hcapm,?_,?_⟩⟩
   ·simp
   ·simp;exact hroom
   ·simp only[dP,aD,aN,aR,bZ,iP]
    omega
   ·have e1:mJ (xs++ys)=mJ xs++mJ ys:=by simp [mJ]
    simp only[aD]
    rw[htake,e1]
    exact List.take_left' (by rw[aD,iP,iP])
  ·have holds:∀ j u,(mJ xs)[j]?=some u->w.cell? ((⟨g,0,none⟩:Addr).add j)=some u:=fun j u hj=>by
    rw[fB,cR]
    rw[← htake,cU] at hj
    split at hj
    ·simpa [World.cell?,hg] using hj
    ·cases hj
   have hr:=run_append_grow (P:=P) w T ty e i z ht hi hz ⟨g,0,none⟩ xs.length cap (mJ xs) (by rw[iP,hs1];omega) holds a ys.length c (mJ ys) hyl hnews (by omega) (by omega) (growslice_fits (by omega) (by rw[hb1];omega))
   have hgr:=grown cap (mJ xs) rfl
   exact⟨_,_,hr,hgr.1,hgr.2.1,hgr.2.2⟩
theorem aBr{T U e:TypeId}{x y:Operand}{ov:Value}{s:ByteArray}{xs:List UInt8}[hx:Ev l x ov][hy:Ev l y (.string s)][hT:aBv P T e][hU:kX P U][h1:cQ (gP e) eY I [ov] (gP.mk xs) Y]
  (hbytes:xs.length+s.size<=140737488355328) (h:∀ sv,WL P ops Q w0 rest (l.set d sv) (@Atom.ow (gP e) eY [sv] (gP.mk (xs++s.data.toList))::Y)) :
  WL P ops Q w0 (⟨some d,.call { callee:=.builtin .append,args:=#[x,y],argTypes:=#[T,U] },ty,pos,after,none⟩::rest) l I:=by
 intro w hs
 have hs1:Sat w0 w ([@Atom.ow (gP e) eY [ov] (gP.mk xs)]++Y):=hs.perm h1.perm
 obtain ⟨hb,F,hn,hl,f,g,rfl,hf,hrest⟩:=hs1
 obtain ⟨v',w',hr,ho,hsame,fn,hfn,hnew,hrep⟩:=aFh (P:=P) (T:=T) (U:=U) (ty:=ty) (s:=s) (e:=e) hf (bJ.1 hn).1 (fun b hb hok=>hok (by simp [hb])) hbytes
 refine jW rfl (nW hr) ?_
 rw[gO]
 refine h _ _ ?_
 exact Sat.step' (Δ':=[@Atom.ow (gP e) eY [v'] (gP.mk (xs++s.data.toList))]) (I:=Y) hb hn hl hrest ho hsame fn hfn hnew (fun ok' hok'=>⟨fn,[],by simp,hrep ok' hok',rfl⟩)
instance (priority:=1400) {T U e:TypeId}{x y:Operand}{ov:Value}{s:ByteArray}{xs:List UInt8}[hx:Ev l x ov][hy:Ev l y (.string s)][hT:aBv P T e][hU:kX P U][h1:cQ (gP e) eY I [ov] (gP.mk xs) Y] :
  mW (WL P ops Q w0 (⟨some d,.call { callee:=.builtin .append,args:=#[x,y],argTypes:=#[T,U] },ty,pos,after,none⟩::rest) l I) (xs.length+s.size<=140737488355328) (fun sv=>WL P ops Q w0 rest (l.set d sv) (@Atom.ow (gP e) eY [sv] (gP.mk (xs++s.data.toList))::Y)):=⟨fun s h=>aBr s h⟩
theorem aF2{ok:Nat->Prop}{w:World}:∀ {cells:List Value} {ys:List UInt8},kK ok w cells ys->cells=mJ ys
 | cells,[],h=>h
 | cells,y::ys,⟨c,d,e,h,h'⟩=>by
  have hc:c=[.int .u8 y.toNat]:=h
  rw[e,hc,aF2 h'];rfl
theorem aDd{T e:TypeId}{x y:Operand}{ov tv:Value}{xs ys:List UInt8}[hx:Ev l x ov][hy:Ev l y tv][hT:aBv P T e][h1:cQ (gP e) eY I [ov] (gP.mk xs) Y][h2:dZ (List UInt8) bA I [tv] ys]
  (hbytes:0<ys.length/\xs.length+ys.length<=140737488355328) (h:∀ sv,WL P ops Q w0 rest (l.set d sv) (@Atom.ow (gP e) eY [sv] (gP.mk (xs++ys))::Y)) :
  WL P ops Q w0 (⟨some d,.call { callee:=.builtin .append,args:=#[x,y],argTypes:=#[T,T] },ty,pos,after,none⟩::rest) l I:=by
 intro w hs
 obtain ⟨a,c,hc,_,_,_,hrd⟩:=hs.rd (hr:=h2)
 simp only[bR,and_true] at hc
 subst hc
 obtain ⟨b0,off,cells,rfl,_,hca,hr0⟩:=hrd hbytes.1
 have hcells:=aF2 hr0
 have hs1:Sat w0 w ([@Atom.ow (gP e) eY [ov] (gP.mk xs)]++Y):=hs.perm h1.perm
 obtain ⟨hb,F,hn,hl,f,g,rfl,hf,hrest⟩:=hs1
 obtain ⟨v',w',hr,ho,hsame,fn,hfn,hnew,hrep⟩:=aK4 (P:=P) (T:=T) (ty:=ty) (ys:=ys) (a:=⟨b0,off,none⟩) (c:=c) (e:=e) hf (bJ.1 hn).1 (fun b hb hok=>hok (by simp [hb])) (fun j v hj=>by
  rw[fB]
  rw[← hcells] at hj
  rw[hca j (dC.1 hj).1,hj]) hbytes.1 hbytes.2
 refine jW rfl (nW hr) ?_
 rw[gO]
 refine h _ _ ?_
 exact Sat.step' (Δ':=[@Atom.ow (gP e) eY [v'] (gP.mk (xs++ys))]) (I:=Y) hb hn hl hrest ho hsame fn hfn hnew (fun ok' hok'=>⟨fn,[],by simp,hrep ok' hok',rfl⟩)
instance (priority:=1500) {T e:TypeId}{x y:Operand}{ov tv:Value}{xs ys:List UInt8}[hx:Ev l x ov][hy:Ev l y tv][hT:aBv P T e][h1:cQ (gP e) eY I [ov] (gP.mk xs) Y][h2:dZ (List UInt8) bA I [tv] ys] :
  mW (WL P ops Q w0 (⟨some d,.call { callee:=.builtin .append,args:=#[x,y],argTypes:=#[T,T] },ty,pos,after,none⟩::rest) l I) (0<ys.length/\xs.length+ys.length<=140737488355328) (fun sv=>WL P ops Q w0 rest (l.set d sv) (@Atom.ow (gP e) eY [sv] (gP.mk (xs++ys))::Y)):=⟨fun s h=>aDd s h⟩
class bOq(P:Program)(S D:TypeId):Prop where
 ex:∃ t j,P.underlying S=some (.pointer t)/\P.underlying D=some .unsafePointer/\P.info? t=some j/\j.size≠0
class aVj(P:Program)(S D T:TypeId)(n:Nat):Prop where
 ex:∃ u j,P.underlying S=some .unsafePointer/\P.underlying D=some (.pointer u)/\P.info? u=some j/\liesAt P P.depth T (n / P.cellsOf T) 0 u 1=true
theorem aIj{w:World}{b:Nat}{T:TypeId}{cs:List Value}(h:w.heap[b]?=some (.cells cs.toArray T (0,0))):w.shape? b=some (T,cs.length):=by simp [World.shape?,h]
instance (priority:=1500) {S D T:TypeId}{x:Operand}{b:Nat}{cs:List Value}[hx:Ev l x (.pointer (some ⟨b,0,none⟩))][hb:iV I b T cs Y][hc:bOq P S D]:mI P l I (.convert S D x) ty (.pointer (some ⟨b,0,none⟩)) (0<cs.length):=⟨fun h0 w0=>by
 obtain ⟨t,j,h1,h2,h3,h4⟩:=hc.ex
 exact fT (s:=convert S D (.pointer (some ⟨b,0,none⟩))) (fun o ho _=>by unfold execOp;rw[ho];simp only[hx.eq]) (fun w hs=>Lib.run_to_unsafe w ⟨b,0,none⟩ h1 h2 h3 h4 (aIj (aHe (hs.perm hb.perm))) h0)⟩
instance (priority:=1400) {S D:TypeId}{T:TypeId}{x:Operand}{b:Nat}{c0 c1:Value}[hx:Ev l x (.pointer (some ⟨b,0,none⟩))][hb:iV I b T [c0,c1] Y][hc:aVj P S D T 2]:pK P l I (.convert S D x) ty (.pointer (some ⟨b,0,none⟩)):=⟨fun w0=>by
 obtain ⟨u,j,h1,h2,h3,h4⟩:=hc.ex
 exact fT (s:=convert S D (.pointer (some ⟨b,0,none⟩))) (fun o ho _=>by unfold execOp;rw[ho];simp only[hx.eq]) (fun w hs=>Lib.run_from_unsafe w ⟨b,0,none⟩ h1 h2 h3 (aIj (aHe (hs.perm hb.perm))) h4)⟩
instance {c:UInt8}:zB UInt8 I [.int .u8 ((c.toNat:Nat):Int)] c I True:=⟨fun _=>fun {_ _ F} hs=>⟨F,.refl _,[],F,rfl,⟨rfl,rfl⟩,hs⟩⟩
class bOp(P:Program)(f:FuncId):Prop where
 run:∀ (x:Value) (w:World),(callFunc f #[x]).run P w=.ok (.value x) w
instance (priority:=1500) {f:FuncId}{x:Operand}{v:Value}{ts:Array TypeId}[hx:Ev l x v][hf:bOp P f]:pK P l I (.call { callee:=.value (.func f),args:=#[x],argTypes:=ts }) ty v:=⟨fun w0 w hs o h1 h2=>by
 have:=hf.run v w
 unfold execOp
 rw[h1]
 simp only[resolve,Sem.run_bind]
 show(Sem.run P (Deferred.ofValue (.func (.func f) #[] #[]) _) w).andThen _=_
 simpa [Deferred.ofValue,invoke,hx.eq] using this⟩
def aP7:Value->Value
 | .slice a _ _=>.pointer a
 | _=>.pointer none
theorem aOk{w w0:World}{I:List Atom}{e:TypeId}{v:Value}{xs:List UInt8}(h:Sat w0 w (@Atom.ow (gP e) eY [v] (gP.mk xs)::I))(h0:0<xs.length):∃ g cap dV,v=.slice (some ⟨g,0,none⟩) xs.length cap/\w.heap[g]?=some (.cells dV e (0,0))/\xs.length<=cap/\cap<=maxLen/\cap<=dV.size/\dV.toList.take xs.length=mJ xs:=by
 obtain ⟨_,F,_,_,f,g2,_,hf,_⟩:=h
 rcases (show cB.ow (V:=gP e) _ w f [v] (gP.mk xs) from hf) with⟨_,hx,_⟩|⟨g,cap,dV,h1,_,h3,h4,h5,h6,h7⟩
 ·have hx:xs=[]:=hx
  rw[hx] at h0;simp at h0
 ·simp only[bR,and_true] at h1
  exact⟨g,cap,dV,h1,h3,h4,h5,h6,h7⟩
instance (priority:=1500) {T e:TypeId}{x:Operand}{v:Value}{xs:List UInt8}[h:Ev l x v][hT:aBv P T e][hp:cQ (gP e) eY I [v] (gP.mk xs) Y]:mI P l I (.call { callee:=.builtin .len,args:=#[x],argTypes:=#[T] }) ty (.int .i64 xs.length) True:=⟨fun _ w0=>by
 refine fT (s:=Builtin.len_ #[T] ty #[v]) (fun o ho h2=>?_) (fun w hs=>?_)
 ·unfold execOp
  rw[ho]
  simp [resolve,invoke,builtin,h.eq,h2,Pure.pure,Bind.bind,Sem.bind]
 ·obtain ⟨_,F,_,_,f,g2,_,hf,_⟩:=hs.perm hp.perm
  have hv:∃ a c,v=.slice a xs.length c:=by
   rcases (show cB.ow (V:=gP e) _ w f [v] (gP.mk xs) from hf) with⟨h1,hx,_⟩|⟨g,cap,dV,h1,_⟩
   ·have hx:xs=[]:=hx
    simp only[bR,and_true] at h1
    exact⟨none,0,by rw[h1,hx];rfl⟩
   ·simp only[bR,and_true] at h1
    exact⟨_,cap,h1⟩
  obtain ⟨a,c,rfl⟩:=hv
  simp [Builtin.len_,run_underlying hT.eq,goInt]⟩
instance (priority:=1500) {ts:Array TypeId}{e:TypeId}{x:Operand}{v:Value}{xs:List UInt8}[h:Ev l x v][hp:cQ (gP e) eY I [v] (gP.mk xs) Y]:mI P l I (.call { callee:=.builtin .unsafeSliceData,args:=#[x],argTypes:=ts }) ty (aP7 v) (0<xs.length):=⟨fun h0 w0=>by
 refine fT (s:=Builtin.unsafeSliceData_ ts ty #[v]) (fun o ho h2=>?_) (fun w hs=>?_)
 ·unfold execOp
  rw[ho]
  simp [resolve,invoke,builtin,h.eq,h2,Pure.pure,Bind.bind,Sem.bind]
 ·obtain ⟨g,cap,dV,rfl,_,h4,_⟩:=aOk (hs.perm hp.perm) h0
  exact Lib.run_unsafeSliceData_row _ _ _ _ _ _ (by omega)⟩
class bJ8(P:Program)(T e:TypeId):Prop where
 eq:P.underlying T=some (.pointer e)
 one:P.cellsOf e=1
theorem zH{T U e:TypeId}{x y:Operand}{v:Value}{n:Int}{xs:List UInt8}[hx:Ev l x (aP7 v)][hy:Ev l y (.int .i64 n)][hT:bJ8 P T e][hp:cQ (gP e) eY I [v] (gP.mk xs) Y]
  (h0:n=xs.length/\0<xs.length) (h:WL P ops Q w0 rest (l.set d (.string ⟨xs.toArray⟩)) Y) :
  WL P ops Q w0 (⟨some d,.call { callee:=.builtin .unsafeString,args:=#[x,y],argTypes:=#[T,U] },ty,pos,after,none⟩::rest) l I:=by
 intro w hs
 obtain ⟨rfl,hx0⟩:=h0
 have hs2:=hs.perm hp.perm
 obtain ⟨g,cap,dV,rfl,hg,h4,h5,h6,h7⟩:=aOk hs2 hx0
 have hm:cap<=9223372036854775807:=by simp only[maxLen] at h5;omega
 have hcell:∀ j b,xs[j]?=some b->w.cell? ((⟨g,0,none⟩:Addr).add j)=some (.int .u8 b.toNat):=fun j b hj=>by
  rw[fB,cR]
  have hb:(mJ xs)[j]?=some (.int .u8 b.toNat):=by simp [mJ,hj]
  rw[← h7,cU] at hb
  split at hb
  ·simpa [World.cell?,hg] using hb
  ·cases hb
 have hr:=Lib.run_unsafeString_row (P:=P) w T U ty e hT.eq hT.one g dV.size (by simp [World.shape?,hg]) xs (by intro hh;rw[hh] at hx0;simp at hx0) (by omega) (by omega) hcell
 have hrun:(execOp (E l).eval (⟨some d,.call { callee:=.builtin .unsafeString,args:=#[x,y],argTypes:=#[T,U] },ty,pos,after,none⟩:Oper)).run P w=.ok (.value (.string ⟨xs.toArray⟩)) (w.freeze ⟨g,0,none⟩ xs.length):=by
  have:execOp (E l).eval (⟨some d,.call { callee:=.builtin .unsafeString,args:=#[x,y],argTypes:=#[T,U] },ty,pos,after,none⟩:Oper)=(do pure (.value (← Builtin.unsafeString_ #[T,U] ty #[.pointer (some ⟨g,0,none⟩),.int .i64 xs.length])):Sem Next):=by
   unfold execOp
   simp [resolve,invoke,builtin,hx.eq,hy.eq,aP7,Pure.pure,Bind.bind,Sem.bind]
  rw[this]
  exact fW hr
 refine jW rfl hrun ?_
 rw[gO]
 refine h _ ?_
 obtain ⟨hb,F,hn,hl,f,g2,rfl,hf,hrest⟩:=hs2
 have hgf:g∈f:=by
  rcases (show cB.ow (V:=gP e) _ w f [.slice (some ⟨g,0,none⟩) xs.length cap] (gP.mk xs) from hf) with⟨h1,_⟩|⟨g',cap',cur',h1,rfl,_⟩
  ·simp at h1
  ·simp at h1
   simp [h1.1]
 have hother:∀ b,b≠g->gH w (w.freeze ⟨g,0,none⟩ xs.length) b:=fun b hbg=>by
  unfold World.freeze
  split
  ·rfl
  ·simp [gH,Array.getElem?_modify,Ne.symm hbg]
 have hsz:(w.freeze ⟨g,0,none⟩ xs.length).heap.size=w.heap.size:=by
  unfold World.freeze
  split<;>simp
 have hsat:=Sat.step' (w':=w.freeze ⟨g,0,none⟩ xs.length) (Δ':=[]) (I:=Y) hb hn hl hrest ⟨by unfold World.freeze;split<;>rfl,by unfold World.freeze;split<;>rfl,by unfold World.freeze;split<;>rfl,by rw[hsz];exact aM _,by unfold World.freeze;split<;>exact aM _⟩ (fun b _ hbf=>hother b (fun e=>hbf (e▸hgf))) [] List.nodup_nil (fun b hb=>absurd hb List.not_mem_nil) (fun ok' hok'=>rfl)
 simpa using hsat
instance (priority:=1500) {T U e:TypeId}{x y:Operand}{v:Value}{n:Int}{xs:List UInt8}[hx:Ev l x (aP7 v)][hy:Ev l y (.int .i64 n)][hp:cQ (gP e) eY I [v] (gP.mk xs) Y][hT:bJ8 P T e] :
  aRw (WL P ops Q w0 (⟨some d,.call { callee:=.builtin .unsafeString,args:=#[x,y],argTypes:=#[T,U] },ty,pos,after,none⟩::rest) l I) (n=xs.length/\0<xs.length) (WL P ops Q w0 rest (l.set d (.string ⟨xs.toArray⟩)) Y):=⟨fun s h=>zH s h⟩
theorem bLp{S T:TypeId}{x:Operand}{n:Int}[hx:Ev l x (.int .i64 n)][hS:aM6 P S][hT:U8T P T](h:0<=n/\n<256):Pu P w0 l I (.convert S T x) ty (.int .u8 (((UInt8.ofNat n.toNat).toNat:Nat):Int)):=
 fT (s:=convert S T (.int .i64 n)) (fun o ho _=>by unfold execOp;rw[ho];simp only[hx.eq]) (fun w _=>by
  simp only[convert,Sem.run_bind,run_underlying hS.eq,run_underlying hT.eq,Result.andThen_ok,Conv.intToInt,Sem.run_pure]
  have:IntKind.u8.wrap n=(((UInt8.ofNat n.toNat).toNat:Nat):Int):=by
   rw[dR,Nat.mod_eq_of_lt (by omega),Int.toNat_of_nonneg h.1]
   simp [IntKind.wrap,IntKind.signed,IntKind.bits,IntKind.min,IntKind.max]
   omega
  rw[this])
instance {S T:TypeId}{x:Operand}{n:Int}[hx:Ev l x (.int .i64 n)][hS:aM6 P S][hT:U8T P T]:mI P l I (.convert S T x) ty (.int .u8 (((UInt8.ofNat n.toNat).toNat:Nat):Int)) (0<=n/\n<256):=⟨fun h _=>bLp h⟩
class aMm(P:Program)(T:TypeId):Prop where
 ex:∃ e,P.underlying T=some (.slice e)/\P.underlying e=some (.int .u8)
theorem uT{S T:TypeId}{x:Operand}{v:Value}{ys:List UInt8}[hx:Ev l x v][hS:aMm P S][hT:kX P T][hr:dZ (List UInt8) bA I [v] ys](h0:0<ys.length):Pu P w0 l I (.convert S T x) ty (.string ⟨ys.toArray⟩):=
 fT (s:=convert S T v) (fun o ho _=>by unfold execOp;rw[ho];simp only[hx.eq]) (fun w hs=>by
  obtain ⟨e,h1,h2⟩:=hS.ex
  obtain ⟨a,c,hc,_,_,_,hrd⟩:=hs.rd (hr:=hr)
  simp only[bR,and_true] at hc
  subst hc
  obtain ⟨b0,off,cells,rfl,_,hca,hr0⟩:=hrd h0
  have hcells:=aF2 hr0
  exact run_convert_bytes_back w S T e ⟨b0,off,none⟩ c ys h1 h2 hT.eq (fun j hj=>by
   rw[fB,hca j (by rw[hcells,iP];exact hj),hcells]
   simp [mJ,aG hj]))
instance {S T:TypeId}{x:Operand}{v:Value}{ys:List UInt8}[hx:Ev l x v][hS:aMm P S][hT:kX P T][hr:dZ (List UInt8) bA I [v] ys]:mI P l I (.convert S T x) ty (.string ⟨ys.toArray⟩) (0<ys.length):=⟨fun h _=>uT h⟩
instance {T U:TypeId}{x y:Operand}{a:Addr}[hT:aYd P T][hx:Ev l x (.pointer (some a))][hy:Ev l y (.pointer (some a))]:pK P l I (.binOp .neq T x y U) ty (.bool false):=⟨fun _=>by
 obtain ⟨j,h1,_⟩:=hT.info
 exact fZ yK (fun w=>Lib.run_neq_ptr_same w a hT.eq h1)⟩
end
end Go.Eng
namespace Go.Eng
open Go Go.RowKit
set_option synthInstance.maxHeartbeats 400000
instance bQ8{V:Type}[cB V][un:Un V]:UnO (Sh V):=⟨un.Pr,fun p x=>un.cells p x.v,fun p x=>.rd (un.cells p x.v) x.v::un.atoms p x.v,fun x=>un.fact x.v,fun {ok w F cs x} h=>by
 obtain ⟨rfl,hr⟩:=(show F=[]/\cB.rd ok w cs x.v from h)
 obtain ⟨p,rfl,hs,hf⟩:=un.law hr
 exact⟨p,rfl,⟨[],[],rfl,⟨rfl,hr⟩,hs⟩,hf⟩⟩
section
variable {P:Program} {ops:Array Oper} {Q:Exit->Act->World->Prop} {w0:World} {rest:List Oper} {l l':List Value} {I Γb Y Ε:List Atom} {ty:TypeId} {v:Value} {pos:String} {after:Array Edge} {d:Nat}
class aZk(V:Type)(i:cB V)(I:List Atom)(c:Value)(x:outParam V)(Y:outParam (List Atom))(S:outParam Prop):Prop where
 ent:S->∀ w0,Ent w0 I (@Atom.rd V i [c] x::Y)
instance (priority:=900) {V:Type}{iα:cB V}{c:Value}{xs:List (Sh V)}[hp:cQ (List (Sh V)) bA I [c] xs Y]:aZk (List V) bA I c (xs.map Sh.v) Y True:=⟨fun _ w0 w hs=>by
 have e:(xs.map Sh.v).map Sh.mk=xs:=by rw[List.map_map];exact List.map_id _
 haveI:cQ (List (Sh V)) bA I [c] ((xs.map Sh.v).map Sh.mk) Y:=⟨by rw[e];exact hp.perm⟩
 exact iN (ys:=xs.map Sh.v) c (fun w h=>h) w hs⟩
end
class oE(I:List Atom)(Y:outParam (List Atom)):Prop where
 sub:sR I Y
instance:oE [] []:=⟨sR.nil⟩
instance (priority:=2000) {I Y:List Atom}{code:List UInt8}{b:Nat}{vb:Value}{p:eL code}[h:oE I Y]:oE (.bk b (dV vb p)::I) Y:=⟨iW h.sub⟩
instance (priority:=2000) {I Y:List Atom}{cs:List Value}{xs:List Int}[h:oE I Y]:oE (.ow cs xs::I) Y:=⟨iW h.sub⟩
instance (priority:=500) {I Y:List Atom}{A:Atom}[h:oE I Y]:oE (A::I) (A::Y):=⟨oZ h.sub⟩
instance (priority:=50) {I:List Atom}:oE I I:=⟨sR.refl⟩
theorem aQ1{P:Program}{Q:Exit->Act->World->Prop}{w0:World}{l:List Value}{I Γb:List Atom}[hm:qG P]{n:Nat}{ol:List Oper}(id:Nat)(bl:List Bool)(lt:List Nat)[hk:oE I Γb](h:WA P ol.toArray Q w0 lt Γb n bl l I)(hn:ol.length=n:=by rfl)(hbl:List.replicate n false=bl:=by rfl):WC P Q w0 (.region id ol.toArray true) l I:=
 mE lt Γb (fun _ hs=>hs.sub hk.sub) hn hbl h
theorem wbi{P:Program}{Q:Exit->Act->World->Prop}{w0:World}{l:List Value}{bl:List Bool}{I Γb:List Atom}[hm:qG P]{ol:List Oper}(id:Nat)(lt:List Nat)[hf:FlO ol bl][hk:oE I Γb](h:WA P ol.toArray Q w0 lt Γb ol.length bl l I):WC P Q w0 (.region id ol.toArray true) l I:=aQ1 id bl lt h rfl hf.eq
end Go.Eng
