/- Texts of the proof of FnNames. -/
import Derived.Test.YtajdgkpjbpindaaGreatDoorTab
set_option linter.unusedVariables false
set_option linter.unusedSimpArgs false
set_option linter.unusedSectionVars false
namespace Go.Eng
open Go Go.RowKit
set_option synthInstance.maxHeartbeats 400000
set_option synthInstance.maxSize 1000
set_option maxRecDepth 20000
structure Tl(V:Type) where
 xs:List V
instance aK2{V:Type}[cB V]:cB (Tl V) where
 sz:=1
 rd ok w cs x:=(bA (V:=V)).rd ok w cs x.xs
 ow ok w F cs x:=(cs=[.slice none 0 0]/\x.xs=[]/\F=[])∨
  ∃ g off cap dV e G cells,cs=[.slice (some ⟨g,off,none⟩) x.xs.length cap]/\F=g::G/\w.heap[g]?=some (.cells dV e (0,0))/\x.xs.length<=cap/\cap<=maxLen/\
   x.xs.length<=9223372036854775807/\off+cap*cB.sz V<=dV.size/\(dV.toList.drop off).take (x.xs.length*cB.sz V)=cells/\jA ok w G cells x.xs
 pos:=by decide
 rd_len:=fun h=>(bA (V:=V)).rd_len h
 rd_one:=fun h=>(bA (V:=V)).rd_one h
 rd_mono:=fun h h'=>(bA (V:=V)).rd_mono h h'
 ow_mono:=by
  rintro ok ok' w w' F _ x h hf hm
  rcases h with h|⟨g,off,cap,dV,e,G,cells,h0,rfl,h1,h2,h3,h3',h4,h5,h6⟩
  ·exact .inl h
  ·exact .inr ⟨g,off,cap,dV,e,G,cells,h0,rfl,by rw[hf g (by simp)];exact h1,h2,h3,h3',h4,h5,h6.mono hm (fun b hb=>hf b (by simp [hb]))⟩
 ow_rd:=by
  rintro ok ok' w F _ x h ho hf
  rcases h with⟨rfl,hx,rfl⟩|⟨g,off,cap,dV,e,G,cells,rfl,rfl,h1,h2,h3,h3',h4,h5,h6⟩
  ·exact⟨none,0,by rw[hx];rfl,by rw[hx];simp,by simp [maxLen],by rw[hx];simp,fun h=>by rw[hx] at h;simp at h⟩
  ·refine⟨_,cap,rfl,h2,h3,h3',fun hp=>⟨g,off,cells,rfl,hf g (by simp),?_,h6.rd ho (fun b hb=>hf b (by simp [hb]))⟩⟩
   intro j hj
   rw[← h5] at hj ⊢
   rw[cU]
   have:j<x.xs.length*cB.sz V:=by
    have:=hj;rw[aN] at this;omega
   rw[if_pos this,List.getElem?_drop]
   simp [World.cell?,h1]
 ow_lt:=by
  rintro ok w F _ x h b hb
  rcases h with⟨_,_,rfl⟩|⟨g,off,cap,dV,e,G,cells,_,rfl,h1,_,_,_,_,_,h6⟩
  ·cases hb
  ·rcases cH.1 hb with rfl|hb
   ·exact(bL.1 h1).1
   ·exact h6.lt b hb
theorem aBh{V:Type}[cB V]{ok:Nat->Prop}{w:World}{F:List Nat}{cs:List Value}{x:Tl V}:cB.ow ok w F cs x↔((cs=[.slice none 0 0]/\x.xs=[]/\F=[])∨
  ∃ g off cap dV e G cells,cs=[.slice (some ⟨g,off,none⟩) x.xs.length cap]/\F=g::G/\w.heap[g]?=some (.cells dV e (0,0))/\x.xs.length<=cap/\cap<=maxLen/\
   x.xs.length<=9223372036854775807/\off+cap*cB.sz V<=dV.size/\(dV.toList.drop off).take (x.xs.length*cB.sz V)=cells/\jA ok w G cells x.xs):=Iff.rfl
theorem aBy{V:Type}[cB V]{ok:Nat->Prop}{w:World}{F:List Nat}{cs:List Value}{xs:List V}(h:cB.ow ok w F cs xs):cB.ow ok w F cs (Tl.mk xs):=by
 rcases fL.1 h with h|⟨g,cap,dV,e,G,cells,h0,h9,h1,h2,h3,h3',h4,h5,h6⟩
 ·exact aBh.2 (.inl h)
 ·exact aBh.2 (.inr ⟨g,0,cap,dV,e,G,cells,h0,h9,h1,h2,h3,h3',by omega,by rw[List.drop_zero];exact h5,h6⟩)
theorem bIw{w0:World}{I Γ' Y:List Atom}{V:Type}{iα:cB V}(v:Value){xs:List V}(he:Go.Eng.Ent w0 I Γ')[hp:cQ (List V) bA Γ' [v] xs Y]:Go.Eng.Ent w0 I (.ow [v] (Tl.mk xs)::Y):=fun w hs=>by
 obtain ⟨hb,F,hn,hl,f,g,rfl,hf,hrest⟩:=(he w hs).perm hp.perm
 exact⟨hb,f++g,hn,hl,f,g,rfl,aBy hf,hrest⟩
instance (priority:=900) {I Y:List Atom}{V:Type}{iα:cB V}{v:Value}{xs:List V}[h:cQ (Tl V) aK2 I [v] (Tl.mk xs) Y]:bK V I v xs:=⟨fun hs=>by
 obtain ⟨F,hF,f,g,rfl,hf,hrest⟩:=jT.perm h.perm hs
 exact cB.ow_rd (V:=Tl V) hf (fun _ _=>trivial) (fun _ _=>trivial)⟩
theorem jA.drop{V:Type}[cB V]{ok:Nat->Prop}{w:World}:∀ {F:List Nat} {cells:List Value} {xs:List V} (m:Nat),jA ok w F cells xs->∃ f g,F=f++g/\jA ok w g (cells.drop (m*cB.sz V)) (xs.drop m)
 | F,cells,[],m,h=>⟨[],F,rfl,by obtain ⟨rfl,rfl⟩:=h;rw[List.drop_nil,List.drop_nil];exact⟨rfl,rfl⟩⟩
 | F,cells,x::xs,0,h=>⟨[],F,rfl,by rw[Nat.zero_mul,List.drop_zero,List.drop_zero];exact h⟩
 | F,cells,x::xs,m+1,h0=>by
  obtain ⟨f,g,c,d,rfl,rfl,h,h'⟩:=h0
  obtain ⟨f',g',rfl,h2⟩:=jA.drop m h'
  have hl:c.length=cB.sz V:=cB.rd_len (x:=x) (cB.ow_rd (ok':=fun _=>True) h (fun _ _=>trivial) (fun _ _=>trivial))
  refine⟨f++f',g',by simp,?_⟩
  rw[dE,Nat.one_mul,Nat.add_comm,← hl,← List.drop_drop,List.drop_left,hl]
  exact h2
section
variable {P:Program} {ops:Array Oper} {Q:Exit->Act->World->Prop} {w0:World} {rest:List Oper} {l l':List Value} {I Y Ε:List Atom} {ty:TypeId} {v:Value} {pos:String} {after:Array Edge} {d:Nat} {x y:Operand}
theorem aKh{V:Type}{iα:cB V}{T k by_:Nat}{sv:Value}{kk:IntKind}{n:Int}{m:Nat}{xs:List V}[hx:Ev l x sv][hy:Ev l y (.int kk n)][hm:fJ n m][hT:Sl P T k by_][hk:iI V k][hp:cQ (Tl V) aK2 I [sv] (Tl.mk xs) Y](hn:0<=n/\n<=xs.length)
  (h:∀ sv',WL P ops Q w0 rest (l.set d sv') (.ow [sv'] (Tl.mk (xs.drop m))::Y)):WL P ops Q w0 (⟨some d,.slice T x (some y) none none,ty,pos,after,none⟩::rest) l I:=by
 intro w hs
 obtain ⟨e,i,z,ht,hi',hik,hib,hz,hzk,hpos⟩:=hT.ex
 have hsz:i.size=cB.sz V:=hik.trans hk.eq
 obtain ⟨hb,F,hnd,hl,f,g,rfl,hA,hsep⟩:=hs.perm hp.perm
 have how:cB.ow (·∉f++g) w f [sv] (Tl.mk xs):=hA
 have hm':=hm.eq
 have hml:m<=xs.length:=by omega
 rw[aBh] at how
 have key:∃ (a:Option Addr) (cap:Nat) (f1 f2:List Nat),sv=.slice a xs.length cap/\xs.length<=cap/\(f1++f2).Perm f/\cB.ow (·∉f++g) w f1 [.slice (if cap=m then a else a.map (·.add (m*i.size))) (xs.length-m) (cap-m)] (Tl.mk (xs.drop m)):=by
  rcases how with⟨h0,h00,rfl⟩|⟨b,off,cap,dV,ee,G,cells,h0,rfl,h1,h2,h3,h4,h5,h6,h7⟩
  ·have h00:xs=[]:=h00
   subst h00
   have:m=0:=by simpa using hml
   subst this
   exact⟨none,0,[],[],by simpa using h0,aM _,by simp,aBh.2 (.inl ⟨by simp,by simp,rfl⟩)⟩
  ·have h2:xs.length<=cap:=h2
   have h4:xs.length<=9223372036854775807:=h4
   have h6:(dV.toList.drop off).take (xs.length*cB.sz V)=cells:=h6
   obtain ⟨g1,g2,rfl,h8⟩:=jA.drop m h7
   have hdl:(xs.drop m).length=xs.length-m:=aR
   refine⟨some ⟨b,off,none⟩,cap,b::g2,g1,by simpa using h0,h2,?_,?_⟩
   ·rw[aA]
    exact List.Perm.cons _ (List.perm_append_comm)
   ·rw[aBh]
    by_cases hcm:cap=m
    ·rw[if_pos hcm]
     have hx0:xs.drop m=[]:=List.drop_eq_nil_of_le (by omega)
     have h8':=h8
     simp only[hx0] at h8' ⊢
     obtain ⟨rfl,hc0⟩:=h8'
     exact .inr ⟨b,off,0,dV,ee,[],[],by simp only[aL,bR,and_true,Value.slice.injEq,true_and];omega,rfl,h1,aM _,by simp [maxLen],by simp,by omega,by simp,rfl,rfl⟩
    ·rw[if_neg hcm]
     refine .inr ⟨b,off+m*cB.sz V,cap-m,dV,ee,g2,cells.drop (m*cB.sz V),by simp only[Option.map_some,fB,hsz,hdl],rfl,h1,by simp only[hdl];omega,by omega,by simp only[hdl];omega,?_,?_,h8⟩
     ·have e1:(cap-m)*cB.sz V+m*cB.sz V=cap*cB.sz V:=by rw[← dE];congr 1;omega
      omega
     ·rw[← h6,List.drop_take,List.drop_drop]
      simp only[hdl]
      rw[Nat.sub_mul]
 obtain ⟨a,cap,f1,f2,rfl,hcap,hperm,hnew⟩:=key
 have hrun:=lQ (P:=P) (T:=T) (a:=a) (n:=xs.length) (cap:=cap) (lo:=m) (hi:=xs.length) (vlo:=some (.int kk n)) (vhi:=none) ht hi' (.inr ⟨kk,by rw[show n=(m:Int) by omega]⟩) (.inl ⟨rfl,rfl⟩) hml hcap w
 refine jW rfl (v:=.slice (if cap=m then a else a.map (·.add (m*i.size))) (xs.length-m) (cap-m)) (w':=w) ?_ ?_
 ·refine fW (f:=Next.value) (s:=Instr.sliceAt T ((E l).eval x) (Option.map (E l).eval (some y)) (Option.map (E l).eval none) (Option.map (E l).eval none)) ?_
  rw[hx.eq];simp only[Option.map_none,Option.map_some,hy.eq];exact hrun
 ·rw[gO]
  have hp2:(f1++(f2++g)).Perm (f++g):=by rw[← aT];exact hperm.append_right g
  have hmem:∀ b,b∈f1++g->b∈f++g:=fun b hb=>hp2.mem_iff.1 (by rcases aP.1 hb with h|h<;>simp [h])
  have hn2:(f1++g).Nodup:=by
   have:=hp2.symm.nodup hnd
   rw[bJ] at this ⊢
   exact⟨this.1,(bJ.1 this.2.1).2.1,fun a ha b hb=>this.2.2 a ha b (by simp [hb])⟩
  refine h _ _ ⟨hb,f1++g,hn2,fun b hb=>hl b (hmem b hb),f1,g,rfl,?_,hsep.mono (fun b hb _=>⟨fun hm=>hb (hmem b hm),rfl⟩) (aM _) (fun _ _=>rfl)⟩
  exact cB.ow_mono hnew (fun _ _=>rfl) (fun b hb _=>⟨fun hm=>hb (hmem b hm),rfl⟩)
instance (priority:=1600) {V:Type}{iα:cB V}{T k by_:Nat}{sv:Value}{kk:IntKind}{n:Int}{m:Nat}{xs:List V}[hx:Ev l x sv][hy:Ev l y (.int kk n)][hm:fJ n m][hT:Sl P T k by_][hk:iI V k][hp:cQ (Tl V) aK2 I [sv] (Tl.mk xs) Y] :
  mW (WL P ops Q w0 (⟨some d,.slice T x (some y) none none,ty,pos,after,none⟩::rest) l I) (0<=n/\n<=xs.length) (fun sv'=>WL P ops Q w0 rest (l.set d sv') (.ow [sv'] (Tl.mk (xs.drop m))::Y)):=⟨fun s h=>aKh s h⟩
theorem uE(w:World)(t ty e e':TypeId)(i:TypeInfo)(ht:P.underlying t=some (.slice e))(hi:P.info? e=some i)
  (g off sLen sCap:Nat) (dV:Array Value) (hg:w.heap[g]?=some (.cells dV e' (0,0)))
  (x:Value) (m:Nat) (news:List Value) (hlen:∀ w,(Builtin.lenOf x).run P w=.ok m w) (hx:(Builtin.firstCells i.size m x).run P w=.ok news.toArray w) (h1:∀ u∈news,u.oneCell'=true)
  (hroom:sLen+m<=sCap) (hfit:off+sLen*i.size+news.length<=dV.size) :
  (Builtin.append_ #[t,t] ty #[.slice (some ⟨g,off,none⟩) sLen sCap,x]).run P w =
   .ok (.slice (some ⟨g,off,none⟩) (sLen+m) sCap) (w.setRow g (dV.toList.take (off+sLen*i.size)++news++dV.toList.drop (off+sLen*i.size+news.length)).toArray):=by
 have hst:=run_storeCells_at P g (off+sLen*i.size) e' news 0 dV w hg (by simpa using hfit) h1
 simp only[Nat.add_zero] at hst
 simp [Builtin.append_,run_underlying ht,sizeOf,typeInfo,hi,hlen,hroom,hx,fB,hst]
theorem aRx{V:Type}[cB V]{T ty k by_:Nat}[hT:Sl P T k by_](hk:k=cB.sz V){w:World}{ok:Nat->Prop}{f fy:List Nat}{ov:Value}{xs ys:List V}{a:Option Addr}{c:Nat}{news:List Value}
  (hf:cB.ow ok w f [ov] (Tl.mk xs)) (hsrc:0<ys.length->∃ b off,a=some ⟨b,off,none⟩/\gM w b off news) (hy:jA ok w fy news ys) (hnd:(f++fy).Nodup) (hoky:∀ b∈f++fy,¬ ok b)
  (hbytes:(xs.length+ys.length)*by_<=140737488355328) :
  ∃ v' w',(Builtin.append_ #[T,T] ty #[ov,.slice a ys.length c]).run P w=.ok v' w'/\(w'.os=w.os/\w'.tape=w.tape/\w'.output=w.output/\w.heap.size<=w'.heap.size/\w.drawn<=w'.drawn)/\
   (∀ b,b<w.heap.size->b∉f->gH w w' b)/\∃ f',f'.Nodup/\(∀ b∈f',b∈f++fy∨w.heap.size<=b)/\∀ ok':Nat->Prop,(∀ b,ok b->b<w.heap.size->ok' b)->cB.ow ok' w' f' [v'] (Tl.mk (xs++ys)):=by
 rw[aBh] at hf
 rcases hf with⟨hov,hx0,hf0⟩|⟨g,off,cap,dV,e',G,cells,hov,rfl,hg,hcap,hcapm,_,hcs,htake,hO⟩
 ·have hx0:xs=[]:=hx0
  subst hx0
  have hl:cB.ow ok w f [ov] ([]:List V):=fL.2 (.inl ⟨hov,rfl,hf0⟩)
  obtain ⟨v',w',h1,h2,h3,f',h4,h5,h6⟩:=oA (P:=P) (T:=T) (ty:=ty) (c:=c) hk hl hsrc hy hnd hoky hbytes
  exact⟨v',w',h1,h2,h3,f',h4,h5,fun ok' hok'=>aBy (h6 ok' hok')⟩
 ·obtain ⟨e,i,z,ht,hi,hik,hib,hz,hzk,hpos⟩:=hT.ex
  have hcap:xs.length<=cap:=hcap
  have htake:(dV.toList.drop off).take (xs.length*cB.sz V)=cells:=htake
  have hO:jA ok w G cells xs:=hO
  have hsz:i.size=cB.sz V:=hik.trans hk
  have hle:xs.length+ys.length<=140737488355328:=Nat.le_trans (Nat.le_mul_of_pos_right _ hpos) hbytes
  have hnl:news.length=ys.length*i.size:=by rw[hsz];exact hy.len
  have hfy:∀ b∈fy,b<w.heap.size:=hy.lt
  have hdis:=(bJ.1 hnd).2.2
  have hcap63:∀ old,grownCap w (xs.length+ys.length) old e<=maxLen:=fun old=>grownCap_le_maxLen w _ old e (by simp only[maxLen];omega)
  have hfc:(Builtin.firstCells i.size ys.length (.slice a ys.length c)).run P w=.ok news.toArray w:=by
   by_cases h0:ys.length=0
   ·have hn0:news=[]:=dG (by rw[hnl,h0,Nat.zero_mul])
    subst hn0
    cases a with
    | none=>rfl
    | some a=>simp [Builtin.firstCells,h0,loadCells,loadCellsFrom]
   ·obtain ⟨b,off,rfl,hc⟩:=hsrc (by omega)
    exact run_firstCells_some (P:=P) w i.size ys.length ⟨b,off,none⟩ ys.length c news hnl (fun j v hj=>by
     rw[fB]
     have hj':j<news.length:=(dC.1 hj).1
     rw[hc j hj',hj])
  have hcellsrc:∀ b off,gM w b off news->∀ j v,news[j]?=some v->w.cell? ((⟨b,off,none⟩:Addr).add j)=some v:=fun b off hc j v hj=>by
   rw[fB,hc j (dC.1 hj).1,hj]
  simp only[bR,and_true] at hov
  subst hov
  have hcl:cells.length=xs.length*cB.sz V:=hO.len
  have hgG:g∉G/\G.Nodup:=List.nodup_cons.1 (bJ.1 hnd).1
  have hal:(xs++ys).length=xs.length+ys.length:=aD
  by_cases hroom:xs.length+ys.length<=cap
  ·have hfit:off+xs.length*i.size+news.length<=dV.size:=by
    rw[hnl,hsz,Nat.add_assoc,← dE]
    have:=Nat.mul_le_mul_right (cB.sz V) hroom
    omega
   have hr:=uE w T ty e e' i ht hi g off xs.length cap dV hg (.slice a ys.length c) ys.length news (fun w=>mL w) hfc hy.one hroom hfit
   have hsame:∀ k,k≠g->gH w (w.setRow g (dV.toList.take (off+xs.length*i.size)++news++dV.toList.drop (off+xs.length*i.size+news.length)).toArray) k:=fun k hk=>setRow_other w g k _ hk
   have hglt:g<w.heap.size:=(bL.1 hg).1
   refine⟨_,_,hr,⟨rfl,rfl,rfl,by simp,(by first|exact aM _|exact cW _ _)⟩,fun b _ hb=>hsame b (fun h=>hb (by simp [h])),(g::G)++fy,hnd,fun b hb=>.inl hb,fun ok' hok'=>?_⟩
   rw[aBh]
   refine .inr ⟨g,off,cap,_,e',G++fy,cells++news,by simp only[hal],rfl,setRow_heap w g dV _ e' _ hg,by simp only[hal];exact hroom,hcapm,by simp only[hal];omega,?_,?_,?_⟩
   ·simp only[dP,aD,aN,aR,bZ]
    omega
   ·have hcz:dV.toList.length=dV.size:=bZ
    have hto:(dV.toList.take (off+xs.length*i.size)).drop off=cells:=by
     rw[List.drop_take,Nat.add_sub_cancel_left,hsz];exact htake
    have hol:off<=(dV.toList.take (off+xs.length*i.size)).length:=by rw[aN];omega
    simp only[List.toList_toArray,hal]
    rw[aT,List.drop_append_of_le_length hol,hto,← aT,dE,← hcl,show ys.length*cB.sz V=news.length by rw[hnl,hsz],← aD]
    exact List.take_left
   ·refine jA.append (hy.mono (fun b hb hlt=>⟨hok' b hb hlt,hsame b (fun h=>?_)⟩) (fun b hb=>hsame b (fun h=>?_))) (hO.mono (fun b hb hlt=>⟨hok' b hb hlt,hsame b (fun h=>?_)⟩) (fun b hb=>hsame b (fun h=>hgG.1 (h▸hb))))
    ·exact hoky g (by simp) (h▸hb)
    ·exact hdis g (by simp) b hb h.symm
    ·exact hoky g (by simp) (h▸hb)
  ·have hy0:0<ys.length:=by omega
   obtain ⟨b,off2,rfl,hc⟩:=hsrc hy0
   have holds:∀ j u,cells[j]?=some u->w.cell? ((⟨g,off,none⟩:Addr).add j)=some u:=fun j u hj=>by
    rw[fB]
    rw[← htake,cU] at hj
    split at hj
    ·rw[List.getElem?_drop] at hj
     simpa [World.cell?,hg] using hj
    ·cases hj
   have hr:=run_append_grow (P:=P) w T ty e i z ht hi hz ⟨g,off,none⟩ xs.length cap cells (by rw[hcl,hsz]) holds ⟨b,off2,none⟩ ys.length c news hnl (hcellsrc b off2 hc) (by omega) (by omega) (growslice_fits (by omega) (by rw[hib];exact hbytes))
   have hGlt:=hO.lt
   have hge:=grownCap_ge w (xs.length+ys.length) cap e
   have hsame:∀ b,b<w.heap.size->gH w (w.drew.alloc (.cells (cells.toArray++news.toArray++Builtin.zeroCells z.cells (grownCap w (xs.length+ys.length) cap e-(xs.length+ys.length))) e)) b:=fun b hb=>Below.heap_alloc w.drew _ _ hb
   refine⟨_,_,hr,⟨rfl,rfl,rfl,by simp,(by first|exact aM _|exact cW _ _)⟩,fun b hb _=>hsame b hb,w.heap.size::(G++fy),?_,?_,fun ok' hok'=>?_⟩
   ·refine List.nodup_cons.2 ⟨fun hm=>?_,?_⟩
    ·rcases aP.1 hm with h|h
     ·exact Nat.lt_irrefl _ (hGlt _ h)
     ·exact Nat.lt_irrefl _ (hfy _ h)
    ·rw[bJ]
     exact⟨hgG.2,(bJ.1 hnd).2.1,fun a ha b hb=>hdis a (by simp [ha]) b hb⟩
   ·intro b hb
    rcases cH.1 hb with rfl|hb
    ·exact .inr (aM _)
    ·rcases aP.1 hb with h|h
     ·exact .inl (by simp [h])
     ·exact .inl (by simp [h])
   ·refine aBy ?_
    rw[fL]
    refine .inr ⟨w.heap.size,_,_,e,G++fy,cells++news,by simp,rfl,heap_alloc_new w.drew _,by simpa using hge,hcap63 cap,by simp;omega,?_,?_,?_⟩
    ·simp only[Array.size_append,dP,size_zeroCells,hzk,hcl,hnl,hik,hk]
     rw[← dE,← dE]
     refine Nat.le_of_eq ?_
     congr 1
     omega
    ·simp only[Array.toList_append,aD,aT]
     rw[← aT,dE,← hcl,show ys.length*cB.sz V=news.length by rw[hnl,hsz],← aD]
     exact List.take_left
    ·exact jA.append (hy.mono (fun b hb hlt=>⟨hok' b hb hlt,hsame b hlt⟩) (fun b hb=>hsame b (hfy b hb))) (hO.mono (fun b hb hlt=>⟨hok' b hb hlt,hsame b hlt⟩) (fun b hb=>hsame b (hGlt b hb)))
theorem aGg{T k by_:Nat}{x y:Operand}{ov tv:Value}{V:Type}{iα:cB V}{xs ys:List V}[hx:Ev l x ov][hy:Ev l y tv][hT:Sl P T k by_][h1:cQ (Tl V) aK2 I [ov] (Tl.mk xs) Y][h2:cQ (List V) bA Y [tv] ys Ε][hk:iI V k]
  (hbytes:(xs.length+ys.length)*by_<=140737488355328) (h:∀ sv,WL P ops Q w0 rest (l.set d sv) (.ow [sv] (Tl.mk (xs++ys))::Ε)) :
  WL P ops Q w0 (⟨some d,.call { callee:=.builtin .append,args:=#[x,y],argTypes:=#[T,T] },ty,pos,after,none⟩::rest) l I:=by
 intro w hs
 have hs1:Sat w0 w ([.ow [ov] (Tl.mk xs),.ow [tv] ys]++Ε):=(hs.perm h1.perm).perm (h2.perm.cons _)
 obtain ⟨hb,F,hn,hl,hsep⟩:=hs1
 obtain ⟨f,g,rfl,hf,f',g',rfl,hf',hrest⟩:=hsep
 have how:cB.ow _ w f' [tv] ys:=hf'
 rw[fL] at how
 have hnd2:(f++f').Nodup:=by
  have:=hn;rw[← aT] at this;exact(bJ.1 this).1
 obtain ⟨a,c,news,fy,htv,hsrc,hyo,hsub,hfyn⟩:∃ a c news fy,tv=.slice a ys.length c/\(0<ys.length->∃ b off,a=some (⟨b,off,none⟩:Addr)/\gM w b off news)/\
   jA (·∉f++(f'++g')) w fy news ys/\(∀ b∈fy,b∈f')/\fy.Nodup:=by
  rcases how with⟨e,rfl,rfl⟩|⟨g2,cap,dV,e,G,cells,e1,rfl,hg2,_,_,_,hcs,htake,hO⟩
  ·simp only[bR,and_true] at e;exact⟨none,0,[],[],e,by simp,⟨rfl,rfl⟩,by simp,by simp⟩
  ·simp only[bR,and_true] at e1
   refine⟨_,_,cells,G,e1,fun _=>⟨g2,0,rfl,fun j hj=>?_⟩,hO,fun b hb=>by simp [hb],(List.nodup_cons.1 (bJ.1 hnd2).2.1).2⟩
   rw[← htake] at hj ⊢
   rw[aN] at hj
   rw[cU,if_pos (by omega)]
   simp [World.cell?,hg2]
 subst htv
 have hnd:(f++fy).Nodup:=by
  rw[bJ] at hnd2 ⊢
  exact⟨hnd2.1,hfyn,fun a ha b hb=>hnd2.2.2 a ha b (hsub b hb)⟩
 obtain ⟨v',w',hr,ho,hsame,fn,hfn,hnew,hrep⟩:=aRx (P:=P) (T:=T) (ty:=ty) (c:=c) hk.eq hf hsrc hyo hnd (fun b hb hok=>hok (by
  rcases aP.1 hb with h|h
  ·simp [h]
  ·simp [hsub b h])) hbytes
 refine jW rfl (mB hr) ?_
 rw[gO]
 refine h _ _ ?_
 rw[← aT] at hn hl
 refine Sat.step' (Δ':=[.ow [v'] (Tl.mk (xs++ys))]) (I:=Ε) (f:=f++f') (g:=g') hb hn hl (by rw[aT];exact hrest) ho (fun b hlt hm=>hsame b hlt (fun h=>hm (by simp [h]))) fn hfn
  (fun b hb=>(hnew b hb).imp (fun h=>?_) id) (fun ok' hok'=>⟨fn,[],by simp,hrep ok' (fun b hb=>hok' b (by rw[aT];exact hb)),rfl⟩)
 rcases aP.1 h with h|h
 ·simp [h]
 ·simp [hsub b h]
instance (priority:=1600) {T k by_:Nat}{x y:Operand}{ov tv:Value}{V:Type}{iα:cB V}{xs ys:List V}[hx:Ev l x ov][hy:Ev l y tv][hT:Sl P T k by_][h1:cQ (Tl V) aK2 I [ov] (Tl.mk xs) Y][h2:cQ (List V) bA Y [tv] ys Ε][hk:iI V k] :
  mW (WL P ops Q w0 (⟨some d,.call { callee:=.builtin .append,args:=#[x,y],argTypes:=#[T,T] },ty,pos,after,none⟩::rest) l I) ((xs.length+ys.length)*by_<=140737488355328) (fun sv=>WL P ops Q w0 rest (l.set d sv) (.ow [sv] (Tl.mk (xs++ys))::Ε)):=⟨fun s h=>aGg s h⟩
end
end Go.Eng
