/- Texts of the proof of FnNames. -/
import Derived.Test.YtajdgkpjbpindaaGreatDoorTbu
set_option linter.unusedVariables false
set_option linter.unusedSimpArgs false
set_option linter.unusedSectionVars false
namespace Go.Eng
open Go Go.RowKit
abbrev tH(r:Loop):Loop:={ r with state:=.done,pending:=some .ret }
structure aAh(P:Program)(L:Nat)(w0:World){Z D:Type}(enc:D->List Value)(ok:List D->D->Prop){σ:Type}(Γi:σ->List Atom)(Gt Gx:Z->List Atom)(Inv Ix:List D->Z->Prop):Prop where
 run:∀ ys d i s,ok ys d->Inv ys i->∀ w,Sat w0 w (Γi s++Gt i)->YieldAt Fence.wide 0 P L (enc d).toArray w fun e w'=>(e=.returned (.bool true)/\∃ i',Inv (ys++[d]) i'/\Sat w0 w' (Γi s++Gt i'))∨(e=.returned (.bool false)/\∃ i',Ix (ys++[d]) i'/\Sat w0 w' (Γi s++Gx i'))
instance {P:Program}{L:Nat}{Q:Exit->Act->World->Prop}{w0:World}{l:List Value}{I:List Atom}:nD (WCI P L Q w0 .ret l I) (WQ Q w0 .ret l I):=⟨fun h w hs=>wpIn_ret (h w hs)⟩
instance {P:Program}{L:Nat}{y:Code}{Q Q':Exit->Act->World->Prop}{w0:World}{l:List Value}{I:List Atom}:nD (WQ (Exit.then (y.wpIn (Wd (some L)) 0 P Q) Q') w0 .ret l I) (WQ Q' w0 .ret l I):=⟨fun h=>h⟩
section yields
variable {P:Program} {Q:Exit->Act->World->Prop} {w0:World} {l:List Value} {I Y:List Atom} {ops:Array Oper} {L:Nat}
theorem aD5{d:Nat}{t:Operand}{xs:List Operand}{vs:List Value}{ts:Array TypeId}{ty:TypeId}{pos:String}{after:Array Edge}{rest:List Oper}{Z D:Type}{enc:D->List Value}{ok:List D->D->Prop}{σ:Type}{Γi:σ->List Atom}{Gt Gx:Z->List Atom}{Inv Ix:List D->Z->Prop}[ho:qE Q]
  [ht:Ev l t (.func (.yield L) #[] #[])] [hx:EvL l xs vs] (hY:aAh P L w0 enc ok Γi Gt Gx Inv Ix) {ys:List D} {dd:D} {i:Z} {s:σ} (hk:ok ys dd) (hi:Inv ys i) (hv:vs=enc dd) (he:Ent w0 I (Γi s++Gt i))
  (h:∀ i',Inv (ys++[dd]) i'->WL P ops Q w0 rest (l.set d (.bool true)) (Γi s++Gt i')) (h':∀ i',Ix (ys++[dd]) i'->WL P ops Q w0 rest (l.set d (.bool false)) (Γi s++Gx i')):WQ (YQ P ops Q (⟨some d,.call { callee:=.value t,args:=xs.toArray,argTypes:=ts },ty,pos,after,none⟩::rest)) w0 .normal l I:=fun w hs=>by
 obtain ⟨fn,tmps,assign,body,hy,hR⟩:=hY.run ys dd i s hk hi w (he w hs)
 show wpListIn Fence.wide 1 P ops Q (_::rest) (E l) w
 refine wpListIn_plain rfl fun K hK=>?_
 refine⟨fun f _=>trivial,?_⟩
 have hrun:(execOp (E l).eval ⟨some d,.call { callee:=.value t,args:=xs.toArray,argTypes:=ts },ty,pos,after,none⟩).run P w=.ok (.round L fn tmps assign body) w:=by
  have hea:Array.map (E l).eval xs.toArray=vs.toArray:=by simp [hx.eq]
  simp only[execOp,resolve,Sem.run_bind,ht.eq,hea]
  rw[hv]
  simpa [Deferred.ofValue,invoke] using hy
 rw[Oper.semAt_eq _ _ _ (fun c h=>by cases h),hrun,Oper.uponIn_round]
 refine⟨fun hh=>(by cases hh),RoundIn.mono hR ?_⟩
 rintro e w' (⟨rfl,i',hi',hs'⟩|⟨rfl,i',hi',hs'⟩)
 ·show K ((E l).put (some d) (.bool true)) w'
  rw[gO]
  refine hK _ _ ?_
  have:=sB (r:=none) (n:=1) (P:=P) (ops:=ops) (suf:=[]) (Q:=Q) (Q':=Q) (fun a w h=>wpListIn_nil h) (fun _ _ _ h=>h) ho.out rest (E (l.set d (.bool true))) w' (.inl rfl) (h i' hi' w' hs')
  rwa [cF] at this
 ·show K ((E l).put (some d) (.bool false)) w'
  rw[gO]
  refine hK _ _ ?_
  have:=sB (r:=none) (n:=1) (P:=P) (ops:=ops) (suf:=[]) (Q:=Q) (Q':=Q) (fun a w h=>wpListIn_nil h) (fun _ _ _ h=>h) ho.out rest (E (l.set d (.bool false))) w' (.inl rfl) (h' i' hi' w' hs')
  rwa [cF] at this
end yields
section rounds
variable {P:Program} {L:Nat} {R:Ending->World->Prop} {w0:World} {l:List Value} {I Y:List Atom} {rec:Loop}
theorem aOr[hp:cQ Blk aCc I [.pointer (some ⟨L,0,none⟩)] ⟨L,.loop rec⟩ Y](h:∀ w,Sat w0 w (blk L (.loop (tH rec))::Y)->R (.returned (.bool false)) w):WQ (roundPost P L R) w0 .ret l I:=fun w hs=>by
 have hs2:=hs.perm hp.perm
 exact⟨_,_,run_endRound (some .ret) (pT hs2),h _ (hs2.putB _)⟩
end rounds
section stmt
variable {P:Program} {Q:Exit->Act->World->Prop} {w0:World} {l:List Value} {I:List Atom}
theorem tA{Z D:Type}{g:Operand}{gf:Nat}{lb:List Value}{pl:List Tmp}{assign body:Code}(enc:D->List Value)(ok:List D->D->Prop)(Inv Ix:List D->Z->Prop)(all:List D){σ:Type}(Γi:σ->List Atom)(Gt:Z->List Atom)(i0:Z)(s0:σ)(rv:Value)
  [hg:Ev l g (.func (.func gf) #[] lb.toArray)] [hf:bS P gf] (hps:∀ d,(enc d).length=pl.length)
  (h0:Inv [] i0) (hE:Ent w0 I (Γi s0++Gt i0))
  (hit:∀ (L:Nat) (r:Loop),aAh P L w0 enc ok Γi (GtR Gt L r) (GtR Gt L (tH r)) Inv Ix->CJ P gf (.func (.yield L) #[] #[]::lb) w0 (Γi s0++GtR Gt L r i0) (fun _:{ q:Bool×Z×σ // (q.1=true/\Inv all q.2.1)∨(q.1=false/\∃ pre,pre <+: all/\Ix pre q.2.1) }=>rv) (fun q=>Γi q.1.2.2++GtR Gt L (if q.1.1=true then r else tH r) q.1.2.1))
  (hbody:∀ (L:Nat) (r:Loop) (R:Ending->World->Prop) (ys:List D) (d:D) (i:Z) (s:σ),r.state=.ready->ok ys d->Inv ys i->
   (∀ i',Inv (ys++[d]) i'->∀ w,Sat w0 w (Γi s++GtR Gt L { r with pending:=none } i')->R (.returned (.bool true)) w)->
   (∀ i',Ix (ys++[d]) i'->∀ w,Sat w0 w (Γi s++GtR Gt L (tH r) i')->R (.returned (.bool false)) w)->
   WCI P L (Exit.then (aV9 P L body R) (fun _ _ _=>False)) w0 assign (aVx l pl (enc d)) (Γi s++GtR Gt L r i))
  (hdone:∀ (b:Nat) (i:Z) (s:σ),Inv all i->WQD b Q w0 .normal l (blk b (.deferred (some []))::(Γi s++Gt i)))
  (hleft:∀ (b:Nat) (pre:List D) (i:Z) (s:σ),pre <+: all->Ix pre i->WQD b Q w0 .ret l (blk b (.deferred (some []))::(Γi s++Gt i))) :
  WC P Q w0 (.rangeFunc g pl.toArray assign body) l I:=fun w hs=>by
 refine wpIn_wide.1 (wpIn_rangeFunc (n:=1) (F:=Fence.wide) fun fn _=>?_)
 obtain ⟨rec,hrec⟩:∃ rec:Loop,rec={ state:=.ready,pending:=none,fn,tmps:=l.toArray,params:=pl.toArray,assign,body,defers:=w.heap.size }:=⟨_,rfl⟩
 have h2:rec.defers=w.heap.size:=by rw[hrec]
 have hs1:Sat w0 ((w.alloc (.deferred (some []))).alloc (.loop rec)) (Γi s0++GtR Gt (w.heap.size+1) rec i0):=by
  have h1:=((hE w hs).allocB (.deferred (some []))).allocB (.loop rec)
  rw[World.size_alloc] at h1
  unfold GtR
  rw[h2]
  refine h1.perm ?_
  exact((List.perm_middle (l₁:=Γi s0)).symm.cons _).trans (List.perm_middle (l₁:=Γi s0)).symm
 refine⟨w.heap.size+1,[{ target:=.collected w.heap.size,args:=#[] }],(w.alloc (.deferred (some []))).alloc (.loop rec),{ target:=.fn (.func gf) lb.toArray,args:=#[.func (.yield (w.heap.size+1)) #[] #[]] },(w.alloc (.deferred (some []))).alloc (.loop rec),gf,
  (.func (.yield (w.heap.size+1)) #[] #[]::lb).toArray,(w.alloc (.deferred (some []))).alloc (.loop rec),?_,?_,fun _ _=>trivial,?_,fun hh=>(by cases hh),?_⟩
 ·rw[hrec];exact run_enterLoop_outer _ _ _ _ _
 ·simp only[resolve,hg.eq]
  simp [go_sem]
 ·have:=hf.run (.func (.yield (w.heap.size+1)) #[] #[]::lb).toArray ((w.alloc (.deferred (some []))).alloc (.loop rec))
  simpa [invoke,go_sem] using this
 ·refine(callsIn_wide (n:=0)).2 ?_
  have hYC:aAh P (w.heap.size+1) w0 enc ok Γi (GtR Gt (w.heap.size+1) rec) (GtR Gt (w.heap.size+1) (tH rec)) Inv Ix:=⟨fun ys d i s hk hi W hW=>by
   have hl:W.heap[w.heap.size+1]?=some (.loop rec):=by
    have:Sat w0 W (Γi s++blk (w.heap.size+1) (.loop rec)::blk rec.defers (.deferred (some []))::Gt i):=hW
    exact pT (rR this)
   have hy:=run_yield (P:=P) (args:=(enc d).toArray) hl (by rw[hrec];simpa using hps d)
   refine⟨_,_,_,_,hy,?_⟩
   rw[hrec]
   simp only
   rw[bCb]
   refine roundIn_of_wpIn (F:=Fence.wide) trivial ?_
   exact hbody (w.heap.size+1) rec _ ys d i s (by rw[hrec]) hk hi (fun i' hi' w' hw'=>.inl ⟨rfl,i',hi',by
    have e:({ rec with pending:=none }:Loop)=rec:=by rw[hrec]
    rw[e,hrec] at hw'
    exact hw'⟩) (fun i' hi' w' hw'=>.inr ⟨rfl,i',hi',by
    rw[hrec] at hw'
    exact hw'⟩) W hW⟩
  refine Calls.mono (hit (w.heap.size+1) rec hYC _ hs1) ?_
  rintro e W ⟨⟨⟨bb,i,s⟩,hi⟩,rfl,hW⟩
  rcases hi with⟨hb,hi⟩|⟨hb,pre,hpre,hi⟩
  ·simp only at hb hi hW
   rw[if_pos hb] at hW
   have hW2:Sat w0 W (blk (w.heap.size+1) (.loop rec)::(Γi s++blk rec.defers (.deferred (some []))::Gt i)):=rR hW
   refine⟨none,W.putObj (w.heap.size+1) (.loop { rec with state:=.exhausted }),?_,?_⟩
   ·have:=run_endLoop (P:=P) (pT hW2) (by rw[hrec];simp)
    rw[hrec] at this ⊢
    exact this
   ·have h3:=rR (hW2.putB (.loop { rec with state:=.exhausted })).drop
    rw[h2] at h3
    exact hdone w.heap.size i s hi _ (h2▸h3)
  ·simp only at hb hi hW
   rw[if_neg (by rw[hb];decide)] at hW
   have hW2:Sat w0 W (blk (w.heap.size+1) (.loop (tH rec))::(Γi s++blk rec.defers (.deferred (some []))::Gt i)):=rR hW
   refine⟨some .ret,W.putObj (w.heap.size+1) (.loop { tH rec with state:=.exhausted }),?_,?_⟩
   ·have:=run_endLoop (P:=P) (pT hW2) (by simp)
    exact this
   ·have h3:=rR (hW2.putB (.loop { tH rec with state:=.exhausted })).drop
    rw[h2] at h3
    exact wpIn_ret (hleft w.heap.size pre i s hpre hi _ (h2▸h3))
end stmt
def QE(b:Nat)(Q:Exit->Act->World->Prop):Exit->Act->World->Prop
 | .normal,a,w=>Q .normal { a with defers:=[{ target:=.collected b,args:=#[] }] } w
 | _,_,_=>False
section behind
variable {P:Program} {Q Q':Exit->Act->World->Prop} {w0:World} {l:List Value} {I:List Atom} {b:Nat} {ops:Array Oper}
class aSf(op:Op):Prop where
 ne:∀ (ρ:Operand->Value) (o:Oper) (P:Program) (w w':World) (d:Deferred),o.op=op->(execOp ρ o).run P w≠.ok (.defer d) w'
theorem bQa{s:Sem Value}{w w':World}{d:Deferred}:((do pure (Next.value (← s))):Sem Next).run P w≠.ok (.defer d) w':=by
 rw[Sem.run_bind]
 cases s.run P w<;>intro h<;>cases h
theorem bP1{s:Sem Unit}{w w':World}{d:Deferred}:((do s;pure Next.skip):Sem Next).run P w≠.ok (.defer d) w':=by
 rw[Sem.run_bind]
 cases s.run P w<;>intro h<;>cases h
instance {t:TypeId}{x:Operand}:aSf (.load t x):=⟨fun ρ o P w w' d ho=>by unfold execOp;rw[ho];exact bQa⟩
instance {t:TypeId}{x y:Operand}:aSf (.store t x y):=⟨fun ρ o P w w' d ho=>by unfold execOp;rw[ho];exact bP1⟩
inductive aEc:List Oper->Prop
 | nil:aEc []
 | cons {o:Oper} {ol:List Oper}:aSf o.op->aEc ol->aEc (o::ol)
class aYb(ol:List Oper):Prop where
 eq:aEc ol
instance:aYb []:=⟨.nil⟩
instance {o:Oper}{ol:List Oper}[h1:aSf o.op][h2:aYb ol]:aYb (o::ol):=⟨.cons h1 h2.eq⟩
theorem bL6{D:List Deferred}{o:Oper}{a:Act}{w:World}{next next':Act->World->Prop}(hd:aSf o.op)(hn:∀ a w,next a w->next' { a with defers:=D } w)
  (hp:∀ c a w,Q (.panic c) a w->Q' (.panic c) { a with defers:=D } w) (ho:¬ LetsOut Q) (h:o.wp P a w next Q):o.wp P { a with defers:=D } w next' Q':=by
 unfold Oper.wp at h ⊢
 have he:({ a with defers:=D }:Act).eval=a.eval:=rfl
 have hput:∀ v,({ a with defers:=D }:Act).put o.dst v={ a.put o.dst v with defers:=D }:=fun v=>by
  cases o.dst<;>rfl
 have hsd:∀ d w',(execOp a.eval o).run P w≠.ok (.defer d) w':=fun d w'=>hd.ne _ _ _ _ _ _ rfl
 rw[he]
 generalize (execOp a.eval o).run P w=res at *
 cases res with
 | ok v w'=>
  cases v with
  | value v=>rw[Oper.upon_value] at h ⊢;rw[hput];exact hn _ _ h
  | skip=>rw[Oper.upon_skip] at h ⊢;rw[hput];exact hn _ _ h
  | defer d=>exact absurd rfl (hsd d w')
  | enter f args=>
   rw[Oper.upon_enter] at h ⊢
   refine Calls.mono h fun e w'' he=>?_
   cases e with
   | returned v=>simp only at he ⊢;rw[hput];exact hn _ _ he
   | panicked c=>exact hp _ _ _ he
   | outgrown=>exact absurd he ho
  | row row args=>
   rw[Oper.upon_row] at h ⊢
   exact Rows.mono h fun v w'' he=>by rw[hput];exact hn _ _ he
  | _=>exact h.elim
 | halt x w'=>
  cases x with
  | panic v=>exact hp _ _ _ h
  | _=>exact h.elim
theorem aMh{D:List Deferred}(hq:∀ a w,Q .normal a w->Q' .normal { a with defers:=D } w)(hp:∀ c a w,Q (.panic c) a w->Q' (.panic c) { a with defers:=D } w)(ho:¬ LetsOut Q):∀ (pre:List Oper) (a:Act) (w:World),aEc pre->wpList P ops Q pre a w->wpList P ops Q' pre { a with defers:=D } w
 | [],a,w,_,h=>hq a w h
 | o::pre,a,w,hd,h=>by
  obtain ⟨hd1,hd2⟩:aSf o.op/\aEc pre:=by cases hd;exact⟨‹_›,‹_›⟩
  have hput:∀ v,({ a with defers:=D }:Act).put o.dst v={ a.put o.dst v with defers:=D }:=fun v=>by
   cases o.dst<;>rfl
  unfold wpList at h ⊢
  split at h
  ·rename_i hw
   rw[if_pos hw]
   rcases h with h|h
   ·exact .inl (bL6 hd1 (fun a w h=>aMh hq hp ho pre a w hd2 h) hp ho h)
   ·exact absurd h.2 ho
  ·rename_i hw
   rw[if_neg hw,hput]
   exact aMh hq hp ho pre _ w hd2 h
theorem aS3{id:Nat}{ol:List Oper}[hd:aYb ol](h:WL P ol.toArray (QE b Q) w0 ol l I):WD P b Q w0 (.region id ol.toArray false) l I:=fun w hs=>by
 refine wp_region_lit ?_
 exact aMh (Q:=QE b Q) (Q':=Q) (D:=[{ target:=.collected b,args:=#[] }]) (fun a w h=>h) (fun c a w h=>h.elim) (fun ⟨_,_,h⟩=>h) ol (E l) w hd.eq (h w hs)
instance {id:Nat}{ol:List Oper}[hd:aYb ol]:nD (WD P b Q w0 (.region id ol.toArray false) l I) (WL P ol.toArray (QE b Q) w0 ol l I):=⟨aS3⟩
instance:nD (WQ (QE b Q) w0 .normal l I) (WQD b Q w0 .normal l I):=⟨fun h w hs=>h w hs⟩
instance {K:Act->World->Prop}:nD (WQD b (Exit.then K Q) w0 .ret l I) (WQD b Q w0 .ret l I):=⟨fun h=>h⟩
instance {id:Nat}:nD (WQD b (Exit.inBlock id Q) w0 .ret l I) (WQD b Q w0 .ret l I):=⟨fun h=>h⟩
end behind
end Go.Eng
