/- Texts of the proof of FnNames. -/
import Derived.Test.YtajdgkpjbpindaaGreatDoorTab
import Derived.RangeFuncOwn
set_option linter.unusedVariables false
set_option linter.unusedSimpArgs false
set_option linter.unusedSectionVars false
namespace Go.Eng
open Go Go.RowKit
abbrev Wd(r:Option Nat):Fence:={ Fence.wide with round:=r }
section conv
variable {r:Option Nat} {n:Nat} {P:Program} {ops:Array Oper}
theorem aM3{f:FuncId}{args:Array Value}{w:World}{R:Ending->World->Prop}(h:Calls P f args w R):CallsIn (Wd r) n P f args w R:=
 (callsIn_wide (n:=n)).2 h
theorem aQv{row:String}{args:Array Value}{w:World}{R:Value->World->Prop}(h:Rows P row args w R):RowsIn (Wd r) n P row args w R:=
 fun c cs _=>let ⟨v,w',hr,hs⟩:=h c cs;⟨v,w',hr,stepsIn_wide.2 hs⟩
theorem bEq{o:Oper}{a:Act}{w:World}{next next':Act->World->Prop}{Q Q':Exit->Act->World->Prop}(hd:r=none∨∀ c,o.op≠.defer c)(hn:∀ a w,next a w->next' a w)(hp:∀ c a w,Q (.panic c) a w->Q' (.panic c) a w)(ho:LetsOut Q->LetsOut Q')
  (h:o.wp P a w next Q):o.wpIn (Wd r) n P a w next' Q':=by
 refine⟨fun f _=>trivial,?_⟩
 have hse:Oper.semAt (Wd r).round a.eval o=execOp a.eval o:=by
  rcases hd with rfl|hd
  ·rfl
  ·exact Oper.semAt_eq _ _ _ hd
 rw[hse]
 unfold Oper.wp at h
 generalize (execOp a.eval o).run P w=res at *
 cases res with
 | ok v w'=>
  cases v with
  | value v=>exact hn _ _ h
  | skip=>exact hn _ _ h
  | defer d=>exact hn _ _ h
  | enter f args=>
   refine⟨fun hh=>(by cases hh),aM3 ?_⟩
   refine Calls.mono h fun e w'' he=>?_
   cases e with
   | returned v=>exact hn _ _ he
   | panicked c=>exact hp _ _ _ he
   | outgrown=>exact ho he
  | row row args=>exact⟨fun hh=>(by cases hh),aQv (Rows.mono h fun v w'' he=>hn _ _ he)⟩
  | _=>exact h.elim
 | halt x w'=>
  cases x with
  | panic v=>exact hp _ _ _ h
  | _=>exact h.elim
def nZ(l:List Oper):Bool:=l.all fun o=>match o.op with | .defer _=>false|_=>true
theorem uY{o:Oper}{l:List Oper}(h:nZ (o::l)=true):(∀ c,o.op≠.defer c)/\nZ l=true:=by
 unfold nZ at h
 rw[List.all_cons,cN] at h
 refine⟨fun c e=>?_,h.2⟩
 rw[e] at h
 cases h.1
theorem sB{suf:List Oper}{Q Q':Exit->Act->World->Prop}(hn:∀ a w,Q .normal a w->wpListIn (Wd r) n P ops Q' suf a w)(hp:∀ c a w,Q (.panic c) a w->Q' (.panic c) a w)(ho:¬ LetsOut Q):∀ (pre:List Oper) (a:Act) (w:World),(r=none∨nZ pre=true)->wpList P ops Q pre a w->wpListIn (Wd r) n P ops Q' (pre++suf) a w
 | [],a,w,_,h=>hn a w h
 | o::pre,a,w,hd,h=>by
  have hd1:r=none∨∀ c,o.op≠.defer c:=hd.imp id fun h=>(uY h).1
  have hd2:r=none∨nZ pre=true:=hd.imp id fun h=>(uY h).2
  rw[aA]
  unfold wpList at h
  unfold wpListIn
  split
  ·rename_i hw
   rw[if_pos hw] at h
   rcases h with h|h
   ·exact bEq hd1 (fun a w h=>sB hn hp ho pre a w hd2 h) hp (fun h=>absurd h ho) h
   ·exact absurd h.2 ho
  ·rename_i hw
   rw[if_neg hw] at h
   exact⟨fun f _=>trivial,sB hn hp ho pre _ w hd2 h⟩
end conv
class qE(Q:Exit->Act->World->Prop):Prop where
 out:¬ LetsOut Q
instance:qE (fun _ _ _=>False):=⟨fun ⟨_,_,h⟩=>h⟩
instance {K:Act->World->Prop}{Q:Exit->Act->World->Prop}[h:qE Q]:qE (Exit.then K Q):=⟨fun ⟨a,w,h'⟩=>h.out ⟨a,w,h'⟩⟩
instance {id:Nat}{Q:Exit->Act->World->Prop}[h:qE Q]:qE (Exit.inBlock id Q):=⟨fun ⟨a,w,h'⟩=>h.out ⟨a,w,h'⟩⟩
instance {P:Program}{L:Nat}{R:Ending->World->Prop}:qE (roundPost P L R):=⟨fun ⟨_,_,h⟩=>h⟩
instance {P:Program}{fn:Func}{w0:World}{ρ:Type}{q:ρ->Value}{Γ':ρ->List Atom}:qE (bodyPost P fn (aC5 w0 q Γ')):=⟨fun ⟨_,_,h⟩=>by obtain ⟨p,e,_⟩:=h;cases e⟩
structure Blk where
 n:Nat
 o:Obj
instance aCc:cB Blk where
 sz:=1
 rd ok w cs x:=cs=[.pointer (some ⟨x.n,0,none⟩)]/\ok x.n/\w.heap[x.n]?=some x.o
 ow ok w F cs x:=F=[x.n]/\cs=[.pointer (some ⟨x.n,0,none⟩)]/\w.heap[x.n]?=some x.o
 pos:=by decide
 rd_len h:=by rw[h.1];rfl
 rd_one h:=fun c hc=>by rw[h.1,aO] at hc;rw[hc];rfl
 rd_mono h hm:=by
  obtain ⟨h1,h2,h3⟩:=h
  have hlt:=(bL.1 h3).1
  obtain ⟨h4,h5⟩:=hm _ h2 hlt
  exact⟨h1,h4,by rw[h5];exact h3⟩
 ow_mono h hf hm:=by
  obtain ⟨h1,h2,h3⟩:=h
  exact⟨h1,h2,by rw[hf _ (by rw[h1];simp)];exact h3⟩
 ow_rd h _ hf:=by
  obtain ⟨h1,h2,h3⟩:=h
  exact⟨h2,hf _ (by rw[h1];simp),h3⟩
 ow_lt h b hb:=by
  obtain ⟨h1,h2,h3⟩:=h
  rw[h1,aO] at hb
  rw[hb]
  exact(bL.1 h3).1
abbrev blk(n:Nat)(o:Obj):Atom:=@Atom.ow Blk aCc [.pointer (some ⟨n,0,none⟩)] ⟨n,o⟩
theorem pT{w0 w:World}{I:List Atom}{n:Nat}{o:Obj}(h:Sat w0 w (blk n o::I)):w.heap[n]?=some o:=by
 obtain ⟨_,F,_,_,f,g,_,⟨_,_,h3⟩,_⟩:=h
 exact h3
theorem Sat.putB{w0 w:World}{I:List Atom}{n:Nat}{o:Obj}(o':Obj)(h:Sat w0 w (blk n o::I)):Sat w0 (w.putObj n o') (blk n o'::I):=by
 obtain ⟨hb,F,hn,hl,f,g,rfl,⟨rfl,_,hc⟩,hs⟩:=h
 have hlt:n<w.heap.size:=(bL.1 hc).1
 have hg:n∉g:=by have:=hn;simp at this;exact this.1
 have hsame:∀ k,k≠n->gH w (w.putObj n o') k:=fun k hk=>World.putObj_heap_other hk
 refine⟨.of (hb.low.grown (grownBy_putObj' w n o') hb.size (fun k e=>by cases e;exact hl n (by simp))) hb.drawn,[n]++g,hn,hl,[n],g,rfl,⟨rfl,rfl,World.putObj_heap_same hlt⟩,?_⟩
 exact hs.mono (fun k hk _=>⟨hk,hsame k (fun e=>hk (by simp [e]))⟩) (by simp) (fun k hk=>hsame k (fun e=>hg (e▸hk)))
theorem Sat.allocB{w0 w:World}{I:List Atom}(h:Sat w0 w I)(o:Obj):Sat w0 (w.alloc o) (blk w.heap.size o::I):=by
 obtain ⟨hb,F,hn,hl,hs⟩:=h
 have hlt:=hs.lt
 refine⟨hb.alloc hb.size _,w.heap.size::F,?_,?_,[w.heap.size],F,rfl,⟨rfl,rfl,heap_alloc_new w _⟩,?_⟩
 ·exact List.nodup_cons.2 ⟨fun hm=>Nat.lt_irrefl _ (hlt _ hm),hn⟩
 ·intro b hb'
  rcases cH.1 hb' with rfl|hb'
  ·exact hb.size
  ·exact hl b hb'
 ·refine hs.mono (fun b hb hlt=>⟨?_,Below.heap_alloc _ _ _ hlt⟩) (by simp) (fun b hb=>Below.heap_alloc _ _ _ (hlt b hb))
  intro hm
  rcases cH.1 hm with rfl|hm
  ·exact Nat.lt_irrefl _ hlt
  ·exact hb hm
def WCI(P:Program)(L:Nat)(Q:Exit->Act->World->Prop)(w0:World)(c:Code)(l:List Value)(I:List Atom):Prop:=
 ∀ w,Sat w0 w I->c.wpIn (Wd (some L)) 0 P Q (E l) w
section wci
variable {P:Program} {L:Nat} {Q Q':Exit->Act->World->Prop} {w0:World} {l:List Value} {I Y:List Atom} {x y:Code}
instance:nD (WCI P L Q w0 (.seq x y) l I) (WCI P L (Exit.then (y.wpIn (Wd (some L)) 0 P Q) Q) w0 x l I):=⟨fun h w hs=>wpIn_seq (h w hs)⟩
instance:nD (WCI P L Q w0 .skip l I) (WQ Q w0 .normal l I):=⟨fun h w hs=>wpIn_skip (h w hs)⟩
instance {id:Nat}:nD (WCI P L Q w0 (.block id x) l I) (WCI P L (Exit.inBlock id Q) w0 x l I):=⟨fun h w hs=>wpIn_block (h w hs)⟩
instance:nD (WQ (Exit.then (y.wpIn (Wd (some L)) 0 P Q) Q') w0 .normal l I) (WCI P L Q w0 y l I):=⟨fun h=>h⟩
theorem bIz{c:Operand}{b:Bool}{p q:Prop}[hc:Ev l c (.bool b)][hp:jB b p][hn:jQ b q](ht:p->WCI P L Q w0 x l I)(hf:q->WCI P L Q w0 y l I):WCI P L Q w0 (.cond c x y) l I:=fun w hs=>by
 cases b with
 | true=>exact wpIn_cond_true hc.eq (ht (hp.iff.1 rfl) w hs)
 | false=>exact wpIn_cond_false hc.eq (hf (hn.iff.1 rfl) w hs)
instance {c:Operand}{b:Bool}{p q:Prop}[hc:Ev l c (.bool b)][hp:jB b p][hn:jQ b q]:aT0 (WCI P L Q w0 (.cond c x y) l I) p q (WCI P L Q w0 x l I) (WCI P L Q w0 y l I):=⟨fun h1 h2=>bIz h1 h2⟩
class NoD(op:Op):Prop where
 ne:∀ c,op≠.defer c
instance {x:Operand}:NoD (.move x):=⟨fun _ h=>by cases h⟩
instance {x:Operand}:NoD (.assign x):=⟨fun _ h=>by cases h⟩
instance {t:TypeId}{n:Nat}{ps:Array (Nat×Operand)}:NoD (.buildSlice t n ps):=⟨fun _ h=>by cases h⟩
instance {t:TypeId}{x:Operand}:NoD (.load t x):=⟨fun _ h=>by cases h⟩
instance {t:TypeId}{x y:Operand}:NoD (.store t x y):=⟨fun _ h=>by cases h⟩
instance {o:UnOp}{T:TypeId}{x:Operand}:NoD (.unOp o T x):=⟨fun _ h=>by cases h⟩
instance {x:Operand}{i:Nat}:NoD (.extract x i):=⟨fun _ h=>by cases h⟩
instance {c:Call}:NoD (.call c):=⟨fun _ h=>by cases h⟩
class bD9(ol:List Oper):Prop where
 eq:nZ ol=true
instance:bD9 []:=⟨rfl⟩
instance {o:Oper}{ol:List Oper}[h1:NoD o.op][h2:bD9 ol]:bD9 (o::ol):=⟨by
 unfold nZ
 rw[List.all_cons,cN]
 refine⟨?_,h2.eq⟩
 have:=h1.ne
 split
 ·rename_i c hc
  exact absurd hc (this c)
 ·rfl⟩
theorem aL4{id:Nat}{ol:List Oper}[ho:qE Q](hd:nZ ol=true)(h:WL P ol.toArray Q w0 ol l I):WCI P L Q w0 (.region id ol.toArray false) l I:=fun w hs=>by
 refine wpIn_region_lit ?_
 have:=sB (r:=some L) (n:=0) (P:=P) (ops:=ol.toArray) (suf:=[]) (Q:=Q) (Q':=Q) (fun a w h=>wpListIn_nil h) (fun _ _ _ h=>h) ho.out ol (E l) w (.inr hd) (h w hs)
 rwa [cF] at this
instance {id:Nat}{ol:List Oper}[ho:qE Q][hd:bD9 ol]:nD (WCI P L Q w0 (.region id ol.toArray false) l I) (WL P ol.toArray Q w0 ol l I):=⟨fun g=>aL4 hd.eq g⟩
end wci
def aV9(P:Program)(L:Nat)(body:Code)(R:Ending->World->Prop)(a:Act)(w:World):Prop:=
 ∃ w2,(Instr.beginRound L).run P w=.ok () w2/\body.wpIn (Wd (some L)) 0 P (roundPost P L R) a w2
section rounds
variable {P:Program} {L:Nat} {R:Ending->World->Prop} {w0:World} {l:List Value} {I Y:List Atom} {body:Code} {rec:Loop}
theorem aKf[hp:cQ Blk aCc I [.pointer (some ⟨L,0,none⟩)] ⟨L,.loop rec⟩ Y](hr:rec.state=.ready)(h:WCI P L (roundPost P L R) w0 body l (blk L (.loop { rec with state:=.busy })::Y)):WQ (Exit.then (aV9 P L body R) (fun _ _ _=>False)) w0 .normal l I:=fun w hs=>by
 have hs2:=hs.perm hp.perm
 exact⟨_,run_beginRound (pT hs2) hr,h _ (hs2.putB _)⟩
theorem aJi[hp:cQ Blk aCc I [.pointer (some ⟨L,0,none⟩)] ⟨L,.loop rec⟩ Y](h:∀ w,Sat w0 w (blk L (.loop { rec with state:=.ready,pending:=none })::Y)->R (.returned (.bool true)) w):WQ (roundPost P L R) w0 .normal l I:=fun w hs=>by
 have hs2:=hs.perm hp.perm
 exact⟨_,_,run_endRound none (pT hs2),h _ (hs2.putB _)⟩
end rounds
def YQ(P:Program)(ops:Array Oper)(Q:Exit->Act->World->Prop)(suf:List Oper):Exit->Act->World->Prop
 | .normal,a,w=>wpListIn Fence.wide 1 P ops Q suf a w
 | _,_,_=>False
instance {P:Program}{ops:Array Oper}{Q:Exit->Act->World->Prop}{suf:List Oper}:qE (YQ P ops Q suf):=⟨fun ⟨_,_,h⟩=>h⟩
section yields
variable {P:Program} {Q:Exit->Act->World->Prop} {w0:World} {l:List Value} {I Y:List Atom} {ops:Array Oper} {L:Nat}
theorem aJb{id:Nat}(n:Nat){ol:List Oper}(h:WL P ol.toArray (YQ P ol.toArray Q (ol.drop n)) w0 (ol.take n) l I):WC P Q w0 (.region id ol.toArray false) l I:=fun w hs=>by
 refine wpIn_wide.1 (wpIn_region_lit (n:=1) ?_)
 have:=sB (r:=none) (n:=1) (P:=P) (Q':=Q) (suf:=ol.drop n) (fun a w h=>h) (fun _ _ _ h=>h.elim) (qE.out (Q:=YQ P ol.toArray Q (ol.drop n))) (ol.take n) (E l) w (.inl rfl) (h w hs)
 rwa [dF] at this
instance {n:Nat}{o:Oper}{rest:List Oper}:nD (WL P ops Q w0 (List.take (n+1) (o::rest)) l I) (WL P ops Q w0 (o::List.take n rest) l I):=⟨fun h=>h⟩
instance {rest:List Oper}:nD (WL P ops Q w0 (List.take 0 rest) l I) (WL P ops Q w0 [] l I):=⟨fun h=>h⟩
end yields
def ED(l:List Value)(b:Nat):Act:={ tmps:=l.toArray,defers:=[{ target:=.collected b,args:=#[] }] }
section stmt
variable {P:Program} {Q:Exit->Act->World->Prop} {w0:World} {l:List Value} {I:List Atom}
theorem rR{w:World}{A B:List Atom}{X:Atom}(h:Sat w0 w (A++X::B)):Sat w0 w (X::(A++B)):=h.perm List.perm_middle
def GtR{Z:Type}(Gt:Z->List Atom)(L:Nat)(r:Loop)(i:Z):List Atom:=blk L (.loop r)::blk r.defers (.deferred (some []))::Gt i
def aVx(l:List Value)(pl:List Tmp)(vs:List Value):List Value:=(pl.zip vs).foldl (fun t pv=>t.set pv.1 pv.2) l
theorem bCb(l:List Value)(pl:List Tmp)(vs:List Value):(pl.toArray.zip vs.toArray).foldl (fun t (p,v)=>t.setIfInBounds p v) l.toArray=(aVx l pl vs).toArray:=by
 unfold aVx
 rw[List.zip_toArray]
 rw[List.foldl_toArray]
 induction pl.zip vs generalizing l with
 | nil=>rfl
 | cons pv ps ih=>
  rw[List.foldl_cons,List.foldl_cons,← ih]
  congr 1
  simp
theorem aAj{f:FuncId}{fn:Func}{c:Code}{vs:List Value}{n:Nat}{ρ:Type}{r:ρ->Value}{Γ':ρ->List Atom}(hf:P.funcs[f]?=some fn)(hn:fn.ntmps=n)(h:WC P (bodyPostM Fence.wide 1 P fn (aC5 w0 r Γ')) w0 c l I)
  (hl:vs++List.replicate (n-vs.length) undef=l:=by simp only[aF,aL,Nat.reduceAdd,Nat.reduceSub,List.replicate_succ,List.replicate_zero,aA,aB];rfl) (hb:fn.body=some c:=by rfl):CJ P f vs w0 I r Γ':=fun w hs=>by
 refine(callsIn_wide (n:=1)).1 (callsIn_of_wp_marks hf hb trivial ?_)
 refine wpIn_wide.2 ?_
 have:=h w hs
 rw[← hl] at this
 have e:(vs.toArray++Array.replicate (fn.ntmps-vs.toArray.size) undef:Array Value)=(vs++List.replicate (n-vs.length) undef).toArray:=by
  rw[hn];simp
 rw[e]
 exact this
instance {F:Fence}{n:Nat}{fn:Func}{rs:List ResultVar}{vs:List Value}{v:Value}{ρ:Type}{r:ρ->Value}{Γ':ρ->List Atom}[hf:bU fn rs][hr:Rs P I l rs vs][ht:aNt vs v] :
  nD (WQ (bodyPostM F n P fn (aC5 w0 r Γ')) w0 .ret l I) (∃ p,r p=v/\Ent w0 I (Γ' p)):=⟨fun ⟨p,h1,h2⟩ w hw=>⟨_,oJ hf.eq hw,p,by rw[h1,ht.eq],h2 w hw⟩⟩
end stmt
def WD(P:Program)(b:Nat)(Q:Exit->Act->World->Prop)(w0:World)(c:Code)(l:List Value)(I:List Atom):Prop:=∀ w,Sat w0 w I->c.wp P Q (ED l b) w
def WQD(b:Nat)(Q:Exit->Act->World->Prop)(w0:World)(e:Exit)(l:List Value)(I:List Atom):Prop:=∀ w,Sat w0 w I->Q e (ED l b) w
section wd
variable {P:Program} {Q Q':Exit->Act->World->Prop} {w0:World} {l l':List Value} {I Y:List Atom} {x y:Code} {b:Nat} {ops:Array Oper} {rest:List Oper}
instance:nD (WD P b Q w0 (.seq x y) l I) (WD P b (Exit.then (y.wp P Q) Q) w0 x l I):=⟨fun h w hs=>wp_seq (h w hs)⟩
instance:nD (WD P b Q w0 .ret l I) (WQD b Q w0 .ret l I):=⟨fun h w hs=>wp_ret (h w hs)⟩
instance:nD (WQD b (Exit.then (y.wp P Q) Q') w0 .normal l I) (WD P b Q w0 y l I):=⟨fun h=>h⟩
instance {id:Nat}:nD (WQD b (Exit.inBlock id Q) w0 .normal l I) (WQD b Q w0 .normal l I):=⟨fun h=>h⟩
instance {n:Nat}{fn:Func}{rs:List ResultVar}{vs:List Value}{v:Value}{ρ:Type}{r:ρ->Value}{Γ':ρ->List Atom}[hp:cQ Blk aCc I [.pointer (some ⟨b,0,none⟩)] ⟨b,.deferred (some [])⟩ Y][hf:bU fn rs][hr:Rs P Y l rs vs][ht:aNt vs v] :
  nD (WQD b (bodyPostM Fence.wide n P fn (aC5 w0 r Γ')) w0 .ret l I) (∃ p,r p=v/\Ent w0 Y (Γ' p)):=⟨fun ⟨p,h1,h2⟩ w hw=>by
 have hw2:=hw.perm hp.perm
 have hw3:=(hw2.putB (.deferred none)).drop
 exact⟨by simp,.inl ⟨b,_,rfl,run_takeDeferred (pT hw2),_,oJ hf.eq hw3,p,by rw[h1,ht.eq],h2 _ hw3⟩⟩⟩
end wd
end Go.Eng
