/- Texts of the proof of FnNames. -/
import Derived.Test.YtajdgkpjbpindaaGreatDoorTbt
import Derived.Test.YtajdgkpjbpindaaGreatDoorTbv
import Derived.Test.YtajdgkpjbpindaaGreatDoorTbq
import Derived.Lib.SmallJoins
import Derived.Shelf.Vars
import Derived.Stop.LaidErr
set_option linter.unusedVariables false
set_option linter.unusedSimpArgs false
set_option linter.unusedSectionVars false
namespace Go.Proofs.YtajdgkpjbpindaaGreatDoor
open Go Go.Eng Go.RowKit Tryz
set_option synthInstance.maxHeartbeats 400000
set_option synthInstance.maxSize 1000
set_option maxHeartbeats 2000000
set_option maxRecDepth 20000
instance bAt{I:List Atom}{lv:Value}{s:ByteArray}{ss:List ByteArray}[h:bK ByteArray I lv ss] :
  bQ prog 14 [lv,.string s] I True Unit (fun _:Unit=>.int .i64 (yA s ss)) (fun _=>I):=⟨fun _ w0=>by
 refine dQ lv fun hl=>?_
 refine jV (fun w1=>?_) (aE h fI)
 refine aK func14 ntmps14 ?_
 repeat' (first|refine aU ?_|fail)
 refine lc_ [8] [9,10,5,11,12,13,14,15,16,17,4,18] (Z:=Nat) (fun k=>[.int .i64 k]) (fun k=>k<=ss.length/\yA s ss=jD s k (ss.drop k)) (fun k=>ss.length-k) 0 ⟨aI _,rfl⟩ ?_
 intro k u l' hl' ⟨hk,hkk⟩
 simp only[bM,List.map,List.set] at hl'
 subst hl'
 repeat' (first|refine aU ?_|refine bP ?_|refine bV fun hc=>?_|refine bW fun hc=>?_|refine aS (fun hc=>?_) fun hc=>?_|fail)
 ·refine⟨(),?_,aH⟩
  rw[hkk,mV (by omega),if_pos (by simpa using hc.symm)]
 ·exact eB (k+1) ⟨by omega,by rw[hkk,mV (by omega),if_neg (by intro h;exact hc (by simpa using h.symm))]⟩
 ·refine⟨(),?_,aH⟩
  rw[hkk,cI (by omega)];rfl⟩
instance impl_NameKind_ctr{I:List Atom}{s:ByteArray} :
  bQ prog 5 [.string s] I True Unit (fun _:Unit=>.int .i64 (yO s)) (fun _=>I):=⟨fun _ w0=>by
 have hr:=oT (s:=s) fG 0
 have hl:fG.length=12:=rfl
 have hr':-1<=yA s fG/\yA s fG<12:=by rw[hl] at hr;exact hr
 refine aK func5 ntmps5 ?_
 repeat' (first|refine aU ?_|refine bP ?_|refine cV fun r hr=>?_|refine aW fun r=>?_|fail)
 exact⟨(),rfl,aH⟩⟩
theorem aEm(c:UInt8):∀ l:List UInt8,Lib.splitK [c] 0 (Lib.count l [c]) l=gG c l
 | []=>by rw[Lib.count_miss (by simp [Lib.index])];rfl
 | b::l=>by
  have ih:=aEm c l
  by_cases h:b=c
  ·subst h
   have hix:Lib.index (b::l) [b]=0:=by rw[Lib.index];simp [List.isPrefixOf]
   rw[Lib.count_cons_eq,Nat.add_comm,Lib.splitK,hix,if_neg (by decide),gG,if_pos rfl,← ih]
   rfl
  ·have hp:([c]:List UInt8).isPrefixOf (b::l)=false:=by simp [List.isPrefixOf,Ne.symm h]
   have hix:Lib.index (b::l) [c]=if Lib.index l [c]==-1 then -1 else Lib.index l [c]+1:=by rw[Lib.index,hp];simp
   have hge:=Lib.index_ge l [c]
   rw[Lib.count_cons_ne b c l h,gG,if_neg h,← ih]
   cases hk:Lib.count l [c] with
   | zero=>rfl
   | succ k=>
    by_cases hm:Lib.index l [c]=-1
    ·rw[Lib.splitK,Lib.splitK,hix,hm];rfl
    ·have hm2:¬ (Lib.index l [c]==-1)=true:=fun e=>hm (beq_iff_eq.1 e)
     have hm3:¬ (Lib.index l [c]+1==-1)=true:=fun e=>by have:=beq_iff_eq.1 e;omega
     rw[Lib.splitK,Lib.splitK,hix,if_neg hm2,if_neg hm2,if_neg hm3]
     obtain ⟨j,hj⟩:∃ j:Nat,Lib.index l [c]=(j:Int):=⟨(Lib.index l [c]).toNat,by omega⟩
     rw[hj]
     simp only[Nat.add_zero,bH,show((j:Int)+1).toNat=j+1 by omega,List.take_succ_cons,rD]
     rw[show j+1+[c].length=(j+[c].length)+1 from rfl,List.drop_succ_cons]
theorem aQz(c:UInt8)(s:ByteArray):Lib.splitB { data:=#[c] } 0 (Lib.countB s { data:=#[c] }) s=(gG c s.data.toList).map S:=by
 rw[← aEm c s.data.toList,show Lib.splitK [c] 0 (Lib.count s.data.toList [c]) s.data.toList=_ from(Lib.splitB_data { data:=#[c] } 0 _ s).symm,List.map_map]
 exact(List.map_id _).symm
theorem aOf{ok:Nat->Prop}{w:World}:∀ xs:List ByteArray,(∀ x∈xs,x.size<=9223372036854775807)->jA ok w [] (xs.map Value.string) xs
 | [],_=>⟨rfl,rfl⟩
 | x::xs,h=>⟨[],[],[.string x],xs.map Value.string,rfl,rfl,⟨rfl,rfl,h x List.mem_cons_self⟩,aOf xs fun y hy=>h y (List.mem_cons_of_mem _ hy)⟩
structure GI where
 m:Int
instance repGI:cB GI where
 sz:=1
 rd ok w cells x:=∃ g cs e fz,cells=[.pointer (some ⟨g,0,none⟩)]/\ok g/\w.heap[g]?=some (.cells cs e fz)/\w.cell? ⟨g,0,none⟩=some (.int .i64 x.m)
 ow ok w F cells x:=F=[]/\∃ g cs e fz,cells=[.pointer (some ⟨g,0,none⟩)]/\ok g/\w.heap[g]?=some (.cells cs e fz)/\w.cell? ⟨g,0,none⟩=some (.int .i64 x.m)
 pos:=by decide
 rd_len:=by rintro _ _ _ _ ⟨g,cs,e,fz,rfl,_⟩;rfl
 rd_one:=by rintro _ _ _ _ ⟨g,cs,e,fz,rfl,_⟩ x hx;simp at hx;subst hx;rfl
 rd_mono:=by
  rintro _ _ _ _ _ _ ⟨g,cs,e,fz,h1,h2,h3,h4⟩ hm
  have:=hm g h2 (bL.1 h3).1
  exact⟨g,cs,e,fz,h1,this.1,this.2.trans h3,(nB (a:=⟨g,0,none⟩) this.2).trans h4⟩
 ow_mono:=by
  rintro _ _ _ _ _ _ _ ⟨hF,g,cs,e,fz,h1,h2,h3,h4⟩ _ hm
  have:=hm g h2 (bL.1 h3).1
  exact⟨hF,g,cs,e,fz,h1,this.1,this.2.trans h3,(nB (a:=⟨g,0,none⟩) this.2).trans h4⟩
 ow_rd:=by
  rintro _ _ _ _ _ _ ⟨hF,g,cs,e,fz,h1,h2,h3,h4⟩ ho _
  exact⟨g,cs,e,fz,h1,ho g h2,h3,h4⟩
 ow_lt:=by rintro _ _ _ _ _ ⟨rfl,_⟩ b hb;cases hb
abbrev mxV:Value:=.pointer (some ⟨0,0,none⟩)
structure GE where
 t:TypeId
 p:Value
instance repGE:cB GE where
 sz:=1
 rd ok w cells x:=∃ g cs e fz,cells=[.pointer (some ⟨g,0,none⟩)]/\ok g/\w.heap[g]?=some (.cells cs e fz)/\w.cell? ⟨g,0,none⟩=some (.iface x.t x.p)
 ow ok w F cells x:=F=[]/\∃ g cs e fz,cells=[.pointer (some ⟨g,0,none⟩)]/\ok g/\w.heap[g]?=some (.cells cs e fz)/\w.cell? ⟨g,0,none⟩=some (.iface x.t x.p)
 pos:=by decide
 rd_len:=by rintro _ _ _ _ ⟨g,cs,e,fz,rfl,_⟩;rfl
 rd_one:=by rintro _ _ _ _ ⟨g,cs,e,fz,rfl,_⟩ x hx;simp at hx;subst hx;rfl
 rd_mono:=by
  rintro _ _ _ _ _ _ ⟨g,cs,e,fz,h1,h2,h3,h4⟩ hm
  have:=hm g h2 (bL.1 h3).1
  exact⟨g,cs,e,fz,h1,this.1,this.2.trans h3,(nB (a:=⟨g,0,none⟩) this.2).trans h4⟩
 ow_mono:=by
  rintro _ _ _ _ _ _ _ ⟨hF,g,cs,e,fz,h1,h2,h3,h4⟩ _ hm
  have:=hm g h2 (bL.1 h3).1
  exact⟨hF,g,cs,e,fz,h1,this.1,this.2.trans h3,(nB (a:=⟨g,0,none⟩) this.2).trans h4⟩
 ow_rd:=by
  rintro _ _ _ _ _ _ ⟨hF,g,cs,e,fz,h1,h2,h3,h4⟩ ho _
  exact⟨g,cs,e,fz,h1,ho g h2,h3,h4⟩
 ow_lt:=by rintro _ _ _ _ _ ⟨rfl,_⟩ b hb;cases hb
abbrev esV:Value:=.pointer (some ⟨3,0,none⟩)
abbrev erV:Value:=.pointer (some ⟨4,0,none⟩)
instance bNa{I:List Atom}{s:ByteArray}{c:UInt8}{m:Int}[h:dZ (GI) repGI I [mxV] (GI.mk m)] :
  bQ prog 21 [.string s,.string { data:=#[c] }] I (s.size<=1048576) (Value) (fun q:Value=>q) (fun q=>.ow [q] ((gG c s.data.toList).map S)::I):=⟨fun hs w0=>by
 exact fun w hs'=>by
  obtain ⟨g,cs,e,fz,h1,_,_,h4⟩:=hs'.rd (hr:=h)
  simp only[bR,Value.pointer.injEq,Option.some.injEq,Addr.mk.injEq,and_true] at h1
  subst h1
  have hc1:(1:Nat)<=({ data:=#[c] }:ByteArray).size:=aM _
  have hcb:=Lib.countB_le { data:=#[c] } hc1 s.size s (aM _)
  have hsp:=aQz c s
  have hlen:=Lib.splitB_all { data:=#[c] } hc1 0 _ s rfl
  rw[hsp] at hlen
  have hwl:=oO c s.data.toList
  have hll:s.data.toList.length=s.size:=bZ
  refine(strings_Split s { data:=#[c] } m w (by omega) h4 hc1).mono fun e w' ⟨he,hw⟩=>⟨_,he,?_⟩
  rw[hsp] at hw
  rw[hw]
  refine Sat.step (Y:=[]) (Δ':=[.ow _ _]) hs' ⟨rfl,rfl,rfl,by simp,(by first|exact aM _|exact cW _ _)⟩ (fun f ok hf hnd _=>⟨fun b hb _=>Below.heap_alloc _ _ _ hb,[w.heap.size],by simp,fun b hb=>.inr (by simp at hb;omega),fun ok' _=>?_⟩)
  refine⟨[w.heap.size],[],rfl,?_,rfl⟩
  show cB.ow _ _ _ _ _
  rw[fL]
  refine .inr ⟨w.heap.size,Lib.countB s { data:=#[c] }+1,_,9,[],((gG c s.data.toList).map S).map Value.string,by rw[hlen],rfl,heap_alloc_new w _,by omega,by simp [maxLen];omega,by omega,?_,?_,aOf _ ?_⟩
  ·show _*1<=_
   simp only[dP,aY]
   rw[aY] at hlen
   omega
  ·show List.take (_*1) _=_
   rw[Nat.mul_one]
   exact bE (by simp)
  ·intro x hx
   obtain ⟨y,hy,rfl⟩:=dT.1 hx
   have:=hwl.2 y hy
   rw[eZ];omega⟩
instance bKc{I:List Atom}{s:ByteArray}{c:UInt8} :
  bQ prog 81 [.string s,.string { data:=#[c] }] I True Unit (fun _:Unit=>.int .i64 (Lib.indexByte s.data.toList c)) (fun _=>I):=⟨fun _ w0=>by
 exact fun w hs'=>(strings_Index_one s c w).mono fun e w' ⟨he,hw⟩=>⟨(),he,by rw[hw];exact hs'⟩⟩
theorem aRc(l:List UInt8):-9223372036854775808<=Lib.intSat 64 l/\Lib.intSat 64 l<=9223372036854775807:=by
 have h63:(2:Nat) ^ (64-1)=9223372036854775808:=by decide
 unfold Lib.intSat
 rw[h63]
 split<;>decide
theorem aZ1{l:List UInt8}{v:Int}(h:Lib.parseIntB 64 l=.ok v):In6 v:=by
 have h63:(2:Nat) ^ (64-1)=9223372036854775808:=by decide
 unfold Lib.parseIntB at h
 split at h
 ·cases h
 ·simp only[h63] at h
  split at h
  ·cases h
  ·cases h
  ·split at h
   ·cases h
   ·split at h
    ·cases h
    ·injection h with h
     unfold In6
     split at h<;>omega
theorem aI7{l:List UInt8}(h:∀ v,Lib.parseIntB 64 l≠.ok v):¬ vA l:=fun ⟨n,h1,h2⟩=>h n (by rw[← h2];exact aAz h1)
def PI(l:List UInt8)(q:Int×Value):Prop:=(-9223372036854775808<=q.1/\q.1<=9223372036854775807)/\((q.2=.nilIface/\Lib.parseIntB 64 l=.ok q.1)∨(∃ N:Nat,q.2=.iface 209 (.pointer (some ⟨N,0,none⟩)))/\¬ vA l)
instance bBw{I:List Atom}{s:ByteArray}{x y:GE}[hx:dZ (GE) repGE I [esV] x][hy:dZ (GE) repGE I [erV] y] :
  bQ prog 83 [.string s,.int .i64 10,.int .i64 64] I (s.size<=1048576) ({ q:Int×Value // PI s.data.toList q }) (fun q:{ q:Int×Value // PI s.data.toList q }=>.tuple #[.int .i64 q.1.1,q.1.2]) (fun _=>I):=⟨fun hs w0=>by
 exact fun w hs'=>by
  obtain ⟨g,cs,e,fz,h1,_,_,h4⟩:=hs'.rd (hr:=hx)
  obtain ⟨g2,cs2,e2,fz2,h12,_,_,h42⟩:=hs'.rd (hr:=hy)
  simp only[bR,Value.pointer.injEq,Option.some.injEq,Addr.mk.injEq,and_true] at h1 h12
  subst h1 h12
  rcases h:Lib.parseIntB 64 s.data.toList with v|_|_
  ·refine(strconv_ParseInt_10_at64_ok s (by omega) v h w).mono fun e w' ⟨he,hw⟩=>⟨⟨(v,.nilIface),aZ1 h,.inl ⟨rfl,h⟩⟩,he,?_⟩
   rcases hw with rfl|⟨t,rfl⟩
   ·exact hs'
   ·exact hs'.ext (.of (Joins.below_bytesWorld _ _ _ _ (aM _)) trivial)
  ·exact(strconv_ParseInt_10_at64_syntax s (by omega) h _ w h4 (.inr ⟨_,_,rfl⟩)).mono fun e w' ⟨N,he,_,_,hw⟩=>⟨⟨(0,_),by simp,.inr ⟨⟨N,rfl⟩,aI7 (fun v hv=>by rw[h] at hv;cases hv)⟩⟩,he,hs'.ext (.of hw trivial)⟩
  ·exact(strconv_ParseInt_10_at64_range s (by omega) h _ w h42 (.inr ⟨_,_,rfl⟩)).mono fun e w' ⟨N,he,_,_,hw⟩=>⟨⟨(_,_),aRc _,.inr ⟨⟨N,rfl⟩,aI7 (fun v hv=>by rw[h] at hv;cases hv)⟩⟩,he,hs'.ext (.of hw trivial)⟩⟩
theorem yF:prog.underlying 102=some (.interface (prog.methodsAt 102)):=by unfold Program.methodsAt;rw[underlying102]
instance bP6{l:List Value}{I:List Atom}{ty U:TypeId}{a:Operand}[hx:Ev l a .nilIface]:pK prog l I (.binOp .eql 102 a (.const .nilIface) U) ty (.bool true):=⟨fun w0=>fZ (fun w=>by unfold eqGuard;cases a<;>rfl) (fun w=>run_eql_nil_nil w _ yF)⟩
instance bPw{l:List Value}{I:List Atom}{ty U t:TypeId}{p:Value}{a:Operand}[hx:Ev l a (.iface t p)]:pK prog l I (.binOp .eql 102 a (.const .nilIface) U) ty (.bool false):=⟨fun w0=>fZ (fun w=>by unfold eqGuard;rfl) (fun w=>run_eql_held_nil w _ _ _ yF)⟩
instance aUt{I:List Atom}{s:ByteArray}{x y:GE}[hx:dZ (GE) repGE I [esV] x][hy:dZ (GE) repGE I [erV] y][ht:dZ (Tab) repTab I [tabV] (Tab.mk Lib.pow10Tab)] :
  bQ prog 52 [.string s] I (s.size<=1000000) ({ q:Int // (-9223372036854775808<=q/\q<=9223372036854775807)/\(vA s.data.toList->q=nX s.data.toList) }) (fun q:{ q:Int // (-9223372036854775808<=q/\q<=9223372036854775807)/\(vA s.data.toList->q=nX s.data.toList) }=>.tuple #[.int .i64 q.1,.bool (decide (vA s.data.toList))]) (fun _=>I):=⟨fun hs w0=>by
 refine jV (fun w1=>?_) (aE hx (aE hy (aE ht fI)))
 refine aK func52 ntmps52 ?_
 repeat' (first|refine aU ?_|refine cV fun r hr=>?_|refine aW fun r=>?_|fail)
 obtain ⟨⟨v,e⟩,hin,hq⟩:=r
 simp only at hin hq ⊢
 rcases hq with⟨rfl,hp⟩|⟨⟨N,rfl⟩,hn⟩
 ·have hvv:vA s.data.toList->nX s.data.toList=v:=fun _=>by unfold nX;rw[hp]
  repeat' (first|refine aU ?_|refine cV fun r hr=>?_|refine aW fun r=>?_|fail)
  exact⟨⟨v,hin,fun h=>(hvv h).symm⟩,by rw[pQ hin hvv],aH⟩
 ·repeat' (first|refine aU ?_|fail)
  exact⟨⟨v,hin,fun h=>absurd h hn⟩,by rw[decide_eq_false hn],aH⟩⟩
section
variable {P:Program} {w0:World} {l:List Value} {I:List Atom} {ty T:TypeId} {x:Operand} {a:ByteArray}
theorem aR6{j:Operand}{n:Int}{k:IntKind}[hT:kX P T][hx:Ev l x (.string a)][hj:Ev l j (.int k n)](h:0<=n/\n<=a.size):Pu P w0 l I (.slice T x none (some j) none) ty (.string (a.extract 0 n.toNat)):=by
 obtain ⟨N,rfl⟩:∃ M:Nat,n=M:=⟨n.toNat,by omega⟩
 have h2:N<=a.size:=by omega
 exact fT (s:=Instr.sliceAt T (.string a) none (some (.int k N)) none) (fun o ho _=>by unfold execOp;rw[ho];simp only[hx.eq,hj.eq,Option.map]) (fun w _=>by
  simp [Instr.sliceAt,Instr.slice,run_underlying hT.eq,Instr.sliceBounds,Instr.sliceBound,asIntOf,Sem.run_bind,h2])
theorem aRl{i:Operand}{m:Int}{k:IntKind}[hT:kX P T][hx:Ev l x (.string a)][hi:Ev l i (.int k m)](h:0<=m/\m<=a.size):Pu P w0 l I (.slice T x (some i) none none) ty (.string (a.extract m.toNat a.size)):=by
 obtain ⟨M,rfl⟩:∃ M:Nat,m=M:=⟨m.toNat,by omega⟩
 have h2:M<=a.size:=by omega
 exact fT (s:=Instr.sliceAt T (.string a) (some (.int k M)) none none) (fun o ho _=>by unfold execOp;rw[ho];simp only[hx.eq,hi.eq,Option.map]) (fun w _=>by
  simp [Instr.sliceAt,Instr.slice,run_underlying hT.eq,Instr.sliceBounds,Instr.sliceBound,asIntOf,Sem.run_bind,h2])
instance bRf{j:Operand}{n:Int}{k:IntKind}[hT:kX P T][hx:Ev l x (.string a)][hj:Ev l j (.int k n)]:mI P l I (.slice T x none (some j) none) ty (.string (a.extract 0 n.toNat)) (0<=n/\n<=a.size):=⟨fun h _=>aR6 h⟩
instance bQ7{i:Operand}{m:Int}{k:IntKind}[hT:kX P T][hx:Ev l x (.string a)][hi:Ev l i (.int k m)]:mI P l I (.slice T x (some i) none none) ty (.string (a.extract m.toNat a.size)) (0<=m/\m<=a.size):=⟨fun h _=>aRl h⟩
end
instance splitSeq_ctr{I:List Atom}{s sep:ByteArray}{n:Int} :
  bQ prog 82 [.string s,.string sep,.int .i64 n] I (True) (Nat×Nat×Nat) (fun b:Nat×Nat×Nat=>.func (.func 118) #[] #[.pointer (some ⟨b.1,0,none⟩),.pointer (some ⟨b.2.1,0,none⟩),.pointer (some ⟨b.2.2,0,none⟩)]) (fun b=>.bk b.1 [.string sep]::.bk b.2.1 [.string s]::.bk b.2.2 [.int .i64 n]::I):=⟨fun _ w0=>by
 refine aK func82 ntmps82 ?_
 repeat' (first|refine aU ?_|refine bT fun b=>?_|fail)
 rename_i bs bc
 exact⟨(bc,bs,b),rfl,aH⟩⟩
instance bB1{I:List Atom}{s sep:ByteArray} :
  bQ prog 51 [.string s,.string sep] I (True) (Nat×Nat×Nat) (fun b:Nat×Nat×Nat=>.func (.func 118) #[] #[.pointer (some ⟨b.1,0,none⟩),.pointer (some ⟨b.2.1,0,none⟩),.pointer (some ⟨b.2.2,0,none⟩)]) (fun b=>.bk b.1 [.string sep]::.bk b.2.1 [.string s]::.bk b.2.2 [.int .i64 0]::I):=⟨fun _ w0=>by
 refine aK func51 ntmps51 ?_
 repeat' (first|refine aU ?_|refine cV fun r hr=>?_|refine aW fun r=>?_|fail)
 exact⟨r,rfl,aH⟩⟩
def aQy(w:List UInt8):List Value:=[.string (S w)]
abbrev okW(all:List (List UInt8))(ys:List (List UInt8))(d:List UInt8):Prop:=ys++[d] <+: all
abbrev sqA(b1 b2 b3:Nat)(c:UInt8)(rest:ByteArray):List Atom:=[.bk b1 [.string { data:=#[c] }],.bk b2 [.string rest],.bk b3 [.int .i64 0]]
theorem aZm{w0:World}{Z:Type}{L b1 b2 b3:Nat}{c:UInt8}{s:ByteArray}{Gt Gx:Z->List Atom}{Inv Ix:List (List UInt8)->Z->Prop}{i0:Z}(hY:aAh prog L w0 aQy (okW (gG c s.data.toList)) (sqA b1 b2 b3 c) Gt Gx Inv Ix)
  (hs:s.size<=1000000) (hi0:Inv [] i0) :
  CJ prog 118 [.func (.yield L) #[] #[],.pointer (some ⟨b1,0,none⟩),.pointer (some ⟨b2,0,none⟩),.pointer (some ⟨b3,0,none⟩)] w0 (sqA b1 b2 b3 c s++Gt i0) (fun _:{ q:Bool×Z×ByteArray // (q.1=true/\Inv (gG c s.data.toList) q.2.1)∨(q.1=false/\∃ pre,pre <+: gG c s.data.toList/\Ix pre q.2.1) }=>.tuple #[]) (fun q=>sqA b1 b2 b3 c q.1.2.2++(if q.1.1=true then Gt q.1.2.1 else Gx q.1.2.1)):=by
 simp only[sqA,aA,aB]
 have hc1:({ data:=#[c] }:ByteArray).size=1:=rfl
 refine aK func118 ntmps118 ?_
 repeat' (first|refine aU ?_|refine bV fun hc=>?_|refine bW fun hc=>?_|refine aS (fun hc=>?_) fun hc=>?_|fail)
 refine zQ [] [29,30,31,7,32,33,34,35,36,37,38,8,39,40,41,42,43,44,45,46,47,48] (Z:=List (List UInt8)×ByteArray×Z) (fun s=>[]) (fun k=>.bk b1 [.string { data:=#[c] }]::.bk b2 [.string k.2.1]::.bk b3 [.int .i64 0]::Gt k.2.2) (fun k=>k.2.1.size<=1000000/\gG c s.data.toList=k.1++gG c k.2.1.data.toList/\Inv k.1 k.2.2) (fun k=>k.2.1.size) ([],s,i0) (by kernel_rfl) ⟨hs,rfl,hi0⟩ (fun _ h=>h) ?_
 intro ⟨ys,rest,i⟩ u l' hl' ⟨hr1,hr2,hik⟩
 simp only[bM,List.map,List.set] at hl'
 subst hl'
 simp only at hr1 hr2 hik ⊢
 have hll:rest.data.toList.length=rest.size:=bZ
 haveI hy8:∀ (Q:Exit->Act->World->Prop) (l:List Value) (I:List Atom) (ol:List Oper),nD (WC prog Q w0 (.region 8 ol.toArray false) l I) (WL prog ol.toArray (YQ prog ol.toArray Q (ol.drop 2)) w0 (ol.take 2) l I):=fun _ _ _ _=>⟨fun h=>aJb 2 h⟩
 haveI hy10:∀ (Q:Exit->Act->World->Prop) (l:List Value) (I:List Atom) (ol:List Oper),nD (WC prog Q w0 (.region 10 ol.toArray false) l I) (WL prog ol.toArray (YQ prog ol.toArray Q (ol.drop 2)) w0 (ol.take 2) l I):=fun _ _ _ _=>⟨fun h=>aJb 2 h⟩
 by_cases hj:Lib.indexByte rest.data.toList c=-1
 ·have hsp:=aKo hj
  repeat' (first|refine aU ?_|refine cV fun r hr=>?_|refine aW fun r=>?_|with_reducible refine qY rfl ?_|refine bV fun hc=>?_|refine bW fun hc=>?_|refine aS (fun hc=>?_) fun hc=>?_|fail)
  refine aD5 hY (ys:=ys) (dd:=rest.data.toList) (i:=i) (s:=rest) (by rw[hsp] at hr2;rw[hr2];exact List.prefix_refl _) hik rfl (fun _ h=>h) (fun i' hi'=>?_) (fun i' hi'=>?_)
  ·simp only[sqA,aA,aB]
   repeat' (first|refine aU ?_|fail)
   exact⟨⟨(true,i',rest),.inl ⟨rfl,by rw[hr2,hsp];exact hi'⟩⟩,rfl,fun _ h=>h⟩
  ·simp only[sqA,aA,aB]
   repeat' (first|refine aU ?_|fail)
   exact⟨⟨(false,i',rest),.inr ⟨rfl,ys++[rest.data.toList],by rw[hr2,hsp];exact List.prefix_refl _,hi'⟩⟩,rfl,fun _ h=>h⟩
 ·have hge:=Lib.indexByte_ge rest.data.toList c
  obtain ⟨j,hj2⟩:∃ j:Nat,Lib.indexByte rest.data.toList c=(j:Int):=⟨(Lib.indexByte rest.data.toList c).toNat,by omega⟩
  obtain ⟨hjl,hsp⟩:=yH hj2
  rw[hsp] at hr2
  have hx1:(rest.extract 0 (Lib.indexByte rest.data.toList c+0).toNat)=S (rest.data.toList.take j):=by
   apply ByteArray.ext
   apply Array.ext'
   rw[hj2,ByteArray.data_extract,Array.toList_extract,show((j:Int)+0).toNat=j by omega]
   simp
   rfl
  have hx2:(rest.extract (Lib.indexByte rest.data.toList c+((({ data:=#[c] }:ByteArray).size:Nat):Int)).toNat rest.size)=S (rest.data.toList.drop (j+1)):=by
   apply ByteArray.ext
   apply Array.ext'
   rw[hj2,hc1,ByteArray.data_extract,Array.toList_extract,show((j:Int)+(1:Nat)).toNat=j+1 by omega]
   show(rest.data.toList.drop (j+1)).take (rest.size-(j+1))=_
   rw[bE (by rw[aR];omega)]
   rfl
  repeat' (first|refine aU ?_|refine bP ?_|refine cV fun r hr=>?_|refine aW fun r=>?_|refine bV fun hc=>?_|refine bW fun hc=>?_|refine aS (fun hc=>?_) fun hc=>?_|fail)
  refine aD5 hY (ys:=ys) (dd:=rest.data.toList.take j) (i:=i) (s:=rest) (by rw[hr2];exact⟨_,by rw[aT];rfl⟩) hik (by rw[hx1];rfl) (fun _ h=>h) (fun i' hi'=>?_) (fun i' hi'=>?_)
  ·simp only[sqA,aA,aB]
   repeat' (first|refine aU ?_|refine bP ?_|refine bV fun hc=>?_|refine bW fun hc=>?_|refine aS (fun hc=>?_) fun hc=>?_|fail)
   rw[hx2]
   exact eB (ys++[rest.data.toList.take j],S (rest.data.toList.drop (j+1)),i') ⟨by simp only[eZ,aR];omega,by rw[hr2,aT];rfl,hi'⟩ (by simp only[eZ,aR];omega)
  ·simp only[sqA,aA,aB]
   repeat' (first|refine aU ?_|refine bV fun hc=>?_|refine bW fun hc=>?_|refine aS (fun hc=>?_) fun hc=>?_|fail)
   exact⟨⟨(false,i',rest),.inr ⟨rfl,ys++[rest.data.toList.take j],by rw[hr2];exact⟨_,by rw[aT];rfl⟩,hi'⟩⟩,rfl,fun _ h=>h⟩
theorem aE4{w0:World}{Z:Type}{L b1 b2 b3:Nat}{rr:Loop}{c:UInt8}{s:ByteArray}{Gt:Z->List Atom}{Inv Ix:List (List UInt8)->Z->Prop}{i0:Z}(hY:aAh prog L w0 aQy (okW (gG c s.data.toList)) (sqA b1 b2 b3 c) (GtR Gt L rr) (GtR Gt L (tH rr)) Inv Ix)
  (hs:s.size<=1000000) (hi0:Inv [] i0) :
  CJ prog 118 [.func (.yield L) #[] #[],.pointer (some ⟨b1,0,none⟩),.pointer (some ⟨b2,0,none⟩),.pointer (some ⟨b3,0,none⟩)] w0 (sqA b1 b2 b3 c s++GtR Gt L rr i0) (fun _:{ q:Bool×Z×ByteArray // (q.1=true/\Inv (gG c s.data.toList) q.2.1)∨(q.1=false/\∃ pre,pre <+: gG c s.data.toList/\Ix pre q.2.1) }=>.tuple #[]) (fun q=>sqA b1 b2 b3 c q.1.2.2++GtR Gt L (if q.1.1=true then rr else tH rr) q.1.2.1):=fun w hw=>
 (aZm hY hs hi0 w hw).mono fun e w' ⟨q,he,hs'⟩=>⟨q,he,by
  rcases q with⟨⟨bb,i,st⟩,h⟩
  cases bb<;>exact hs'⟩
end Go.Proofs.YtajdgkpjbpindaaGreatDoor
namespace Go.Proofs.YtajdgkpjbpindaaGreatDoor
open Go Go.Eng Go.RowKit Tryz
set_option synthInstance.maxHeartbeats 400000
set_option synthInstance.maxSize 1000
set_option maxHeartbeats 2000000
set_option maxRecDepth 20000
instance bAf{I:List Atom}{s:ByteArray}{x y:GE}[hx:dZ (GE) repGE I [esV] x][hy:dZ (GE) repGE I [erV] y][ht:dZ (Tab) repTab I [tabV] (Tab.mk Lib.pow10Tab)] :
  bQ prog 23 [.string s] I (s.size<=1000000) (Value) (fun q:Value=>.tuple #[q,.bool (mT s).isSome]) (fun q=>.ow [q] ((mT s).getD [])::I):=⟨fun hs w0=>by
 have hll:s.data.toList.length=s.size:=bZ
 obtain ⟨hwl1,hwl2⟩:=oO 44 s.data.toList
 refine cL (A:=fun q:Value=>[.ow [q] ((mT s).getD [])]) (fun w1=>?_) (aE hx (aE hy (aE ht fI))) fun _=>inferInstance
 simp only[aA,aB]
 refine aAj func23 ntmps23 ?_
 repeat' (first|refine aU ?_|refine cV fun r hr=>?_|refine aW fun r=>?_|refine bT fun b=>?_|refine bV fun hc=>?_|refine bW fun hc=>?_|refine aS (fun hc=>?_) fun hc=>?_|fail)
 ·rw[show mT s=some [] from if_pos hc]
  simp only[aZ,dL]
  exact⟨_,rfl,aH⟩
 rename_i bv bo
 have hne:=hc
 obtain ⟨b1,b2,b3⟩:=r
 simp only
 generalize hall:gG 44 s.data.toList=all at *
 refine tA aQy (okW all) (fun ys (i:Value×List Int)=>i.2=ys.map nX/\∀ w∈ys,vA w) (fun ys (i:Value×List Int)=>∃ w∈ys,¬ vA w) all (sqA b1 b2 b3 44) (fun i=>[.bk b [i.1],.ow [i.1] i.2,.bk bo [.bool false],.bk bv [.slice none 0 0],.rd [esV] x,.rd [erV] y,.rd [tabV] (Tab.mk Lib.pow10Tab)]) (.slice none 0 0,[]) s (.tuple #[]) (fun _=>rfl) ⟨rfl,fun w hw=>by cases hw⟩ ?_ ?_ ?_ ?_ ?_
 ·simp only[sqA,aA,aB]
  exact aH
 ·intro L rr hY
  rw[← hall] at hY ⊢
  exact aE4 hY hs ⟨rfl,fun w hw=>by cases hw⟩
 ·intro L rr R ys d ⟨sv,acc⟩ rest hst hok ⟨hinv,hyok⟩ hR hL
  have hdm:d∈all:=hok.subset (by simp)
  have hdl:=hwl2 d hdm
  have hyl:ys.length<=all.length:=by
   have:=hok.length_le
   simp only[aD,aJ] at this
   omega
  have hds:(S d).size<=1000000:=by rw[eZ];omega
  simp only at hinv hyok
  have hal:acc.length<=1000001:=by rw[hinv,aY];omega
  simp only[sqA,aQy,aVx,GtR,List.zip_cons_cons,List.zip_nil_right,List.foldl_cons,List.foldl_nil,List.set_cons_succ,List.set_cons_zero,aA,aB] at hR hL ⊢
  repeat' (first|refine aU ?_|fail)
  refine aKf hst ?_
  rw[hst] at hR
  repeat' (first|refine aU ?_|refine cV fun r hr=>?_|refine aW fun r=>?_|refine bG fun sv=>?_|refine bV fun hc=>?_|refine bW fun hc=>?_|refine aS (fun hc=>?_) fun hc=>?_|fail)
  ·exact aOr fun w hw=>hL (sv,acc) ⟨d,by simp,hc⟩ w ((aH:Ent w1 _ _) w hw)
  ·have hrv:=hr.2 hc
   refine aJi fun w hw=>hR (sv,acc++[r.1]) ⟨by simp only[hinv,cG,List.map_cons,List.map_nil];rw[hrv];rfl,fun w hw=>by
    rcases aP.1 hw with hw|hw
    ·exact hyok w hw
    ·rw[aO] at hw;rw[hw];exact hc⟩ w ((aH:Ent w1 _ _) w hw)
 ·intro db ⟨sv,acc⟩ rest ⟨hinv,hyok⟩
  simp only[sqA,aA,aB] at hinv hyok ⊢
  rw[aQn hne (fun j hj=>hyok _ (hall▸sK hj)),hall,← hinv]
  simp only[aZ,dL]
  repeat' (first|refine aU ?_|fail)
  exact⟨_,rfl,aH⟩
 ·intro db pre ⟨sv,acc⟩ rest hpre hx
  simp only[sqA,aA,aB] at hx ⊢
  obtain ⟨u,hu1,hu2⟩:=hx
  obtain ⟨k,hk,rfl⟩:∃ k,k<all.length/\all.getD k []=u:=by
   obtain ⟨k,hk,he⟩:=cO (hpre.subset hu1)
   exact⟨k,hk,by rw[aC,aG hk];exact he⟩
  rw[aWm hne (k:=k) (by rw[hall];exact hk) (by rw[hall];exact hu2)]
  simp only[cK,cC]
  repeat' (first|refine aU ?_|fail)
  exact⟨_,rfl,aH⟩⟩
instance aZi{I:List Atom}{v:Value}{a:List Int}{s:ByteArray}[h:bK Int I v a] :
  bQ prog 24 [.agg #[v],.string s] I (s.size<=1000000) (Value) (fun q:Value=>.tuple #[q,.bool (sX a s).isSome]) (fun q=>.ow [q] ((sX a s).getD [])::I):=⟨fun hs w0=>by
 have hll:s.data.toList.length=s.size:=bZ
 obtain ⟨hwl1,hwl2⟩:=oO 59 s.data.toList
 refine cL (A:=fun q:Value=>[.ow [q] ((sX a s).getD [])]) (fun w1=>?_) (aE h fI) fun _=>inferInstance
 simp only[aA,aB]
 refine aAj func24 ntmps24 ?_
 repeat' (first|refine aU ?_|refine cV fun r hr=>?_|refine aW fun r=>?_|refine bT fun b=>?_|refine bV fun hc=>?_|refine bW fun hc=>?_|refine aS (fun hc=>?_) fun hc=>?_|fail)
 ·rw[show sX a s=some [] from if_pos hc]
  simp only[aZ,dL]
  exact⟨_,rfl,aH⟩
 rename_i bg bv bo
 have hne:=hc
 obtain ⟨b1,b2,b3⟩:=r
 simp only
 generalize hall:gG 59 s.data.toList=all at *
 refine tA aQy (okW all) (fun ys (i:Value×List (List Int))=>i.2=ys.map wO/\∀ w∈ys,okT a w) (fun ys (i:Value×List (List Int))=>∃ w∈ys,¬ okT a w) all (sqA b1 b2 b3 59) (fun i=>[.bk b [i.1],.ow [i.1] i.2,.bk bo [.bool false],.bk bv [.slice none 0 0],.bk bg [v],.rd [v] a]) (.slice none 0 0,[]) s (.tuple #[]) (fun _=>rfl) ⟨rfl,fun w hw=>by cases hw⟩ ?_ ?_ ?_ ?_ ?_
 ·simp only[sqA,aA,aB]
  exact aH
 ·intro L rr hY
  rw[← hall] at hY ⊢
  exact aE4 hY hs ⟨rfl,fun w hw=>by cases hw⟩
 ·intro L rr R ys d ⟨sv,acc⟩ rest hst hok ⟨hinv,hyok⟩ hR hL
  have hdm:d∈all:=hok.subset (by simp)
  have hdl:=hwl2 d hdm
  have hyl:ys.length<=all.length:=by
   have:=hok.length_le
   simp only[aD,aJ] at this
   omega
  have hds:(S d).size<=1000000:=by rw[eZ];omega
  simp only at hinv hyok
  have hal:acc.length<=1000001:=by rw[hinv,aY];omega
  simp only[sqA,aQy,aVx,GtR,List.zip_cons_cons,List.zip_nil_right,List.foldl_cons,List.foldl_nil,List.set_cons_succ,List.set_cons_zero,aA,aB] at hR hL ⊢
  repeat' (first|refine aU ?_|fail)
  refine aKf hst ?_
  rw[hst] at hR
  repeat' (first|refine aU ?_|refine cV fun r hr=>?_|refine aW fun r=>?_|refine bG fun sv=>?_|refine bV fun hc=>?_|refine bW fun hc=>?_|refine aS (fun hc=>?_) fun hc=>?_|fail)
  ·exact aOr fun w hw=>hL (sv,acc) ⟨d,by simp,fun h=>hc (aGa.2 h)⟩ w ((aH:Ent w1 _ _) w hw)
  ·refine aJi fun w hw=>hR (sv,acc++[wO (S d).data.toList]) ⟨by simp only[hinv,cG,List.map_cons,List.map_nil];rfl,fun w hw=>by
    rcases aP.1 hw with hw|hw
    ·exact hyok w hw
    ·rw[aO] at hw;rw[hw];exact aGa.1 hc⟩ w ((aH:Ent w1 _ _) w hw)
 ·intro db ⟨sv,acc⟩ rest ⟨hinv,hyok⟩
  simp only[sqA,aA,aB] at hinv hyok ⊢
  rw[aP4 hne (fun j hj=>hyok _ (hall▸sK hj)),hall,← hinv]
  simp only[aZ,dL]
  repeat' (first|refine aU ?_|fail)
  exact⟨_,rfl,aH⟩
 ·intro db pre ⟨sv,acc⟩ rest hpre hx
  simp only[sqA,aA,aB] at hx ⊢
  obtain ⟨u,hu1,hu2⟩:=hx
  obtain ⟨k,hk,rfl⟩:∃ k,k<all.length/\all.getD k []=u:=by
   obtain ⟨k,hk,he⟩:=cO (hpre.subset hu1)
   exact⟨k,hk,by rw[aC,aG hk];exact he⟩
  rw[aYj hne (k:=k) (by rw[hall];exact hk) (by rw[hall];exact hu2)]
  simp only[cK,cC]
  repeat' (first|refine aU ?_|fail)
  exact⟨_,rfl,aH⟩⟩
noncomputable def tnP(a:List Int)(x y z u:List UInt8):Option dK:=
 match mT (S y),sX a (S z),mT (S u) with
 | some p,some q,some r=>if eA a=true/\jN (yO (S x),p,q,r) 64=true then some (yO (S x),p,q,r) else none
 | _,_,_=>none
noncomputable def tnO(a:List Int)(s:ByteArray):Option dK:=
 if s.size<=6000 then (match gG 32 s.data.toList with|[x,y,z,u]=>tnP a x y z u|_=>none) else none
noncomputable abbrev vI(a:List Int)(s:ByteArray):dK:=(tnO a s).getD (0,[],[],[])
theorem zV{a:List Int}{x y z u:List UInt8}(h1:(mT (S y)).isSome=true)(h2:(sX a (S z)).isSome=true)(h3:(mT (S u)).isSome=true)(h4:eA a=true/\jN (yO (S x),(mT (S y)).getD [],(sX a (S z)).getD [],(mT (S u)).getD []) 64=true) :
  tnP a x y z u=some (yO (S x),(mT (S y)).getD [],(sX a (S z)).getD [],(mT (S u)).getD []):=by
 obtain ⟨p,hp⟩:=Option.isSome_iff_exists.1 h1
 obtain ⟨q,hq⟩:=Option.isSome_iff_exists.1 h2
 obtain ⟨r,hr⟩:=Option.isSome_iff_exists.1 h3
 rw[hp,hq,hr] at h4
 simp only[aZ] at h4
 rw[tnP,hp,hq,hr]
 simp only[aZ]
 exact if_pos h4
theorem aGd{a:List Int}{x y z u:List UInt8}(h:¬ ((mT (S y)).isSome=true/\(sX a (S z)).isSome=true/\(mT (S u)).isSome=true/\eA a=true/\jN (yO (S x),(mT (S y)).getD [],(sX a (S z)).getD [],(mT (S u)).getD []) 64=true)) :
  tnP a x y z u=none:=by
 rw[tnP]
 split
 ·rename_i p q r hp hq hr
  rw[hp,hq,hr] at h
  simp only[dL,aZ,true_and] at h
  exact if_neg h
 ·rfl
theorem aGq{ws:List (List UInt8)}(h:ws.length=4):∃ x y z u,ws=[x,y,z,u]:=by
 match ws,h with
 | [x,y,z,u],_=>exact⟨x,y,z,u,rfl⟩
theorem xO{a:List Int}{s:ByteArray}(h:¬ (s.size<=6000/\(gG 32 s.data.toList).length=4)):tnO a s=none:=by
 unfold tnO
 split
 ·rename_i h1
  split
  ·rename_i x y z u he
   exact absurd ⟨h1,by rw[he];rfl⟩ h
  ·rfl
 ·rfl
theorem aO9{a:List Int}{s:ByteArray}{x y z u:List UInt8}(h:s.size<=6000)(he:gG 32 s.data.toList=[x,y,z,u]):tnO a s=tnP a x y z u:=by
 unfold tnO
 rw[if_pos h,he]
instance aLy{I:List Atom}{v va vb vc:Value}{a p r:List Int}{q:List (List Int)}{k:Int}[h:bK Int I v a][ha:bK Int I va p][hb:bK (List Int) I vb q][hc':bK Int I vc r] :
  bQ prog 18 [.agg #[v],.agg #[.int .i64 k,va,vb,vc]] I (-9223372036854775808<=k/\k<=9223372036854775807) (Unit) (fun _:Unit=>.string (ndT a (k,p,q,r))) (fun _=>I):=⟨fun hk w0=>by
 exact nQ (n:=(k,p,q,r)) hk⟩
instance aT1{I:List Atom}{va vb vc:Value}{p r:List Int}{q:List (List Int)}{k m:Int}[ha:bK Int I va p][hb:bK (List Int) I vb q][hc':bK Int I vc r] :
  bQ prog 25 [.agg #[.int .i64 k,va,vb,vc],.int .i64 m] I True Unit (fun _:Unit=>.bool (jN (k,p,q,r) m)) (fun _=>I):=⟨fun _ w0=>by
 exact pG (n:=(k,p,q,r))⟩
theorem aJy{a:List Int}{s:ByteArray}{x y z u:List UInt8}(h4:gG 32 s.data.toList=[x,y,z,u])(h1:(mT (S y)).isSome=true)(h2:(sX a (S z)).isSome=true)(h3:(mT (S u)).isSome=true) :
  ndT a (yO (S x),(mT (S y)).getD [],(sX a (S z)).getD [],(mT (S u)).getD [])=s↔eA a=true/\jN (yO (S x),(mT (S y)).getD [],(sX a (S z)).getD [],(mT (S u)).getD []) 64=true:=by
 obtain ⟨p,hp⟩:=Option.isSome_iff_exists.1 h1
 obtain ⟨q,hq⟩:=Option.isSome_iff_exists.1 h2
 obtain ⟨r,hr⟩:=Option.isSome_iff_exists.1 h3
 have:=bI2 h4 hp hq hr
 rw[hp,hq,hr]
 exact this
instance aOn{I:List Atom}{v:Value}{a:List Int}{s:ByteArray}[h:bK Int I v a] :
  bQ prog 9 [.agg #[v],.string s] I (s.size<=1048576) (Value×Value×Value) (fun q:Value×Value×Value=>.tuple #[.agg #[.int .i64 (vI a s).1,q.1,q.2.1,q.2.2],.bool (tnO a s).isSome]) (fun q=>.ow [q.1] (vI a s).2.1::.ow [q.2.1] (vI a s).2.2.1::.ow [q.2.2] (vI a s).2.2.2::I):=⟨fun hs w0=>by
 have hll:s.data.toList.length=s.size:=bZ
 obtain ⟨hwl1,hwl2⟩:=oO 32 s.data.toList
 refine cL (A:=fun q:Value×Value×Value=>[.ow [q.1] (vI a s).2.1,.ow [q.2.1] (vI a s).2.2.1,.ow [q.2.2] (vI a s).2.2.2]) (fun w1=>?_) (aE h fI) fun _=>inferInstance
 simp only[aA,aB]
 refine aK func9 ntmps9 ?_
 by_cases hok:s.size<=6000/\(gG 32 s.data.toList).length=4
 ·obtain ⟨hsz,h4l⟩:=hok
  obtain ⟨x,y,z,u,h4⟩:=aGq h4l
  have e0:(List.map S (gG (UInt8.ofNat (Int.toNat 32)) s.data.toList)).getD ((0:Nat):Int).toNat ByteArray.empty=S x:=by rw[show(UInt8.ofNat (Int.toNat 32))=(32:UInt8) from rfl,h4];rfl
  have e1:(List.map S (gG (UInt8.ofNat (Int.toNat 32)) s.data.toList)).getD ((1:Nat):Int).toNat ByteArray.empty=S y:=by rw[show(UInt8.ofNat (Int.toNat 32))=(32:UInt8) from rfl,h4];rfl
  have e2:(List.map S (gG (UInt8.ofNat (Int.toNat 32)) s.data.toList)).getD ((2:Nat):Int).toNat ByteArray.empty=S z:=by rw[show(UInt8.ofNat (Int.toNat 32))=(32:UInt8) from rfl,h4];rfl
  have e5:(List.map S (gG (UInt8.ofNat (Int.toNat 32)) s.data.toList)).getD 2 ByteArray.empty=S z:=by rw[show(UInt8.ofNat (Int.toNat 32))=(32:UInt8) from rfl,h4];rfl
  have e3:(List.map S (gG (UInt8.ofNat (Int.toNat 32)) s.data.toList)).getD ((3:Nat):Int).toNat ByteArray.empty=S u:=by rw[show(UInt8.ofNat (Int.toNat 32))=(32:UInt8) from rfl,h4];rfl
  have z1:((List.map S (gG (UInt8.ofNat (Int.toNat 32)) s.data.toList)).getD ((1:Nat):Int).toNat ByteArray.empty).size<=1000000:=by
   rw[e1,eZ];have:=hwl2 y (by rw[h4];simp);omega
  have z2:((List.map S (gG (UInt8.ofNat (Int.toNat 32)) s.data.toList)).getD ((2:Nat):Int).toNat ByteArray.empty).size<=1000000:=by
   rw[e2,eZ];have:=hwl2 z (by rw[h4];simp);omega
  have z3:((List.map S (gG (UInt8.ofNat (Int.toNat 32)) s.data.toList)).getD ((3:Nat):Int).toNat ByteArray.empty).size<=1000000:=by
   rw[e3,eZ];have:=hwl2 u (by rw[h4];simp);omega
  have hnk:=sI ((List.map S (gG (UInt8.ofNat (Int.toNat 32)) s.data.toList)).getD ((0:Nat):Int).toNat ByteArray.empty)
  have hl4:(List.map S (gG (UInt8.ofNat (Int.toNat 32)) s.data.toList)).length=4:=by rw[aY];exact h4l
  have htn:=aO9 (a:=a) hsz h4
  repeat' (first|refine aU ?_|refine bP ?_|refine cV fun r hr=>?_|refine aW fun r=>?_|refine bT fun b=>?_|refine bV fun hc=>?_|refine bW fun hc=>?_|refine aS (fun hc=>?_) fun hc=>?_|refine wb 7 [] ?_|refine xp ?_|refine xy ?_|refine bI ?_|fail)
  all_goals simp only[e0,e1,e2,e5,e3] at *
  all_goals first
   | (
     have hn:tnO a s=none:=by
      rw[htn]
      refine aGd (fun ⟨g1,g2,g3,g4,g5⟩=>?_)
      first
      | (rw[g1] at hc;cases hc)
      | (rw[g2] at hc;cases hc)
      | (rw[g3] at hc;cases hc)
      | (rw[g4] at hc;cases hc)
      | exact hc (of_decide_eq_true g5)
      | exact hc ((aJy h4 g1 g2 g3).2 ⟨g4,g5⟩)
     simp only[vI,hn,cK,cC]
     exact⟨(_,_,_),rfl,aH⟩)
   | (
     have g1:(mT (S y)).isSome=true:=by assumption
     have g2:(sX a (S z)).isSome=true:=by assumption
     have g3:(mT (S u)).isSome=true:=by assumption
     have g45:eA a=true/\jN (yO (S x),(mT (S y)).getD [],(sX a (S z)).getD [],(mT (S u)).getD []) 64=true:=by
      first
      | exact(aJy h4 g1 g2 g3).1 hc
      | exact⟨by assumption,decide_eq_true hc⟩
     have hn:=htn.trans (zV g1 g2 g3 g45)
     simp only[vI,hn,aZ,dL]
     exact⟨(_,_,_),rfl,aH⟩)
 ·have hml:(List.map S (gG (UInt8.ofNat (Int.toNat 32)) s.data.toList)).length=(gG 32 s.data.toList).length:=aY _
  rw[show(vI a s)=(0,[],[],[]) by unfold vI;rw[xO hok];rfl,xO hok]
  repeat' (first|refine aU ?_|refine cV fun r hr=>?_|refine aW fun r=>?_|refine bT fun b=>?_|refine bV fun hc=>?_|refine bW fun hc=>?_|refine aS (fun hc=>?_) fun hc=>?_|fail)
  all_goals exact⟨(_,_,_),rfl,aH⟩⟩
instance aO7{I:List Atom}{v:Value}{a:List Int}{s:ByteArray}{m:Int}{e1 e2:GE}[h:bK Int I v a][hm:dZ (GI) repGI I [mxV] (GI.mk m)][hx:dZ (GE) repGE I [esV] e1][hy:dZ (GE) repGE I [erV] e2][ht:dZ (Tab) repTab I [tabV] (Tab.mk Lib.pow10Tab)] :
  bQ prog 8 [.agg #[v],.string s] I (s.size<=1048576) (Value×Value×Value) (fun q:Value×Value×Value=>.tuple #[.agg #[.int .i64 (vI a s).1,q.1,q.2.1,q.2.2],.bool (tnO a s).isSome]) (fun q=>.ow [q.1] (vI a s).2.1::.ow [q.2.1] (vI a s).2.2.1::.ow [q.2.2] (vI a s).2.2.2::I):=⟨fun hs w0=>by
 have hll:s.data.toList.length=s.size:=bZ
 obtain ⟨hwl1,hwl2⟩:=oO 32 s.data.toList
 refine cL (A:=fun q:Value×Value×Value=>[.ow [q.1] (vI a s).2.1,.ow [q.2.1] (vI a s).2.2.1,.ow [q.2.2] (vI a s).2.2.2]) (fun w1=>?_) (aE h (aE hm (aE hx (aE hy (aE ht fI))))) fun _=>inferInstance
 simp only[aA,aB]
 refine aK func8 ntmps8 ?_
 by_cases hok:s.size<=6000/\(gG 32 s.data.toList).length=4
 ·obtain ⟨hsz,h4l⟩:=hok
  obtain ⟨x,y,z,u,h4⟩:=aGq h4l
  have e0:(List.map S (gG 32 s.data.toList)).getD ((0:Nat):Int).toNat ByteArray.empty=S x:=by rw[show 32=(32:UInt8) from rfl,h4];rfl
  have e1:(List.map S (gG 32 s.data.toList)).getD ((1:Nat):Int).toNat ByteArray.empty=S y:=by rw[show 32=(32:UInt8) from rfl,h4];rfl
  have e2:(List.map S (gG 32 s.data.toList)).getD ((2:Nat):Int).toNat ByteArray.empty=S z:=by rw[show 32=(32:UInt8) from rfl,h4];rfl
  have e5:(List.map S (gG 32 s.data.toList)).getD 2 ByteArray.empty=S z:=by rw[show 32=(32:UInt8) from rfl,h4];rfl
  have e3:(List.map S (gG 32 s.data.toList)).getD ((3:Nat):Int).toNat ByteArray.empty=S u:=by rw[show 32=(32:UInt8) from rfl,h4];rfl
  have z1:((List.map S (gG 32 s.data.toList)).getD ((1:Nat):Int).toNat ByteArray.empty).size<=1000000:=by
   rw[e1,eZ];have:=hwl2 y (by rw[h4];simp);omega
  have z2:((List.map S (gG 32 s.data.toList)).getD ((2:Nat):Int).toNat ByteArray.empty).size<=1000000:=by
   rw[e2,eZ];have:=hwl2 z (by rw[h4];simp);omega
  have z3:((List.map S (gG 32 s.data.toList)).getD ((3:Nat):Int).toNat ByteArray.empty).size<=1000000:=by
   rw[e3,eZ];have:=hwl2 u (by rw[h4];simp);omega
  have hnk:=sI ((List.map S (gG 32 s.data.toList)).getD ((0:Nat):Int).toNat ByteArray.empty)
  have hl4:(List.map S (gG 32 s.data.toList)).length=4:=by rw[aY];exact h4l
  have htn:=aO9 (a:=a) hsz h4
  repeat' (first|refine aU ?_|refine bP ?_|refine cV fun r hr=>?_|refine aW fun r=>?_|refine bT fun b=>?_|refine bV fun hc=>?_|refine bW fun hc=>?_|refine aS (fun hc=>?_) fun hc=>?_|refine wb 7 [9] ?_|refine xp ?_|refine x0 ?_|refine xy ?_|refine bI ?_|fail)
  all_goals simp only[e0,e1,e2,e5,e3] at *
  all_goals first
   | (
     have hn:tnO a s=none:=by
      rw[htn]
      refine aGd (fun ⟨g1,g2,g3,g4,g5⟩=>?_)
      first
      | (rw[g1] at hc;cases hc)
      | (rw[g2] at hc;cases hc)
      | (rw[g3] at hc;cases hc)
      | (rw[g4] at hc;cases hc)
      | exact hc (of_decide_eq_true g5)
      | exact hc ((aJy h4 g1 g2 g3).2 ⟨g4,g5⟩)
     simp only[vI,hn,cK,cC]
     exact⟨(_,_,_),rfl,aH⟩)
   | (
     have g1:(mT (S y)).isSome=true:=by assumption
     have g2:(sX a (S z)).isSome=true:=by assumption
     have g3:(mT (S u)).isSome=true:=by assumption
     have g45:eA a=true/\jN (yO (S x),(mT (S y)).getD [],(sX a (S z)).getD [],(mT (S u)).getD []) 64=true:=by
      first
      | exact(aJy h4 g1 g2 g3).1 hc
      | exact⟨by assumption,decide_eq_true hc⟩
     have hn:=htn.trans (zV g1 g2 g3 g45)
     simp only[vI,hn,aZ,dL]
     exact⟨(_,_,_),rfl,aH⟩)
 ·have hml:(List.map S (gG 32 s.data.toList)).length=(gG 32 s.data.toList).length:=aY _
  rw[show(vI a s)=(0,[],[],[]) by unfold vI;rw[xO hok];rfl,xO hok]
  repeat' (first|refine aU ?_|refine cV fun r hr=>?_|refine aW fun r=>?_|refine bT fun b=>?_|refine bV fun hc=>?_|refine bW fun hc=>?_|refine aS (fun hc=>?_) fun hc=>?_|fail)
  all_goals exact⟨(_,_,_),rfl,aH⟩⟩
end Go.Proofs.YtajdgkpjbpindaaGreatDoor
