/- Texts of the proof of FnNames. -/
import Derived.Test.YtajdgkpjbpindaaGreatDoorTav
import Derived.Test.YtajdgkpjbpindaaGreatDoorTax
set_option linter.unusedVariables false
set_option linter.unusedSimpArgs false
set_option linter.unusedSectionVars false
namespace Go.Proofs.YtajdgkpjbpindaaGreatDoor
open Go Go.Eng Tryz
set_option synthInstance.maxHeartbeats 400000
set_option synthInstance.maxSize 1000
set_option maxHeartbeats 4000000
set_option maxRecDepth 20000
instance bDv{I:List Atom}{n:Int} :
  bQ prog 261 [.int .i64 n] I True Unit (fun _:Unit=>.bool (decide (1<=n/\n<=20))) (fun _=>I):=⟨fun _ w0=>by
 refine aK func261 ntmps261 ?_
 repeat' (first|refine aU ?_|refine cV fun r hr=>?_|refine aW fun r=>?_|fail)
 exact⟨(),rfl,aH⟩⟩
abbrev FoT:Type:={ y:Int×List (List Int) // -1<=y.1/\y.1<60/\y.2.length<=24/\∀ z∈y.2,z.length<=60 }
instance bDy{I:List Atom}{v0 v1 vt vu:Value}{x:aQ}{t s:List Int}[h0:eK Int I v0 x.1][h1:eK cM I v1 x.2][h2:eK Int I vt t][h3:eK Int I vu s] :
  bQ prog 264 [.agg #[v0,v1],vt,vu] I (bB x.1 s=true) (Value×FoT) (fun q:Value×FoT=>.tuple #[.int .i64 q.2.1.1,.agg #[q.1]]) (fun q=>.rd [q.1] q.2.1.2::I):=⟨fun hs w0=>by
 have hsl:=aX hs
 refine aK func264 ntmps264 ?_
 repeat' (first|refine aU ?_|refine bT fun b=>?_|fail)
 refine lc_ [8] [11,12,13,14,18,19,20,21,22,23,24,25,26,17,27,28,9,10,29,30,31,6,15,16] (Z:=Nat) (fun k=>[.int .i64 k]) (fun k=>k<=s.length) (fun k=>s.length-k) 0 (aI _) ?_
 intro i u l' hl' hi
 simp only[bM,List.map,List.set] at hl'
 subst hl'
 by_cases hil:i<s.length
 ·have hst:=gL hs hil
  have hmb:=aDr x.1 t (eX x.1 s i)
  repeat' (first|refine aU ?_|refine bP ?_|refine bV fun hc=>?_|refine bW fun hc=>?_|refine aS (fun hc=>?_) fun hc=>?_|refine bT fun b=>?_|refine cV fun r hr=>?_|refine aW fun r=>?_|refine wb 4 [] ?_|refine wb 6 [3] ?_|refine xp ?_|refine xy ?_|refine x2 ?_ ?_|refine bI ?_|fail)
  all_goals first|exact⟨(r,⟨((i:Int),(kE x.1 t (eX x.1 s i)).getD []),by simp only;omega,by simp only;omega,hmb.1,hmb.2⟩),rfl,dJ r aH⟩|exact eB (i+1) (by omega)
 ·repeat' (first|refine aU ?_|refine bV fun hc=>?_|refine bW fun hc=>?_|refine aS (fun hc=>?_) fun hc=>?_|fail)
  exact⟨(.slice none 0 0,⟨(-1,[]),by decide,by decide,by decide,fun z hz=>absurd hz (by simp)⟩),rfl,aH⟩⟩
theorem aKe{w0:World}{I:List Atom}{v0 v1 a0 a1 a2:Value}{x:aQ}{y:qH}[h0:eK Int I v0 x.1][h1:eK cM I v1 x.2][h2:eK Int I a0 y.1.1][h3:eK eW I a1 y.1.2][h4:eK (List Int) I a2 y.2.2] :
  CJ prog 228 [.agg #[v0,v1],.agg #[a0,a1,.int .i64 y.2.1,a2]] w0 I (fun q:{ t:Bool // t=true->lU x y.1=true }=>.bool q.1) (fun _=>I):=by
 by_cases hw:lU x y.1=true
 ·have hk:=wkO hw
  have hen:=hk.en
  have hel:=aX hen
  refine aK func228 ntmps228 ?_
  repeat' (first|refine aU ?_|refine cV fun r hr=>?_|refine aW fun r=>?_|refine bT fun b=>?_|refine bV fun hc=>?_|refine bW fun hc=>?_|refine aS (fun hc=>?_) fun hc=>?_|fail)
  all_goals try exact⟨⟨false,fun h=>nomatch h⟩,rfl,aH⟩
  rw[if_pos hw]
  refine fU r ?_
  repeat' (first|refine aU ?_|refine bP ?_|refine cV fun r hr=>?_|refine aW fun r=>?_|refine bV fun hc=>?_|refine bW fun hc=>?_|refine aS (fun hc=>?_) fun hc=>?_|fail)
  all_goals try exact⟨⟨_,fun _=>hw⟩,rfl,aH⟩
 ·refine aK func228 ntmps228 ?_
  repeat' (first|refine aU ?_|refine cV fun r hr=>?_|refine aW fun r=>?_|refine bT fun b=>?_|refine bV fun hc=>?_|refine bW fun hc=>?_|refine aS (fun hc=>?_) fun hc=>?_|fail)
  ·exact⟨⟨false,fun h=>nomatch h⟩,rfl,aH⟩
  all_goals exact absurd (by assumption) hw
structure LpB(y:qH):Prop where
 w:WB y.1
 a:-1<=y.2.1/\y.2.1<=60
 n:y.2.2.length<=24
 s:∀ z∈y.2.2,z.length<=60
abbrev LpT:Type:={ y:qH×Bool // LpB y.1 }
theorem wT:LpB (([],[]),0,[]):=⟨lH,by decide,by decide,fun z hz=>absurd hz (by simp)⟩
instance bDl{I:List Atom}{v0 v1 v:Value}{x:aQ}{t:List Int}{n:Int}[h0:eK Int I v0 x.1][h1:eK cM I v1 x.2][h2:eK Int I v t] :
  bQ prog 194 [.agg #[v0,v1],v,.int .i64 n] I (True) ((Value×Value×Value)×LpT) (fun q:(Value×Value×Value)×LpT=>.tuple #[.agg #[q.1.1,q.1.2.1,.int .i64 q.2.1.1.2.1,q.1.2.2],.bool q.2.1.2]) (fun q=>.rd [q.1.1] q.2.1.1.1.1::.rd [q.1.2.1] q.2.1.1.1.2::.rd [q.1.2.2] q.2.1.1.2.2::I):=⟨fun _ w0=>by
 by_cases hok:eE x=true
 ·have hsa:=(eM.1 hok).1.1
  refine aK func194 ntmps194 ?_
  repeat' (first|refine aU ?_|refine bP ?_|refine cV fun r hr=>?_|refine aW fun r=>?_|refine bT fun b=>?_|refine bV fun hc=>?_|refine bW fun hc=>?_|refine aS (fun hc=>?_) fun hc=>?_|fail)
  all_goals try exact⟨((.slice none 0 0,.slice none 0 0,.slice none 0 0),⟨((([],[]),0,[]),false),wT⟩),rfl,aH⟩
  have ht:bB x.1 t=true:=by assumption
  obtain ⟨hrl,hrt⟩:=r.2.2
  refine fC r.1 ?_
  generalize r.2.1.1=ts at hrl hrt ⊢
  refine lc_ [10] [41,42,43,44,47,48,49,50,51,52,11,12,53,54,55,56,60,61,62,63,64,65,66,67,59,68,69,14,13,70,71,73,74,75,76,77,78,79,80,81,72,82,83,15,16,84,85,86,87,88,89,90,91,92,7,93,94,95,96,97,98,99,100,101,102,103,104,105,57,58,45,46] (Z:=Nat) (fun k=>[.int .i64 k]) (fun k=>k<=ts.length) (fun k=>ts.length-k) 0 (aI _) ?_
  intro i u l' hl' hi
  simp only[bM,List.map,List.set] at hl'
  subst hl'
  by_cases hil:i<ts.length
  ·have hti:=hrt _ (dX hil)
   have htil:=aX hti
   refine kD (V:=List Int) (k:=1) r.1 i (by omega) fun p hf=>?_
   simp only[Un.cells,Un.atoms,aA,aB]
   repeat' (first|refine aU ?_|refine bV fun hc=>?_|refine bW fun hc=>?_|refine aS (fun hc=>?_) fun hc=>?_|refine cV fun r hr=>?_|refine aW fun r=>?_|refine wb 7 [] ?_|refine xp ?_|refine xy ?_|refine bI ?_|fail)
   have hls:∀ s∈mU x (ts.getD i default),bB x.1 s.2.2=true:=fun s hs=>by
    unfold mU at hs
    split at hs
    ·obtain ⟨a,c,ha,hc,he⟩:=uJ hs
     exact zU hok hti ha hc he
    ·simp at hs
   have hlc:(mU x (ts.getD i default)).length<=720:=by
    unfold mU
    split
    ·have h1:=pX x (ts.getD i default) 12 (eM.1 hok).1.2 (ts.getD i default).length
     omega
    ·simp
   rename_i r0
   refine fC r ?_
   generalize mU x (ts.getD i default)=ls at hls hlc ⊢
   refine lc_ [12] [53,54,55,56,60,61,62,63,64,65,66,67,59,68,69,14,13,70,71,73,74,75,76,77,78,79,80,81,72,82,83,15,16,84,85,86,87,88,89,90,91,92,7,93,94,95,96,97,98,99,100,101,102,103,104,105,57,58] (Z:=Nat) (fun k=>[.int .i64 k]) (fun k=>k<=ls.length) (fun k=>ls.length-k) 0 (aI _) ?_
   intro k u2 l2 hl2 hk
   simp only[bM,List.map,List.set] at hl2
   subst hl2
   by_cases hkl:k<ls.length
   ·have htk:=hls _ (dX hkl)
    have htkl:=aX htk
    refine kD r k (by omega) fun p2 hf2=>?_
    simp only[Un.cells,Un.atoms,aA,aB]
    repeat' (first|refine aU ?_|refine bP ?_|refine bV fun hc=>?_|refine bW fun hc=>?_|refine aS (fun hc=>?_) fun hc=>?_|refine bT fun b=>?_|refine cV fun r hr=>?_|refine aW fun r=>?_|refine wb 11 [] ?_|refine wb 13 [] ?_|refine xp ?_|refine xy ?_|refine x2 ?_ ?_|refine bI ?_|fail)
    all_goals try exact eB (k+1) (by omega)
    all_goals try exact⟨((.slice none 0 0,.slice none 0 0,.slice none 0 0),⟨((([],[]),0,[]),false),wT⟩),rfl,aH⟩
    all_goals
     rename Value×FoT=>fd
     have hrw:=r.2.2
     have hrn:=hrw.n
     have hfd:=fd.2.2
     refine wB r.1.2 ?_
     haveI hi1:I6 (ls.getD k default).1:=⟨hf2.1⟩
     haveI hi2:I6 (ls.getD k default).2.1:=⟨hf2.2.1⟩
     have hom:(List.map Sh.mk r.2.1.1.2).length=r.2.1.1.2.length:=aY ..
     repeat' (first|refine aU ?_|refine bG fun sv=>?_|refine wb 16 [7,9] ?_|refine xp ?_|refine x0 ?_|refine xy ?_|refine bI ?_|fail)
     have hW2:WB (r.2.1.1.1,r.2.1.1.2++[((ls.getD k default).1,(ls.getD k default).2.1,(ls.getD k default).2.2)]):=⟨hrw.f,fun u hu=>(aP.1 hu).elim (hrw.s u) fun h=>by rw[aO] at h;rw[h];exact htkl.2,by simp only[aD,aJ];omega⟩
     exact⟨((r.1.1,sv,fd.1),⟨(((r.2.1.1.1,r.2.1.1.2++[((ls.getD k default).1,(ls.getD k default).2.1,(ls.getD k default).2.2)]),fd.2.1.1,fd.2.1.2),true),⟨hW2,by simp only;omega,hfd.2.2.1,hfd.2.2.2⟩⟩),rfl,by simp only[← cG];exact iN (ys:=r.2.1.1.2++[((ls.getD k default).1,(ls.getD k default).2.1,(ls.getD k default).2.2)]) sv (dJ r.1.1 aH)⟩
   ·repeat' (first|refine aU ?_|refine bP ?_|refine bV fun hc=>?_|refine bW fun hc=>?_|refine aS (fun hc=>?_) fun hc=>?_|fail)
    exact eB (i+1) (by omega)
  ·repeat' (first|refine aU ?_|refine bV fun hc=>?_|refine bW fun hc=>?_|refine aS (fun hc=>?_) fun hc=>?_|fail)
   exact⟨((.slice none 0 0,.slice none 0 0,.slice none 0 0),⟨((([],[]),0,[]),false),wT⟩),rfl,aH⟩
 ·refine aK func194 ntmps194 ?_
  repeat' (first|refine aU ?_|refine bP ?_|refine cV fun r hr=>?_|refine aW fun r=>?_|refine bT fun b=>?_|refine bV fun hc=>?_|refine bW fun hc=>?_|refine aS (fun hc=>?_) fun hc=>?_|fail)
  ·exact⟨((.slice none 0 0,.slice none 0 0,.slice none 0 0),⟨((([],[]),0,[]),false),wT⟩),rfl,aH⟩
  all_goals exact absurd (by assumption) hok⟩
instance bA3{I:List Atom}{v0 v1:Value}{x:aQ}{n:Int}[h0:eK Int I v0 x.1][h1:eK cM I v1 x.2] :
  bQ prog 144 [.agg #[v0,v1],.int .i64 n] I (True) ((Value×Value×Value)×LpT) (fun q:(Value×Value×Value)×LpT=>.tuple #[.agg #[q.1.1,q.1.2.1,.int .i64 q.2.1.1.2.1,q.1.2.2],.bool q.2.1.2]) (fun q=>.rd [q.1.1] q.2.1.1.1.1::.rd [q.1.2.1] q.2.1.1.1.2::.rd [q.1.2.2] q.2.1.1.2.2::I):=⟨fun _ w0=>by
 refine dQ v1 fun hlr=>?_
 refine aK func144 ntmps144 ?_
 repeat' (first|refine aU ?_|refine cV fun r hr=>?_|refine aW fun r=>?_|refine bT fun b=>?_|refine bV fun hc=>?_|refine bW fun hc=>?_|refine aS (fun hc=>?_) fun hc=>?_|fail)
 ·exact⟨((.slice none 0 0,.slice none 0 0,.slice none 0 0),⟨((([],[]),0,[]),false),wT⟩),rfl,aH⟩
 refine lc_ [6] [13,14,15,16,17,21,22,23,24,25,26,27,28,29,20,30,31,7,8,32,33,5,18,19] (Z:=Nat) (fun k=>[.int .i64 k]) (fun k=>k<=x.2.length) (fun k=>x.2.length-k) 0 (aI _) ?_
 intro i u l' hl' hi
 simp only[bM,List.map,List.set] at hl'
 subst hl'
 by_cases hil:i<x.2.length
 ·repeat' (first|refine aU ?_|refine bP ?_|refine bV fun hc=>?_|refine bW fun hc=>?_|refine aS (fun hc=>?_) fun hc=>?_|refine bT fun b=>?_|refine cV fun r hr=>?_|refine aW fun r=>?_|refine wb 6 [] ?_|refine xp ?_|(refine xd fun p c d e f g h hf=>?_;simp only[Un.cells,Un.atoms,Un.fact,aA,aB] at f g h hf;subst f g h)|refine xy ?_|refine x2 ?_ ?_|refine bI ?_|fail)
  all_goals first|exact⟨(r.1,⟨(r.2.1.1,true),r.2.2⟩),rfl,aH⟩|exact eB (i+1) (by omega)
 ·repeat' (first|refine aU ?_|refine bV fun hc=>?_|refine bW fun hc=>?_|refine aS (fun hc=>?_) fun hc=>?_|fail)
  exact⟨((.slice none 0 0,.slice none 0 0,.slice none 0 0),⟨((([],[]),0,[]),false),wT⟩),rfl,aH⟩⟩
structure XTm(a t:List Int):Prop where
 tm:Tm a (iZ t)
 lo:∀ x∈t,-48<=x
theorem aB0{a t:List Int}(h:jO a t):XTm a t:=⟨yT h.ok,h.lo⟩
theorem XTm.wt{a t:List Int}(h:XTm a t)(hs:eA a=true)(hl:t.length<=60):jO a t:=⟨aZn hs h.tm (by rw[gA];exact hl),h.lo⟩
theorem bNi{a l:List Int}{f:Int}{m:Nat}(hb:dS a f=false)(h:Fo a l (m+(ar a f).toNat)):Fo a (f::l) (m+1):=by
 unfold Fo at h ⊢
 simp only[eQ]
 rw[if_neg (by rw[hb];decide),h]
 rfl
theorem bOf{a l r:List Int}{m:Nat}(hl:Tm a l)(h:Fo a r m):Fo a (l++r) (m+1):=by
 unfold Fo at h ⊢
 rw[aYt hl,h,aD]
structure FuI(a t:List Int)(i:Nat)(out:List Int):Prop where
 tm:∃ m,Fo a (iZ (t.drop i)) m/\∀ r,Fo a r m->Tm a (iZ out++r)
 lo:∀ x∈out,-48<=x
theorem aWl{a t:List Int}(h:XTm a t):FuI a t 0 []:=⟨⟨1,h.tm,fun r hr=>hr⟩,fun x hx=>absurd hx (by simp)⟩
theorem bFp{a t out:List Int}{i:Nat}(h:FuI a t i out)(hi:i<t.length)(hx:-48<=t.getD i 0):FuI a t (i+1) (out++[t.getD i 0]):=by
 obtain ⟨⟨m,h1,h2⟩,h3⟩:=h
 rw[fA hi] at h1
 obtain ⟨m',rfl,hb,hf⟩:=vP (show Fo a (xW (t.getD i 0)::iZ (t.drop (i+1))) m from h1)
 refine⟨⟨_,hf,fun r hr=>?_⟩,fun x hx'=>(aP.1 hx').elim (h3 x) fun h=>by rw[aO] at h;omega⟩
 have h4:=h2 _ (bNi hb hr)
 rw[sJ,aT]
 exact h4
theorem bLh{a t out x:List Int}{i:Nat}(h:FuI a t i out)(hi:i<t.length)(h0:t.getD i 0<0)(hx:XTm a x):FuI a t (i+1) (out++x):=by
 obtain ⟨⟨m,h1,h2⟩,h3⟩:=h
 rw[fA hi] at h1
 obtain ⟨m',rfl,hb,hf⟩:=vP (show Fo a (xW (t.getD i 0)::iZ (t.drop (i+1))) m from h1)
 rw[xR ((aIr _).2 h0)] at hf
 refine⟨⟨_,hf,fun r hr=>?_⟩,fun y hy=>(aP.1 hy).elim (h3 y) (hx.lo y)⟩
 have h4:=h2 _ (bOf hx.tm hr)
 rw[sJ,aT]
 exact h4
theorem bLb{a t out:List Int}(h:FuI a t t.length out):XTm a out:=by
 obtain ⟨⟨m,h1,h2⟩,h3⟩:=h
 rw[List.drop_length] at h1
 have hm:m=0:=by
  cases m with
  | zero=>rfl
  | succ m=>simp [Fo,eQ,iZ] at h1
 subst hm
 have h4:=h2 [] rfl
 rw[cF] at h4
 exact⟨h4,h3⟩
theorem bFl{a t u:List Int}{k:Nat}(ht:jO a t)(hu:XTm a u)(hk:k<t.length):XTm a (t.take k++u++t.drop (k+szW a t k)):=by
 refine⟨?_,fun x hx=>?_⟩
 ·have h1:=aNz (a:=a) hu.tm _ (iZ t) k (aM _) (yT ht.ok) (by rw[gA];exact hk)
  rw[sJ,sJ,← aLi,← aCe]
  exact h1
 ·rcases aP.1 hx with hx|hx
  ·rcases aP.1 hx with hx|hx
   ·exact ht.lo x (List.mem_of_mem_take hx)
   ·exact hu.lo x hx
  ·exact ht.lo x (List.mem_of_mem_drop hx)
theorem aMa{a t:List Int}(h:jO a t)(o:List Int)(ho:o.length<=24):jO a (t.map (rn o)):=by
 refine aPj h ?_ fun x hx=>?_
 ·unfold iZ
  rw[List.map_map]
  refine List.map_congr_left fun x _=>?_
  show xW (rn o x)=xW x
  unfold rn xW
  by_cases hx:x<0
  ·rw[if_pos hx]
   split
   ·rw[if_pos (by omega)]
   ·first|rfl|rw[if_pos hx]
  ·rw[if_neg (fun h:x<0/\x∈o=>hx h.1)]
 ·obtain ⟨y,hy,rfl⟩:=dT.1 hx
  have:=h.lo y hy
  unfold rn
  split
  ·rename_i hm
   have:=List.idxOf_lt_length_of_mem hm.2
   omega
  ·exact this
structure FuD(bs:List (List Int))(t:List Int)(n:Nat):Prop where
 ex:∃ E ρ,Ex bs E ρ/\∀ y∈t,ρ y<n
 lo:∀ y∈t,-48<=y
 len:t.length<=1000
 bl:∀ b∈bs,b.length<=60
theorem FuD.next{bs:List (List Int)}{t:List Int}{n:Nat}(h:FuD bs t (n+1)){x:Int}(hx:x∈t)(h0:x<0)(hb:jU bs x≠[]):FuD bs (jU bs x) n:=by
 obtain ⟨⟨E,ρ,hE,hr⟩,hlo,hlen,hbl⟩:=h
 have h1:=hE.rk x (hlo x hx) h0 hb
 have h2:=hr x hx
 refine⟨⟨E,ρ,hE,fun y hy=>by have:=(h1 y hy).2;omega⟩,fun y hy=>(h1 y hy).1,?_,hbl⟩
 have h3:jU bs x∈bs:=by
  unfold jU at hb ⊢
  rw[aC] at hb ⊢
  cases e:bs[(-1-x).toNat]? with
  | none=>rw[e] at hb;exact absurd rfl hb
  | some y=>exact List.mem_of_getElem? e
 have:=hbl _ h3
 omega
theorem aFt{bs:List (List Int)}{t:List Int}{E:Int->List Int}{ρ:Int->Nat}(hE:Ex bs E ρ)(hlo:∀ y∈t,-48<=y)(hl:t.length<=1000)(hb:∀ b∈bs,b.length<=60):∃ n,FuD bs t n:=⟨(t.map ρ).sum+1,⟨E,ρ,hE,fun y hy=>by have:=aLt (ρ:=ρ) hy;omega⟩,hlo,hl,hb⟩
abbrev FuT(bs:List (List Int))(t:List Int):Type:={ q:List Int // q.length<=60/\∀ a,eA a=true->(∀ b∈bs,b=[]∨jO a b)->XTm a t->q=[]∨jO a q }
theorem aJo(n:Nat):∀ {w0:World} {I Y:List Atom} {bb:Nat} {so v:Value} {bs:List (Sh (List Int))} {t:List Int} [hb:gD I bb [so]] [h3:cQ (List (Sh (List Int))) bA I [so] bs Y] [hb1:gD Y bb [so]] [h2:eK Int Y v t] (hs:FuD (iD bs) t n),
  CJ prog 307 [.pointer (some ⟨bb,0,none⟩),v] w0 I (fun q:Value×FuT (iD bs) t=>q.1) (fun q=>.ow [q.1] q.2.1::.ow [so] bs::Y):=by
 induction n with
 | zero=>
  intro w0 I Y bb so v bs t hb h3 hb1 h2 hs
  refine eN h3.perm ?_
  refine oI (i:=bA) (cs:=[v]) (x:=t) ?_
  obtain ⟨⟨E,ρ,hE,hr⟩,hlo,hlen,hbl⟩:=hs
  have ht:t=[]:=by
   cases t with
   | nil=>rfl
   | cons y ys=>exact absurd (hr y (by simp)) (cX _)
  subst ht
  refine aK func307 ntmps307 ?_
  repeat' (first|refine aU ?_|refine bG fun sv=>?_|fail)
  refine lp_ [5,6] [9,10,11,12,15,16,17,18,19,20,21,22,23,24,25,26,27,28,29,30,31,32,33,34,35,36,37,38,39,40,41,42,43,44,45,46,47,48,49,50,51,52,53,54,7,55,56,57,58,4,59,60,61,62,63,64,65,13,14] (Z:=Unit) (fun k=>[sv,.int .i64 0]) (fun k=>[.ow [sv] ([]:List Int)]) (fun k=>True) (fun k=>0) () [.ow [sv] ([]:List Int)] trivial ?_
  intro ⟨⟩ u l' hl' _
  simp only[bM,List.map,List.set] at hl'
  subst hl'
  simp only[aA,aB]
  have hz:(([]:List Int).length:Int)=0:=rfl
  repeat' (first|refine aU ?_|refine bV fun hc=>?_|refine bW fun hc=>?_|refine aS (fun hc=>?_) fun hc=>?_|fail)
  exact⟨(sv,⟨[],by simp,fun a _ _ h=>absurd (aNi h.tm) (by simp [iZ])⟩),rfl,aH⟩
 | succ n ih=>
  intro w0 I Y bb so v bs t hb h3 hb1 h2 hs
  haveI hI:∀ (I Y:List Atom) (bb:Nat) (so v:Value) (bs:List (Sh (List Int))) (t:List Int) [gD I bb [so]] [cQ (List (Sh (List Int))) bA I [so] bs Y] [gD Y bb [so]] [eK Int Y v t],bQ prog 307 [.pointer (some ⟨bb,0,none⟩),v] I (FuD (iD bs) t n) (Value×FuT (iD bs) t) (fun q=>q.1) (fun q=>.ow [q.1] q.2.1::.ow [so] bs::Y):=fun I Y _ _ _ _ _ _ _ _ _=>⟨fun s w0=>ih s⟩
  refine eN h3.perm ?_
  refine oI (i:=bA) (cs:=[v]) (x:=t) ?_
  have hlo:=hs.lo
  have hlen:=hs.len
  obtain ⟨EE,ρ,hE,hr⟩:=hs.ex
  have hbl:=hE.len
  rw[vD] at hbl
  have hget:=aG1 bs
  refine aK func307 ntmps307 ?_
  repeat' (first|refine aU ?_|refine bG fun sv=>?_|fail)
  refine lp_ [5,6] [9,10,11,12,15,16,17,18,19,20,21,22,23,24,25,26,27,28,29,30,31,32,33,34,35,36,37,38,39,40,41,42,43,44,45,46,47,48,49,50,51,52,53,54,7,55,56,57,58,4,59,60,61,62,63,64,65,13,14] (Z:=(Value×List Int)×Nat) (fun k=>[k.1.1,.int .i64 k.2]) (fun k=>[.ow [k.1.1] k.1.2]) (fun k=>k.2<=t.length/\k.1.2.length<=60/\∀ a,eA a=true->(∀ b∈iD bs,b=[]∨jO a b)->XTm a t->FuI a t k.2 k.1.2) (fun k=>t.length-k.2) ((sv,[]),0) [.ow [sv] ([]:List Int)] ⟨aI _,aI _,fun a _ _ h=>aWl h⟩ ?_
  intro ⟨⟨so1,out⟩,i⟩ u l' hl' ⟨hi,hol,hF⟩
  simp only[bM,List.map,List.set] at hl'
  subst hl'
  simp only[aA,aB] at hi hol hF ⊢
  by_cases hil:i<t.length
  ·have hti:=hlo _ (eD hil)
   have he:(bs.getD (-1-t.getD i 0).toNat default).v=jU (iD bs) (t.getD i 0):=hget _
   have hnx:t.getD i 0<0->jU (iD bs) (t.getD i 0)≠[]->FuD (iD bs) (jU (iD bs) (t.getD i 0)) n:=fun h0 hb=>hs.next (eD hil) h0 hb
   repeat' (first|refine aU ?_|refine eF fun hbi=>?_|refine bP ?_|refine bG fun sv=>?_|refine bV fun hc=>?_|refine bW fun hc=>?_|refine aS (fun hc=>?_) fun hc=>?_|((refine wb 5 [] ?_<;>refine bY 0 ?_<;>refine bY 1 ?_<;>refine bY 2 ?_<;>(refine aMq 3 fun hbi=>?_)<;>refine bY 4 ?_<;>refine bY 5 ?_<;>(refine aD2 20 (fun hc=>?_) (fun hc=>?_)<;>(try first|(exfalso;omega)|with_reducible first|exact absurd rfl hc|exact absurd hc dU|exact absurd hc dU.symm)<;>first|refine iF 6 ?_|refine gJ 6 ?_)<;>(first|refine iF 7 ?_|refine gJ 7 ?_)<;>(first|refine iF 8 ?_|refine gJ 8 ?_)<;>(first|refine iF 9 ?_|refine gJ 9 ?_)<;>(first|refine iF 10 ?_|refine gJ 10 ?_)<;>(first|refine iF 11 ?_|refine gJ 11 ?_)<;>(first|refine iF 12 ?_|refine gJ 12 ?_)<;>(first|refine iF 13 ?_|refine gJ 13 ?_)<;>(first|refine iF 14 ?_|refine gJ 14 ?_)<;>(first|refine iF 15 ?_|refine gJ 15 ?_)<;>(first|refine gJ 16 ?_|(refine bX 16 ?_<;>(repeat' (first|refine aU ?_|refine bG fun sv=>?_))))<;>(first|refine gJ 17 ?_|(refine bX 17 ?_<;>(repeat' refine aU ?_)))<;>(first|refine iF 18 ?_|refine gJ 18 ?_)<;>refine bY 19 ?_)<;>refine bI ?_)|fail)
   all_goals try exact⟨(sv,⟨[],by simp,fun _ _ _ _=>.inl rfl⟩),rfl,aH⟩
   all_goals try exact eB ((sv,out++[t.getD i 0]),i+1) ⟨by simp only;omega,by simp only;omega,fun a h1 h2 h3=>bFp (hF a h1 h2 h3) hil hti⟩
   have hne:jU (iD bs) (t.getD i 0)≠[]:=fun e=>by
    have hc2:¬ ((bs.getD (-1-t.getD i 0).toNat default).v.length:Int)=0:=by assumption
    rw[he,e] at hc2;simp at hc2
   have hnd:=hnx (by assumption) hne
   rw[← he] at hnd
   have hlw:∀ a,eA a=true->(∀ b∈iD bs,b=[]∨jO a b)->XTm a (bs.getD (-1-t.getD i 0).toNat default).v:=fun a h1 h2=>by
    rw[he] at hnd ⊢
    have h3:jU (iD bs) (t.getD i 0)∈iD bs:=by
     unfold jU
     rw[aC,aG (by rw[vD];omega)]
     exact cS _
    exact aB0 ((h2 _ h3).resolve_left hne)
   repeat' (first|refine aU ?_|refine bG fun sv=>?_|refine bV fun hc=>?_|refine bW fun hc=>?_|refine aS (fun hc=>?_) fun hc=>?_|((refine wb 7 [] ?_<;>refine bY 0 ?_<;>refine bY 1 ?_<;>refine bY 2 ?_<;>refine bY 3 ?_<;>refine bY 4 ?_<;>refine bY 5 ?_<;>refine bY 6 ?_<;>refine bY 7 ?_<;>(refine aMq 8 fun hbi=>?_)<;>refine bY 9 ?_<;>refine bY 10 ?_<;>(refine bX 11 ?_<;>(repeat' (first|refine aU ?_|refine bG fun sv=>?_)))<;>(refine bX 12 ?_<;>(repeat' (first|refine aU ?_|refine cV fun r hr=>?_|refine aW fun r=>?_)))<;>refine bY 13 ?_)<;>refine bI ?_)|fail)
   ·exact⟨(sv,⟨[],by simp,fun _ _ _ _=>.inl rfl⟩),rfl,aH⟩
   have hrl:=r.2.2.1
   have hrn:r.2.1≠[]:=fun e=>by rw[e] at hc;simp at hc
   repeat' (first|refine aU ?_|refine bP ?_|refine bG fun sv=>?_|refine bV fun hc=>?_|refine bW fun hc=>?_|refine aS (fun hc=>?_) fun hc=>?_|fail)
   ·exact⟨(sv,⟨[],by simp,fun _ _ _ _=>.inl rfl⟩),rfl,aH⟩
   ·exact eB ((sv,out++r.2.1),i+1) ⟨by simp only;omega,by simp only;omega,fun a h1 h2 h3=>bLh (hF a h1 h2 h3) hil (by assumption) (aB0 ((r.2.2.2 a h1 h2 (hlw a h1 h2)).resolve_left hrn))⟩
  ·obtain rfl:i=t.length:=by omega
   repeat' (first|refine aU ?_|refine bV fun hc=>?_|refine bW fun hc=>?_|refine aS (fun hc=>?_) fun hc=>?_|fail)
   exact⟨(so1,⟨out,hol,fun a h1 h2 h3=>.inr ((bLb (hF a h1 h2 h3)).wt h1 hol)⟩),rfl,aH⟩
instance bIn{I Y:List Atom}{bb:Nat}{so v:Value}{bs:List (Sh (List Int))}{t:List Int}[hb:gD I bb [so]][h3:cQ (List (Sh (List Int))) bA I [so] bs Y][hb1:gD Y bb [so]][h2:eK Int Y v t] :
  bQ prog 307 [.pointer (some ⟨bb,0,none⟩),v] I (∃ n,FuD (iD bs) t n) (Value×FuT (iD bs) t) (fun q:Value×FuT (iD bs) t=>q.1) (fun q=>.ow [q.1] q.2.1::.ow [so] bs::Y):=⟨fun hs w0=>by
 obtain ⟨n,hn⟩:=hs
 exact aJo n hn⟩
structure PkC(x:aQ)(ov at_ un:Int):Prop where
 ok:eE x=true
 o:0<=ov/\ov<x.2.length
 u:0<=un/\un<x.2.length
 a:0<=at_/\at_<(x.2.getD ov.toNat default).1.length
theorem aNe{a t:List Int}(h:bB a t=true){k:Nat}(hk:k<t.length):(t.take (k+sz a t k)).drop k=eX a t k:=by
 unfold eX;rw[List.drop_take];congr 1;omega
instance bK3{I:List Atom}{v0 v1:Value}{x:aQ}{ov at_ un:Int}[h0:eK Int I v0 x.1][h1:eK cM I v1 x.2] :
  bQ prog 305 [.agg #[v0,v1],.int .i64 ov,.int .i64 at_,.int .i64 un] I (PkC x ov at_ un) ((Nat×Value)×MtT x.1) (fun q:(Nat×Value)×MtT x.1=>.tuple #[.pointer (some ⟨q.1.1,0,none⟩),.bool q.2.1.1]) (fun q=>.bk q.1.1 [q.1.2]::.ow [q.1.2] q.2.1.2::I):=⟨fun hs w0=>by
 obtain ⟨hok,ho,hu,ha⟩:=hs
 have hL:=(iB hok (k:=ov.toNat) (by omega)).1
 have hU:=(iB hok (k:=un.toNat) (by omega)).1
 have hLl:=aX hL
 have hUl:=aX hU
 have hU2:(x.2.getD un.toNat default).1.length<=60/\∀ y∈(x.2.getD un.toNat default).1,-48<=y:=⟨hUl.2,fun y hy=>by have:=jG hU hy;omega⟩
 have hz:=(fN hL (k:=at_.toNat) (by omega)).2
 refine aK func305 ntmps305 ?_
 repeat' (first|refine aU ?_|refine cV fun r hr=>?_|refine aW fun r=>?_|refine bG fun sv=>?_|refine bT fun b=>?_|(refine iH fun p c d f g hf=>?_;simp only[Un.cells,Un.atoms,Un.fact,aA,aB] at f g hf;subst f g)|fail)
 rename Value=>so
 refine aH6 (nP so) ?_
 simp only[List.map_replicate]
 have hMt:MtC x.1 (List.replicate 48 (Sh.mk [])) (List.drop at_.toNat (List.take (at_.toNat+sz x.1 (x.2.getD ov.toNat default).1 at_.toNat) (x.2.getD ov.toNat default).1)) (lO (x.2.getD un.toNat default).1 24):=⟨⟨_,_,aKd x.1⟩,by rw[aNe hL (by omega)];exact lB (gL hL (by omega)),aA1 hU⟩
 haveI hkp:∀ (Γ1 Δ1:List Atom) [oE Γ1 Δ1],oE (.ow [so] (List.replicate 48 (Sh.mk ([]:List Int)))::Γ1) Δ1:=fun _ _ h=>⟨iW h.sub⟩
 ((refine wbi 4 [] ?_<;>repeat' (first|refine aU ?_|refine cV fun r hr=>?_|refine aW fun r=>?_|refine bG fun sv=>?_|refine xp ?_|(refine xd fun p c d e f g h hf=>?_;simp only[Un.cells,Un.atoms,Un.fact,aA,aB] at f g h hf;subst f g h)|refine xy ?_|refine x2 ?_ ?_|fail))<;>refine bI ?_)
 all_goals
  repeat' (first|refine aU ?_|fail)
  exact⟨((b,so),r),rfl,aH⟩⟩
instance bBy{I:List Atom}{v0 v1:Value}{x:aQ}{ov at_ un:Int}[h0:eK Int I v0 x.1][h1:eK cM I v1 x.2] :
  bQ prog 250 [.agg #[v0,v1],.int .i64 ov,.int .i64 at_,.int .i64 un] I (eE x=true/\(0<=ov/\ov<x.2.length)/\(0<=un/\un<x.2.length)) ({ t:Bool // t=true->PkC x ov at_ un }) (fun q:{ t:Bool // t=true->PkC x ov at_ un }=>.bool q.1) (fun _=>I):=⟨fun hs w0=>by
 obtain ⟨hok,ho,hu⟩:=hs
 have hL:=(iB hok (k:=ov.toNat) (by omega)).1
 have hLl:=aX hL
 have hpk:0<=at_->at_<(x.2.getD ov.toNat default).1.length->PkC x ov at_ un:=fun h1 h2=>⟨hok,ho,hu,h1,h2⟩
 refine aK func250 ntmps250 ?_
 repeat' (first|refine aU ?_|refine eF fun hbi=>?_|refine bP ?_|refine cV fun r hr=>?_|refine aW fun r=>?_|refine bT fun b=>?_|(refine iH fun p c d f g hf=>?_;simp only[Un.cells,Un.atoms,Un.fact,aA,aB] at f g hf;subst f g)|refine bV fun hc=>?_|refine bW fun hc=>?_|refine aS (fun hc=>?_) fun hc=>?_|fail)
 all_goals try exact⟨⟨false,fun h=>nomatch h⟩,rfl,aH⟩
 all_goals
  have hpk2:=hpk (by omega) (by omega)
  repeat' (first|refine aU ?_|refine cV fun r hr=>?_|refine aW fun r=>?_|fail)
  exact⟨⟨r.2.1.1,fun _=>hpk2⟩,rfl,aH⟩⟩
structure PkP(x:aQ)(p:mQ):Prop where
 c:PkC x p.2.2.2.2.2 p.2.2.2.1 p.2.2.2.2.1
 t:jO x.1 p.1
 l:jO x.1 p.2.1
 r:jO x.1 p.2.2.1
instance bIr{I:List Atom}{v0 v1:Value}{x:aQ}{ov at_ un:Int}[h0:eK Int I v0 x.1][h1:eK cM I v1 x.2] :
  bQ prog 251 [.agg #[v0,v1],.int .i64 ov,.int .i64 at_,.int .i64 un] I (PkC x ov at_ un) ((Value×Value×Value)×{ y:mQ×Bool // y.2=true->PkP x y.1 }) (fun q:(Value×Value×Value)×{ y:mQ×Bool // y.2=true->PkP x y.1 }=>.tuple #[.agg #[q.1.1,q.1.2.1,q.1.2.2,.int .i64 q.2.1.1.2.2.2.1,.int .i64 q.2.1.1.2.2.2.2.1,.int .i64 q.2.1.1.2.2.2.2.2],.bool q.2.1.2]) (fun q=>.ow [q.1.1] q.2.1.1.1::.ow [q.1.2.1] q.2.1.1.2.1::.ow [q.1.2.2] q.2.1.1.2.2.1::I):=⟨fun hs w0=>by
 have hc0:=hs
 obtain ⟨hok,ho,hu,ha⟩:=hs
 have hL:=(iB hok (k:=ov.toNat) (by omega)).1
 have hR:=(iB hok (k:=ov.toNat) (by omega)).2
 have hU:=(iB hok (k:=un.toNat) (by omega)).2
 have hLl:=aX hL
 have hRl:=aX hR
 have hUl:=aX hU
 have hsg:=eI hL
 have hU2:(x.2.getD un.toNat default).2.length<=60/\∀ y∈(x.2.getD un.toNat default).2,-48<=y:=⟨hUl.2,fun y hy=>by have:=jG hU hy;omega⟩
 have hz:=(fN hL (k:=at_.toNat) (by omega)).2
 refine aK func251 ntmps251 ?_
 repeat' (first|refine aU ?_|refine cV fun r hr=>?_|refine aW fun r=>?_|refine bT fun b=>?_|(refine iH fun p c d f g hf=>?_;simp only[Un.cells,Un.atoms,Un.fact,aA,aB] at f g hf;subst f g)|fail)
 rename (Nat×Value)×MtT x.1=>rt
 obtain ⟨⟨bb,so⟩,⟨⟨okt,bs⟩,EE,ρ,hB⟩⟩:=rt
 simp only at hB ⊢
 have hbl:∀ q∈iD bs,q.length<=60:=fun q hq=>by
  rcases hB.wt q hq with e|e
  ·rw[e];exact aI _
  ·exact e.len.2
 have hbw:=hB.wt
 have hx1:=aB0 (lB hL)
 have hx2:=aB0 (lB hR)
 have hx3:=aB0 (aA1 hU)
 have hf1:∃ n,FuD (iD bs) (x.2.getD ov.toNat default).1 n:=aFt hB.ex hx1.lo (by omega) hbl
 have hf2:∃ n,FuD (iD bs) (x.2.getD ov.toNat default).2 n:=aFt hB.ex hx2.lo (by omega) hbl
 have haw:(lO (x.2.getD un.toNat default).2 24).length<=60:=by rw[aEl];omega
 have htk:(List.take at_.toNat (x.2.getD ov.toNat default).1).length<=60:=by rw[aN];omega
 have hx4:XTm x.1 (List.take at_.toNat (x.2.getD ov.toNat default).1++lO (x.2.getD un.toNat default).2 24++List.drop (at_.toNat+sz x.1 (x.2.getD ov.toNat default).1 at_.toNat) (x.2.getD ov.toNat default).1):=by
  have:=bFl (lB hL) hx3 (k:=at_.toNat) (by omega)
  rwa [aU5 hL] at this
 have hdr:(List.drop (at_.toNat+sz x.1 (x.2.getD ov.toNat default).1 at_.toNat) (x.2.getD ov.toNat default).1).length<=60:=by rw[aR];omega
 have hf3:∃ n,FuD (iD bs) (List.take at_.toNat (x.2.getD ov.toNat default).1++lO (x.2.getD un.toNat default).2 24++List.drop (at_.toNat+sz x.1 (x.2.getD ov.toNat default).1 at_.toNat) (x.2.getD ov.toNat default).1) n:=aFt hB.ex hx4.lo (by simp only[aD];omega) hbl
 ((refine wb1 4 [] ?_<;>repeat' (first|refine aU ?_|refine bG fun sv=>?_|refine cV fun r hr=>?_|refine aW fun r=>?_|refine xp ?_|(refine xd fun p c d e f g h hf=>?_;simp only[Un.cells,Un.atoms,Un.fact,aA,aB] at f g h hf;subst f g h)|refine xy ?_|refine x2 ?_ ?_|fail))<;>refine bI ?_)
 all_goals repeat' (first|refine aU ?_|refine cV fun r hr=>?_|refine aW fun r=>?_|refine bG fun sv=>?_|fail)
 all_goals
  refine fU sv ?_
  have ht1:=r.2.2.1
  have ht2:=r.2.2.2 _ hsg hbw hx1
  rename Value×FuT (iD bs) (x.2.getD ov.toNat default).1=>rt
  repeat' (first|refine aU ?_|refine cV fun r hr=>?_|refine aW fun r=>?_|refine bV fun hc=>?_|refine bW fun hc=>?_|refine aS (fun hc=>?_) fun hc=>?_|fail)
  all_goals try exact⟨((.slice none 0 0,.slice none 0 0,.slice none 0 0),⟨(([],[],[],0,0,0),false),fun h=>nomatch h⟩),rfl,aH⟩
  rename Value×FuT (iD bs) (List.take at_.toNat (x.2.getD ov.toNat default).1++lO (x.2.getD un.toNat default).2 24++_)=>rl
  rename Value×FuT (iD bs) (x.2.getD ov.toNat default).2=>rr
  have hl1:=rl.2.2.1
  have hl2:=rl.2.2.2 _ hsg hbw hx4
  have hr1:=rr.2.2.1
  have hr2:=rr.2.2.2 _ hsg hbw hx2
  have hnd:=yJ rt.2.1 rt.2.1.length
  have hnn:∀ {q:List Int},¬ ((q.length:Int)=0)->q≠[]:=fun h e=>by rw[e] at h;simp at h
  have ho24:(kA rt.2.1 rt.2.1.length).length<=24:=by omega
  repeat' (first|refine aU ?_|refine cV fun r hr=>?_|refine aW fun r=>?_|fail)
  rename_i r1 r2
  exact⟨((r1,r2,r),⟨((rt.2.1.map (rn (kA rt.2.1 rt.2.1.length)),rl.2.1.map (rn (kA rt.2.1 rt.2.1.length)),rr.2.1.map (rn (kA rt.2.1 rt.2.1.length)),at_,un,ov),true),fun _=>⟨hc0,aMa (ht2.resolve_left (hnn (by assumption))) _ ho24,aMa (hl2.resolve_left (hnn (by assumption))) _ ho24,aMa (hr2.resolve_left (hnn (by assumption))) _ ho24⟩⟩),rfl,aH⟩⟩
theorem PkP.b{x:aQ}{p:mQ}(h:PkP x p):(0<=p.2.2.2.1/\p.2.2.2.1<=60)/\(0<=p.2.2.2.2.1/\p.2.2.2.2.1<=12)/\(0<=p.2.2.2.2.2/\p.2.2.2.2.2<=12):=by
 obtain ⟨h1,h2,h3,h4⟩:=h.c
 have h5:=(eM.1 h1).1.2
 have h6:=(aX (iB h1 (k:=p.2.2.2.2.2.toNat) (by omega)).1).2
 omega
abbrev PkT(x:aQ):Type:={ y:List mQ×Bool // y.1.length<=64/\∀ p∈y.1,PkP x p }
theorem aHu(x:aQ):(([]:List mQ),false).1.length<=64/\∀ p∈(([]:List mQ),false).1,PkP x p:=⟨aI _,fun p hp=>absurd hp (by simp)⟩
instance bKq{I:List Atom}{v0 v1:Value}{x:aQ}[h0:eK Int I v0 x.1][h1:eK cM I v1 x.2] :
  bQ prog 184 [.agg #[v0,v1]] I (eE x=true) (Value×PkT x) (fun q:Value×PkT x=>.tuple #[q.1,.bool q.2.1.2]) (fun q=>.ow [q.1] q.2.1.1::I):=⟨fun hs w0=>by
 have hrl:=(eM.1 hs).1.2
 refine aK func184 ntmps184 ?_
 repeat' (first|refine aU ?_|refine bG fun sv=>?_|refine bT fun b=>?_|fail)
 refine lp_ [4,6] [15,16,17,7,20,21,22,23,24,25,26,27,28,8,31,32,33,36,37,38,39,40,41,43,44,45,46,47,42,48,49,9,10,50,51,52,53,54,55,56,57,2,3,58,59,60,61,34,35,29,30,18,19] (Z:=(Value×List mQ)×Nat) (fun k=>[k.1.1,.int .i64 k.2]) (fun k=>[.ow [k.1.1] k.1.2]) (fun k=>k.2<=x.2.length/\k.1.2.length<=64/\∀ p∈k.1.2,PkP x p) (fun k=>x.2.length-k.2) ((sv,[]),0) [.ow [sv] ([]:List mQ)] ⟨aI _,aHu x⟩ ?_
 intro ⟨⟨so,ls⟩,i⟩ u l' hl' ⟨hi,hl⟩
 simp only[bM,List.map,List.set] at hl'
 subst hl'
 simp only[aA,aB] at hi hl ⊢
 by_cases hil:i<x.2.length
 ·have hL:=(iB hs hil).1
  have hLl:=aX hL
  repeat' (first|refine aU ?_|refine bV fun hc=>?_|refine bW fun hc=>?_|refine aS (fun hc=>?_) fun hc=>?_|fail)
  refine lp_ [4,7] [20,21,22,23,24,25,26,27,28,8,31,32,33,36,37,38,39,40,41,43,44,45,46,47,42,48,49,9,10,50,51,52,53,54,55,56,57,2,3,58,59,60,61,34,35,29,30] (Z:=(Value×List mQ)×Nat) (fun k=>[k.1.1,.int .i64 k.2]) (fun k=>[.ow [k.1.1] k.1.2]) (fun k=>k.2<=(x.2.getD i default).1.length/\k.1.2.length<=64/\∀ p∈k.1.2,PkP x p) (fun k=>(x.2.getD i default).1.length-k.2) ((so,ls),0) [.ow [so] ls] ⟨aI _,hl⟩ ?_
  intro ⟨⟨so2,ls2⟩,j⟩ u2 l2 hl2 ⟨hj,hlj⟩
  simp only[bM,List.map,List.set] at hl2
  subst hl2
  simp only[aA,aB] at hj hlj ⊢
  by_cases hjl:j<(x.2.getD i default).1.length
  ·repeat' (first|refine aU ?_|(refine iH fun p c d f g hf=>?_;simp only[Un.cells,Un.atoms,Un.fact,aA,aB] at f g hf;subst f g)|refine bV fun hc=>?_|refine bW fun hc=>?_|refine aS (fun hc=>?_) fun hc=>?_|fail)
   refine lp_ [4,8] [31,32,33,36,37,38,39,40,41,43,44,45,46,47,42,48,49,9,10,50,51,52,53,54,55,56,57,2,3,58,59,60,61,34,35] (Z:=(Value×List mQ)×Nat) (fun k=>[k.1.1,.int .i64 k.2]) (fun k=>[.ow [k.1.1] k.1.2]) (fun k=>k.2<=x.2.length/\k.1.2.length<=64/\∀ p∈k.1.2,PkP x p) (fun k=>x.2.length-k.2) ((so2,ls2),0) [.ow [so2] ls2] ⟨aI _,hlj⟩ ?_
   intro ⟨⟨so3,ls3⟩,m⟩ u3 l3 hl3 ⟨hm,hlm⟩
   simp only[bM,List.map,List.set] at hl3
   subst hl3
   simp only[aA,aB] at hm hlm ⊢
   have hlm1:=hlm.1
   by_cases hml:m<x.2.length
   ·have hnn:(i:Int).toNat=i:=rfl
    have hcc:PkC x (i:Int) (j:Int) (m:Int):=⟨hs,by omega,by omega,by simp only[hnn];omega⟩
    repeat' (first|refine aU ?_|refine bP ?_|refine cV fun r hr=>?_|refine aW fun r=>?_|refine bG fun sv=>?_|refine bT fun b=>?_|refine bV fun hc=>?_|refine bW fun hc=>?_|refine aS (fun hc=>?_) fun hc=>?_|fail)
    all_goals try exact eB ((so3,ls3),m+1) ⟨by simp only;omega,hlm⟩
    all_goals try exact⟨(sv,⟨([],false),aHu x⟩),rfl,aH⟩
    have hpp:=r.2.2 (by assumption)
    obtain ⟨hb1,hb2,hb3⟩:=hpp.b
    repeat' (first|refine aU ?_|refine bP ?_|refine bG fun sv=>?_|fail)
    exact eB ((sv,ls3++[(r.2.1.1.1,r.2.1.1.2.1,r.2.1.1.2.2.1,r.2.1.1.2.2.2.1,r.2.1.1.2.2.2.2.1,r.2.1.1.2.2.2.2.2)]),m+1) ⟨by simp only;omega,by simp only[aD,aJ];omega,fun q hq=>(aP.1 hq).elim (hlm.2 q) fun h=>by rw[aO] at h;rw[h];exact hpp⟩
   ·repeat' (first|refine aU ?_|refine bP ?_|refine bV fun hc=>?_|refine bW fun hc=>?_|refine aS (fun hc=>?_) fun hc=>?_|fail)
    exact eB ((so3,ls3),j+1) ⟨by simp only;omega,hlm⟩
  ·repeat' (first|refine aU ?_|refine bP ?_|(refine iH fun p c d f g hf=>?_;simp only[Un.cells,Un.atoms,Un.fact,aA,aB] at f g hf;subst f g)|refine bV fun hc=>?_|refine bW fun hc=>?_|refine aS (fun hc=>?_) fun hc=>?_|fail)
   exact eB ((so2,ls2),i+1) ⟨by simp only;omega,hlj⟩
 ·repeat' (first|refine aU ?_|refine bV fun hc=>?_|refine bW fun hc=>?_|refine aS (fun hc=>?_) fun hc=>?_|fail)
  exact⟨(so,⟨(ls,true),hl⟩),rfl,aH⟩⟩
instance bGz{I:List Atom}{v0 v1:Value}{x:aQ}[h0:eK Int I v0 x.1][h1:eK cM I v1 x.2] :
  bQ prog 136 [.agg #[v0,v1]] I (True) (Value×PkT x) (fun q:Value×PkT x=>.tuple #[q.1,.bool q.2.1.2]) (fun q=>.ow [q.1] q.2.1.1::I):=⟨fun _ w0=>by
 refine aK func136 ntmps136 ?_
 repeat' (first|refine aU ?_|refine cV fun r hr=>?_|refine aW fun r=>?_|refine bG fun sv=>?_|refine bT fun b=>?_|refine bV fun hc=>?_|refine bW fun hc=>?_|refine aS (fun hc=>?_) fun hc=>?_|fail)
 ·exact⟨(sv,⟨([],false),aHu x⟩),rfl,aH⟩
 ·exact⟨r,rfl,aH⟩⟩
instance bKv{I:List Atom}{v0 v1 p0 p1 p2:Value}{x:aQ}{pk:mQ}[h0:bK Int I v0 x.1][h1:bK cM I v1 x.2][h2:bK Int I p0 pk.1][h3:bK Int I p1 pk.2.1][h4:bK Int I p2 pk.2.2.1] :
  bQ prog 185 [.agg #[v0,v1],.agg #[p0,p1,p2,.int .i64 pk.2.2.2.1,.int .i64 pk.2.2.2.2.1,.int .i64 pk.2.2.2.2.2]] I True Bool (fun q:Bool=>.bool q) (fun _=>I):=⟨fun _ w0=>by
 refine jV (fun w1=>?_) (aE h0 (aE h1 (aE h2 (aE h3 (aE h4 fI)))))
 refine aK func185 ntmps185 ?_
 repeat' (first|refine aU ?_|refine eF fun hbi=>?_|refine bP ?_|refine cV fun r hr=>?_|refine aW fun r=>?_|refine bT fun b=>?_|(refine iH fun p c d f g hf=>?_;simp only[Un.cells,Un.atoms,Un.fact,aA,aB] at f g hf;subst f g)|refine bV fun hc=>?_|refine bW fun hc=>?_|refine aS (fun hc=>?_) fun hc=>?_|refine wb 9 [] ?_|refine xp ?_|refine xy ?_|refine bI ?_|fail)
 all_goals try exact⟨_,rfl,aH⟩⟩
end Go.Proofs.YtajdgkpjbpindaaGreatDoor
