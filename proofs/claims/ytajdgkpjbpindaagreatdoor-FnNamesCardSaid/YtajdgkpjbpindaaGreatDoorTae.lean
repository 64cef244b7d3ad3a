/- Texts of the proof of FnNames. -/
import Derived.Test.YtajdgkpjbpindaaGreatDoorTad
set_option linter.unusedVariables false
set_option linter.unusedSimpArgs false
set_option linter.unusedSectionVars false
namespace Go.Eng
open Go Go.RowKit
class ShM{V:Type}(ys:List V)(zs:outParam (List (Sh V))):Prop where
 eq:zs=ys.map Sh.mk
instance {V:Type}:ShM ([]:List V) []:=⟨rfl⟩
instance {V:Type}{y:V}{ys:List V}{zs:List (Sh V)}[h:ShM ys zs]:ShM (y::ys) (Sh.mk y::zs):=⟨by rw[h.eq];rfl⟩
section
variable {P:Program} {ops:Array Oper} {Q:Exit->Act->World->Prop} {w0:World} {rest:List Oper} {l l':List Value} {I Y:List Atom} {ty:TypeId} {v:Value} {pos:String} {after:Array Edge} {d:Nat}
theorem aQj{V:Type}{iα:cB V}{zs:List (Sh V)}{T k by_ N:Nat}{ps:List (Nat×Operand)}{groups:List (List Value)}{ys:List V}{len:Nat}[hO:Op_ P T (List V) bA][hT:Sl P T k by_][hp0:oW I l k 0 ps groups][hf:aXl I groups Y][hp:oW Y l k 0 ps groups][hk:iI V k][ho:ShL V Y groups ys][hl:qX ys len][hn:wH len N][hz:ShM ys zs] :
  mW (WL P ops Q w0 (⟨some d,.buildSlice T N ps.toArray,ty,pos,after,none⟩::rest) l I) (N*k<=16777216) (fun sv=>WL P ops Q w0 rest (l.set d sv) (.ow [sv] zs::Y)):=⟨fun s h w hs=>
 oQ (V:=Sh V) (k:=k) (hT:=hT) (hp:=hp) ho.run (by rw[hk.eq];rfl) (by rw[aY,← hn.eq,← hl.eq]) s (fun sv w' hs'=>h sv w' (hz.eq▸hs')) w (hf.run hs)⟩
end
end Go.Eng
namespace Go.Proofs.YtajdgkpjbpindaaGreatDoor
open Go Go.Eng Tryz
set_option synthInstance.maxHeartbeats 400000
set_option synthInstance.maxSize 1000
set_option maxHeartbeats 4000000
set_option maxRecDepth 20000
def Lkd(bs:List (List Int))(x:Int)(seen:List Bool)(z:Int):Prop:=z≠x/\(z<0->jU bs z≠[]->seen.getD (-1-z).toNat false=true)
structure OcI(bs:List (List Int))(x:Int)(t:List Int)(seen:List Bool)(W:List Int->Prop):Prop where
 len:seen.length=48
 mrk:∀ y,-48<=y->y<0->seen.getD (-1-y).toNat false=true->jU bs y≠[]/\(W (jU bs y)∨∀ z∈jU bs y,Lkd bs x seen z)
 st:W t∨∀ z∈t,Lkd bs x seen z
theorem Lkd.up{bs:List (List Int)}{x z:Int}{seen seen':List Bool}(h:Lkd bs x seen z)(hs:∀ k,seen.getD k false=true->seen'.getD k false=true):Lkd bs x seen' z:=⟨h.1,fun h1 h2=>hs _ (h.2 h1 h2)⟩
theorem bCy{bs:List (List Int)}{x:Int}{t:List Int}{seen:List Bool}(h:OcI bs x t seen (fun _=>False))(ht:∀ z∈t,-48<=z){E:Int->List Int}{ρ:Int->Nat}(hE:Ex bs E ρ)(hx:-48<=x/\x<0/\jU bs x=[]):x∉t.flatMap E:=by
 have key:∀ n (z:Int),ρ z<n->-48<=z->Lkd bs x seen z->x∉E z:=by
  intro n
  induction n with
  | zero=>intro z h;omega
  | succ n ih=>
   intro z hn hz hL
   by_cases h0:0<=z
   ·rw[hE.sym z h0,aO];omega
   ·by_cases hb:jU bs z=[]
    ·rw[hE.fr z hz (by omega) hb,aO];exact fun e=>hL.1 e.symm
    ·rw[hE.bo z hz (by omega) hb]
     have hm:=hL.2 (by omega) hb
     have h2:=((h.mrk z hz (by omega) hm).2).resolve_left id
     intro hmem
     obtain ⟨y,hy,hxy⟩:=List.mem_flatMap.1 hmem
     have h3:=hE.rk z hz (by omega) hb y hy
     exact ih y (by omega) h3.1 (h2 y hy) hxy
 intro hmem
 obtain ⟨y,hy,hxy⟩:=List.mem_flatMap.1 hmem
 exact key (ρ y+1) y (by omega) (ht y hy) ((h.st.resolve_left id) y hy) hxy
theorem aIy{seen:List Bool}{i k:Nat}(h:seen.getD k false=true):(seen.set i true).getD k false=true:=by
 rw[aC,List.getElem?_set]
 by_cases e:i=k
 ·subst e
  rw[if_pos rfl]
  by_cases hl:i<seen.length
  ·rw[if_pos hl];rfl
  ·rw[aC,dA (by omega)] at h
   cases h
 ·rw[if_neg e,← aC];exact h
def aHn(seen:List Bool):Nat:=(seen.filter fun b=>!b).length
theorem aQi:∀ {seen:List Bool} {k:Nat},k<seen.length->seen.getD k false=false->aHn (seen.set k true)+1=aHn seen
 | b::seen,0,_,h=>by
  have hb:b=false:=h
  subst hb
  rfl
 | b::seen,k+1,hk,h=>by
  have ih:=aQi (seen:=seen) (k:=k) (by simpa using hk) h
  unfold aHn at ih ⊢
  rw[List.set_cons_succ]
  cases b
  ·rw[cT (by rfl),cT (by rfl),aF,aF,← ih]
  ·rw[cY (by decide),cY (by decide),ih]
def WtS(todo:List (Sh (List Int)))(s:List Int):Prop:=∃ y∈todo,y.v=s
attribute [local instance 350] aQj
theorem OcI.up{bs:List (List Int)}{x:Int}{t:List Int}{seen seen':List Bool}{W W':List Int->Prop}(h:OcI bs x t seen W)(hl:seen'.length=48)(hs:∀ k,seen.getD k false=true->seen'.getD k false=true)
  (hn:∀ y,-48<=y->y<0->seen'.getD (-1-y).toNat false=true->seen.getD (-1-y).toNat false=true∨(jU bs y≠[]/\W' (jU bs y))) (hW:∀ s,W s->W' s∨∀ z∈s,Lkd bs x seen' z):OcI bs x t seen' W':=by
 refine⟨hl,fun y h1 h2 h3=>?_,?_⟩
 ·rcases hn y h1 h2 h3 with h4|h4
  ·obtain ⟨h5,h6⟩:=h.mrk y h1 h2 h4
   refine⟨h5,?_⟩
   rcases h6 with h6|h6
   ·exact hW _ h6
   ·exact .inr fun z hz=>(h6 z hz).up hs
  ·exact⟨h4.1,.inl h4.2⟩
 ·rcases h.st with h1|h1
  ·exact hW _ h1
  ·exact .inr fun z hz=>(h1 z hz).up hs
theorem bDm{bs:List (List Int)}{x:Int}{t:List Int}{n:Nat}(hn:n=48):OcI bs x t (List.replicate n false) (WtS [Sh.mk t]):=by
 refine⟨by simp [hn],fun y _ _ h=>?_,.inl ⟨Sh.mk t,by simp,rfl⟩⟩
 rw[aC,List.getElem?_replicate] at h
 split at h<;>cases h
theorem bFw(n:Nat):aHn (List.replicate n false)=n:=by
 unfold aHn
 rw[List.filter_eq_self.2 (by simp),cA]
theorem bE4{todo:List (Sh (List Int))}{n:Nat}(hn:todo.length=n+1){s:List Int}(h:WtS todo s):WtS (todo.take n) s∨s=(todo.getD n default).v:=by
 obtain ⟨y,hy,rfl⟩:=h
 obtain ⟨i,hi,rfl⟩:=cO hy
 by_cases e:i<n
 ·exact .inl ⟨todo[i],List.mem_take_iff_getElem.2 ⟨i,by omega,rfl⟩,rfl⟩
 ·obtain rfl:i=n:=by omega
  right
  rw[aC,aG hi];rfl
theorem bFe{todo:List (Sh (List Int))}{y:Sh (List Int)}{s:List Int}(h:WtS todo s):WtS (todo++[y]) s:=by
 obtain ⟨z,hz,e⟩:=h
 exact⟨z,List.mem_append_left _ hz,e⟩
theorem bEk{todo:List (Sh (List Int))}{y:Sh (List Int)}:WtS (todo++[y]) y.v:=⟨y,by simp,rfl⟩
theorem aDt{seen:List Bool}{i k:Nat}(h:(seen.set i true).getD k false=true):seen.getD k false=true∨k=i:=by
 by_cases e:k=i
 ·exact .inr e
 ·left
  rw[aC,List.getElem?_set,if_neg (fun e'=>e e'.symm)] at h
  rw[aC];exact h
structure OcC(bs:List (Sh (List Int)))(x:Int)(t:List Int):Prop where
 mb:MeB bs
 vt:VOk t
 x1:-48<=x/\x<0
 fr:jU (iD bs) x=[]
abbrev OcT(bs:List (Sh (List Int)))(x:Int)(t:List Int):Type:={ q:Bool // q=false->∀ E ρ,Ex (iD bs) E ρ->x∉t.flatMap E }
theorem vK{bs:List (List Int)}{x:Int}{sn:List Bool}{uu:List Int}{i:Nat}(h:∀ j,j<i->Lkd bs x sn (uu.getD j 0))(h':Lkd bs x sn (uu.getD i 0)):∀ j,j<i+1->Lkd bs x sn (uu.getD j 0):=fun j hj=>by
 by_cases e:j=i
 ·rw[e];exact h'
 ·exact h j (by omega)
instance bBc{I Y:List Atom}{bb:Nat}{so vt:Value}{bs:List (Sh (List Int))}{t:List Int}{x:Int}[hb:gD I bb [so]][h3:cQ (List (Sh (List Int))) bA I [so] bs Y][hb1:gD Y bb [so]][h2:eK Int Y vt t] :
  bQ prog 352 [.pointer (some ⟨bb,0,none⟩),.int .i64 x,vt] I (OcC bs x t) (OcT bs x t) (fun q:OcT bs x t=>.bool q.1) (fun q=>.ow [so] bs::Y):=⟨fun hs w0=>by
 refine eN h3.perm ?_
 refine oI (i:=bA) (cs:=[vt]) (x:=t) ?_
 obtain ⟨hB,hT,hx1,hfr⟩:=hs
 have hbl:=hB.len
 have hget:=aG1 bs
 have hx2:=hx1.1
 have hx3:=hx1.2
 refine aK func352 ntmps352 ?_
 repeat' (first|refine aU ?_|refine bG fun sv=>?_|fail)
 rename_i se
 refine bD [8] [19,20,21,22,23,24,25,26,27,9,28,29,30,31,32,10,33,34,35,36,39,40,41,42,43,44,6,45,46,47,48,49,50,51,52,53,54,55,56,57,58,59,60,61,62,63,64,65,66,67,68,69,70,71,72,73,74,75,76,77,78,79,80,81,82,83,84,85,86,87,88,89,90,91,92,93,94,95,96,37,38] (Z:=Value×List (Sh (List Int))×List Bool) (fun k=>[k.1]) (fun k=>[.ow [k.1] k.2.1,.ow [se] k.2.2]) (fun k=>OcI (iD bs) x t k.2.2 (WtS k.2.1)/\(∀ y∈k.2.1,VOk y.v)/\2*aHn k.2.2+k.2.1.length<=100) (fun k=>2*aHn k.2.2+k.2.1.length) (sv,[Sh.mk t],List.replicate bs.length false) [.ow [sv] [Sh.mk t],.ow [se] (List.replicate bs.length false)] (by kernel_rfl) ⟨bDm hbl,fun y hy=>by
  rw[aO] at hy;rw[hy];exact hT,by simp only[bFw,hbl,aF,aL];omega⟩ rfl ?_
 intro ⟨sw,todo,seen⟩ u l' hl' ⟨hI,hV,htl⟩
 simp only[bM,List.map,List.set] at hl'
 subst hl'
 simp only[aA,aB] at hI hV htl ⊢
 have hsl:=hI.len
 by_cases hz:todo.length=0
 ·obtain rfl:todo=[]:=List.length_eq_zero_iff.1 hz
  have hend:OcI (iD bs) x t seen (fun _=>False):=hI.up hsl (fun _ h=>h) (fun y _ _ h=>.inl h) (fun s h=>by
   obtain ⟨y,hy,_⟩:=h
   cases hy)
  repeat' (first|refine aU ?_|refine bV fun hc=>?_|refine bW fun hc=>?_|refine aS (fun hc=>?_) fun hc=>?_|fail)
  exact⟨⟨false,fun _ E ρ hE=>bCy hend hT.lo hE ⟨hx2,hx3,hfr⟩⟩,rfl,aH⟩
 ·obtain ⟨n,hn⟩:∃ n,todo.length=n+1:=⟨todo.length-1,by omega⟩
  have hu:VOk (todo.getD n default).v:=hV _ (by
   rw[aC,aG (by omega)];exact cS _)
  have hul:=hu.len
  haveI:fJ ((todo.length:Int)-1) n:=⟨by omega⟩
  have htk:(todo.take n).length=n:=by rw[aN];omega
  generalize hue:(todo.getD n default).v=uu at hu hul
  repeat' (first|refine aU ?_|refine bP ?_|refine bG fun sv=>?_|refine bV fun hc=>?_|refine bW fun hc=>?_|refine aS (fun hc=>?_) fun hc=>?_|fail)
  rename_i pv
  rw[hue]
  refine lp_ [8,10] [33,34,35,36,39,40,41,42,43,44,6,45,46,47,48,49,50,51,52,53,54,55,56,57,58,59,60,61,62,63,64,65,66,67,68,69,70,71,72,73,74,75,76,77,78,79,80,81,82,83,84,85,86,87,88,89,90,91,92,93,94,95,96,37,38] (Z:=Value×List (Sh (List Int))×List Bool×Nat) (fun k=>[k.1,.int .i64 k.2.2.2]) (fun k=>[.ow [k.1] k.2.1,.ow [se] k.2.2.1]) (fun k=>k.2.2.2<=uu.length/\OcI (iD bs) x t k.2.2.1 (fun s=>WtS k.2.1 s∨s=uu)/\(∀ j,j<k.2.2.2->Lkd (iD bs) x k.2.2.1 (uu.getD j 0))/\(∀ y∈k.2.1,VOk y.v)/\2*aHn k.2.2.1+k.2.1.length+1<=2*aHn seen+todo.length) (fun k=>uu.length-k.2.2.2) (sv,todo.take n,seen,0) [.ow [sv] (todo.take n),.ow [se] seen] ⟨aI _,hI.up hsl (fun _ h=>h) (fun y _ _ h=>.inl h) (fun s h=>.inl ((bE4 hn h).imp id fun e=>by rw[e,hue])),fun j hj=>absurd hj (cX _),fun y hy=>hV y (List.mem_of_mem_take hy),by simp only;omega⟩ ?_
  intro ⟨tw,td,sn,i⟩ u2 l2 hl2 ⟨hi,hI2,hL,hV2,hM⟩
  simp only[bM,List.map,List.set] at hl2
  subst hl2
  simp only[aA,aB] at hi hI2 hL hV2 hM ⊢
  have hsl2:=hI2.len
  by_cases hil:i<uu.length
  ·have hui:=hu.lo _ (eD hil)
   have he:(bs.getD (-1-uu.getD i 0).toNat default).v=jU (iD bs) (uu.getD i 0):=hget _
   repeat' (first|refine aU ?_|refine eF fun hbi=>?_|refine bP ?_|refine bV fun hc=>?_|refine bW fun hc=>?_|refine aS (fun hc=>?_) fun hc=>?_|((refine wb 11 [] ?_<;>refine bY 0 ?_<;>refine bY 1 ?_<;>refine bY 2 ?_<;>(refine aMq 3 fun hbi=>?_)<;>refine bY 4 ?_<;>refine bY 5 ?_<;>(refine aD2 50 (fun hc=>?_) (fun hc=>?_)<;>(try first|(exfalso;omega)|with_reducible first|exact absurd rfl hc|exact absurd hc dU|exact absurd hc dU.symm)<;>first|refine iF 6 ?_|refine gJ 6 ?_)<;>(first|refine iF 7 ?_|refine gJ 7 ?_)<;>(first|refine iF 8 ?_|refine gJ 8 ?_)<;>(first|refine iF 9 ?_|refine gJ 9 ?_)<;>(first|refine iF 10 ?_|refine gJ 10 ?_)<;>(first|refine iF 11 ?_|refine gJ 11 ?_)<;>(first|refine iF 12 ?_|refine gJ 12 ?_)<;>(first|refine iF 13 ?_|refine gJ 13 ?_)<;>(first|refine iF 14 ?_|refine gJ 14 ?_)<;>refine bY 15 ?_<;>refine bY 16 ?_<;>(first|refine gJ 17 ?_|(refine aD2 61 (fun hc=>?_) (fun hc=>?_)<;>(try first|(exfalso;omega)|with_reducible first|exact absurd rfl hc|exact absurd hc dU|exact absurd hc dU.symm)<;>first|refine iF 17 ?_|refine gJ 17 ?_))<;>(first|refine iF 18 ?_|refine gJ 18 ?_)<;>(first|refine iF 19 ?_|refine gJ 19 ?_)<;>(first|refine iF 20 ?_|refine gJ 20 ?_)<;>(first|refine iF 21 ?_|refine gJ 21 ?_)<;>(first|refine iF 22 ?_|refine gJ 22 ?_)<;>(first|refine iF 23 ?_|refine gJ 23 ?_)<;>(first|refine iF 24 ?_|refine gJ 24 ?_)<;>(first|refine iF 25 ?_|refine gJ 25 ?_)<;>(first|refine iF 26 ?_|refine gJ 26 ?_)<;>(first|refine gJ 27 ?_|(refine bX 27 ?_<;>(repeat' (first|refine aU ?_|refine bG fun sv=>?_))))<;>(first|refine gJ 28 ?_|(refine bX 28 ?_<;>(repeat' refine aU ?_)))<;>(first|refine iF 29 ?_|refine gJ 29 ?_)<;>refine bY 30 ?_)<;>refine bI ?_)|((refine wb 13 [13] ?_<;>refine bY 0 ?_<;>refine bY 1 ?_<;>refine bY 2 ?_<;>refine bY 3 ?_<;>refine bY 4 ?_<;>refine bY 5 ?_<;>refine bY 6 ?_<;>refine bY 7 ?_<;>(refine aMq 8 fun hbi=>?_)<;>refine bY 9 ?_<;>refine bY 10 ?_<;>(refine bX 11 ?_<;>(repeat' (first|refine aU ?_|refine bG fun sv=>?_)))<;>(refine bX 12 ?_<;>(repeat' (first|refine aU ?_|refine bG fun sv=>?_)))<;>(refine bX 13 ?_<;>(repeat' (first|refine aU ?_|refine bG fun sv=>?_)))<;>refine aPo 14 ?_)<;>refine bI ?_)|fail)
   ·exact⟨⟨true,fun h=>by cases h⟩,rfl,aH⟩
   ·have hne:jU (iD bs) (uu.getD i 0)≠[]:=fun e=>by
     have hc2:(0:Int)<(bs.getD (-1-uu.getD i 0).toNat default).v.length:=by assumption
     rw[he,e] at hc2;simp at hc2
    have hsf:sn.getD (-1-uu.getD i 0).toNat false=false:=by assumption
    have hun:=aQi (seen:=sn) (k:=(-1-uu.getD i 0).toNat) (by omega) hsf
    have hat:=hB.at ⟨hui,by omega⟩ hne
    refine eB (sv,td++[Sh.mk (bs.getD (-1-uu.getD i 0).toNat default).v],sn.set (-1-uu.getD i 0).toNat true,i+1) ⟨by simp only;omega,?_,?_,?_,by simp only[aD,aF,aL];omega⟩
    ·refine hI2.up (by simp only[aV];exact hsl2) (fun k=>aIy) (fun y h1 h2 h3=>?_) (fun s h=>.inl (h.imp bFe id))
     rcases aDt h3 with h4|h4
     ·exact .inl h4
     ·right
      have hy:y=uu.getD i 0:=by omega
      rw[hy]
      refine⟨hne,.inl ?_⟩
      rw[← he]
      exact bEk
    ·refine vK (fun j hj=>(hL j hj).up fun k=>aIy) ⟨by assumption,fun _ _=>?_⟩
     simp only
     rw[aC,List.getElem?_set,if_pos rfl,if_pos (by omega)];rfl
    ·intro y hy
     rcases aP.1 hy with h|h
     ·exact hV2 y h
     ·rw[aO] at h
      rw[h]
      simp only
      rw[he];exact hat.1
   ·have hz2:jU (iD bs) (uu.getD i 0)=[]:=by
     rw[← he]
     exact List.length_eq_zero_iff.1 (by omega)
    exact eB (tw,td,sn,i+1) ⟨by simp only;omega,hI2,vK hL ⟨by assumption,fun _ h=>absurd hz2 h⟩,hV2,hM⟩
   ·exact eB (tw,td,sn,i+1) ⟨by simp only;omega,hI2,vK hL ⟨by assumption,fun _ _=>by assumption⟩,hV2,hM⟩
   ·exact eB (tw,td,sn,i+1) ⟨by simp only;omega,hI2,vK hL ⟨by assumption,fun h=>by omega⟩,hV2,hM⟩
  ·have hall:∀ z∈uu,Lkd (iD bs) x sn z:=fun z hz=>by
    obtain ⟨j,hj,rfl⟩:=cO hz
    have:=hL j (by omega)
    rw[aC,aG hj] at this
    exact this
   have hI3:OcI (iD bs) x t sn (WtS td):=hI2.up hsl2 (fun _ h=>h) (fun y _ _ h=>.inl h) (fun s h=>h.imp id fun e=>by rw[e];exact hall)
   repeat' (first|refine aU ?_|refine bV fun hc=>?_|refine bW fun hc=>?_|refine aS (fun hc=>?_) fun hc=>?_|fail)
   exact eB (tw,td,sn) ⟨hI3,hV2,by simp only;omega⟩⟩
end Go.Proofs.YtajdgkpjbpindaaGreatDoor
namespace Go.Proofs.YtajdgkpjbpindaaGreatDoor
open Go Go.Eng
def aLk(a:List Int)(bs:List (List Int))(p y:List Int):Prop:=∃ u,tP bs p u/\jO a u/\0<=u.getD 0 0/\∃ i,i<iA a u/\y=mK a u (pC a (iZ u) i)
inductive Rch (bs:List (List Int)):List Int->Int->Prop
 | here (t:List Int) (z:Int):z∈t->-48<=z->z<0->jU bs z≠[]->Rch bs t z
 | step (t:List Int) (z y:Int):z∈t->-48<=z->z<0->jU bs z≠[]->Rch bs (jU bs z) y->Rch bs t y
theorem Rch.sub{bs:List (List Int)}{s t:List Int}{z:Int}(h:Rch bs s z)(hs:∀ x∈s,x∈t):Rch bs t z:=by
 cases h with
 | here _ _ h1 h2 h3 h4=>exact .here _ _ (hs _ h1) h2 h3 h4
 | step _ y _ h1 h2 h3 h4 h5=>exact .step _ y _ (hs _ h1) h2 h3 h4 h5
theorem Rch.rank{bs:List (List Int)}{E:Int->List Int}{ρ:Int->Nat}(hE:Ex bs E ρ){t:List Int}{z:Int}(h:Rch bs t z):∃ x∈t,ρ z<=ρ x:=by
 induction h with
 | here _ _ h1 _ _ _=>exact⟨_,h1,aM _⟩
 | step _ y _ h1 h2 h3 h4 _ ih=>
  obtain ⟨x,hx,hr⟩:=ih
  have:=(hE.rk y h2 h3 h4 x hx).2
  exact⟨y,h1,by omega⟩
noncomputable def kZ(p:Prop):Bool:=@decide p (Classical.propDecidable p)
theorem oG{p:Prop}:kZ p=true↔p:=@decide_eq_true_iff p (Classical.propDecidable p)
theorem hZ{p:Prop}(h:p):kZ p=true:=oG.2 h
noncomputable def yV(bs:List (List Int))(t:List Int):Nat:=((List.range 48).filter fun (i:Nat)=>kZ (Rch bs t (-1-((i:Nat):Int)))).length
theorem bC7(bs:List (List Int))(t:List Int):yV bs t<=48:=by
 unfold yV
 have:=List.length_filter_le (fun (i:Nat)=>kZ (Rch bs t (-1-((i:Nat):Int)))) (List.range 48)
 simpa using this
theorem rE{V:Type}{p q:V->Bool}(h:∀ x,p x=true->q x=true):∀ l:List V,(l.filter p).length<=(l.filter q).length
 | []=>aM _
 | x::l=>by
  have ih:=rE h l
  by_cases hp:p x=true
  ·rw[cT hp,cT (h x hp)]
   simpa using ih
  ·rw[cY hp]
   by_cases hq:q x=true
   ·rw[cT hq,aF];omega
   ·rw[cY hq];exact ih
theorem aAe{V:Type}{p q:V->Bool}(h:∀ x,p x=true->q x=true){x:V}(hq:q x=true)(hp:¬ p x=true):∀ {l:List V},x∈l->(l.filter p).length<(l.filter q).length
 | y::l,hm=>by
  by_cases e:y=x
  ·subst e
   rw[cY hp,cT hq,aF]
   have:=rE h l
   omega
  ·have hm':x∈l:=by
    rcases cH.1 hm with h1|h1
    ·exact absurd h1.symm e
    ·exact h1
   have ih:=aAe h hq hp hm'
   by_cases hpy:p y=true
   ·rw[cT hpy,cT (h y hpy)]
    simpa using ih
   ·rw[cY hpy]
    by_cases hqy:q y=true
    ·rw[cT hqy,aF];omega
    ·rw[cY hqy];exact ih
theorem aRi{bs:List (List Int)}{s t:List Int}(h:∀ z,Rch bs s z->Rch bs t z):yV bs s<=yV bs t:=rE (fun i hi=>hZ (h _ (oG.1 hi))) _
theorem bDz{bs:List (List Int)}{E:Int->List Int}{ρ:Int->Nat}(hE:Ex bs E ρ){x:Int}(hx:-48<=x/\x<0)(hb:jU bs x≠[]):yV bs (jU bs x)<yV bs [x]:=by
 unfold yV
 refine aAe (fun i hi=>hZ (.step _ x _ (aO.2 rfl) hx.1 hx.2 hb (oG.1 hi))) (x:=(-1-x).toNat) ?_ ?_ (List.mem_range.2 (by omega))
 ·rw[show -1-(((-1-x).toNat:Nat):Int)=x by omega]
  exact hZ (.here _ _ (aO.2 rfl) hx.1 hx.2 hb)
 ·rw[show -1-(((-1-x).toNat:Nat):Int)=x by omega]
  intro h
  obtain ⟨y,hy,hr⟩:=(oG.1 h).rank hE
  have:=(hE.rk x hx.1 hx.2 hb y hy).2
  omega
noncomputable def muW(bs:List (List Int))(t:List Int):Nat:=61*yV bs t+t.length
theorem aZ8{bs:List (List Int)}{E:Int->List Int}{ρ:Int->Nat}(hE:Ex bs E ρ){p u:List Int}(h:tP bs p u):u=p∨yV bs u<yV bs p:=by
 induction h with
 | rfl=>exact .inl rfl
 | step x u h1 h2 h3 _ ih=>
  right
  have:=bDz hE ⟨h1,h2⟩ h3
  rcases ih with e|e
  ·rw[e];exact this
  ·omega
theorem aW0{a t:List Int}{k:Nat}{x:Int}(h:x∈mK a t k):x∈t:=List.mem_of_mem_drop (List.mem_of_mem_take h)
theorem aFv(a t:List Int):∀ i,1<=pC a t i
 | 0=>aM _
 | i+1=>by
  have:=aFv a t i
  show 1<=pC a t i+_
  omega
theorem aN3{a u:List Int}(hu:jO a u)(h0:0<=u.getD 0 0){i:Nat}(hi:i<iA a u):pC a (iZ u) i<u.length:=by
 have hl:=hu.len
 have hN:iA a (iZ u)=iA a u:=by unfold iA;rw[mS (by omega),lA h0]
 have:=(aHo hu.ok (i:=i) (by omega)).1
 rwa [gA] at this
theorem bKn{a:List Int}{bs:List (List Int)}{E:Int->List Int}{ρ:Int->Nat}(hE:Ex bs E ρ){p y:List Int}(h:aLk a bs p y):muW bs y<muW bs p:=by
 obtain ⟨u,hu,hw,h0,i,hi,rfl⟩:=h
 have hlt:=aN3 hw h0 hi
 have hl:=aIk hw hlt
 have h1:=(hw.at hlt).2
 have h2:=aFv a (iZ u) i
 have h3:yV bs (mK a u (pC a (iZ u) i))<=yV bs u:=aRi fun z hz=>hz.sub fun x hx=>aW0 hx
 have h4:=hw.len
 unfold muW
 rcases aZ8 hE hu with e|e
 ·subst e;omega
 ·omega
abbrev Lvl:Type:=List Int×List (Sh (List Int))
inductive LvI (a:List Int) (bs:List (List Int)):List Lvl->Prop
 | base (r:List (Sh (List Int))):r.length<=3->LvI a bs [([],r)]
 | up (p:List Int) (r:List (Sh (List Int))) (l:Lvl) (rest:List Lvl):LvI a bs (l::rest)->p.length<=60->r.length<=3->(∀ y∈r,aLk a bs p y.v)->(rest=[]∨aLk a bs l.1 p)->LvI a bs ((p,r)::l::rest)
def lvF:List Lvl->List (Sh (List Int))
 | []=>[]
 | l::rest=>lvF rest++l.2
theorem bN4(bs:List (List Int)){p:List Int}(h:p.length<=60):muW bs p<=2988:=by
 have:=bC7 bs p
 unfold muW
 omega
theorem bN3{a:List Int}{bs:List (List Int)}{E:Int->List Int}{ρ:Int->Nat}(hE:Ex bs E ρ){lv:List Lvl}(h:LvI a bs lv):∀ l rest,lv=l::rest->rest=[]∨muW bs l.1+rest.length<=2989:=by
 induction h with
 | base r _=>
  intro l rest e
  injection e with _ e
  exact .inl e.symm
 | up p r l rest h1 h2 h3 h4 h5 ih=>
  intro l' rest' e
  injection e with e1 e2
  subst e1 e2
  right
  have hm:=bN4 bs h2
  rcases h5 with h5|h5
  ·subst h5
   simp only[aF,aL];omega
  ·rcases ih l rest rfl with h6|h6
   ·subst h6
    simp only[aF,aL];omega
   ·have:=bKn hE h5
    simp only[aF];omega
theorem aXr{a:List Int}{bs:List (List Int)}{E:Int->List Int}{ρ:Int->Nat}(hE:Ex bs E ρ){lv:List Lvl}(h:LvI a bs lv):lv.length<=2990:=by
 cases lv with
 | nil=>simp
 | cons l rest=>
  rcases bN3 hE h l rest rfl with e|e
  ·rw[e];simp
  ·simp only[aF];omega
theorem bDb{a:List Int}{bs:List (List Int)}{lv:List Lvl}(h:LvI a bs lv):(lvF lv).length<=3*lv.length:=by
 induction h with
 | base r hr=>simp [lvF];omega
 | up p r l rest h1 h2 h3 h4 h5 ih=>
  show(lvF (l::rest)++r).length<=_
  rw[aD,aF]
  omega
theorem bK8{a:List Int}{bs:List (List Int)}{E:Int->List Int}{ρ:Int->Nat}(hE:Ex bs E ρ){lv:List Lvl}(h:LvI a bs lv):(lvF lv).length<=8970:=by
 have:=bDb h
 have:=aXr hE h
 omega
theorem bKp{a:List Int}{bs:List (List Int)}{lv:List Lvl}(h:LvI a bs lv):∀ {st:List (Sh (List Int))} {y:Sh (List Int)},lvF lv=st++[y]->∃ p r rest,LvI a bs ((p,r)::rest)/\lvF ((p,r)::rest)=st/\(rest=[]∨aLk a bs p y.v):=by
 induction h with
 | base r hr=>
  intro st y e
  have e1:r=st++[y]:=e
  refine⟨[],st,[],.base st (by rw[e1] at hr;simp at hr;omega),rfl,.inl rfl⟩
 | up p r l rest h1 h2 h3 h4 h5 ih=>
  intro st y e
  have e1:lvF (l::rest)++r=st++[y]:=e
  by_cases hr:r=[]
  ·rw[hr,cF] at e1
   exact ih e1
  ·have hd:=List.dropLast_concat_getLast hr
   rw[← hd,← aT] at e1
   obtain ⟨e2,e3⟩:=List.append_inj' e1 rfl
   have e4:r.getLast hr=y:=by injection e3
   refine⟨p,r.dropLast,l::rest,.up p _ l rest h1 h2 (by rw[List.length_dropLast];omega) (fun z hz=>h4 z (List.dropLast_subset _ hz)) h5,e2,.inr ?_⟩
   rw[← e4]
   exact h4 _ (List.getLast_mem hr)
theorem bFn{a:List Int}{bs:List (List Int)}{p y u:List Int}{r:List (Sh (List Int))}{rest:List Lvl}(h:LvI a bs ((p,r)::rest))(hy:rest=[]∨aLk a bs p y)(hl:y.length<=60)(hu:tP bs y u)(hw:jO a u)(h0:0<=u.getD 0 0)(hn:iA a u<=3) :
  LvI a bs ((y,fF a u (iA a u))::(p,r)::rest):=
 .up y _ _ _ h hl (by rw[fS];exact hn) (fun z hz=>by
  obtain ⟨i,hi,rfl⟩:=nH hz
  exact⟨u,hu,hw,h0,i,hi,rfl⟩) hy
theorem tP.bind{bs bs':List (List Int)}(hb:∀ z,-48<=z->z<0->jU bs z≠[]->jU bs' z=jU bs z){p u:List Int}(h:tP bs p u):tP bs' p u:=by
 induction h with
 | rfl=>exact .rfl _
 | step x u h1 h2 h3 _ ih=>
  refine .step x u h1 h2 (by rw[hb x h1 h2 h3];exact h3) ?_
  rw[hb x h1 h2 h3]
  exact ih
theorem aLk.bind{a:List Int}{bs bs':List (List Int)}(hb:∀ z,-48<=z->z<0->jU bs z≠[]->jU bs' z=jU bs z){p y:List Int}(h:aLk a bs p y):aLk a bs' p y:=by
 obtain ⟨u,hu,h1,h2,h3⟩:=h
 exact⟨u,hu.bind hb,h1,h2,h3⟩
theorem LvI.bind{a:List Int}{bs bs':List (List Int)}(hb:∀ z,-48<=z->z<0->jU bs z≠[]->jU bs' z=jU bs z){lv:List Lvl}(h:LvI a bs lv):LvI a bs' lv:=by
 induction h with
 | base r hr=>exact .base r hr
 | up p r l rest h1 h2 h3 h4 h5 ih=>exact .up p r l rest ih h2 h3 (fun y hy=>(h4 y hy).bind hb) (h5.imp id fun h=>h.bind hb)
end Go.Proofs.YtajdgkpjbpindaaGreatDoor
namespace Go.Proofs.YtajdgkpjbpindaaGreatDoor
open Go Go.Eng Tryz
set_option synthInstance.maxHeartbeats 400000
set_option synthInstance.maxSize 1000
set_option maxHeartbeats 4000000
set_option maxRecDepth 20000
attribute [local instance 350] aQj
theorem bDr{a u:List Int}(hu:jO a u)(h0:0<=u.getD 0 0):pC a (iZ u) (iA a u)=u.length:=by
 have hl:=hu.len
 have hN:iA a (iZ u)=iA a u:=by unfold iA;rw[mS (by omega),lA h0]
 have h1:=wK hu.ok (iA a (iZ u)) (aM _)
 rw[Nat.sub_self,hN,gA] at h1
 have h2:=congrArg Prod.snd h1.2
 simp only[eQ] at h2
 omega
theorem bIg{a u:List Int}(hu:jO a u)(h0:0<=u.getD 0 0):∀ i,i<=iA a u->u.take (pC a (iZ u) i)=u.getD 0 0::((fF a u i).map Sh.v).flatten
 | 0,_=>by
  have:=hu.len
  cases u with
  | nil=>simp at this
  | cons x xs=>rfl
 | i+1,hi=>by
  have ih:=bIg hu h0 i (by omega)
  have e:pC a (iZ u) (i+1)=pC a (iZ u) i+szW a u (pC a (iZ u) i):=rfl
  rw[e,List.take_add,ih]
  show _=u.getD 0 0::((fF a u i++[(⟨mK a u (pC a (iZ u) i)⟩:Sh (List Int))]).map Sh.v).flatten
  rw[cG,List.flatten_append]
  simp [mK]
theorem aLv{a u:List Int}(hu:jO a u)(h0:0<=u.getD 0 0):u=u.getD 0 0::((fF a u (iA a u)).map Sh.v).flatten:=by
 have h1:=bIg hu h0 (iA a u) (aM _)
 rw[bDr hu h0,cZ] at h1
 exact h1
theorem aI5(E:Int->List Int):∀ ts:List (List Int),(ts.flatten.flatMap E).length=vW E ts
 | []=>rfl
 | t::ts=>by
  have ih:=aI5 E ts
  have e:vW E (t::ts)=(t.flatMap E).length+vW E ts:=by unfold vW;simp
  rw[List.flatten_cons,List.flatMap_append,aD,ih,e]
theorem aEz{a u:List Int}{bs:List (List Int)}{E:Int->List Int}{ρ:Int->Nat}(hE:Ex bs E ρ)(hu:jO a u)(h0:0<=u.getD 0 0):vW E (iD (fF a u (iA a u)))+1=(u.flatMap E).length:=by
 conv=>rhs;rw[aLv hu h0]
 rw[List.flatMap_cons,hE.sym _ h0,aD,aI5]
 show vW E ((fF a u (iA a u)).map Sh.v)+1=_
 rw[aJ];omega
theorem aCd{a u:List Int}(hu:jO a u)(h0:0<=u.getD 0 0):∀ y∈fF a u (iA a u),jO a y.v:=fun y hy=>by
 obtain ⟨i,hi,rfl⟩:=nH hy
 exact hu.sub (aN3 hu h0 hi)
theorem aZg{a u:List Int}(hu:jO a u)(h0:0<=u.getD 0 0):iA a u<=3:=by
 have hl:=hu.len
 have hN:iA a (iZ u)=iA a u:=by unfold iA;rw[mS (by omega),lA h0]
 have:=(uH hu.ok).2
 omega
structure BsW(a:List Int)(bs:List (Sh (List Int)))(E:Int->List Int)(ρ:Int->Nat):Prop where
 ex:Ex (iD bs) E ρ
 wt:∀ t∈iD bs,t=[]∨jO a t
theorem BsW.mb{a:List Int}{bs:List (Sh (List Int))}{E:Int->List Int}{ρ:Int->Nat}(h:BsW a bs E ρ):MeB bs:=⟨⟨E,ρ,h.ex⟩,fun t ht=>(h.wt t ht).imp id fun h=>h.v⟩
theorem BsW.hd{a:List Int}{bs:List (Sh (List Int))}{E:Int->List Int}{ρ:Int->Nat}(h:BsW a bs E ρ){t u:List Int}(ht:jO a t)(hp:HdP bs t u):jO a u:=by
 rcases hp.mem with e|e
 ·rw[e];exact ht
 ·exact(h.wt u e).resolve_left fun e=>by
   have:=hp.ok.len
   rw[e] at this;simp at this
theorem uQ(bs:List (Sh (List Int)))(k:Nat)(v:List Int):iD (bs.set k ⟨v⟩)=(iD bs).set k v:=by
 unfold iD;rw[List.map_set]
theorem BsW.bind{a:List Int}{bs:List (Sh (List Int))}{E:Int->List Int}{ρ:Int->Nat}(h:BsW a bs E ρ){x:Int}{v:List Int}(hx:-48<=x/\x<0)(h0:jU (iD bs) x=[])(hv:jO a v)(hn:x∉v.flatMap E) :
  BsW a (bs.set (-1-x).toNat ⟨v⟩) (exB E x (v.flatMap E)) (exR E ρ x (v.map ρ).sum):=by
 refine⟨?_,fun t ht=>?_⟩
 ·rw[uQ]
  exact bEi h.ex hx h0 hv.ne hv.lo hn
 ·rw[uQ] at ht
  rcases List.mem_or_eq_of_mem_set ht with h1|h1
  ·exact h.wt t h1
  ·rw[h1];exact .inr hv
theorem aEv{bs:List (List Int)}{x:Int}{v:List Int}(hl:bs.length=48)(hx:-48<=x/\x<0)(h0:jU bs x=[]):∀ z,-48<=z->z<0->jU bs z≠[]->jU (bs.set (-1-x).toNat v) z=jU bs z:=fun z h1 h2 h3=>by
 rw[zO hl hx ⟨h1,h2⟩,if_neg fun e=>h3 (by rw[e];exact h0)]
theorem aOe{a:List Int}{bs:List (Sh (List Int))}{E:Int->List Int}{ρ:Int->Nat}(h:BsW a bs E ρ){x:Int}{v:List Int}(hx:-48<=x/\x<0)(h0:jU (iD bs) x=[])(hv:jO a v){ts:List (List Int)}{s:Nat}(h1:vW E ts<=s)(h2:(v.flatMap E).length<=s) :
  msF (ubW (iD (bs.set (-1-x).toNat ⟨v⟩))) (vW (exB E x (v.flatMap E)) ts)<msF (ubW (iD bs)) s:=by
 have hl:=h.ex.len
 have hub:=aOi (bs:=iD bs) (k:=(-1-x).toNat) (v:=v) (by omega) h0 hv.ne
 rw[uQ,← hub]
 refine aZx ?_
 have h3:=aKl (E:=E) (x:=x) (b:=v.flatMap E) (rL h.ex hv.ne hv.lo) ts
 exact Nat.le_trans h3 (Nat.mul_le_mul h1 h2)
theorem aFs(a b:List (Sh (List Int))):iD (a++b)=iD a++iD b:=by unfold iD;rw[cG]
structure MtC(a:List Int)(bs:List (Sh (List Int)))(s t:List Int):Prop where
 bd:∃ E ρ,BsW a bs E ρ
 s:jO a s
 t:jO a t
abbrev MtT(a:List Int):Type:={ q:Bool×List (Sh (List Int)) // ∃ E ρ,BsW a q.2 E ρ }
structure MtI(a:List Int)(ls rs bs:List (Sh (List Int)))(E:Int->List Int)(ρ:Int->Nat)(lvs:List Lvl):Prop where
 b:BsW a bs E ρ
 ln:ls.length=rs.length
 l:∀ y∈ls,jO a y.v
 r:∀ y∈rs,jO a y.v
 lv:LvI a (iD bs) lvs
 fl:lvF lvs=ls
theorem aQl{ls:List (Sh (List Int))}{n:Nat}(h:ls.length=n+1):ls=ls.take n++[ls.getD n default]:=by
 have h1:=dF n ls
 have h2:ls.drop n=[ls.getD n default]:=by
  rw[List.drop_eq_getElem_cons (by omega),cI (by omega),aC,aG (by omega)];rfl
 rw[h2] at h1
 exact h1.symm
theorem aQh{E:Int->List Int}{ls:List (Sh (List Int))}{n:Nat}(h:ls.length=n+1):vW E (iD ls)=vW E (iD (ls.take n))+((ls.getD n default).v.flatMap E).length:=by
 conv=>lhs;rw[aQl h]
 rw[aFs,jI]
 show _+vW E [(ls.getD n default).v]=_
 rw[bEm]
instance bG7{I Y:List Atom}{bb:Nat}{so va vs vt:Value}{bs:List (Sh (List Int))}{a s t:List Int}[hb:gD I bb [so]][h3:cQ (List (Sh (List Int))) bA I [so] bs Y][hb1:gD Y bb [so]][h0:eK Int Y va a][h1:eK Int Y vs s][h2:eK Int Y vt t] :
  bQ prog 327 [.agg #[va],.pointer (some ⟨bb,0,none⟩),vs,vt] I (MtC a bs s t) (MtT a) (fun q:MtT a=>.bool q.1.1) (fun q=>.ow [so] q.1.2::Y):=⟨fun hs w0=>by
 refine eN h3.perm ?_
 refine oI (i:=bA) (cs:=[vt]) (x:=t) ?_
 refine oI (i:=bA) (cs:=[vs]) (x:=s) ?_
 refine oI (i:=bA) (cs:=[va]) (x:=a) ?_
 obtain ⟨⟨E0,ρ0,hB0⟩,hS,hT⟩:=hs
 refine aK func327 ntmps327 ?_
 repeat' (first|refine aU ?_|refine bG fun sv=>?_|refine bT fun b=>?_|fail)
 rename_i vl
 refine lp_ [9,10] [17,18,19,20,21,22,23,24,25,26,27,11,28,29,30,31,32,33,34,35,12,36,37,38,39,40,41,42,43,44,45,57,58,59,60,61,62,63,64,65,66,67,68,69,56,71,72,73,74,70,75,76,77,78,79,80,8,81,82,83,84,85,86,87,88,89,90,92,93,94,95,91,96,97,98,99,100,101,102,103,104,105,106,107,108,109,110,111,113,114,115,116,117,118,119,112,46,47,48,49,50,51,52,53,54,55] (Z:=(Value×List (Sh (List Int)))×(Value×List (Sh (List Int)))×List (Sh (List Int))×(Int->List Int)×(Int->Nat)×List Lvl) (fun k=>[k.1.1,k.2.1.1]) (fun k=>[.ow [k.1.1] k.1.2,.ow [k.2.1.1] k.2.1.2,.ow [so] k.2.2.1]) (fun k=>MtI a k.1.2 k.2.1.2 k.2.2.1 k.2.2.2.1 k.2.2.2.2.1 k.2.2.2.2.2) (fun k=>msF (ubW (iD k.2.2.1)) (vW k.2.2.2.1 (iD k.1.2++iD k.2.1.2))) ((vl,[Sh.mk s]),(sv,[Sh.mk t]),bs,E0,ρ0,[([],[Sh.mk s])]) [.ow [vl] [Sh.mk s],.ow [sv] [Sh.mk t],.ow [so] bs] ⟨hB0,rfl,fun y hy=>by rw[aO] at hy;rw[hy];exact hS,fun y hy=>by rw[aO] at hy;rw[hy];exact hT,.base _ (by simp),rfl⟩ ?_
 intro ⟨⟨wl,ls⟩,⟨wr,rs⟩,b,EE,ρ,lv⟩ u l' hl' hI
 simp only[bM,List.map,List.set] at hl'
 subst hl'
 simp only[aA,aB] at hI ⊢
 have hB:=hI.b
 have hbl:=hB.ex.len
 rw[vD] at hbl
 have hln:=hI.ln
 by_cases hz:ls.length=0
 ·repeat' (first|refine aU ?_|refine bV fun hc=>?_|refine bW fun hc=>?_|refine aS (fun hc=>?_) fun hc=>?_|fail)
  exact⟨⟨(true,b),⟨EE,ρ,hB⟩⟩,rfl,aH⟩
 ·obtain ⟨n,hn⟩:∃ n,ls.length=n+1:=⟨ls.length-1,by omega⟩
  have hrn:rs.length=n+1:=by omega
  haveI:fJ ((ls.length:Int)-1) n:=⟨by omega⟩
  haveI:fJ ((rs.length:Int)-1) n:=⟨by omega⟩
  have htl:(ls.take n).length=n:=by rw[aN];omega
  have htr:(rs.take n).length=n:=by rw[aN];omega
  have hlm:(ls.getD n default)∈ls:=by rw[aC,aG (by omega)];exact cS _
  have hrm:(rs.getD n default)∈rs:=by rw[aC,aG (by omega)];exact cS _
  have hlw:=hI.l _ hlm
  have hrw:=hI.r _ hrm
  have hpl:=aQh (E:=EE) hn
  have hpr:=aQh (E:=EE) hrn
  have hll:ls.length<=8970:=by rw[← hI.fl];exact bK8 hB.ex hI.lv
  obtain ⟨p,rr,rest,hlv1,hlv2,hlv3⟩:=bKp hI.lv (hI.fl.trans (aQl hn))
  have hMl:MeB b/\VOk (ls.getD n default).v:=⟨hB.mb,hlw.v⟩
  have hMr:MeB b/\VOk (rs.getD n default).v:=⟨hB.mb,hrw.v⟩
  repeat' (first|refine aU ?_|refine bP ?_|refine cV fun r hr=>?_|refine aW fun r=>?_|refine bG fun sv=>?_|refine bV fun hc=>?_|refine bW fun hc=>?_|refine aS (fun hc=>?_) fun hc=>?_|fail)
  rename_i svl
  rename { q:Value×List Int // HdP b (ls.getD n default).v q.2 }=>ru
  rename { q:Value×List Int // HdP b (rs.getD n default).v q.2 }=>rv
  obtain ⟨⟨pu,y⟩,hu⟩:=ru
  obtain ⟨⟨pv,z⟩,hv⟩:=rv
  simp only at hu hv ⊢
  clear hr
  have hyw:=hB.hd hlw hu
  have hzw:=hB.hd hrw hv
  have hyl:=hyw.len
  have hzl:=hzw.len
  have hy0:=hyw.get (k:=0) (by omega)
  have hz0:=hzw.get (k:=0) (by omega)
  have hnl:∀ q∈ls.take n,jO a q.v:=fun q hq=>hI.l q (List.mem_of_mem_take hq)
  have hnr:∀ q∈rs.take n,jO a q.v:=fun q hq=>hI.r q (List.mem_of_mem_take hq)
  have hey:=hu.st EE ρ hB.ex
  have hez:=hv.st EE ρ hB.ex
  have hly:=rL hB.ex hyw.ne hyw.lo
  have hlz:=rL hB.ex hzw.ne hzw.lo
  rw[← hey] at hpl
  rw[← hez] at hpr
  have hpd:vW EE (iD ls++iD rs)=vW EE (iD (ls.take n)++iD (rs.take n))+(y.flatMap EE).length+(z.flatMap EE).length:=by
   rw[jI,jI];omega
  by_cases hyv:y.getD 0 0<0
  ·have hfy:=hu.fr hyv
   by_cases hyz:y.getD 0 0=z.getD 0 0
   ·repeat' (first|refine aU ?_|with_reducible refine qY rfl ?_|refine bV fun hc=>?_|refine bW fun hc=>?_|refine aS (fun hc=>?_) fun hc=>?_|refine wb 10 [] ?_|refine xf fun hbi=>?_|refine xp ?_|refine xg ?_|refine xn ?_|refine pM fun hc=>?_|refine pN fun hc=>?_|refine xi (fun hc=>?_) fun hc=>?_|refine bI ?_|fail)
    exact eB ((svl,ls.take n),(sv,rs.take n),b,EE,ρ,(p,rr)::rest) ⟨hB,by simp only;omega,hnl,hnr,hlv1,hlv2⟩ (by simp only;exact aYh _ (by omega))
   ·have hoc:OcC b (y.getD 0 0) z:=⟨hB.mb,hzw.v,⟨hy0.1,hyv⟩,hfy⟩
    repeat' (first|refine aU ?_|refine eF fun hbi=>?_|refine bP ?_|refine cV fun r hr=>?_|refine aW fun r=>?_|refine bV fun hc=>?_|refine bW fun hc=>?_|refine aS (fun hc=>?_) fun hc=>?_|refine wb 10 [] ?_|refine wb 14 [10] ?_|refine xf fun hbi=>?_|refine xp ?_|refine xg ?_|refine xn ?_|refine pM fun hc=>?_|refine pN fun hc=>?_|refine xi (fun hc=>?_) fun hc=>?_|refine xy ?_|refine bI ?_|fail)
    ·exact⟨⟨(false,b),⟨EE,ρ,hB⟩⟩,rfl,aH⟩
    ·have hno:=hr hc EE ρ hB.ex
     have hkeep:=aEv (bs:=iD b) (v:=z) hB.ex.len ⟨hy0.1,hyv⟩ hfy
     refine eB ((svl,ls.take n),(sv,rs.take n),b.set (-1-y.getD 0 0).toNat ⟨z⟩,exB EE (y.getD 0 0) (z.flatMap EE),exR EE ρ (y.getD 0 0) (z.map ρ).sum,(p,rr)::rest) ⟨hB.bind ⟨hy0.1,hyv⟩ hfy hzw hno,by simp only;omega,hnl,hnr,?_,hlv2⟩ ?_
     ·simp only
      rw[uQ]
      exact hlv1.bind hkeep
     ·simp only
      exact aOe hB ⟨hy0.1,hyv⟩ hfy hzw (by omega) (by omega)
  ·by_cases hzv:z.getD 0 0<0
   ·have hfz:=hv.fr hzv
    have hoc:OcC b (z.getD 0 0) y:=⟨hB.mb,hyw.v,⟨hz0.1,hzv⟩,hfz⟩
    repeat' (first|refine aU ?_|refine eF fun hbi=>?_|refine bP ?_|refine cV fun r hr=>?_|refine aW fun r=>?_|refine bV fun hc=>?_|refine bW fun hc=>?_|refine aS (fun hc=>?_) fun hc=>?_|refine wb 10 [] ?_|refine wb 18 [10] ?_|refine xf fun hbi=>?_|refine xp ?_|refine xg ?_|refine xn ?_|refine pM fun hc=>?_|refine pN fun hc=>?_|refine xi (fun hc=>?_) fun hc=>?_|refine xy ?_|refine bI ?_|fail)
    ·exact⟨⟨(false,b),⟨EE,ρ,hB⟩⟩,rfl,aH⟩
    ·have hno:=hr hc EE ρ hB.ex
     have hkeep:=aEv (bs:=iD b) (v:=y) hB.ex.len ⟨hz0.1,hzv⟩ hfz
     refine eB ((svl,ls.take n),(sv,rs.take n),b.set (-1-z.getD 0 0).toNat ⟨y⟩,exB EE (z.getD 0 0) (y.flatMap EE),exR EE ρ (z.getD 0 0) (y.map ρ).sum,(p,rr)::rest) ⟨hB.bind ⟨hz0.1,hzv⟩ hfz hyw hno,by simp only;omega,hnl,hnr,?_,hlv2⟩ ?_
     ·simp only
      rw[uQ]
      exact hlv1.bind hkeep
     ·simp only
      exact aOe hB ⟨hz0.1,hzv⟩ hfz hyw (by omega) (by omega)
   ·have hwy:jO a y/\0<=y.getD 0 0:=⟨hyw,by omega⟩
    have hwz:jO a z/\0<=z.getD 0 0:=⟨hzw,by omega⟩
    have hny:=aZg hyw hwy.2
    have hnz:=aZg hzw hwz.2
    have hpyl:=fS a y (iA a y)
    have hpzl:=fS a z (iA a z)
    have hpy:=aEz hB.ex hyw hwy.2
    have hpz:=aEz hB.ex hzw hwz.2
    have hag:y.getD 0 0=z.getD 0 0->iA a y=iA a z:=fun e=>by unfold iA;rw[e]
    repeat' (first|refine aU ?_|refine eF fun hbi=>?_|refine bP ?_|refine cV fun r hr=>?_|refine aW fun r=>?_|refine bG fun sv=>?_|refine bV fun hc=>?_|refine bW fun hc=>?_|refine aS (fun hc=>?_) fun hc=>?_|refine wb 10 [] ?_|refine wb 19 [] ?_|refine xf fun hbi=>?_|refine xp ?_|refine xg ?_|refine xn ?_|refine pM fun hc=>?_|refine pN fun hc=>?_|refine xi (fun hc=>?_) fun hc=>?_|refine bI ?_|fail)
    all_goals first
     | exact⟨⟨(false,b),⟨EE,ρ,hB⟩⟩,rfl,aH⟩
     | skip
    have hag2:=hag (by assumption)
    rename_i svl2
    refine eB ((svl2,ls.take n++fF a y (iA a y)),(sv,rs.take n++fF a z (iA a z)),b,EE,ρ,((ls.getD n default).v,fF a y (iA a y))::(p,rr)::rest) ⟨hB,?_,?_,?_,?_,?_⟩ ?_
    ·simp only[aD];omega
    ·exact fun q hq=>(aP.1 hq).elim (hnl q) (aCd hyw hwy.2 q)
    ·exact fun q hq=>(aP.1 hq).elim (hnr q) (aCd hzw hwz.2 q)
    ·exact bFn hlv1 hlv3 hlw.len.2 hu.hd hyw hwy.2 hny
    ·show lvF ((p,rr)::rest)++_=_
     rw[hlv2]
    ·simp only
     refine aYh _ ?_
     rw[aFs,aFs,jI,jI,jI]
     rw[jI] at hpd
     rw[jI] at hpd
     rw[jI]
     omega⟩
end Go.Proofs.YtajdgkpjbpindaaGreatDoor
