/- Texts of the proof of FnNames. -/
import Derived.Test.YtajdgkpjbpindaaGreatDoorTac
set_option linter.unusedVariables false
set_option linter.unusedSimpArgs false
set_option linter.unusedSectionVars false
namespace Go.Proofs.YtajdgkpjbpindaaGreatDoor
open Go Go.Eng Tryz
set_option synthInstance.maxHeartbeats 400000
set_option synthInstance.maxSize 1000
theorem aMu{xs:List Int}{n:Int}{k:Nat}(hn:n∉xs)(hk:k<=xs.length)(h1:∀ i,i<k->xs.getD i 0<n)(h2:k<xs.length->n<=xs.getD k 0) :
  ((xs.take k++[n])++xs.drop k).length=xs.length+1/\(∀ q,q∈(xs.take k++[n])++xs.drop k↔q=n∨q∈xs)/\(xs.Pairwise (· < ·)->((xs.take k++[n])++xs.drop k).Pairwise (· < ·)):=by
 refine⟨?_,fun q=>?_,fun hp=>?_⟩
 ·simp only[aD,aN,aR,aJ];omega
 ·rw[aP,aP,aO]
  have e:q∈xs↔q∈xs.take k∨q∈xs.drop k:=by rw[← aP,dF]
  rw[e]
  constructor
  ·rintro ((h|h)|h)
   ·exact .inr (.inl h)
   ·exact .inl h
   ·exact .inr (.inr h)
  ·rintro (h|h|h)
   ·exact .inl (.inr h)
   ·exact .inl (.inl h)
   ·exact .inr h
 ·have hp':=hp
  rw[← dF k xs,List.pairwise_append] at hp'
  obtain ⟨hp1,hp2,hp3⟩:=hp'
  have hlt:∀ a∈xs.take k,a<n:=by
   intro a ha
   obtain ⟨i,hi,rfl⟩:=cO ha
   rw[aN] at hi
   have:=h1 i (by omega)
   rw[aC,aG (by omega)] at this
   rw[List.getElem_take]
   exact this
  have hgt:∀ b∈xs.drop k,n<b:=by
   intro b hb
   obtain ⟨i,hi,rfl⟩:=cO hb
   rw[aR] at hi
   have h3:=h2 (by omega)
   rw[aC,aG (by omega)] at h3
   rw[List.getElem_drop]
   have hpw:=List.pairwise_iff_getElem.1 hp
   have hne:n≠xs[k]'(by omega):=fun e=>hn (by rw[e];exact cS _)
   have h4:n<xs[k]'(by omega):=by
    have:n<=xs[k]'(by omega):=h3
    omega
   by_cases hi0:i=0
   ·subst hi0;exact h4
   ·have:=hpw k (k+i) (by omega) (by omega) (by omega)
    omega
  rw[List.pairwise_append,List.pairwise_append]
  refine⟨⟨hp1,by simp,fun a ha b hb=>?_⟩,hp2,fun a ha b hb=>?_⟩
  ·simp only[aO] at hb;subst hb;exact hlt a ha
  ·rcases aP.1 ha with h|h
   ·exact hp3 a h b hb
   ·simp only[aO] at h;subst h;exact hgt b hb
abbrev bHc(xs:List Int)(n:Int):Type:={ ys:List Int // ys.length=xs.length+1/\(∀ q,q∈ys↔q=n∨q∈xs)/\(xs.Pairwise (· < ·)->ys.Pairwise (· < ·)) }
theorem aJr{w0:World}{I:List Atom}{v:Value}{xs:List Int}{n:Int}[h:bK Int I v xs](hn:n∉xs)(hl:xs.length<=1000)(hi:-9223372036854775808<=n/\n<=9223372036854775807):CJ prog 328 [v,.int .i64 n] w0 I (fun p:Value×bHc xs n=>p.1) (fun p=>.ow [p.1] p.2.1::I):=by
 refine cL (A:=fun p:Value×bHc xs n=>[.ow [p.1] p.2.1]) (fun w1=>?_) (aE h fI) fun _=>inferInstance
 simp only[aA,aB]
 refine aK func328 ntmps328 ?_
 repeat' (first|refine aU ?_|fail)
 refine lc_ [5] [7,8,9,10,11,12,13,14,15,16,17,18,19,20] (Z:=Nat) (fun k=>[.int .i64 k]) (fun k=>k<=xs.length/\∀ i,i<k->xs.getD i 0<n) (fun k=>xs.length-k) 0 ⟨aI _,fun i hi=>by omega⟩ ?_
 intro k u l' hl' ⟨hk,hkk⟩
 simp only[bM,List.map,List.set] at hl'
 subst hl'
 have hnk:k<xs.length->xs.getD k 0≠n:=fun h e=>hn (by rw[← e];exact eD h)
 have htk:=aN (i:=(k:Int).toNat) (l:=xs)
 have hdk:=aR (i:=(k:Int).toNat) (l:=xs)
 repeat' (first|refine aU ?_|refine eF fun hbi=>?_|refine bP ?_|refine aW fun r=>?_|refine bG fun sv=>?_|refine bV fun hc=>?_|refine bW fun hc=>?_|refine aS (fun hc=>?_) fun hc=>?_|fail)
 ·refine eB (k+1) ⟨by omega,fun i hi=>?_⟩
  by_cases he:i=k
  ·rw[he];exact hc
  ·exact hkk i (by omega)
 all_goals
  rw[show((k:Int)).toNat=k from rfl]
  refine⟨(sv,⟨(xs.take k++[n])++xs.drop k,aMu hn hk hkk (fun h=>by omega)⟩),rfl,?_⟩
  show Ent _ _ [.ow [sv] ((xs.take k++[n])++xs.drop k),.rd [v] xs]
  exact aH
set_option linter.unusedVariables false
set_option linter.unusedSimpArgs false
set_option synthInstance.maxHeartbeats 400000
set_option synthInstance.maxSize 1000
theorem aN2{w0:World}{I:List Atom}{v:Value}{xs:List Int}{n:Int}[h:bK Int I v xs](hn:n∈xs)(hs:xs.Pairwise (· < ·)):CJ prog 328 [v,.int .i64 n] w0 I (fun _:Unit=>v) (fun _=>I):=by
 refine jV (fun w1=>?_) (aE h fI)
 refine dQ v fun hlx=>?_
 have hpw:=List.pairwise_iff_getElem.1 hs
 refine aK func328 ntmps328 ?_
 repeat' (first|refine aU ?_|fail)
 refine lc_ [5] [7,8,9,10,11,12,13,14,15,16,17,18,19,20] (Z:=Nat) (fun k=>[.int .i64 k]) (fun k=>k<=xs.length/\∀ i,i<k->xs.getD i 0<n) (fun k=>xs.length-k) 0 ⟨aI _,fun i hi=>by omega⟩ ?_
 intro k u l' hl' ⟨hk,hkk⟩
 simp only[bM,List.map,List.set] at hl'
 subst hl'
 have hin:k<xs.length/\(¬ xs.getD k 0<n->xs.getD k 0=n):=by
  obtain ⟨j,hj,hjn⟩:=cO hn
  have hjd:xs.getD j 0=n:=by rw[aC,aG hj];exact hjn
  have hkj:k<=j:=by
   by_cases h:j<k
   ·have:=hkk j h;omega
   ·omega
  refine⟨by omega,fun hge=>?_⟩
  by_cases he:k=j
  ·rw[he];exact hjd
  ·have:=hpw k j (by omega) hj (by omega)
   rw[aC,aG (by omega)] at hge ⊢
   simp only[aZ] at hge ⊢
   omega
 obtain ⟨hin1,hin2⟩:=hin
 repeat' (first|refine aU ?_|refine eF fun hbi=>?_|refine bP ?_|refine bV fun hc=>?_|refine bW fun hc=>?_|refine aS (fun hc=>?_) fun hc=>?_|fail)
 ·refine eB (k+1) ⟨by omega,fun i hi=>?_⟩
  by_cases he:i=k
  ·rw[he];exact hc
  ·exact hkk i (by omega)
 ·exact⟨(),rfl,aH⟩
abbrev aU2(xs:List Int)(n:Int):Type:={ ys:List Int // ys.Pairwise (· < ·)/\(∀ q,q∈ys↔q=n∨q∈xs)/\ys.length<=xs.length+1 }
theorem aDs{w0:World}{I Y:List Atom}{v:Value}{xs:List Int}{n:Int}[hp:cQ (List Int) bA I [v] xs Y](hs:xs.Pairwise (· < ·))(hl:xs.length<=1000)(hi:-9223372036854775808<=n/\n<=9223372036854775807):CJ prog 328 [v,.int .i64 n] w0 I (fun p:Value×aU2 xs n=>p.1) (fun p=>.ow [p.1] p.2.1::Y):=by
 refine eN hp.perm ?_
 intro w hw
 by_cases hn:n∈xs
 ·refine(aN2 (xs:=xs) hn hs w hw).mono fun e w' ⟨p,he,hs'⟩=>⟨(v,⟨xs,hs,fun q=>⟨fun h=>.inr h,fun h=>?_⟩,by omega⟩),he,hs'⟩
  rcases h with h|h
  ·rw[h];exact hn
  ·exact h
 ·refine(aJr (xs:=xs) hn hl hi w hw).mono fun e w' ⟨p,he,hs'⟩=>⟨(p.1,⟨p.2.1,p.2.2.2.2 hs,p.2.2.2.1,by have:=p.2.2.1;omega⟩),he,?_⟩
  have h2:Ent w0 (.ow [p.1] p.2.1::.ow [v] xs::Y) (.ow [p.1] p.2.1::Y):=aH
  exact h2 _ hs'
instance aH3{I Y:List Atom}{v:Value}{xs:List Int}{n:Int}[hp:cQ (List Int) bA I [v] xs Y] :
  bQ prog 328 [v,.int .i64 n] I ((xs.Pairwise (· < ·))/\(xs.length<=1000)/\(-9223372036854775808<=n/\n<=9223372036854775807)) (Value×aU2 xs n) (fun p:Value×aU2 xs n=>p.1) (fun p=>.ow [p.1] p.2.1::Y):=⟨fun s w0=>aDs s.1 s.2.1 s.2.2⟩
attribute [instance 2000] aH3
end Go.Proofs.YtajdgkpjbpindaaGreatDoor
