/- Texts of the proof of FnNames. -/
import Derived.Test.YtajdgkpjbpindaaGreatDoorTac
set_option linter.unusedVariables false
set_option linter.unusedSimpArgs false
set_option linter.unusedSectionVars false
namespace Go.Proofs.YtajdgkpjbpindaaGreatDoor
open Go Go.Eng
noncomputable def aGm(p:Prop):Bool:=@decide p (Classical.propDecidable p)
theorem aCb{p:Prop}:aGm p=true↔p:=by unfold aGm;exact @decide_eq_true_iff p (Classical.propDecidable p)
theorem aW9{p:Prop}(h:p):aGm p=true:=aCb.2 h
theorem aVd{p:Prop}(h:¬ p):aGm p=false:=by
 cases e:aGm p
 ·rfl
 ·exact absurd (aCb.1 e) h
instance {p:Prop}:jB (aGm p) p:=⟨aCb⟩
instance {p:Prop}:jQ (aGm p) (¬ p):=⟨⟨fun h hp=>(by rw[aW9 hp] at h;cases h),aVd⟩⟩
end Go.Proofs.YtajdgkpjbpindaaGreatDoor
namespace Go.Proofs.YtajdgkpjbpindaaGreatDoor
open Go Go.Eng Tryz
set_option synthInstance.maxHeartbeats 400000
set_option synthInstance.maxSize 1000
def bLl(t:List Int)(k:Nat):Prop:=∀ i,i<k->t.getD i 0<0->t.getD i 0∉t.take i
def oV(t:List Int)(n:Int):Nat->Nat
 | 0=>0
 | k+1=>oV t n k+if t.getD k 0=n then 1 else 0
theorem aPp(t:List Int)(n:Int):∀ k,oV t n k<=k
 | 0=>aM _
 | k+1=>by
  have:=aPp t n k
  unfold oV
  split<;>omega
theorem aAf{t:List Int}{n:Int}:∀ {k:Nat},k<=t.length->(1<=oV t n k↔n∈t.take k)
 | 0,_=>by simp [oV]
 | k+1,h=>by
  rw[jM (by omega),← aAf (by omega)]
  show 1<=oV t n k+(if t.getD k 0=n then 1 else 0)↔_
  split
  ·rename_i e;exact⟨fun _=>.inr e.symm,fun _=>by omega⟩
  ·rename_i e;exact⟨fun h=>.inl (by omega),fun h=>h.elim (fun h=>by omega) (fun h=>absurd h.symm e)⟩
theorem aPl{t:List Int}:bLl t t.length↔∀ i,i<t.length->t.getD i 0<0->oV t (t.getD i 0) t.length<=1:=by
 constructor
 ·intro h i hi h0
  have key:∀ k,k<=t.length->oV t (t.getD i 0) k<=1:=fun k=>by
   induction k with
   | zero=>intro _;exact aI _
   | succ k ih=>
    intro hk
    have h1:=ih (by omega)
    show oV t (t.getD i 0) k+(if t.getD k 0=t.getD i 0 then 1 else 0)<=1
    split
    ·rename_i e
     have h2:=h k (by omega) (by rw[e];exact h0)
     rw[e] at h2
     have h3:¬ 1<=oV t (t.getD i 0) k:=fun h4=>h2 ((aAf (t:=t) (n:=t.getD i 0) (k:=k) (by omega)).1 h4)
     omega
    ·omega
  exact key _ (aM _)
 ·intro h i hi h0 hm
  have h1:=h i hi h0
  have h2:=(aAf (t:=t) (n:=t.getD i 0) (k:=i) (by omega)).2 hm
  have key:∀ j,i+1+j<=t.length->2<=oV t (t.getD i 0) (i+1+j):=fun j=>by
   induction j with
   | zero=>
    intro _
    show 2<=oV t (t.getD i 0) i+_
    rw[if_pos rfl];omega
   | succ j ih=>
    intro hj
    have:=ih (by omega)
    show 2<=oV t (t.getD i 0) (i+1+j)+_
    split<;>omega
  have:=key (t.length-(i+1)) (by omega)
  rw[show i+1+(t.length-(i+1))=t.length by omega] at this
  omega
instance bHp{I:List Atom}{v:Value}{t:List Int}{n:Int}[h:bK Int I v t] :
  bQ prog 303 [v,.int .i64 n] I (t.length<=1048576) (Unit) (fun _:Unit=>.int .i64 (oV t n t.length:Nat)) (fun _=>I):=⟨fun hl w0=>by
 refine jV (fun w1=>?_) (aE h fI)
 refine aK func303 ntmps303 ?_
 repeat' (first|refine aU ?_|fail)
 refine lc_ [5,6] [7,8,9,10,13,14,15,16,17,18,19,20,11,12] (Z:=Nat) (fun k=>[.int .i64 (oV t n k:Nat),.int .i64 k]) (fun k=>k<=t.length) (fun k=>t.length-k) 0 (aI _) ?_
 intro k u l' hl' hk
 simp only[bM,List.map,List.set] at hl'
 subst hl'
 have hle:=aPp t n k
 repeat' (first|refine aU ?_|refine eF fun hbi=>?_|refine bP ?_|refine bV fun hc=>?_|refine bW fun hc=>?_|refine aS (fun hc=>?_) fun hc=>?_|fail)
 ·have e:oV t n (k+1)=oV t n k+1:=by show _+_=_;rw[if_pos hc]
  refine dH (k+1) (by omega) (by omega) ?_ aH
  rw[e]
  kernel_rfl
 ·have e:oV t n (k+1)=oV t n k:=by show _+_=_;rw[if_neg hc];rfl
  refine dH (k+1) (by omega) (by omega) ?_ aH
  rw[e]
  kernel_rfl
 ·exact⟨(),iG (by rw[show k=t.length by omega]),aH⟩⟩
instance bFc{I:List Atom}{v:Value}{t:List Int}[h:bK Int I v t] :
  bQ prog 247 [v] I (t.length<=1048576) (Unit) (fun _:Unit=>.bool (aGm (bLl t t.length))) (fun _=>I):=⟨fun hl w0=>by
 refine jV (fun w1=>?_) (aE h fI)
 refine aK func247 ntmps247 ?_
 repeat' (first|refine aU ?_|fail)
 refine lc_ [3] [4,5,6,7,10,11,12,13,14,15,16,17,18,19,20,21,22,23,2,8,9] (Z:=Nat) (fun k=>[.int .i64 k]) (fun k=>k<=t.length/\∀ i,i<k->t.getD i 0<0->oV t (t.getD i 0) t.length<=1) (fun k=>t.length-k) 0 ⟨aI _,fun i hi=>by omega⟩ ?_
 intro k u l' hl' ⟨hk,hkk⟩
 simp only[bM,List.map,List.set] at hl'
 subst hl'
 repeat' (first|refine aU ?_|refine eF fun hbi=>?_|refine bP ?_|refine aW fun r=>?_|refine bV fun hc=>?_|refine bW fun hc=>?_|refine aS (fun hc=>?_) fun hc=>?_|fail)
 ·exact⟨(),bO (aVd fun h=>by have:=aPl.1 h k (by omega) (by omega);omega),aH⟩
 ·refine eB (k+1) ⟨by omega,fun i hi h0=>?_⟩
  by_cases e:i=k
  ·rw[e];omega
  ·exact hkk i (by omega) h0
 ·refine eB (k+1) ⟨by omega,fun i hi h0=>?_⟩
  by_cases e:i=k
  ·rw[e] at h0;omega
  ·exact hkk i (by omega) h0
 ·exact⟨(),bO (aW9 (aPl.2 (by rw[show t.length=k by omega] at hkk ⊢;exact hkk))),aH⟩⟩
end Go.Proofs.YtajdgkpjbpindaaGreatDoor
