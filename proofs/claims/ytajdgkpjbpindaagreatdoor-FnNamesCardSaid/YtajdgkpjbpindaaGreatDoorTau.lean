/- Texts of the proof of FnNames. -/
import Derived.Test.YtajdgkpjbpindaaGreatDoorTaj
import Derived.Test.YtajdgkpjbpindaaGreatDoorTap
set_option linter.unusedVariables false
set_option linter.unusedSimpArgs false
set_option linter.unusedSectionVars false
namespace Go.Proofs.YtajdgkpjbpindaaGreatDoor
open Go Go.Eng Tryz
set_option synthInstance.maxHeartbeats 400000
set_option synthInstance.maxSize 1000
def tOk(a t:List Int):Bool:=decide (t.length=0)||bB a t
def jP(a:List Int)(ts:List (List Int)):Bool:=eA a&&(decide (ts.length<=24)&&ts.all (tOk a))
theorem aSp{a:List Int}{ts:List (List Int)}(h:eA a=false):jP a ts=false:=by unfold jP;rw[h];rfl
theorem aRo{a:List Int}{ts:List (List Int)}(h:24<ts.length):jP a ts=false:=by unfold jP;rw[decide_eq_false (by omega)];simp
theorem aA5{a:List Int}{ts:List (List Int)}{k:Nat}(hk:k<ts.length)(h:(ts.take k).all (tOk a)=true)(hn:tOk a (ts.getD k default)=true):(ts.take (k+1)).all (tOk a)=true:=by
 rw[bC hk,List.all_append,h]
 rw[aC,aG hk] at hn
 simpa using hn
theorem aR9{a:List Int}{ts:List (List Int)}{k:Nat}(hk:k<ts.length)(h0:¬ (ts.getD k default).length=0)(hn:bB a (ts.getD k default)=false):jP a ts=false:=by
 have:ts.all (tOk a)=false:=by
  rw[List.all_eq_false]
  refine⟨ts.getD k default,rM hk,?_⟩
  unfold tOk
  rw[hn,decide_eq_false h0]
  simp
 unfold jP
 rw[this]
 simp
theorem aTr{a:List Int}{ts:List (List Int)}(h:eA a=true)(hl:ts.length<=24)(ha:ts.all (tOk a)=true):jP a ts=true:=by
 unfold jP
 rw[h,decide_eq_true hl,ha];rfl
theorem aRk{a:List Int}{ts:List (List Int)}(h:jP a ts=true):∀ x∈ts,x.length<=60:=fun x hx=>by
 unfold jP at h
 rw[cN,cN,List.all_eq_true] at h
 have:=h.2.2 x hx
 unfold tOk at this
 rw[Bool.or_eq_true,decide_eq_true_eq] at this
 rcases this with h1|h1
 ·omega
 ·exact(aX h1).2
instance aR4{I:List Atom}{va v:Value}{a:List Int}{ts:List (List Int)}[h:bK Int I va a][h2:bK (List Int) I v ts] :
  bQ prog 287 [.agg #[va],.agg #[v]] I True Unit (fun _:Unit=>.bool (jP a ts)) (fun _=>I):=⟨fun _ w0=>by
 refine jV (fun w1=>?_) (aE h (aE h2 fI))
 refine dQ v fun hlx=>?_
 refine aK func287 ntmps287 ?_
 repeat' (first|refine aU ?_|refine cV fun r hr=>?_|refine aW fun r=>?_|refine bT fun b=>?_|refine bV fun hc=>?_|refine bW fun hc=>?_|refine aS (fun hc=>?_) fun hc=>?_|fail)
 ·exact⟨(),bO (aSp hc),aH⟩
 ·exact⟨(),bO (aRo (by omega)),aH⟩
 refine lc_ [5] [15,16,17,18,19,22,23,24,25,26,27,28,29,30,31,32,33,34,35,36,37,38,4,20,21] (Z:=Nat) (fun k=>[.int .i64 k]) (fun k=>k<=ts.length/\(ts.take k).all (tOk a)=true) (fun k=>ts.length-k) 0 ⟨aI _,rfl⟩ ?_
 intro k u l' hl' ⟨hk,hkk⟩
 simp only[bM,List.map,List.set] at hl'
 subst hl'
 repeat' (first|refine aU ?_|refine bP ?_|refine bV fun hc=>?_|refine bW fun hc=>?_|refine aS (fun hc=>?_) fun hc=>?_|refine cV fun r hr=>?_|refine aW fun r=>?_|refine wN 6 [] ?_|refine xp ?_|(refine xd fun p c d e f g h hf=>?_;simp only[Un.cells,Un.atoms,Un.fact,aA,aB] at f g h hf;subst f g h)|refine xg ?_|refine xn ?_|refine pM fun hc=>?_|refine pN fun hc=>?_|refine xi (fun hc=>?_) fun hc=>?_|refine xy ?_|refine bI ?_|fail)
 ·exact⟨(),bO (aR9 (k:=k) (by omega) (by omega) hc),aH⟩
 ·exact eB (k+1) ⟨by omega,aA5 (by omega) hkk (by unfold tOk;rw[hc];simp)⟩
 ·exact eB (k+1) ⟨by omega,aA5 (by omega) hkk (by unfold tOk;rw[decide_eq_true (by omega)];rfl)⟩
 ·rw[bE (by omega)] at hkk
  exact⟨(),bO (aTr ‹_› (by omega) hkk),aH⟩⟩
instance bM7{I:List Atom}{va vt:Value}{a t:List Int}{at_:Int}{m:Nat}[hm:fJ at_ m][h0:bK Int I va a][h1:eK Int I vt t] :
  bQ prog 289 [.agg #[va],vt,.int .i64 at_] I (bB a t=true/\0<=at_/\at_<t.length) (Value) (fun q:Value=>q) (fun q=>.ow [q] (eX a t m)::I):=⟨fun hs w0=>by
 obtain ⟨hs1,hs2,hs3⟩:=hs
 refine aK func289 ntmps289 ?_
 repeat' (first|refine aU ?_|refine cV fun r hr=>?_|refine aW fun r=>?_|refine bG fun sv=>?_|refine bT fun b=>?_|refine bV fun hc=>?_|refine bW fun hc=>?_|refine aS (fun hc=>?_) fun hc=>?_|fail)
 ·rw[hs1] at hc;cases hc
 ·exact⟨_,rfl,aH⟩⟩
instance bIe{I:List Atom}{va vt:Value}{a t:List Int}{at_:Int}[h0:bK Int I va a][h1:bK Int I vt t] :
  bQ prog 189 [.agg #[va],vt,.int .i64 at_] I True Unit (fun _:Unit=>.bool (bB a t&&decide (0<=at_/\at_<t.length))) (fun q=>I):=⟨fun _ w0=>by
 refine aK func189 ntmps189 ?_
 repeat' (first|refine aU ?_|refine cV fun r hr=>?_|refine aW fun r=>?_|refine bT fun b=>?_|refine bV fun hc=>?_|refine bW fun hc=>?_|refine aS (fun hc=>?_) fun hc=>?_|fail)
 ·exact⟨(),bO (by rw[hc];rfl),aH⟩
 ·exact⟨(),bO (by rw[hc];rfl),aH⟩⟩
abbrev bGx:Type:={ q:Value×List Int×Bool // q.2.2=true->q.2.1.length<=60 }
theorem aVl{a t u:List Int}{k:Nat}(h:(lN a t k u).isSome=true):((lN a t k u).getD []).length<=60:=by
 unfold lN at h ⊢
 split
 ·rename_i h1;simpa using h1
 ·simp
instance bMx{I:List Atom}{va vt vu:Value}{a t u:List Int}{at_:Int}[h0:bK Int I va a][h1:bK Int I vt t][h2:bK Int I vu u] :
  bQ prog 320 [.agg #[va],vt,.int .i64 at_,vu] I True bGx (fun q:bGx=>.tuple #[q.1.1,.bool q.1.2.2]) (fun q=>.ow [q.1.1] q.1.2.1::I):=⟨fun _ w0=>by
 refine aK func320 ntmps320 ?_
 repeat' (first|refine aU ?_|refine cV fun r hr=>?_|refine aW fun r=>?_|refine bG fun sv=>?_|refine bT fun b=>?_|refine bV fun hc=>?_|refine bW fun hc=>?_|refine aS (fun hc=>?_) fun hc=>?_|fail)
 ·exact⟨⟨(sv,[],false),fun h=>by cases h⟩,rfl,aH⟩
 ·exact⟨⟨(sv,[],false),fun h=>by cases h⟩,rfl,aH⟩
 ·obtain ⟨hc1,hc2,hc3⟩:=(‹bB a t=true/\0<=at_/\at_<t.length›)
  have hul:=aX hc
  have hul2:=hul.2
  repeat' (first|refine aU ?_|refine cV fun r hr=>?_|refine aW fun r=>?_|fail)
  exact⟨⟨(r,(lN a t at_.toNat u).getD [],(lN a t at_.toNat u).isSome),fun h=>aVl h⟩,rfl,aH⟩⟩
instance aUu{I:List Atom}{va v vt:Value}{a t:List Int}{ts:List (List Int)}[h:bK Int I va a][h2:bK (List Int) I v ts][h3:bK Int I vt t] :
  bQ prog 288 [.agg #[va],.agg #[v],vt] I True Value (fun q:Value=>.tuple #[q,.bool (if jP a ts=true/\bB a t=true then iC ts t else none).isSome]) (fun q=>.ow [q] ((if jP a ts=true/\bB a t=true then iC ts t else none).getD [])::I):=⟨fun _ w0=>by
 refine aK func288 ntmps288 ?_
 repeat' (first|refine aU ?_|refine cV fun r hr=>?_|refine aW fun r=>?_|refine bG fun sv=>?_|refine bT fun b=>?_|refine bV fun hc=>?_|refine bW fun hc=>?_|refine aS (fun hc=>?_) fun hc=>?_|fail)
 ·rw[if_neg (fun h=>by rw[hc] at h;cases h.1)]
  simp only[cK,cC]
  exact⟨_,rfl,aH⟩
 ·rw[if_neg (fun h=>by rw[hc] at h;cases h.2)]
  simp only[cK,cC]
  exact⟨_,rfl,aH⟩
 ·have hc1:=(‹jP a ts=true›)
  have htl:=(aX hc).2
  have hv:∀ n∈t,-24<=n:=fun n hn=>(jG hc hn).1
  have hl:=aRk hc1
  rw[if_pos ⟨hc1,hc⟩]
  refine aW (fun r=>?_) ⟨hl,htl,hv⟩
  repeat' (first|refine aU ?_|fail)
  exact⟨_,rfl,aH⟩⟩
end Go.Proofs.YtajdgkpjbpindaaGreatDoor
