/- Texts of the proof of FnNames. -/
import Derived.Test.YtajdgkpjbpindaaGreatDoorTaw
import Derived.Test.YtajdgkpjbpindaaGreatDoorTag
set_option linter.unusedVariables false
set_option linter.unusedSimpArgs false
set_option linter.unusedSectionVars false
namespace Go.Proofs.YtajdgkpjbpindaaGreatDoor
open Go Go.Eng Tryz
set_option synthInstance.maxHeartbeats 400000
set_option synthInstance.maxSize 1000
set_option maxHeartbeats 4000000
set_option maxRecDepth 20000
theorem bEn{p q:Prop}[d:Decidable p](h:q↔p):kZ q=decide p:=by
 by_cases hp:p
 ·rw[decide_eq_true hp,hZ (h.2 hp)]
 ·rw[decide_eq_false hp,eV fun hq=>hp (h.1 hq)]
structure L9P(x:aQ)(t:List Int)(n:Int):Prop where
 ok:eE x=true
 tm:bB x.1 t=true
 n:0<=n/\n<=20
instance bGg{I:List Atom}{v0 v1 v:Value}{x:aQ}{t:List Int}{n:Int}[h0:bK Int I v0 x.1][h1:bK cM I v1 x.2][h2:bK Int I v t] :
  bQ prog 253 [.agg #[v0,v1],v,.int .i64 n] I True Unit (fun _:Unit=>.bool (kZ (L9P x t n))) (fun _=>I):=⟨fun _ w0=>by
 refine jV (fun w1=>?_) (aE h0 (aE h1 (aE h2 fI)))
 refine aK func253 ntmps253 ?_
 repeat' (first|refine aU ?_|refine cV fun r hr=>?_|refine aW fun r=>?_|refine bT fun b=>?_|refine bV fun hc=>?_|refine bW fun hc=>?_|refine aS (fun hc=>?_) fun hc=>?_|fail)
 ·exact⟨(),bO (bEn ⟨fun h=>h.n,fun h=>⟨hc.1,hc.2,h⟩⟩),aH⟩
 ·exact⟨(),bO (eV fun h=>hc ⟨h.ok,h.tm⟩),aH⟩⟩
theorem oH{w0:World}{I:List Atom}{v v1:Value}{xs:List (List Int)}{t:List Int}[h:bK (List Int) I v xs][h1:bK Int I v1 t] :
  CJ prog 255 [v,v1] w0 I (fun q:{ n:Int // -1<=n/\n<xs.length }=>.int .i64 q.1) (fun _=>I):=by
 refine jV (fun w1=>?_) (aE h (aE h1 fI))
 refine dQ v fun hlx=>?_
 refine aK func255 ntmps255 ?_
 repeat' (first|refine aU ?_|fail)
 refine lc_ [5] [6,7,8,9,12,13,14,15,16,17,18,4,10,11] (Z:=Nat) (fun k=>[.int .i64 k]) (fun k=>k<=xs.length) (fun k=>xs.length-k) 0 (aI _) ?_
 intro k u l' hl' hk
 simp only[bM,List.map,List.set] at hl'
 subst hl'
 by_cases hkl:k<xs.length
 ·repeat' (first|refine aU ?_|refine bP ?_|refine cV fun r hr=>?_|refine aW fun r=>?_|(refine iH fun p c d f g hf=>?_;simp only[Un.cells,Un.atoms,Un.fact,aA,aB] at f g hf;subst f g)|refine bV fun hc=>?_|refine bW fun hc=>?_|refine aS (fun hc=>?_) fun hc=>?_|fail)
  ·exact⟨⟨(k:Int),by omega⟩,rfl,aH⟩
  ·exact eB (k+1) (by omega)
 ·repeat' (first|refine aU ?_|refine bV fun hc=>?_|refine bW fun hc=>?_|refine aS (fun hc=>?_) fun hc=>?_|fail)
  exact⟨⟨-1,by omega⟩,rfl,aH⟩
instance aRu{I:List Atom}{v v1:Value}{xs:List (List Int)}{t:List Int}[h:bK (List Int) I v xs][h1:bK Int I v1 t] :
  bQ prog 255 [v,v1] I (True) ({ n:Int // -1<=n/\n<xs.length }) (fun q:{ n:Int // -1<=n/\n<xs.length }=>.int .i64 q.1) (fun _=>I):=⟨fun s w0=>oH⟩
instance aPi{I:List Atom}{v v1:Value}{xs:List (Sh (List Int))}{t:List Int}[h:bK (Sh (List Int)) I v xs][h1:bK Int I v1 t] :
  bQ prog 255 [v,v1] I True { n:Int // -1<=n/\n<(xs.map Sh.v).length } (fun q=>.int .i64 q.1) (fun _=>I):=⟨fun _ w0=>by
 haveI:=aY5 h
 exact oH⟩
structure FdI(x:aQ)(ts:List (List Int))(fs:List Int)(bs:List eW)(ds:List Int):Prop where
 n:1<=ts.length/\ts.length<=60
 lf:fs.length=ts.length
 lb:bs.length=ts.length
 ld:ds.length=ts.length
 tm:∀ t∈ts,bB x.1 t=true
 fr:∀ i,i<fs.length->-1<=fs.getD i 0/\fs.getD i 0<i
 by':∀ s∈bs,s.2.2.length<=60
 dp:∀ i,i<ds.length->0<=ds.getD i 0/\ds.getD i 0<=i
theorem aE9{V:Type}[Inhabited V]{xs:List V}{y:V}{i:Nat}{d:V}:(xs++[y]).getD i d=if i<xs.length then xs.getD i d else if i=xs.length then y else d:=by
 rw[aC,aC,List.getElem?_append]
 by_cases h:i<xs.length
 ·rw[if_pos h,if_pos h]
 ·rw[if_neg h,if_neg h]
  by_cases h2:i=xs.length
  ·rw[if_pos h2,h2,Nat.sub_self];rfl
  ·rw[if_neg h2,dA (by simp only[aJ];omega)];rfl
theorem bCr{x:aQ}{ts:List (List Int)}{fs:List Int}{bs:List eW}{ds:List Int}{i:Nat}{s:eW}(h:FdI x ts fs bs ds)(hi:i<ts.length)(hn:ts.length<60)(hs:bB x.1 s.2.2=true):FdI x (ts++[s.2.2]) (fs++[(i:Int)]) (bs++[s]) (ds++[ds.getD i 0+1]):=by
 obtain ⟨h1,h2,h3,h4,h5,h6,h7,h8⟩:=h
 have hl:=aX hs
 have hd:=h8 i (by omega)
 refine⟨by simp only[aD,aJ];omega,by simp only[aD,aJ];omega,by simp only[aD,aJ];omega,by simp only[aD,aJ];omega,fun t ht=>?_,fun j hj=>?_,fun t ht=>?_,fun j hj=>?_⟩
 ·rcases aP.1 ht with h|h
  ·exact h5 t h
  ·rw[aO] at h;rw[h];exact hs
 ·rw[aE9]
  split
  ·exact h6 j (by assumption)
  ·split<;>omega
 ·rcases aP.1 ht with h|h
  ·exact h7 t h
  ·rw[aO] at h;rw[h];omega
 ·rw[aE9]
  split
  ·exact h8 j (by assumption)
  ·split<;>omega
theorem aZy{x:aQ}{t:List Int}(ht:bB x.1 t=true):FdI x [t] [-1] [(0,0,[])] [0]:=⟨by simp,rfl,rfl,rfl,fun u hu=>by rw[aO] at hu;rw[hu];exact ht,fun i hi=>by
 have:i=0:=by simpa using hi
 subst this;decide,fun s hs=>by rw[aO] at hs;rw[hs];simp,fun i hi=>by
 have:i=0:=by simpa using hi
 subst this;decide⟩
theorem bHs{V:Type}[Inhabited V]{ts:List V}{k:Nat}(h:k<ts.length):((ts.map Sh.mk).getD k default).v=ts.getD k default:=by
 rw[aC,List.getElem?_map,aC,aG h];rfl
abbrev FdV:Type:=List (List Int)×List Int×List eW×List Int
abbrev FdT(x:aQ):Type:={ q:FdV×Bool // FdI x q.1.1 q.1.2.1 q.1.2.2.1 q.1.2.2.2 }
abbrev V4:Type:=Value×Value×Value×Value
instance bLi {I : List Atom} {v0 v1 v : Value} {x : aQ} {t : List Int} {n : Int} [h0 : fK (List Int) bA I [v0] x.1] [h1 : fK (List cM) bA I [v1] x.2] [h2 : fK (List Int) bA I [v] t] :
    bQ Tryz.prog 254 [.agg #[v0, v1], v, .int .i64 n] I (L9P x t n) (V4 × FdT x) (fun q : V4 × FdT x => .agg #[q.1.1, q.1.2.1, q.1.2.2.1, q.1.2.2.2, .bool q.2.1.2]) (fun q => .rd [q.1.1] q.2.1.1.1 :: .rd [q.1.2.1] q.2.1.1.2.1 :: .rd [q.1.2.2.1] q.2.1.1.2.2.1 :: .rd [q.1.2.2.2] q.2.1.1.2.2.2 :: I) := ⟨fun hs w0 => by
  obtain ⟨hok, htm, hn⟩ := hs
  have htl := aX htm
  refine aK Tryz.func254 Tryz.ntmps254 ?_
  repeat' (first | refine aU ?_ | refine cV fun r hr => ?_ | refine aW fun r => ?_ | refine bG fun sv => ?_ | refine bT fun b => ?_ | fail)
  rename_i tv fv bv
  refine wB tv ?_
  refine wB bv ?_
  simp only [List.map_cons, List.map_nil]
  refine bD [8] [19, 20, 21, 22, 23, 26, 27, 28, 29, 30, 31, 32, 33, 34, 35, 36, 37, 38, 39, 9, 10, 40, 41, 42, 43, 46, 47, 48, 49, 50, 51, 52, 53, 54, 55, 56, 57, 58, 59, 60, 61, 62, 63, 64, 65, 66, 67, 68, 69, 70, 71, 72, 73, 74, 75, 76, 77, 78, 79, 80, 81, 82, 83, 84, 85, 86, 87, 88, 89, 90, 91, 92, 93, 94, 95, 96, 44, 45, 24, 25] (Z := (V4 × FdV) × Nat) (fun k => [.int .i64 k.2]) (fun k => [.bk b [k.1.1.1, k.1.1.2.1, k.1.1.2.2.1, k.1.1.2.2.2, .bool true], .ow [k.1.1.1] (k.1.2.1.map Sh.mk), .ow [k.1.1.2.1] k.1.2.2.1, .ow [k.1.1.2.2.1] (k.1.2.2.2.1.map Sh.mk), .ow [k.1.1.2.2.2] k.1.2.2.2.2]) (fun k => k.2 <= k.1.2.1.length /\ FdI x k.1.2.1 k.1.2.2.1 k.1.2.2.2.1 k.1.2.2.2.2) (fun k => 60 - k.2) (((tv, fv, bv, sv), ([t], [-1], [(0, 0, [])], [0])), 0) [.bk b [tv, fv, bv, sv, .bool true], .ow [tv] [Sh.mk t], .ow [fv] [-1], .ow [bv] [Sh.mk ((0, 0, []) : eW)], .ow [sv] [0]] (by kernel_rfl) ⟨Nat.zero_le _, aZy htm⟩ rfl ?_
  intro ⟨⟨⟨tv, fv, bv, dv⟩, ⟨ts, fs, bs, ds⟩⟩, i⟩ u l' hl' ⟨hi, hF⟩
  simp only [bM, List.map_cons, List.map_nil, List.set_cons_zero, List.set_cons_succ] at hl'
  subst hl'
  simp only [List.cons_append, List.nil_append] at hi hF ⊢
  have hom : (List.map Sh.mk ts).length = ts.length := List.length_map ..
  have hnn := hF.n
  have hll := hF.ld
  by_cases hil : i < ts.length
  · have hti := hF.tm _ (dX hil)
    have htil := aX hti
    have hdi := hF.dp i (by omega)
    repeat' (first | refine aU ?_ | refine eF fun hbi => ?_ | refine bP ?_ | refine bV fun hc => ?_ | refine bW fun hc => ?_ | refine aS (fun hc => ?_) fun hc => ?_ | fail)
    · exact dH (((tv, fv, bv, dv), (ts, fs, bs, ds)), i + 1) ⟨by simp only; omega, hF⟩ (by simp only; omega) (by kernel_rfl) aH
    · have hti2 : bB x.1 ((List.map Sh.mk ts).getD ((i : Nat) : Int).toNat default).v = true := by rw [Int.toNat_natCast, bHs hil]; exact hti
      repeat' (first | refine aU ?_ | refine bG fun sv => ?_ | refine cV fun r hr => ?_ | refine aW fun r => ?_ | refine wb 6 [] ?_ | refine xp ?_ | refine xy ?_ | refine bI ?_ | fail)
      simp only [Int.toNat_natCast, bHs hil]
      have hls : ∀ s ∈ gS x (ts.getD i default) (ts.getD i default).length, bB x.1 s.2.2 = true := fun s hs => by
        obtain ⟨a, c, ha, hc, he⟩ := uJ hs
        exact zU hok hti ha hc he
      have hlc : (gS x (ts.getD i default) (ts.getD i default).length).length <= 720 := by
        have h1 := pX x (ts.getD i default) 12 (eM.1 hok).1.2 (ts.getD i default).length
        omega
      refine fC r ?_
      generalize gS x (ts.getD i default) (ts.getD i default).length = ls at hls hlc ⊢
      clear hti2 hbi hdi htil hti hnn hll hom
      refine bD [10] [40, 41, 42, 43, 46, 47, 48, 49, 50, 51, 52, 53, 54, 55, 56, 57, 58, 59, 60, 61, 62, 63, 64, 65, 66, 67, 68, 69, 70, 71, 72, 73, 74, 75, 76, 77, 78, 79, 80, 81, 82, 83, 84, 85, 86, 87, 88, 89, 90, 91, 92, 93, 94, 95, 96, 44, 45] (Z := (V4 × FdV) × Nat) (fun k => [.int .i64 k.2]) (fun k => [.bk b [k.1.1.1, k.1.1.2.1, k.1.1.2.2.1, k.1.1.2.2.2, .bool true], .ow [k.1.1.1] (k.1.2.1.map Sh.mk), .ow [k.1.1.2.1] k.1.2.2.1, .ow [k.1.1.2.2.1] (k.1.2.2.2.1.map Sh.mk), .ow [k.1.1.2.2.2] k.1.2.2.2.2]) (fun k => k.2 <= ls.length /\ i < k.1.2.1.length /\ FdI x k.1.2.1 k.1.2.2.1 k.1.2.2.2.1 k.1.2.2.2.2) (fun k => ls.length - k.2) (((tv, fv, bv, dv), (ts, fs, bs, ds)), 0) [.bk b [tv, fv, bv, dv, .bool true], .ow [tv] (ts.map Sh.mk), .ow [fv] fs, .ow [bv] (bs.map Sh.mk), .ow [dv] ds] (by kernel_rfl) ⟨Nat.zero_le _, hil, hF⟩ rfl ?_
      intro ⟨⟨⟨tv, fv, bv, dv⟩, ⟨ts, fs, bs, ds⟩⟩, k⟩ u l' hl' ⟨hk, hil, hF⟩
      simp only [bM, List.map_cons, List.map_nil, List.set_cons_zero, List.set_cons_succ] at hl'
      subst hl'
      simp only [List.cons_append, List.nil_append] at hk hil hF ⊢
      have hom : (List.map Sh.mk ts).length = ts.length := List.length_map ..
      have hob : (List.map Sh.mk bs).length = bs.length := List.length_map ..
      have hnn := hF.n
      have hll := hF.ld
      have hlf := hF.lf
      have hlb := hF.lb
      by_cases hkl : k < ls.length
      · have hdi := hF.dp i (by omega)
        have hsk := hls _ (dX hkl)
        repeat' (first | refine aU ?_ | refine bP ?_ | refine bG fun sv => ?_ | refine bV fun hc => ?_ | refine bW fun hc => ?_ | refine aS (fun hc => ?_) fun hc => ?_ | refine cV fun r hr => ?_ | refine aW fun r => ?_ | refine wb 10 [] ?_ | refine wb 14 [8, 10] ?_ | refine xp ?_ | refine x0 ?_ | (refine xd fun p cs as_ asb_ hcs has hasb hf => ?_; simp only [Un.cells, Un.atoms, Un.fact, List.cons_append, List.nil_append] at hcs has hasb hf; subst hcs has hasb) | refine xy ?_ | refine bI ?_ | fail)
        · exact dH (((tv, fv, bv, dv), (ts, fs, bs, ds)), k + 1) ⟨by simp only; omega, hil, hF⟩ (by simp only; omega) (by kernel_rfl) aH
        · exact ⟨((tv, fv, bv, dv), ⟨((ts, fs, bs, ds), false), hF⟩), rfl, iN (ys := ts) tv (iN (ys := bs) bv (dJ fv (dJ dv aH)))⟩
        · haveI hi1 : I6 (ls.getD k default).1 := ⟨hf.1⟩
          haveI hi2 : I6 (ls.getD k default).2.1 := ⟨hf.2.1⟩
          rename Value => fv2
          rename_i tv2
          repeat' (first | refine aU ?_ | refine bP ?_ | refine bG fun sv => ?_ | refine wb 16 [7, 9] ?_ | refine wb 17 [9, 11] ?_ | refine xf fun hbi => ?_ | refine xp ?_ | refine x0 ?_ | refine xy ?_ | refine bI ?_ | fail)
          rename Value => dv2
          rename_i bv2
          exact dH (((tv2, fv2, bv2, dv2), (ts ++ [(ls.getD k default).2.2], fs ++ [(i : Int)], bs ++ [((ls.getD k default).1, (ls.getD k default).2.1, (ls.getD k default).2.2)], ds ++ [ds.getD i 0 + 1])), k + 1) ⟨by simp only; omega, by simp only [List.length_append]; omega, bCr (s := ((ls.getD k default).1, (ls.getD k default).2.1, (ls.getD k default).2.2)) hF hil (by omega) hsk⟩ (by simp only; omega) (by kernel_rfl) (by simp only [← List.map_append]; exact aH)
      · repeat' (first | refine aU ?_ | refine bP ?_ | refine bV fun hc => ?_ | refine bW fun hc => ?_ | refine aS (fun hc => ?_) fun hc => ?_ | fail)
        exact dH (((tv, fv, bv, dv), (ts, fs, bs, ds)), i + 1) ⟨by simp only; omega, hF⟩ (by simp only; omega) (by kernel_rfl) aH
  · repeat' (first | refine aU ?_ | refine bV fun hc => ?_ | refine bW fun hc => ?_ | refine aS (fun hc => ?_) fun hc => ?_ | fail)
    exact ⟨((tv, fv, bv, dv), ⟨((ts, fs, bs, ds), true), hF⟩), rfl, iN (ys := ts) tv (iN (ys := bs) bv (dJ fv (dJ dv aH)))⟩⟩
abbrev TsT(x:aQ):Type:={ ts:List (List Int)×Bool // ts.1.length<=60/\∀ t∈ts.1,bB x.1 t=true }
instance bHx{I:List Atom}{v0 v1 v:Value}{x:aQ}{t:List Int}{n:Int}[h0:eK Int I v0 x.1][h1:eK cM I v1 x.2][h2:eK Int I v t] :
  bQ prog 262 [.agg #[v0,v1],v,.int .i64 n] I (True) (Value×TsT x) (fun q:Value×TsT x=>.tuple #[q.1,.bool q.2.1.2]) (fun q=>.ow [q.1] q.2.1.1::I):=⟨fun _ w0=>by
 refine aK func262 ntmps262 ?_
 repeat' (first|refine aU ?_|refine cV fun r hr=>?_|refine aW fun r=>?_|refine bG fun sv=>?_|refine bT fun b=>?_|refine bV fun hc=>?_|refine bW fun hc=>?_|refine aS (fun hc=>?_) fun hc=>?_|fail)
 ·exact⟨(sv,⟨([],false),aI _,fun t ht=>absurd ht (by simp)⟩),rfl,aH⟩
 have hF:=r.2.2
 have hn1:r.2.1.1.1.length<=1048576:=by have:=hF.n;omega
 have hn2:∀ t∈r.2.1.1.1,t.length<=1048576:=fun t ht=>by have:=aX (hF.tm t ht);omega
 rename V4×FdT x=>f
 repeat' (first|refine aU ?_|refine cV fun r hr=>?_|refine aW fun r=>?_|refine wb 4 [] ?_|refine xp ?_|refine xy ?_|refine bI ?_|fail)
 exact⟨(r,⟨(f.2.1.1.1,f.2.1.2),hF.n.2,hF.tm⟩),rfl,aH⟩⟩
instance bAc{I:List Atom}{v0 v1 v:Value}{x:aQ}{t:List Int}{n:Int}[h0:eK Int I v0 x.1][h1:eK cM I v1 x.2][h2:eK Int I v t] :
  bQ prog 188 [.agg #[v0,v1],v,.int .i64 n] I (True) (Value×TsT x) (fun q:Value×TsT x=>q.1) (fun q=>.ow [q.1] q.2.1.1::I):=⟨fun _ w0=>by
 refine aK func188 ntmps188 ?_
 repeat' (first|refine aU ?_|refine cV fun r hr=>?_|refine aW fun r=>?_|refine bG fun sv=>?_|refine bT fun b=>?_|refine bV fun hc=>?_|refine bW fun hc=>?_|refine aS (fun hc=>?_) fun hc=>?_|fail)
 ·exact⟨(sv,⟨([],false),aI _,fun t ht=>absurd ht (by simp)⟩),rfl,aH⟩
 have hF:=r.2.2
 have hn:=hF.n
 rename V4×FdT x=>f
 refine lp_ [7,9] [21,22,23,24,25,28,29,30,31,32,33,34,35,36,37,38,39,40,41,42,43,26,27] (Z:=(Value×List (List Int))×Nat) (fun k=>[k.1.1,.int .i64 k.2]) (fun k=>[.ow [k.1.1] k.1.2]) (fun k=>k.2<=f.2.1.1.1.length/\k.1.2.length<=k.2/\∀ t∈k.1.2,bB x.1 t=true) (fun k=>f.2.1.1.1.length-k.2) ((sv,[]),0) [.ow [sv] ([]:List (List Int))] ⟨aI _,aM _,fun t ht=>absurd ht (by simp)⟩ ?_
 intro ⟨⟨so,out⟩,k⟩ u l' hl' ⟨hk,hol,hot⟩
 simp only[bM,List.map,List.set] at hl'
 subst hl'
 simp only[aA,aB] at hk hol hot ⊢
 by_cases hkl:k<f.2.1.1.1.length
 ·have htk:=hF.tm _ (dX hkl)
  have htl:=aX htk
  repeat' (first|refine aU ?_|refine bP ?_|refine cV fun r hr=>?_|refine aW fun r=>?_|refine bG fun sv=>?_|refine bV fun hc=>?_|refine bW fun hc=>?_|refine aS (fun hc=>?_) fun hc=>?_|refine wb 8 [] ?_|refine xp ?_|(refine xd fun p c d e f g h hf=>?_;simp only[Un.cells,Un.atoms,Un.fact,aA,aB] at f g h hf;subst f g h)|refine xy ?_|refine bI ?_|fail)
  ·exact eB ((sv,out++[f.2.1.1.1.getD k default]),k+1) ⟨by simp only;omega,by simp only[aD,aJ];omega,fun t ht=>(aP.1 ht).elim (hot t) fun h=>by rw[aO] at h;rw[h];exact htk⟩
  ·exact eB ((so,out),k+1) ⟨by simp only;omega,by simp only;omega,hot⟩
 ·repeat' (first|refine aU ?_|refine bV fun hc=>?_|refine bW fun hc=>?_|refine aS (fun hc=>?_) fun hc=>?_|fail)
  exact⟨(so,⟨(out,true),by simp only;omega,hot⟩),rfl,aH⟩⟩
instance (priority:=2000) bM5{I Y:List Atom}{b:Nat}[h:kV I Y]:kV (.bk b [.slice none 0 0,.slice none 0 0]::I) Y:=⟨iW h.sub⟩
structure LwC(f:FdV)(i:Nat):Prop where
 n:f.1.length<=60
 lf:f.2.1.length=f.1.length
 lb:f.2.2.1.length=f.1.length
 fr:∀ j,j<f.2.1.length->-1<=f.2.1.getD j 0/\f.2.1.getD j 0<j
 by':∀ s∈f.2.2.1,s.2.2.length<=60
 t0:(f.1.getD 0 default).length<=60
 i:i<f.1.length
theorem lwC{x:aQ}{f:FdV}{i:Nat}(h:FdI x f.1 f.2.1 f.2.2.1 f.2.2.2)(hi:i<f.1.length):LwC f i:=⟨h.n.2,h.lf,h.lb,h.fr,h.by',(aX (h.tm _ (dX h.n.1))).2,hi⟩
instance bJc{I:List Atom}{v0 v1 v2 v3:Value}{f:FdV}{all:Bool}{i:Int}{n:Nat}[hm:fJ i n][h0:eK (List Int) I v0 f.1][h1:eK Int I v1 f.2.1][h2:eK eW I v2 f.2.2.1][h3:eK Int I v3 f.2.2.2] :
  bQ prog 256 [.agg #[v0,v1,v2,v3,.bool all],.int .i64 i] I (LwC f n/\0<=i) ((Value×Value)×{ w:gK // WB w }) (fun q:(Value×Value)×{ w:gK // WB w }=>.agg #[q.1.1,q.1.2]) (fun q=>.ow [q.1.1] q.2.1.1::.ow [q.1.2] q.2.1.2::I):=⟨fun hs w0=>by
 obtain ⟨hF,hi0⟩:=hs
 have hi:=hF.i
 have ht0:=hF.t0
 have hin:i=(n:Int):=by have:=hm.eq;omega
 subst hin
 have hn:=hF.n
 have hlf:=hF.lf
 have hlb:=hF.lb
 refine aK func256 ntmps256 ?_
 repeat' (first|refine aU ?_|refine bG fun sv=>?_|refine bT fun b=>?_|fail)
 refine aH1 (V:=eW) (β:=Sh eW) sv rfl ?_
 refine lp_ [1,5] [9,10,11,12,13,14,15,16,17,18,19,20,21,22,23,24,25,26,27] (Z:=(Value×List eW)×Nat) (fun k=>[.int .i64 k.2,k.1.1]) (fun k=>[.ow [k.1.1] (k.1.2.map Sh.mk)]) (fun k=>k.1.2.length+k.2<=n/\∀ s∈k.1.2,s.2.2.length<=60) (fun k=>k.2) ((sv,[]),n) [.ow [sv] ([]:List (Sh eW))] ⟨by simp,fun s hs=>absurd hs (by simp)⟩ ?_
 intro ⟨⟨so,bk⟩,k⟩ u l' hl' ⟨hk,hb⟩
 simp only[bM,List.map,List.set] at hl'
 subst hl'
 simp only[aA,aB] at hk hb ⊢
 have hom:(List.map Sh.mk bk).length=bk.length:=aY ..
 have hfk:=hF.fr k (by omega)
 repeat' (first|refine aU ?_|refine eF fun hbi=>?_|refine bP ?_|refine cV fun r hr=>?_|refine aW fun r=>?_|refine bT fun b=>?_|(refine iH fun p c d f g hf=>?_;simp only[Un.cells,Un.atoms,Un.fact,aA,aB] at f g hf;subst f g)|refine bV fun hc=>?_|refine bW fun hc=>?_|refine aS (fun hc=>?_) fun hc=>?_|fail)
 ·haveI hi1:I6 (f.2.2.1.getD k default).1:=⟨hf.1⟩
  haveI hi2:I6 (f.2.2.1.getD k default).2.1:=⟨hf.2.1⟩
  have hbn:=hF.by' _ (dX (xs:=f.2.2.1) (k:=k) (by omega))
  repeat' (first|refine aU ?_|refine eF fun hbi=>?_|refine bP ?_|refine bG fun sv=>?_|fail)
  rw[show f.2.1.getD k 0=(((f.2.1.getD k 0).toNat:Nat):Int) by omega]
  exact dH ((sv,bk++[((f.2.2.1.getD k default).1,(f.2.2.1.getD k default).2.1,(f.2.2.1.getD k default).2.2)]),(f.2.1.getD k 0).toNat) ⟨by simp only[aD,aJ];omega,fun s hs=>(aP.1 hs).elim (hb s) fun h=>by rw[aO] at h;rw[h];exact hbn⟩ (by simp only;omega) (by kernel_rfl) (by simp only[← cG];exact aH)
 ·refine sH so ?_
  simp only[uD,aY]
  refine lp_ [7] [37,38,41,42,43,44,45,46,47,48,49,50,51,52,53,54,55,56,57,58,59,60,61,62,39,40] (Z:=(Value×List eW)×Nat) (fun k=>[.int .i64 ((k.2:Int)-1)]) (fun k=>[.bk b [r,k.1.1],.ow [k.1.1] k.1.2]) (fun k=>k.1.2.length+k.2<=bk.length/\∀ s∈k.1.2,s.2.2.length<=60) (fun k=>k.2) ((.slice none 0 0,[]),bk.length) [.bk b [r,.slice none 0 0],.ow [.slice none 0 0] ([]:List eW)] ⟨by simp,fun s hs=>absurd hs (by simp)⟩ ?_
  intro ⟨⟨sp,ss⟩,j⟩ u l' hl' ⟨hj,hs⟩
  simp only[bM,List.map,List.set] at hl'
  subst hl'
  simp only[aA,aB] at hj hs ⊢
  cases j with
  | zero=>
   repeat' (first|refine aU ?_|refine bV fun hc=>?_|refine bW fun hc=>?_|refine aS (fun hc=>?_) fun hc=>?_|fail)
   exact⟨((r,sp),⟨(f.1.getD 0 default,ss),⟨ht0,hs,by simp only;omega⟩⟩),rfl,aH⟩
  | succ m=>
   rw[show((m+1:Nat):Int)-1=(m:Int) by omega]
   have hbm:=hb _ (dX (xs:=bk) (k:=m) (by omega))
   repeat' (first|refine aU ?_|refine bP ?_|refine bV fun hc=>?_|refine bW fun hc=>?_|refine aS (fun hc=>?_) fun hc=>?_|refine cV fun r hr=>?_|refine aW fun r=>?_|refine bG fun sv=>?_|refine wb 9 [20,22] ?_|refine xp ?_|refine x0 ?_|(refine xd fun p c d e f g h hf=>?_;simp only[Un.cells,Un.atoms,Un.fact,aA,aB] at f g h hf;subst f g h)|refine xy ?_|refine bI ?_|fail)
   exact eB ((sv,ss++[((bk.getD m default).1,(bk.getD m default).2.1,(bk.getD m default).2.2)]),m) ⟨by simp only[aD,aJ];omega,fun s h=>(aP.1 h).elim (hs s) fun h=>by rw[aO] at h;rw[h];exact hbm⟩⟩
instance bLg{I:List Atom}{v0 v1 v v':Value}{x:aQ}{t t':List Int}{n:Int}[h0:eK Int I v0 x.1][h1:eK cM I v1 x.2][h2:eK Int I v t][h3:eK Int I v' t'] :
  bQ prog 192 [.agg #[v0,v1],v,v',.int .i64 n] I (True) ((Value×Value)×WbT) (fun q:(Value×Value)×WbT=>.tuple #[.agg #[q.1.1,q.1.2],.bool q.2.1.2]) (fun q=>.ow [q.1.1] q.2.1.1.1::.ow [q.1.2] q.2.1.1.2::I):=⟨fun _ w0=>by
 refine aK func192 ntmps192 ?_
 repeat' (first|refine aU ?_|refine cV fun r hr=>?_|refine aW fun r=>?_|refine bT fun b=>?_|refine bV fun hc=>?_|refine bW fun hc=>?_|refine aS (fun hc=>?_) fun hc=>?_|fail)
 all_goals try exact⟨((.slice none 0 0,.slice none 0 0),⟨(([],[]),false),lH⟩),rfl,aH⟩
 rename V4×FdT x=>f
 have hlw:LwC f.2.1.1 r.1.toNat:=lwC f.2.2 (by omega)
 repeat' (first|refine aU ?_|refine cV fun r hr=>?_|refine aW fun r=>?_|fail)
 exact⟨((_,_),⟨(_,true),r.2.2⟩),rfl,aH⟩⟩
abbrev Jn2:Type:={ w:gK×gK×Bool // WB w.1/\WB w.2.1 }
instance bLv{I:List Atom}{v0 v1 v v':Value}{x:aQ}{t t':List Int}{n:Int}[h0:eK Int I v0 x.1][h1:eK cM I v1 x.2][h2:eK Int I v t][h3:eK Int I v' t'] :
  bQ prog 186 [.agg #[v0,v1],v,v',.int .i64 n] I (True) ((Value×Value)×(Value×Value)×Jn2) (fun q:(Value×Value)×(Value×Value)×Jn2=>.tuple #[.agg #[q.1.1,q.1.2],.agg #[q.2.1.1,q.2.1.2],.bool q.2.2.1.2.2]) (fun q=>.ow [q.1.1] q.2.2.1.1.1::.ow [q.1.2] q.2.2.1.1.2::.ow [q.2.1.1] q.2.2.1.2.1.1::.ow [q.2.1.2] q.2.2.1.2.1.2::I):=⟨fun _ w0=>by
 refine aK func186 ntmps186 ?_
 repeat' (first|refine aU ?_|refine cV fun r hr=>?_|refine aW fun r=>?_|refine bT fun b=>?_|refine bV fun hc=>?_|refine bW fun hc=>?_|refine aS (fun hc=>?_) fun hc=>?_|fail)
 all_goals try exact⟨((.slice none 0 0,.slice none 0 0),(.slice none 0 0,.slice none 0 0),⟨(([],[]),([],[]),false),lH,lH⟩),rfl,aH⟩
 rename V4×FdT x=>g
 have hfn:=r.2.2.n
 have hgn:=g.2.2.n
 refine lc_ [13] [37,38,39,40,41,44,45,46,47,48,49,50,51,14,52,53,54,55,56,57,58,59,10,42,43] (Z:=Nat) (fun k=>[.int .i64 k]) (fun k=>k<=r.2.1.1.1.length) (fun k=>r.2.1.1.1.length-k) 0 (aI _) ?_
 intro k u l' hl' hk
 simp only[bM,List.map,List.set] at hl'
 subst hl'
 rename V4×FdT x=>g
 by_cases hkl:k<r.2.1.1.1.length
 ·have hlw:LwC r.2.1.1 k:=lwC r.2.2 hkl
  generalize hr0:r=f at *
  repeat' (first|refine aU ?_|refine bP ?_|refine bV fun hc=>?_|refine bW fun hc=>?_|refine aS (fun hc=>?_) fun hc=>?_|refine cV fun r hr=>?_|refine aW fun r=>?_|refine wb 8 [] ?_|refine xp ?_|(refine xd fun p c d e f g h hf=>?_;simp only[Un.cells,Un.atoms,Un.fact,aA,aB] at f g h hf;subst f g h)|refine xy ?_|refine bI ?_|fail)
  ·have hlg:LwC g.2.1.1 r.1.toNat:=lwC g.2.2 (by omega)
   ((refine wbd 10 [] ?_<;>repeat' (first|refine aU ?_|refine cV fun r hr=>?_|refine aW fun r=>?_|refine xp ?_|refine xy ?_|fail))<;>refine bI ?_)
   rename_i wf
   repeat' (first|refine aU ?_|fail)
   exact⟨(wf.1,r.1,⟨(wf.2.1,r.2.1,true),wf.2.2,r.2.2⟩),rfl,aH⟩
  ·exact eB (k+1) (by omega)
 ·repeat' (first|refine aU ?_|refine bV fun hc=>?_|refine bW fun hc=>?_|refine aS (fun hc=>?_) fun hc=>?_|fail)
  exact⟨((.slice none 0 0,.slice none 0 0),(.slice none 0 0,.slice none 0 0),⟨(([],[]),([],[]),false),lH,lH⟩),rfl,aH⟩⟩
end Go.Proofs.YtajdgkpjbpindaaGreatDoor
