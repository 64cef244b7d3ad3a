/- Texts of the proof of FnNames. -/
import Derived.Test.YtajdgkpjbpindaaGreatDoorTab
import Derived.Test.YtajdgkpjbpindaaGreatDoorTac
import Derived.Laws.Externs
set_option linter.unusedVariables false
set_option linter.unusedSimpArgs false
set_option linter.unusedSectionVars false
namespace Go.Proofs.YtajdgkpjbpindaaGreatDoor
open Go Go.Eng Tryz
set_option synthInstance.maxHeartbeats 400000
set_option synthInstance.maxSize 1000
abbrev tB:TypeId:=97
abbrev t8:TypeId:=5
instance:bOm prog 97:=⟨trivial⟩
instance:aBv prog 22 5:=⟨underlying22,t5,_,by kernel_rfl,rfl,rfl,rfl,rfl⟩
instance:bJ8 prog 129 5:=⟨by kernel_rfl,by kernel_rfl⟩
instance:aMm prog 22:=⟨5,underlying22,by kernel_rfl⟩
instance:U8T prog 5:=⟨by kernel_rfl⟩
instance:Op_ prog 5 UInt8 aPb:=aV5 underlying5 (by kernel_rfl)
instance:Op_ prog 22 (List UInt8) bA:=gC underlying22 (by kernel_rfl) inferInstance
instance:aYd prog 95:=⟨by kernel_rfl,t97,by kernel_rfl,by decide⟩
instance:bOq prog 95 160:=⟨97,t97,underlying95,underlying160,by kernel_rfl,by decide⟩
instance:aVj prog 160 95 97 2:=⟨97,t97,underlying160,underlying95,by kernel_rfl,by kernel_rfl⟩
instance:bOp prog 130:=⟨fun x w=>by
 rw[run_callFunc_extern func130 (by kernel_rfl) (by kernel_rfl) (by kernel_rfl) (e:=Extern.AbiNoEscape.same) (by kernel_rfl)]
 rfl⟩
instance bAz{I Y:List Atom}{b:Nat}{pv bv:Value}[h:iV I b tB [pv,bv] Y] :
  bQ prog 96 [.pointer (some ⟨b,0,none⟩)] I (pv=.pointer none∨pv=.pointer (some ⟨b,0,none⟩)) (Unit) (fun _:Unit=>.tuple #[]) (fun _=>@Atom.ow (TB tB) jJ [.pointer (some ⟨b,0,none⟩)] (TB.mk [.pointer (some ⟨b,0,none⟩),bv])::Y):=⟨fun hp w0=>by
 refine eN h.perm ?_
 rcases hp with rfl|rfl
 ·refine aK func96 ntmps96 ?_
  repeat' (first|refine aU ?_|refine bP ?_|fail)
  exact⟨(),rfl,aH⟩
 ·refine aK func96 ntmps96 ?_
  repeat' (first|refine aU ?_|fail)
  exact⟨(),rfl,aH⟩⟩
theorem xL{w0:World}{I Δ1 Y:List Atom}{b:Nat}{pv bv:Value}{bs:List UInt8}{s:ByteArray}[h:iV I b tB [pv,bv] Δ1][h1:cQ (gP t8) eY Δ1 [bv] (gP.mk bs) Y](hp:pv=.pointer none∨pv=.pointer (some ⟨b,0,none⟩))(hl:bs.length+s.size<=140737488355328) :
  CJ prog 68 [.pointer (some ⟨b,0,none⟩),.string s] w0 I (fun _:Value=>.tuple #[.int .i64 s.size,.nilIface]) (fun q=>@Atom.ow (TB tB) jJ [.pointer (some ⟨b,0,none⟩)] (TB.mk [.pointer (some ⟨b,0,none⟩),q])::@Atom.ow (gP t8) eY [q] (gP.mk (bs++s.data.toList))::Y):=by
 refine eN (h.perm.trans (h1.perm.cons _)) ?_
 refine aK func68 ntmps68 ?_
 repeat' (first|refine aU ?_|refine bP ?_|refine aW fun r=>?_|refine bG fun sv=>?_|fail)
 exact⟨sv,rfl,aH⟩
instance aUv{I Δ1 Y:List Atom}{b:Nat}{pv bv:Value}{bs:List UInt8}{s:ByteArray}[h:iV I b tB [pv,bv] Δ1][h1:cQ (gP t8) eY Δ1 [bv] (gP.mk bs) Y] :
  bQ prog 68 [.pointer (some ⟨b,0,none⟩),.string s] I ((pv=.pointer none∨pv=.pointer (some ⟨b,0,none⟩))/\(bs.length+s.size<=140737488355328)) (Value) (fun _:Value=>.tuple #[.int .i64 s.size,.nilIface]) (fun q=>@Atom.ow (TB tB) jJ [.pointer (some ⟨b,0,none⟩)] (TB.mk [.pointer (some ⟨b,0,none⟩),q])::@Atom.ow (gP t8) eY [q] (gP.mk (bs++s.data.toList))::Y):=⟨fun s w0=>xL s.1 s.2⟩
theorem aB9{w0:World}{I Δ1 Y:List Atom}{b:Nat}{pv bv:Value}{bs:List UInt8}{n:Int}[h:iV I b tB [pv,bv] Δ1][h1:cQ (gP t8) eY Δ1 [bv] (gP.mk bs) Y](hp:pv=.pointer none∨pv=.pointer (some ⟨b,0,none⟩))(hl:bs.length<=140737488355320)(hn:0<=n/\n<256) :
  CJ prog 95 [.pointer (some ⟨b,0,none⟩),.int .u8 n] w0 I (fun _:Value=>.nilIface) (fun q=>@Atom.ow (TB tB) jJ [.pointer (some ⟨b,0,none⟩)] (TB.mk [.pointer (some ⟨b,0,none⟩),q])::@Atom.ow (gP t8) eY [q] (gP.mk (bs++[UInt8.ofNat n.toNat]))::Y):=by
 refine eN (h.perm.trans (h1.perm.cons _)) ?_
 have hu:n=(((UInt8.ofNat n.toNat).toNat:Nat):Int):=by
  rw[dR,Nat.mod_eq_of_lt (by omega),Int.toNat_of_nonneg hn.1]
 generalize UInt8.ofNat n.toNat=c at hu ⊢
 subst hu
 refine aK func95 ntmps95 ?_
 repeat' (first|refine aU ?_|refine bP ?_|refine aW fun r=>?_|refine bG fun sv=>?_|fail)
 exact⟨sv,rfl,aH⟩
instance bAi{I Δ1 Y:List Atom}{b:Nat}{pv bv:Value}{bs:List UInt8}{n:Int}[h:iV I b tB [pv,bv] Δ1][h1:cQ (gP t8) eY Δ1 [bv] (gP.mk bs) Y] :
  bQ prog 95 [.pointer (some ⟨b,0,none⟩),.int .u8 n] I ((pv=.pointer none∨pv=.pointer (some ⟨b,0,none⟩))/\(bs.length<=140737488355320)/\(0<=n/\n<256)) (Value) (fun _:Value=>.nilIface) (fun q=>@Atom.ow (TB tB) jJ [.pointer (some ⟨b,0,none⟩)] (TB.mk [.pointer (some ⟨b,0,none⟩),q])::@Atom.ow (gP t8) eY [q] (gP.mk (bs++[UInt8.ofNat n.toNat]))::Y):=⟨fun s w0=>aB9 s.1 s.2.1 s.2.2⟩
instance bLr{I Δ1 Y:List Atom}{b:Nat}{pv bv:Value}{bs:List UInt8}[h:iV I b tB [pv,bv] Δ1][h1:cQ (gP t8) eY Δ1 [bv] (gP.mk bs) Y] :
  bQ prog 66 [.pointer (some ⟨b,0,none⟩)] I (0<bs.length) (Unit) (fun _:Unit=>.string ⟨bs.toArray⟩) (fun _=>Y):=⟨fun hl w0=>by
 refine eN (h.perm.trans (h1.perm.cons _)) ?_
 refine aK func66 ntmps66 ?_
 repeat' (first|refine aU ?_|refine bP ?_|refine wb 1 [10] ?_|refine xp ?_|refine x0 ?_|refine xy ?_|refine bI ?_|fail)
 exact⟨(),rfl,aH⟩⟩
set_option maxRecDepth 20000
def S(l:List UInt8):ByteArray:=⟨l.toArray⟩
def fV(n:Nat):List UInt8:=if n<10 then [UInt8.ofNat (48+n)] else [UInt8.ofNat (48+n / 10),UInt8.ofNat (48+n % 10)]
theorem eZ(l:List UInt8):(S l).size=l.length:=by simp [S,ByteArray.size]
theorem aXn(l:List UInt8):(S l).data.toList=l:=rfl
theorem mG(x y:List UInt8):S x++S y=S (x++y):=by
 apply ByteArray.ext
 simp [S,ByteArray.data_append]
theorem mC(n:Nat):1<=(fV n).length/\(fV n).length<=2:=by
 unfold fV;split<;>simp
instance bMg{I:List Atom}{n:Nat} :
  bQ prog 213 [.int .i64 (n:Int)] I (n<100) (Unit) (fun _:Unit=>.string (S (fV n))) (fun _=>I):=⟨fun hn w0=>by
 refine aK func213 ntmps213 ?_
 repeat' (first|refine aU ?_|refine bP ?_|refine bV fun hc=>?_|refine bW fun hc=>?_|refine aS (fun hc=>?_) fun hc=>?_|fail)
 ·refine bP ?_ ⟨by omega,by omega,Int.le_trans (show(n:Int)+1<=((36:Nat):Int) by omega) (Int.ofNat_le.2 (Nat.le_of_ble_eq_true (by kernel_rfl)))⟩
  repeat' (first|refine aU ?_|fail)
  refine⟨(),congrArg Value.string ?_,aH⟩
  have hc':n<10:=by omega
  clear hn hc
  revert n
  decide +kernel
 ·refine bP ?_ ⟨by omega,by omega,Int.le_trans (show(n:Int)*2+2<=((200:Nat):Int) by omega) (Int.ofNat_le.2 (Nat.le_of_ble_eq_true (by kernel_rfl)))⟩
  repeat' (first|refine aU ?_|fail)
  refine⟨(),congrArg Value.string ?_,aH⟩
  have hc':10<=n:=by omega
  clear hc
  revert n
  decide +kernel⟩
instance aZ3{I:List Atom}{n:Nat} :
  bQ prog 169 [.int .i64 (n:Int),.int .i64 10] I (n<100) (Unit) (fun _:Unit=>.string (S (fV n))) (fun _=>I):=⟨fun hn w0=>by
 refine aK func169 ntmps169 ?_
 repeat' (first|refine aU ?_|refine aW fun r=>?_|refine bV fun hc=>?_|refine bW fun hc=>?_|refine aS (fun hc=>?_) fun hc=>?_|fail)
 all_goals exact⟨(),rfl,aH⟩⟩
instance bAy{I:List Atom}{n:Nat} :
  bQ prog 121 [.int .i64 (n:Int),.int .i64 10] I (n<100) (Unit) (fun _:Unit=>.string (S (fV n))) (fun _=>I):=⟨fun hn w0=>by
 refine aK func121 ntmps121 ?_
 repeat' (first|refine aU ?_|refine aW fun r=>?_|fail)
 all_goals exact⟨(),rfl,aH⟩⟩
instance bO4{I:List Atom}{i:Int}{n:Nat}[hm:fJ i n] :
  bQ prog 84 [.int .i64 i] I (0<=i/\i<100) (Unit) (fun _:Unit=>.string (S (fV n))) (fun _=>I):=⟨fun hn w0=>by
 obtain rfl:i=(n:Int):=by have:=hm.eq;omega
 refine aK func84 ntmps84 ?_
 repeat' (first|refine aU ?_|refine aW fun r=>?_|fail)
 all_goals exact⟨(),rfl,aH⟩⟩
def lI(n k:Nat):List UInt8×Nat:=if k=0 then ([],n) else if k=1 then ([UInt8.ofNat (48+n % 10)],n / 10) else (fV n,0)
instance bNc{I:List Atom}{i:Int}{n:Nat}[hm:fJ i n] :
  bQ prog 98 [.int .i64 i] I (0<=i/\i<100) (Unit) (fun _:Unit=>.string (S (fV n))) (fun _=>I):=⟨fun hn w0=>by
 obtain rfl:i=(n:Int):=by have:=hm.eq;omega
 refine aK func98 ntmps98 ?_
 repeat' (first|refine aU ?_|fail)
 refine lc_ [0,3] [8,9,10,11,12,13,14,15,5,16,17,18,19,20,21,22,23,24,25,26,27,28] (Z:=Nat) (fun k=>[.int .i64 ((lI n k).2:Nat),.string (S (lI n k).1)]) (fun k=>k<=2/\(k=2->10<=n)) (fun k=>2-k) 0 ⟨by decide,by omega⟩ ?_
 intro k u l' hl' ⟨hk,hk2⟩
 simp only[bM,List.map,List.set] at hl'
 subst hl'
 have hmod:(n:Int).tmod 10=((n % 10:Nat):Int):=by rw[Int.tmod_eq_emod_of_nonneg (by omega)];rfl
 have hdiv:(n:Int).tdiv 10=((n / 10:Nat):Int):=by rw[Int.tdiv_eq_ediv_of_nonneg (by omega)];rfl
 have hmod2:((n / 10:Nat):Int).tmod 10=((n / 10 % 10:Nat):Int):=by rw[Int.tmod_eq_emod_of_nonneg (by omega)];rfl
 have hdiv2:((n / 10:Nat):Int).tdiv 10=((n / 10 / 10:Nat):Int):=by rw[Int.tdiv_eq_ediv_of_nonneg (by omega)];rfl
 have hS:∀ c:UInt8,(S [c]).size=1:=fun c=>rfl
 have h0:lI n 0=([],n):=rfl
 have h1:lI n 1=([UInt8.ofNat (48+n % 10)],n / 10):=rfl
 have h2:lI n 2=(fV n,0):=rfl
 have hne:∀ l:List UInt8,1<=l.length->¬ S l={ data:=#[] }:=fun l hl e=>by
  have:=congrArg ByteArray.size e
  rw[eZ] at this
  have h3:({ data:=#[] }:ByteArray).size=0:=rfl
  omega
 by_cases k0:k=0
 ·subst k0
  rw[h0]
  simp only
  repeat' (first|refine aU ?_|refine bP ?_|refine bG fun sv=>?_|refine bV fun hc=>?_|refine bW fun hc=>?_|refine aS (fun hc=>?_) fun hc=>?_|fail)
  refine bP ?_ (show(1+0:Nat)<=9223372036854775807 by decide)
  repeat' (first|refine aU ?_|refine bP ?_|fail)
  rw[hmod,hdiv,show(({ data:=[UInt8.ofNat (48+((n % 10:Nat):Int)).toNat].toArray }:ByteArray)++S [])=S (lI n 1).1 by
   rw[h1,show({ data:=[UInt8.ofNat (48+((n % 10:Nat):Int)).toNat].toArray }:ByteArray)=S [UInt8.ofNat (48+n % 10)] by
    rw[show(48+((n % 10:Nat):Int)).toNat=48+n % 10 by omega];rfl,mG,cF]]
  exact eB 1 ⟨by omega,by omega⟩
 by_cases k1:k=1
 ·subst k1
  rw[h1]
  simp only
  repeat' (first|refine aU ?_|refine bP ?_|refine bG fun sv=>?_|refine bV fun hc=>?_|refine bW fun hc=>?_|refine aS (fun hc=>?_) fun hc=>?_|fail)
  ·exact absurd ‹S [UInt8.ofNat (48+n % 10)]={ data:=#[] }› (hne _ (by simp))
  ·refine bP ?_ (show(1+1:Nat)<=9223372036854775807 by decide)
   have hge:10<=n:=by omega
   repeat' (first|refine aU ?_|refine bP ?_|fail)
   rw[hmod2,hdiv2,show(({ data:=[UInt8.ofNat (48+((n / 10 % 10:Nat):Int)).toNat].toArray }:ByteArray)++S [UInt8.ofNat (48+n % 10)])=S (lI n 2).1 by
    rw[h2,show({ data:=[UInt8.ofNat (48+((n / 10 % 10:Nat):Int)).toNat].toArray }:ByteArray)=S [UInt8.ofNat (48+n / 10)] by
     rw[show(48+((n / 10 % 10:Nat):Int)).toNat=48+n / 10 by omega];rfl,mG]
    simp only[fV]
    rw[if_neg (by omega)];rfl,show n / 10 / 10=0 by omega]
   exact eB 2 ⟨by omega,fun _=>hge⟩
  ·have hlt:n<10:=by omega
   refine⟨(),congrArg Value.string ?_,aH⟩
   simp only[fV]
   rw[if_pos hlt,show n % 10=n by omega]
 ·obtain rfl:k=2:=by omega
  rw[h2]
  simp only
  repeat' (first|refine aU ?_|refine bP ?_|refine bV fun hc=>?_|refine bW fun hc=>?_|refine aS (fun hc=>?_) fun hc=>?_|fail)
  ·exact absurd ‹S (fV n)={ data:=#[] }› (hne _ (mC n).1)
  ·exact absurd ‹S (fV n)={ data:=#[] }› (hne _ (mC n).1)
  ·exact⟨(),rfl,aH⟩⟩
def fG:List ByteArray:=[⟨#[110,111,114,109,97,108]⟩,⟨#[106,111,105,110]⟩,⟨#[114,97,110,107]⟩,⟨#[119,101,105,103,104,116,115]⟩,⟨#[102,111,114,109,115]⟩,⟨#[108,111,111,112]⟩,⟨#[106,111,105,110,115]⟩,⟨#[102,111,114,109]⟩,⟨#[115,112,108,105,116]⟩,⟨#[117,110,101,113,117,97,108]⟩,⟨#[101,113,117,97,108]⟩,⟨#[112,97,105,114,115]⟩]
theorem aV7:fG.length=12:=rfl
theorem bNj:∀ s∈fG,s.size<=7:=by decide
def knT(k:Int):ByteArray:=if 1<=k/\k<=12 then fG.getD (k-1).toNat ByteArray.empty else ByteArray.empty
theorem aL0(k:Int):(knT k).size<=7:=by
 unfold knT
 split
 ·by_cases h:(k-1).toNat<fG.length
  ·rw[aC,aG h];exact bNj _ (cS h)
  ·rw[aC,dA (by omega)];exact aI _
 ·exact aI _
instance aOh{I:List Atom} :
  bQ prog 59 [] I True Value (fun r:Value=>r) (fun r=>.ow [r] fG::I):=⟨fun _ w0=>by
 refine aK func59 ntmps59 ?_
 repeat' (first|refine aU ?_|fail)
 refine bG (fun sv=>?_) (by decide)
 repeat' (first|refine aU ?_|fail)
 exact⟨sv,rfl,by unfold fG;exact aH⟩⟩
instance bAw{I:List Atom} :
  bQ prog 15 [] I True Value (fun r:Value=>r) (fun r=>.ow [r] fG::I):=⟨fun _ w0=>by
 refine aK func15 ntmps15 ?_
 repeat' (first|refine aU ?_|fail)
 refine bG (fun sv=>?_) (by decide)
 repeat' (first|refine aU ?_|fail)
 exact⟨sv,rfl,by unfold fG;exact aH⟩⟩
instance aO8{I:List Atom}{k:Int} :
  bQ prog 48 [.int .i64 k] I (-9223372036854775808<=k/\k<=9223372036854775807) (Unit) (fun _:Unit=>.string (knT k)) (fun _=>I):=⟨fun hk w0=>by
 have hl:=aV7
 refine aK func48 ntmps48 ?_
 repeat' (first|refine aU ?_|refine bP ?_|refine aW fun r=>?_|refine bV fun hc=>?_|refine bW fun hc=>?_|refine aS (fun hc=>?_) fun hc=>?_|fail)
 ·exact⟨(),by rw[knT,if_neg (by omega)];rfl,aH⟩
 ·exact⟨(),by rw[knT,if_pos (by omega),bH],aH⟩⟩
instance aP5{I:List Atom}{k:Int} :
  bQ prog 6 [.int .i64 k] I (-9223372036854775808<=k/\k<=9223372036854775807) (Unit) (fun _:Unit=>.string (knT k)) (fun _=>I):=⟨fun hk w0=>by
 have hl:=aV7
 refine aK func6 ntmps6 ?_
 repeat' (first|refine aU ?_|refine bP ?_|refine aW fun r=>?_|refine bV fun hc=>?_|refine bW fun hc=>?_|refine aS (fun hc=>?_) fun hc=>?_|fail)
 all_goals first
  | exact⟨(),by rw[knT,if_neg (by omega)];rfl,aH⟩
  | exact⟨(),by rw[knT,if_pos (by omega),bH],aH⟩⟩
end Go.Proofs.YtajdgkpjbpindaaGreatDoor
