/- Texts of the proof of FnNames. -/
import Derived.Test.YtajdgkpjbpindaaGreatDoorTak
set_option linter.unusedVariables false
set_option linter.unusedSimpArgs false
set_option linter.unusedSectionVars false
namespace Go.Proofs.YtajdgkpjbpindaaGreatDoor
open Go Go.Eng Tryz
instance aS7{I:List Atom}{v:Value}{ps:List dK}[ha:bK dK I v ps] :
  bQ prog 92 [.agg #[v]] I True Unit (fun _:Unit=>.bool (decide (rG ps ps.length/\1<=ps.length/\ps.length<=64))) (fun _=>I):=⟨fun _ w0=>by
 refine dQ v fun hlv=>?_
 refine aK func92 ntmps92 ?_
 repeat' (first|refine aU ?_|refine aW fun r=>?_|refine bT fun b=>?_|refine bV fun hc=>?_|refine bW fun hc=>?_|refine aS (fun hc=>?_) fun hc=>?_|fail)
 ·exact⟨(),bO (decide_eq_decide.2 ⟨fun h=>h.1,fun h=>⟨h,by omega⟩⟩),aH⟩
 ·exact⟨(),bO (decide_eq_false fun h=>by omega),aH⟩⟩
end Go.Proofs.YtajdgkpjbpindaaGreatDoor
