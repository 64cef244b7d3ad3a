/- The table of powers of ten, as the row lists it. -/
import Derived.Test.YtcaljjkmaffedaaDoorNumG
import Derived.LaidSub
import Derived.MakeChecks
namespace Go.Proofs.YtcaljjkmaffedaaDoor
open Go Go.Eng
set_option linter.unusedVariables false
set_option linter.unusedSimpArgs false
set_option maxRecDepth 20000
/-- The table stands in memory where the row lists it. -/
theorem tab_rd {W : World} {l : List (String × DataW Unit)} (h : laidMetH Tryd.prog l W) (hl : (l.filter fun x => x.1 == "internal/strconv.uint64pow10") = [("internal/strconv.uint64pow10", Lib.tabData .u64 Lib.pow10Tab)]) :
    @Rep.rd Tab repTab (fun _ => True) W [tabV] (Tab.mk Lib.pow10Tab) := by
  have h1 := h.filter fun x => x.1 == "internal/strconv.uint64pow10"
  rw [hl, MakeChecks.laidMetH_plain _ _ _ (by kernel_rfl)] at h1
  have h2 := Lib.tabIs_of_head (P := Tryd.prog) (W := W) (name := "internal/strconv.uint64pow10") (k := .u64) (zs := Lib.pow10Tab) (rest := []) (g := 1) tab_named (t := 155) (e := 146) (n := 20) (by kernel_rfl) (by kernel_rfl) (by kernel_rfl) (by kernel_rfl) (by kernel_rfl) h1
  unfold Lib.TabIs World.var? at h2
  rw [tab_named] at h2
  simp only [Option.bind_some] at h2
  split at h2
  · rename_i cs e fz he
    exact ⟨1, e, fz, rfl, trivial, by rw [he]; simp only [Option.some.injEq] at h2; rw [h2]⟩
  · exact absurd h2 (by simp)
end Go.Proofs.YtcaljjkmaffedaaDoor
