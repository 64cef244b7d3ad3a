/- The law FnExactNodeText. -/
import Derived.Test.YtcaljjkmaffedaaDoorNodeT
import Derived.LaidSub
import Derived.MakeChecks
namespace Go.Proofs.YtcaljjkmaffedaaDoor
open Go Go.Eng
set_option linter.unusedVariables false
set_option linter.unusedSimpArgs false
set_option maxRecDepth 20000
/-- The table stands in memory where the row lists it. -/
theorem tab_rd {W : World} {l : List (String × DataW Unit)} (h : laidMetH Tryd.prog l W) (hl : (l.filter fun x => x.1 == "internal/strconv.uint64pow10") = [("internal/strconv.uint64pow10", Lib.tabData .u64 Lib.pow10Tab)]) :
    @Rep.rd Tab repTab (fun _ => True) W [tabV] (Tab.mk Lib.pow10Tab) := by
  have h1 := h.filter fun x => x.1 == "internal/strconv.uint64pow10"
  rw [hl, MakeChecks.laidMetH_plain _ _ _ (by kernel_rfl)] at h1
  have h2 := Lib.tabIs_of_head (P := Tryd.prog) (W := W) (name := "internal/strconv.uint64pow10") (k := .u64) (zs := Lib.pow10Tab) (rest := []) (g := 1) tab_named (t := 155) (e := 146) (n := 20) (by kernel_rfl) (by kernel_rfl) (by kernel_rfl) (by kernel_rfl) (by kernel_rfl) h1
  unfold Lib.TabIs World.var? at h2
  rw [tab_named] at h2
  simp only [Option.bind_some] at h2
  split at h2
  · rename_i cs e fz he
    exact ⟨1, e, fz, rfl, trivial, by rw [he]; simp only [Option.some.injEq] at h2; rw [h2]⟩
  · exact absurd h2 (by simp)
set_option maxHeartbeats 0 in
set_option synthInstance.maxHeartbeats 400000 in
set_option synthInstance.maxSize 1000 in
theorem FnExactNodeText_law {w0 : World} {Γ : List Atom} {x0 : SSig} {x1 : SNode} {v0_0 v1_1 v1_2 v1_3 : Value} [h0_0 : HasRd (List Int) repList Γ [v0_0] x0] [h1_1 : HasRd (List Int) repList Γ [v1_1] x1.2.1] [h1_2 : HasRd (List (List Int)) repList Γ [v1_2] x1.2.2.1] [h1_3 : HasRd (List Int) repList Γ [v1_3] x1.2.2.2] [htab : HasRd (Tab) repTab Γ [tabV] (Tab.mk Lib.pow10Tab)] (hf0 : x0.length ≤ 9223372036854775807) (hf1 : (-9223372036854775808 ≤ x1.1 ∧ x1.1 ≤ 9223372036854775807) ∧ (x1.2.1.length ≤ 9223372036854775807) ∧ (x1.2.2.1.length ≤ 9223372036854775807) ∧ x1.2.2.2.length ≤ 9223372036854775807) :
    CJ Tryd.prog 5 [.agg #[v0_0], .agg #[.int .i64 x1.1, v1_1, v1_2, v1_3]] w0 Γ (fun _ : Unit => .bool true) (fun _ => Γ) := by
  have hz0 := lft_spec 1048576 (Siz.size x0)
  have hz1 := lft_spec (lft 1048576 (Siz.size x0)) (Siz.size x1)
  have hb0_0 := cntL_le x0
  have hl0_0 := siz_ints x0
  have hs1 : Siz.size x1 = Siz.size x1.2.1 + Siz.size x1.2.2.1 + Siz.size x1.2.2.2 := by simp only [siz_pair, siz_int, siz_bool, siz_str] <;> omega
  have hb1_1 := cntL_le x1.2.1
  have hl1_1 := siz_ints x1.2.1
  have hb1_2 := cntL_le x1.2.2.1
  have hb1_3 := cntL_le x1.2.2.2
  have hl1_3 := siz_ints x1.2.2.2
  refine cj_enter Tryd.func5 Tryd.ntmps5 ?_
  repeat' (first | refine red ?_ | refine redf fun hbi => ?_ | refine reds ?_ | refine redc fun r => ?_ | refine redp (fun r => ?_) (fun r => ?_) | refine redv fun sv => ?_ | refine redn fun b => ?_ | refine redz fun zs => ?_ | refine redq (fun hc => ?_) (fun hc => ?_) | with_reducible refine wq_blk_o rfl ?_ | (refine redi (fun hc => ?_) (fun hc => ?_) <;> try first | (exfalso; omega) | exact absurd rfl hc) | ((refine wa_begin 8 [false, false, false, false, false, false] [] ?_ <;> refine wa_p 0 ?_ <;> (first | refine wa_f 2 fun hbi => ?_ | refine wa_p 2 ?_ | fail) <;> (refine wa_do 1 ?_ <;> (repeat' (first | refine red ?_ | refine redc fun r => ?_ | refine redv fun sv => ?_ | refine redf fun hbi => ?_ | refine redn fun b => ?_ | refine reds ?_ | refine redi (fun hc => ?_) (fun hc => ?_) | refine redq (fun hc => ?_) (fun hc => ?_) | refine redp (fun r => ?_) (fun r => ?_) | fail))) <;> (refine wa_do 3 ?_ <;> (repeat' (first | refine red ?_ | refine redc fun r => ?_ | refine redv fun sv => ?_ | refine redf fun hbi => ?_ | refine redn fun b => ?_ | refine reds ?_ | refine redi (fun hc => ?_) (fun hc => ?_) | refine redq (fun hc => ?_) (fun hc => ?_) | refine redp (fun r => ?_) (fun r => ?_) | fail))) <;> (refine wa_do 4 ?_ <;> (repeat' (first | refine red ?_ | refine redc fun r => ?_ | refine redv fun sv => ?_ | refine redf fun hbi => ?_ | refine redn fun b => ?_ | refine reds ?_ | refine redi (fun hc => ?_) (fun hc => ?_) | refine redq (fun hc => ?_) (fun hc => ?_) | refine redp (fun r => ?_) (fun r => ?_) | fail))) <;> (first | refine wa_p 5 ?_ | refine wa_p0 5 ?_)) <;> (first | refine wa_end ?_ | with_reducible refine wq_keep ?_)) | ((refine wa_begin 14 [false, false, false, false, false] [] ?_ <;> refine wa_p 0 ?_ <;> refine wa_p 1 ?_ <;> (refine wa_do 2 ?_ <;> (repeat' (first | refine red ?_ | refine redc fun r => ?_ | refine redv fun sv => ?_ | refine redf fun hbi => ?_ | refine redn fun b => ?_ | refine reds ?_ | refine redi (fun hc => ?_) (fun hc => ?_) | refine redq (fun hc => ?_) (fun hc => ?_) | refine redp (fun r => ?_) (fun r => ?_) | fail))) <;> (refine wa_do 3 ?_ <;> (repeat' (first | refine red ?_ | refine redc fun r => ?_ | refine redv fun sv => ?_ | refine redf fun hbi => ?_ | refine redn fun b => ?_ | refine reds ?_ | refine redi (fun hc => ?_) (fun hc => ?_) | refine redq (fun hc => ?_) (fun hc => ?_) | refine redp (fun r => ?_) (fun r => ?_) | fail))) <;> (first | refine wa_p 4 ?_ | refine wa_p0 4 ?_ | (refine wa_do 4 ?_ <;> (repeat' (first | refine red ?_ | refine redc fun r => ?_ | refine redv fun sv => ?_ | refine redf fun hbi => ?_ | refine redn fun b => ?_ | refine reds ?_ | refine redi (fun hc => ?_) (fun hc => ?_) | refine redq (fun hc => ?_) (fun hc => ?_) | refine redp (fun r => ?_) (fun r => ?_) | fail))) | fail)) <;> (first | refine wa_end ?_ | with_reducible refine wq_keep ?_)) | ((refine wa_begin 16 [false, false, false, false, false] [] ?_ <;> (first | refine wa_f 0 fun hbi => ?_ | refine wa_p 0 ?_ | fail) <;> (first | refine wa_f 1 fun hbi => ?_ | refine wa_p 1 ?_ | (refine wa_do 1 ?_ <;> (repeat' (first | refine red ?_ | refine redc fun r => ?_ | refine redv fun sv => ?_ | refine redf fun hbi => ?_ | refine redn fun b => ?_ | refine reds ?_ | refine redi (fun hc => ?_) (fun hc => ?_) | refine redq (fun hc => ?_) (fun hc => ?_) | refine redp (fun r => ?_) (fun r => ?_) | fail))) | fail) <;> (refine wa_do 2 ?_ <;> (repeat' (first | refine red ?_ | refine redc fun r => ?_ | refine redv fun sv => ?_ | refine redf fun hbi => ?_ | refine redn fun b => ?_ | refine reds ?_ | refine redi (fun hc => ?_) (fun hc => ?_) | refine redq (fun hc => ?_) (fun hc => ?_) | refine redp (fun r => ?_) (fun r => ?_) | fail))) <;> (refine wa_do 3 ?_ <;> (repeat' (first | refine red ?_ | refine redc fun r => ?_ | refine redv fun sv => ?_ | refine redf fun hbi => ?_ | refine redn fun b => ?_ | refine reds ?_ | refine redi (fun hc => ?_) (fun hc => ?_) | refine redq (fun hc => ?_) (fun hc => ?_) | refine redp (fun r => ?_) (fun r => ?_) | fail))) <;> (first | refine wa_p 4 ?_ | refine wa_p0 4 ?_ | (refine wa_do 4 ?_ <;> (repeat' (first | refine red ?_ | refine redc fun r => ?_ | refine redv fun sv => ?_ | refine redf fun hbi => ?_ | refine redn fun b => ?_ | refine reds ?_ | refine redi (fun hc => ?_) (fun hc => ?_) | refine redq (fun hc => ?_) (fun hc => ?_) | refine redp (fun r => ?_) (fun r => ?_) | fail))) | fail)) <;> (first | refine wa_end ?_ | with_reducible refine wq_keep ?_)) | fail)
  all_goals exact ⟨(), rfl, ent_e⟩

end Go.Proofs.YtcaljjkmaffedaaDoor
