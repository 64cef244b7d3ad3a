/- Rules and systems. -/
import Derived.Test.YtogmjihokkdcfaaGreatDoorL04
namespace Go.Proofs.YtogmjihokkdcfaaGreatDoor
open Go Go.Eng
set_option linter.unusedVariables false
set_option linter.unusedSimpArgs false

theorem mem_take_succ {xs : List Int} {k : Nat} {v : Int} (h : k < xs.length) : v ∈ xs.take (k + 1) ↔ v ∈ xs.take k ∨ v = xs.getD k 0 := by
  rw [List.take_succ_eq_append_getElem h, List.mem_append, List.getD_eq_getElem?_getD, List.getElem?_eq_getElem h]
  simp
def RuleP (a : List Int) (r : SRule) : Prop := (termOk a r.1 = true ∧ termOk a r.2 = true ∧ 0 ≤ r.1.getD 0 0) ∧ ∀ n ∈ r.2, 0 ≤ n ∨ n ∈ r.1
instance {a : List Int} {r : SRule} : Decidable (RuleP a r) := by unfold RuleP; infer_instance
def ruleOk (a : List Int) (r : SRule) : Bool := decide (RuleP a r)
theorem rule_step {r : SRule} {k : Nat} (hk : k < r.2.length) (h : ∀ n ∈ r.2.take k, 0 ≤ n ∨ n ∈ r.1) (hn : 0 ≤ r.2.getD k 0 ∨ r.2.getD k 0 ∈ r.1) : ∀ n ∈ r.2.take (k + 1), 0 ≤ n ∨ n ∈ r.1 := by
  intro n hm
  rcases (mem_take_succ hk).1 hm with h1 | h1
  · exact h n h1
  · subst h1; exact hn
theorem rule_no {a : List Int} {r : SRule} {k : Nat} (hk : k < r.2.length) (h1 : r.2.getD k 0 < 0) (h2 : ¬ r.2.getD k 0 ∈ r.1) : ruleOk a r = false := decide_eq_false fun ⟨_, h⟩ => by
  rcases h _ (getD_mem hk) with h | h
  · omega
  · exact h2 h
theorem all_take_step {α : Type} [Inhabited α] {xs : List α} {k : Nat} {p : α → Prop} (hk : k < xs.length) (h : ∀ r ∈ xs.take k, p r) (hn : p (xs.getD k default)) : ∀ r ∈ xs.take (k + 1), p r := by
  intro r hr
  rw [List.take_succ_eq_append_getElem hk, List.mem_append] at hr
  rw [List.getD_eq_getElem?_getD, List.getElem?_eq_getElem hk] at hn
  rcases hr with hr | hr
  · exact h r hr
  · simp only [List.mem_singleton] at hr
    subst hr; exact hn
theorem getD_memD {α : Type} [Inhabited α] {xs : List α} {k : Nat} (hk : k < xs.length) : xs.getD k default ∈ xs := by
  rw [List.getD_eq_getElem?_getD, List.getElem?_eq_getElem hk]; exact List.getElem_mem hk
def SysP (x : SSystem) : Prop := (sigOk x.1 = true ∧ x.2.length ≤ 12) ∧ ∀ r ∈ x.2, ruleOk x.1 r = true
instance {x : SSystem} : Decidable (SysP x) := by unfold SysP; infer_instance
def sysOk (x : SSystem) : Bool := decide (SysP x)
theorem sysOk_iff {x : SSystem} : sysOk x = true ↔ SysP x := decide_eq_true_iff
theorem sys_no {x : SSystem} {k : Nat} (hk : k < x.2.length) (h : ruleOk x.1 (x.2.getD k default) = false) : sysOk x = false := decide_eq_false fun ⟨_, h'⟩ => by
  rw [h' _ (getD_memD hk)] at h; cases h
end Go.Proofs.YtogmjihokkdcfaaGreatDoor
