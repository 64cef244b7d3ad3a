/- The names of the kinds of nodes. -/
import Derived.Test.YtogmjihokkdcfaaGreatDoorNode
import Derived.Test.YtogmjihokkdcfaaGreatDoorNum
import Derived.Test.YtogmjihokkdcfaaGreatDoorEngQ
import Derived.Test.YtogmjihokkdcfaaGreatDoorNumT
import Derived.Test.YtogmjihokkdcfaaGreatDoorTxtI
namespace Go.Proofs.YtogmjihokkdcfaaGreatDoor
open Go Go.Eng
set_option linter.unusedVariables false
set_option linter.unusedSimpArgs false
set_option synthInstance.maxHeartbeats 400000
set_option synthInstance.maxSize 1000
def kindNames : List ByteArray := [⟨#[110, 111, 114, 109, 97, 108]⟩, ⟨#[106, 111, 105, 110]⟩, ⟨#[114, 97, 110, 107]⟩, ⟨#[119, 101, 105, 103, 104, 116, 115]⟩, ⟨#[102, 111, 114, 109, 115]⟩, ⟨#[108, 111, 111, 112]⟩, ⟨#[106, 111, 105, 110, 115]⟩, ⟨#[102, 111, 114, 109]⟩, ⟨#[115, 112, 108, 105, 116]⟩, ⟨#[117, 110, 101, 113, 117, 97, 108]⟩, ⟨#[101, 113, 117, 97, 108]⟩, ⟨#[112, 97, 105, 114, 115]⟩]
theorem kn_len : kindNames.length = 12 := rfl
theorem kn_sz : ∀ s ∈ kindNames, s.size ≤ 7 := by decide
/-- The name of a kind. -/
def knT (k : Int) : ByteArray := if 1 ≤ k ∧ k ≤ 12 then kindNames.getD (k - 1).toNat ByteArray.empty else ByteArray.empty
theorem knT_sz (k : Int) : (knT k).size ≤ 7 := by
  unfold knT
  split
  · by_cases h : (k - 1).toNat < kindNames.length
    · rw [List.getD_eq_getElem?_getD, List.getElem?_eq_getElem h]; exact kn_sz _ (List.getElem_mem h)
    · rw [List.getD_eq_getElem?_getD, List.getElem?_eq_none (by omega)]; exact Nat.zero_le _
  · exact Nat.zero_le _
theorem spec_l32Names_spec {w0 : World} {Γ : List Atom} : CJ Tryz.prog 34 [] w0 Γ (fun r : Value => r) (fun r => .ow [r] kindNames :: Γ) := by
  refine cj_enter Tryz.func34 Tryz.ntmps34 ?_
  repeat' (first | refine red ?_ | refine redf fun hbi => ?_ | refine reds ?_ | refine redc fun r => ?_ | refine redp (fun r => ?_) (fun r => ?_) | refine redv fun sv => ?_ | refine redn fun b => ?_ | refine redz fun zs => ?_ | refine redq (fun hc => ?_) (fun hc => ?_) | with_reducible refine wq_blk_o rfl ?_ | (refine redi (fun hc => ?_) (fun hc => ?_) <;> try first | (exfalso; omega) | exact absurd rfl hc) | fail)
  refine redv (fun sv => ?_) (by decide)
  repeat' (first | refine red ?_ | refine redf fun hbi => ?_ | refine reds ?_ | refine redc fun r => ?_ | refine redp (fun r => ?_) (fun r => ?_) | refine redv fun sv => ?_ | refine redn fun b => ?_ | refine redz fun zs => ?_ | refine redq (fun hc => ?_) (fun hc => ?_) | with_reducible refine wq_blk_o rfl ?_ | (refine redi (fun hc => ?_) (fun hc => ?_) <;> try first | (exfalso; omega) | exact absurd rfl hc) | fail)
  exact ⟨sv, rfl, by unfold kindNames; exact ent_e⟩
instance spec_l32Names_ctr {Γ : List Atom} :
    CtrC Tryz.prog 34 [] Γ (True) (Value) (fun r : Value => r) (fun r => .ow [r] kindNames :: Γ) := ⟨fun s w0 => spec_l32Names_spec⟩

theorem kindNames_spec {w0 : World} {Γ : List Atom} : CJ Tryz.prog 44 [] w0 Γ (fun r : Value => r) (fun r => .ow [r] kindNames :: Γ) := by
  refine cj_enter Tryz.func44 Tryz.ntmps44 ?_
  repeat' (first | refine red ?_ | refine redf fun hbi => ?_ | refine reds ?_ | refine redc fun r => ?_ | refine redp (fun r => ?_) (fun r => ?_) | refine redv fun sv => ?_ | refine redn fun b => ?_ | refine redz fun zs => ?_ | refine redq (fun hc => ?_) (fun hc => ?_) | with_reducible refine wq_blk_o rfl ?_ | (refine redi (fun hc => ?_) (fun hc => ?_) <;> try first | (exfalso; omega) | exact absurd rfl hc) | fail)
  refine redv (fun sv => ?_) (by decide)
  repeat' (first | refine red ?_ | refine redf fun hbi => ?_ | refine reds ?_ | refine redc fun r => ?_ | refine redp (fun r => ?_) (fun r => ?_) | refine redv fun sv => ?_ | refine redn fun b => ?_ | refine redz fun zs => ?_ | refine redq (fun hc => ?_) (fun hc => ?_) | with_reducible refine wq_blk_o rfl ?_ | (refine redi (fun hc => ?_) (fun hc => ?_) <;> try first | (exfalso; omega) | exact absurd rfl hc) | fail)
  exact ⟨sv, rfl, by unfold kindNames; exact ent_e⟩
instance kindNames_ctr {Γ : List Atom} :
    CtrC Tryz.prog 44 [] Γ (True) (Value) (fun r : Value => r) (fun r => .ow [r] kindNames :: Γ) := ⟨fun s w0 => kindNames_spec⟩

theorem spec_KindName_spec {w0 : World} {Γ : List Atom} {k : Int} (hk : -9223372036854775808 ≤ k ∧ k ≤ 9223372036854775807) : CJ Tryz.prog 40 [.int .i64 k] w0 Γ (fun _ : Unit => .string (knT k)) (fun _ => Γ) := by
  have hl := kn_len
  refine cj_enter Tryz.func40 Tryz.ntmps40 ?_
  repeat' (first | refine red ?_ | refine redf fun hbi => ?_ | refine reds ?_ | refine redc fun r => ?_ | refine redp (fun r => ?_) (fun r => ?_) | refine redv fun sv => ?_ | refine redn fun b => ?_ | refine redz fun zs => ?_ | refine redq (fun hc => ?_) (fun hc => ?_) | with_reducible refine wq_blk_o rfl ?_ | (refine redd fun p cs as_ hcs has hf => ?_; simp only [Un.cells, Un.atoms, Un.fact, List.cons_append, List.nil_append] at hcs has hf; subst hcs has) | (refine redi (fun hc => ?_) (fun hc => ?_) <;> try first | (exfalso; omega) | exact absurd rfl hc) | fail)
  · exact ⟨(), by rw [knT, if_neg (by omega)]; rfl, ent_e⟩
  · exact ⟨(), by rw [knT, if_pos (by omega), Int.toNat_natCast], ent_e⟩
instance spec_KindName_ctr {Γ : List Atom} {k : Int} :
    CtrC Tryz.prog 40 [.int .i64 k] Γ (-9223372036854775808 ≤ k ∧ k ≤ 9223372036854775807) (Unit) (fun _ : Unit => .string (knT k)) (fun _ => Γ) := ⟨fun s w0 => spec_KindName_spec s⟩

end Go.Proofs.YtogmjihokkdcfaaGreatDoor
namespace Go.Proofs.YtogmjihokkdcfaaGreatDoor
open Go Go.Eng
set_option linter.unusedVariables false
set_option linter.unusedSimpArgs false

def BadKid (m : Int) (ks : List Int) (n : Nat) : Prop := ∃ i, i < n ∧ (ks.getD i 0 < 0 ∨ m ≤ ks.getD i 0)
instance {m : Int} {ks : List Int} {n : Nat} : Decidable (BadKid m ks n) := decidable_of_iff (∃ i, ∃ _ : i < n, (ks.getD i 0 < 0 ∨ m ≤ ks.getD i 0)) ⟨fun ⟨i, h, h'⟩ => ⟨i, h, h'⟩, fun ⟨i, h, h'⟩ => ⟨i, h, h'⟩⟩
theorem bad_next {m : Int} {ks : List Int} {n : Nat} (h : ¬ BadKid m ks n) (h2 : ¬ (ks.getD n 0 < 0 ∨ m ≤ ks.getD n 0)) : ¬ BadKid m ks (n + 1) := by
  rintro ⟨i, hi, h'⟩
  by_cases he : i = n
  · rw [he] at h'; exact h2 h'
  · exact h ⟨i, by omega, h'⟩
def BadTerm (ts : List (List Int)) (n : Nat) : Prop := ∃ i, i < n ∧ ¬ (1 ≤ (ts.getD i default).length ∧ (ts.getD i default).length ≤ 60)
instance {ts : List (List Int)} {n : Nat} : Decidable (BadTerm ts n) := decidable_of_iff (∃ i, ∃ _ : i < n, ¬ (1 ≤ (ts.getD i default).length ∧ (ts.getD i default).length ≤ 60)) ⟨fun ⟨i, h, h'⟩ => ⟨i, h, h'⟩, fun ⟨i, h, h'⟩ => ⟨i, h, h'⟩⟩
theorem badt_next {ts : List (List Int)} {n : Nat} (h : ¬ BadTerm ts n) (h2 : 1 ≤ (ts.getD n default).length ∧ (ts.getD n default).length ≤ 60) : ¬ BadTerm ts (n + 1) := by
  rintro ⟨i, hi, h'⟩
  by_cases he : i = n
  · rw [he] at h'; exact h' h2
  · exact h ⟨i, by omega, h'⟩
theorem NodeOk1_spec {w0 : World} {Γ Δ : List Atom} {b : Nat} {k m : Int} [hb : PullBk Γ b [.int .i64 m] Δ] : CJ Tryz.prog 50 [.int .i64 k, .pointer (some ⟨b, 0, none⟩)] w0 Γ (fun _ : Unit => .bool (decide (k < 0 ∨ m ≤ k))) (fun _ => .bk b [.int .i64 m] :: Δ) := by
  refine cj_perm hb.perm ?_
  refine cj_enter Tryz.func50 Tryz.ntmps50 ?_
  repeat' (first | refine red ?_ | refine redf fun hbi => ?_ | refine reds ?_ | refine redc fun r => ?_ | refine redp (fun r => ?_) (fun r => ?_) | refine redv fun sv => ?_ | refine redn fun b => ?_ | refine redz fun zs => ?_ | refine redq (fun hc => ?_) (fun hc => ?_) | with_reducible refine wq_blk_o rfl ?_ | (refine redi (fun hc => ?_) (fun hc => ?_) <;> try first | (exfalso; omega) | exact absurd rfl hc) | fail)
  · exact ⟨(), ret_bool (decide_eq_true (.inl hc)), ent_e⟩
  · exact ⟨(), ret_bool (decide_eq_decide.2 ⟨fun h => by omega, fun h => .inr h⟩), ent_e⟩
instance NodeOk1_ctr {Γ Δ : List Atom} {b : Nat} {k m : Int} [hb : PullBk Γ b [.int .i64 m] Δ] :
    CtrC Tryz.prog 50 [.int .i64 k, .pointer (some ⟨b, 0, none⟩)] Γ (True) (Unit) (fun _ : Unit => .bool (decide (k < 0 ∨ m ≤ k))) (fun _ => .bk b [.int .i64 m] :: Δ) := ⟨fun s w0 => NodeOk1_spec⟩

theorem IndexFuncK_spec {w0 : World} {Γ Δ : List Atom} {b : Nat} {m : Int} {v : Value} {ks : List Int} [hb : PullBk Γ b [.int .i64 m] Δ] [h : HasRd (List Int) repList Δ [v] ks] : CJ Tryz.prog 66 [v, .func (.func 50) #[] #[.pointer (some ⟨b, 0, none⟩)]] w0 Γ (fun q : { n : Int // 0 ≤ n ↔ BadKid m ks ks.length } => .int .i64 q.1) (fun _ => .bk b [.int .i64 m] :: Δ) := by
  refine cj_perm hb.perm ?_
  refine cj_len v fun hlx => ?_
  refine cj_enter Tryz.func66 Tryz.ntmps66 ?_
  repeat' (first | refine red ?_ | refine redf fun hbi => ?_ | refine reds ?_ | refine redc fun r => ?_ | refine redp (fun r => ?_) (fun r => ?_) | refine redv fun sv => ?_ | refine redn fun b => ?_ | refine redz fun zs => ?_ | refine redq (fun hc => ?_) (fun hc => ?_) | with_reducible refine wq_blk_o rfl ?_ | (refine redi (fun hc => ?_) (fun hc => ?_) <;> try first | (exfalso; omega) | exact absurd rfl hc) | fail)
  refine wc_loop_c [8] [9, 10, 5, 11, 12, 13, 14, 15, 16, 17, 4, 18] (ι := Nat) (fun k => [.int .i64 k]) (fun k => k ≤ ks.length ∧ ¬ BadKid m ks k) (fun k => ks.length - k) 0 (by kernel_rfl) ⟨Nat.zero_le _, fun ⟨i, hi, _⟩ => by omega⟩ ?_
  intro k u l' hl' ⟨hk, hkk⟩
  simp only [patch, List.map_cons, List.map_nil, List.set_cons_zero, List.set_cons_succ] at hl'
  subst hl'
  repeat' (first | refine red ?_ | refine redf fun hbi => ?_ | refine reds ?_ | refine redc fun r => ?_ | refine redp (fun r => ?_) (fun r => ?_) | refine redv fun sv => ?_ | refine redn fun b => ?_ | refine redz fun zs => ?_ | refine redq (fun hc => ?_) (fun hc => ?_) | with_reducible refine wq_blk_o rfl ?_ | (refine redi (fun hc => ?_) (fun hc => ?_) <;> try first | (exfalso; omega) | exact absurd rfl hc) | fail)
  · exact ⟨⟨(k : Int), ⟨fun _ => ⟨k, by omega, hc⟩, fun _ => by omega⟩⟩, rfl, ent_e⟩
  · exact wq_next (k + 1) ⟨by omega, bad_next hkk hc⟩ (by omega) (by kernel_rfl) ent_e
  · exact ⟨⟨-1, ⟨fun h => by omega, fun h => absurd (by rw [show ks.length = k by omega] at h; exact h) hkk⟩⟩, rfl, ent_e⟩
instance IndexFuncK_ctr {Γ Δ : List Atom} {b : Nat} {m : Int} {v : Value} {ks : List Int} [hb : PullBk Γ b [.int .i64 m] Δ] [h : HasRd (List Int) repList Δ [v] ks] :
    CtrC Tryz.prog 66 [v, .func (.func 50) #[] #[.pointer (some ⟨b, 0, none⟩)]] Γ (True) ({ n : Int // 0 ≤ n ↔ BadKid m ks ks.length }) (fun q : { n : Int // 0 ≤ n ↔ BadKid m ks ks.length } => .int .i64 q.1) (fun _ => .bk b [.int .i64 m] :: Δ) := ⟨fun s w0 => IndexFuncK_spec⟩

theorem ContainsFuncK_spec {w0 : World} {Γ Δ : List Atom} {b : Nat} {m : Int} {v : Value} {ks : List Int} [hb : PullBk Γ b [.int .i64 m] Δ] [h : HasRd (List Int) repList Δ [v] ks] : CJ Tryz.prog 49 [v, .func (.func 50) #[] #[.pointer (some ⟨b, 0, none⟩)]] w0 Γ (fun _ : Unit => .bool (decide (BadKid m ks ks.length))) (fun _ => .bk b [.int .i64 m] :: Δ) := by
  refine cj_perm hb.perm ?_
  refine cj_enter Tryz.func49 Tryz.ntmps49 ?_
  repeat' (first | refine red ?_ | refine redf fun hbi => ?_ | refine reds ?_ | refine redc fun r => ?_ | refine redp (fun r => ?_) (fun r => ?_) | refine redv fun sv => ?_ | refine redn fun b => ?_ | refine redz fun zs => ?_ | refine redq (fun hc => ?_) (fun hc => ?_) | with_reducible refine wq_blk_o rfl ?_ | (refine redi (fun hc => ?_) (fun hc => ?_) <;> try first | (exfalso; omega) | exact absurd rfl hc) | fail)
  exact ⟨(), ret_bool (decide_eq_decide.2 r.2.symm), ent_e⟩
instance ContainsFuncK_ctr {Γ Δ : List Atom} {b : Nat} {m : Int} {v : Value} {ks : List Int} [hb : PullBk Γ b [.int .i64 m] Δ] [h : HasRd (List Int) repList Δ [v] ks] :
    CtrC Tryz.prog 49 [v, .func (.func 50) #[] #[.pointer (some ⟨b, 0, none⟩)]] Γ (True) (Unit) (fun _ : Unit => .bool (decide (BadKid m ks ks.length))) (fun _ => .bk b [.int .i64 m] :: Δ) := ⟨fun s w0 => ContainsFuncK_spec⟩

def NodeP (n : SNode) (m : Int) : Prop := (0 ≤ m ∧ 1 ≤ n.1 ∧ n.1 ≤ 12) ∧ (n.2.1.length ≤ 200 ∧ n.2.2.1.length ≤ 61 ∧ n.2.2.2.length ≤ 64) ∧ ¬ BadTerm n.2.2.1 n.2.2.1.length ∧ ¬ BadKid m n.2.2.2 n.2.2.2.length
instance {n : SNode} {m : Int} : Decidable (NodeP n m) := by unfold NodeP; infer_instance
def nodeOk (n : SNode) (m : Int) : Bool := decide (NodeP n m)
instance {n : SNode} {m : Int} : BoolP (nodeOk n m) (NodeP n m) := ⟨decide_eq_true_iff⟩
instance {n : SNode} {m : Int} : BoolN (nodeOk n m) (¬ NodeP n m) := ⟨decide_eq_false_iff_not⟩
theorem impl_NodeOk_spec {w0 : World} {Γ : List Atom} {va vb vc : Value} {n : SNode} {m : Int} [ha : HasRd (List Int) repList Γ [va] n.2.1] [hb : HasRd (List (List Int)) repList Γ [vb] n.2.2.1] [hc' : HasRd (List Int) repList Γ [vc] n.2.2.2] : CJ Tryz.prog 25 [.agg #[.int .i64 n.1, va, vb, vc], .int .i64 m] w0 Γ (fun _ : Unit => .bool (nodeOk n m)) (fun _ => Γ) := by
  refine cj_lift (R := [.rd [va] n.2.1, .rd [vb] n.2.2.1, .rd [vc] n.2.2.2]) (A := fun _ => []) (fun w1 => ?_) (reads_cons ha (reads_cons hb (reads_cons hc' (inferInstance)))) (fun _ => inferInstance)
  simp only [List.cons_append, List.nil_append]
  refine cj_len va fun hla => ?_
  refine cj_len vb fun hlb => ?_
  refine cj_len vc fun hlc => ?_
  refine cj_enter Tryz.func25 Tryz.ntmps25 ?_
  repeat' (first | refine red ?_ | refine redf fun hbi => ?_ | refine reds ?_ | refine redc fun r => ?_ | refine redp (fun r => ?_) (fun r => ?_) | refine redv fun sv => ?_ | refine redn fun b => ?_ | refine redz fun zs => ?_ | refine redq (fun hc => ?_) (fun hc => ?_) | with_reducible refine wq_blk_o rfl ?_ | (refine redd fun p cs as_ hcs has hf => ?_; simp only [Un.cells, Un.atoms, Un.fact, List.cons_append, List.nil_append] at hcs has hf; subst hcs has) | (refine redi (fun hc => ?_) (fun hc => ?_) <;> try first | (exfalso; omega) | exact absurd rfl hc) | fail)
  all_goals first
    | exact ⟨(), ret_bool (decide_eq_false fun h => by have h1 := h.1; have h2 := h.2.1; omega), ent_e⟩
    | skip
  refine wc_loop_c [40] [41, 42, 43, 6, 44, 45, 46, 4, 47] (ι := Nat) (fun k => [.int .i64 k]) (fun k => k ≤ n.2.2.1.length ∧ ¬ BadTerm n.2.2.1 k) (fun k => n.2.2.1.length - k) 0 (by kernel_rfl) ⟨Nat.zero_le _, fun ⟨i, hi, _⟩ => by omega⟩ ?_
  intro k u l' hl' ⟨hk, hkk⟩
  simp only [patch, List.map_cons, List.map_nil, List.set_cons_zero, List.set_cons_succ] at hl'
  subst hl'
  repeat' (first | refine red ?_ | refine redf fun hbi => ?_ | refine reds ?_ | refine redc fun r => ?_ | refine redp (fun r => ?_) (fun r => ?_) | refine redv fun sv => ?_ | refine redn fun b => ?_ | refine redz fun zs => ?_ | refine redq (fun hc => ?_) (fun hc => ?_) | with_reducible refine wq_blk_o rfl ?_ | (refine redd fun p cs as_ hcs has hf => ?_; simp only [Un.cells, Un.atoms, Un.fact, List.cons_append, List.nil_append] at hcs has hf; subst hcs has) | (refine redi (fun hc => ?_) (fun hc => ?_) <;> try first | (exfalso; omega) | exact absurd rfl hc) | fail)
  · exact ⟨(), ret_bool (decide_eq_false fun h => h.2.2.1 ⟨k, by omega, hc⟩), ent_e⟩
  · exact wq_next (k + 1) ⟨by omega, badt_next hkk hc⟩ (by omega) (by kernel_rfl) ent_e
  · have hkl : k = n.2.2.1.length := by omega
    subst hkl
    refine ⟨(), ret_bool ?_, ent_e⟩
    unfold nodeOk
    rw [← decide_not]
    exact decide_eq_decide.2 ⟨fun h => h.2.2.2, fun h => ⟨by omega, by omega, hkk, h⟩⟩
instance impl_NodeOk_ctr {Γ : List Atom} {va vb vc : Value} {n : SNode} {m : Int} [ha : HasRd (List Int) repList Γ [va] n.2.1] [hb : HasRd (List (List Int)) repList Γ [vb] n.2.2.1] [hc' : HasRd (List Int) repList Γ [vc] n.2.2.2] :
    CtrC Tryz.prog 25 [.agg #[.int .i64 n.1, va, vb, vc], .int .i64 m] Γ (True) (Unit) (fun _ : Unit => .bool (nodeOk n m)) (fun _ => Γ) := ⟨fun s w0 => impl_NodeOk_spec⟩

theorem spec_NodeOk_spec {w0 : World} {Γ : List Atom} {va vb vc : Value} {n : SNode} {m : Int} [ha : HasRd (List Int) repList Γ [va] n.2.1] [hb : HasRd (List (List Int)) repList Γ [vb] n.2.2.1] [hc' : HasRd (List Int) repList Γ [vc] n.2.2.2] (hm : m ≤ 1048576) : CJ Tryz.prog 36 [.agg #[.int .i64 n.1, va, vb, vc], .int .i64 m] w0 Γ (fun _ : Unit => .bool (nodeOk n m)) (fun _ => Γ) := by
  refine cj_lift (R := [.rd [va] n.2.1, .rd [vb] n.2.2.1, .rd [vc] n.2.2.2]) (A := fun _ => []) (fun w1 => ?_) (reads_cons ha (reads_cons hb (reads_cons hc' (inferInstance)))) (fun _ => inferInstance)
  simp only [List.cons_append, List.nil_append]
  refine cj_len va fun hla => ?_
  refine cj_len vb fun hlb => ?_
  refine cj_len vc fun hlc => ?_
  refine cj_enter Tryz.func36 Tryz.ntmps36 ?_
  repeat' (first | refine red ?_ | refine redf fun hbi => ?_ | refine reds ?_ | refine redc fun r => ?_ | refine redp (fun r => ?_) (fun r => ?_) | refine redv fun sv => ?_ | refine redn fun b => ?_ | refine redz fun zs => ?_ | refine redq (fun hc => ?_) (fun hc => ?_) | with_reducible refine wq_blk_o rfl ?_ | (refine redd fun p cs as_ hcs has hf => ?_; simp only [Un.cells, Un.atoms, Un.fact, List.cons_append, List.nil_append] at hcs has hf; subst hcs has) | (refine redi (fun hc => ?_) (fun hc => ?_) <;> try first | (exfalso; omega) | exact absurd rfl hc) | fail)
  all_goals first
    | exact ⟨(), ret_bool (decide_eq_false fun h => by have h1 := h.1; have h2 := h.2.1; omega), ent_e⟩
    | skip
  refine wc_loop_c [5] [33, 34, 35, 36, 37, 40, 41, 42, 43, 44, 45, 46, 4, 38, 39] (ι := Nat) (fun k => [.int .i64 k]) (fun k => k ≤ n.2.2.1.length ∧ ¬ BadTerm n.2.2.1 k) (fun k => n.2.2.1.length - k) 0 (by kernel_rfl) ⟨Nat.zero_le _, fun ⟨i, hi, _⟩ => by omega⟩ ?_
  intro k u l' hl' ⟨hk, hkk⟩
  simp only [patch, List.map_cons, List.map_nil, List.set_cons_zero, List.set_cons_succ] at hl'
  subst hl'
  repeat' (first | refine red ?_ | refine redf fun hbi => ?_ | refine reds ?_ | refine redc fun r => ?_ | refine redp (fun r => ?_) (fun r => ?_) | refine redv fun sv => ?_ | refine redn fun b => ?_ | refine redz fun zs => ?_ | refine redq (fun hc => ?_) (fun hc => ?_) | with_reducible refine wq_blk_o rfl ?_ | (refine redd fun p cs as_ hcs has hf => ?_; simp only [Un.cells, Un.atoms, Un.fact, List.cons_append, List.nil_append] at hcs has hf; subst hcs has) | (refine redi (fun hc => ?_) (fun hc => ?_) <;> try first | (exfalso; omega) | exact absurd rfl hc) | fail)
  · exact ⟨(), ret_bool (decide_eq_false fun h => h.2.2.1 ⟨k, by omega, hc⟩), ent_e⟩
  · exact wq_next (k + 1) ⟨by omega, badt_next hkk hc⟩ (by omega) (by kernel_rfl) ent_e
  have hkl : k = n.2.2.1.length := by omega
  subst hkl
  refine wc_loop_c [6] [47, 48, 49, 50, 51, 54, 55, 56, 57, 58, 59, 60, 61, 62, 4, 52, 53] (ι := Nat) (fun k => [.int .i64 k]) (fun k => k ≤ n.2.2.2.length ∧ ¬ BadKid m n.2.2.2 k) (fun k => n.2.2.2.length - k) 0 (by kernel_rfl) ⟨Nat.zero_le _, fun ⟨i, hi, _⟩ => by omega⟩ ?_
  intro k u l' hl' ⟨hk, hkk2⟩
  simp only [patch, List.map_cons, List.map_nil, List.set_cons_zero, List.set_cons_succ] at hl'
  subst hl'
  repeat' (first | refine red ?_ | refine redf fun hbi => ?_ | refine reds ?_ | refine redc fun r => ?_ | refine redp (fun r => ?_) (fun r => ?_) | refine redv fun sv => ?_ | refine redn fun b => ?_ | refine redz fun zs => ?_ | refine redq (fun hc => ?_) (fun hc => ?_) | with_reducible refine wq_blk_o rfl ?_ | (refine redd fun p cs as_ hcs has hf => ?_; simp only [Un.cells, Un.atoms, Un.fact, List.cons_append, List.nil_append] at hcs has hf; subst hcs has) | (refine redi (fun hc => ?_) (fun hc => ?_) <;> try first | (exfalso; omega) | exact absurd rfl hc) | fail)
  · exact ⟨(), ret_bool (decide_eq_false fun h => h.2.2.2 ⟨k, by omega, by omega⟩), ent_e⟩
  · exact wq_next (k + 1) ⟨by omega, bad_next hkk2 (by omega)⟩ (by omega) (by kernel_rfl) ent_e
  · have hkl : k = n.2.2.2.length := by omega
    subst hkl
    exact ⟨(), ret_bool (decide_eq_true ⟨by omega, by omega, hkk, hkk2⟩), ent_e⟩

instance spec_NodeOk_ctr {Γ : List Atom} {va vb vc : Value} {n : SNode} {m : Int} [ha : HasRd (List Int) repList Γ [va] n.2.1] [hb : HasRd (List (List Int)) repList Γ [vb] n.2.2.1] [hc' : HasRd (List Int) repList Γ [vc] n.2.2.2] :
    CtrC Tryz.prog 36 [.agg #[.int .i64 n.1, va, vb, vc], .int .i64 m] Γ (m ≤ 1048576) (Unit) (fun _ : Unit => .bool (nodeOk n m)) (fun _ => Γ) := ⟨fun s w0 => spec_NodeOk_spec s⟩

end Go.Proofs.YtogmjihokkdcfaaGreatDoor
namespace Go.Proofs.YtogmjihokkdcfaaGreatDoor
open Go Go.Eng
set_option linter.unusedVariables false
set_option linter.unusedSimpArgs false
set_option synthInstance.maxHeartbeats 400000
set_option synthInstance.maxSize 1000
set_option maxHeartbeats 2000000
set_option maxRecDepth 20000
theorem bs_app (x y : ByteArray) : (x ++ y).size = x.size + y.size := ByteArray.size_append
/-- Terms as texts. -/
def tT (a : List Int) (ts : List (List Int)) : List ByteArray := ts.map fun t => S (TX a t 0)
theorem tT_len (a : List Int) (ts : List (List Int)) : (tT a ts).length = ts.length := List.length_map _
theorem tT_take (a : List Int) (ts : List (List Int)) {k : Nat} (h : k < ts.length) : tT a (ts.take k) ++ [S (TX a (ts.getD k default) 0)] = tT a (ts.take (k + 1)) := by
  unfold tT
  rw [List.take_succ_eq_append_getElem h, List.map_append, List.getD_eq_getElem?_getD, List.getElem?_eq_getElem h]; rfl
/-- The first k terms are well formed. -/
def TsOk (a : List Int) (ts : List (List Int)) (k : Nat) : Prop := ∀ i, i < k → termOk a (ts.getD i default) = true
theorem tsOk_next {a : List Int} {ts : List (List Int)} {k : Nat} (h : TsOk a ts k) (hk : termOk a (ts.getD k default) = true) : TsOk a ts (k + 1) := fun i hi => by
  by_cases he : i = k
  · rw [he]; exact hk
  · exact h i (by omega)
instance {a : List Int} {ts : List (List Int)} {k : Nat} : Decidable (TsOk a ts k) := decidable_of_iff (∀ i, ∀ _ : i < k, termOk a (ts.getD i default) = true) Iff.rfl
def trT (a : List Int) (ts : List (List Int)) : ByteArray := if ts.length = 0 then S [45] else S (jnT 59 (tT a ts) ts.length)
def NdP (a : List Int) (n : SNode) : Prop := sigOk a = true ∧ nodeOk n 64 = true ∧ TsOk a n.2.2.1 n.2.2.1.length
instance {a : List Int} {n : SNode} : Decidable (NdP a n) := by unfold NdP; infer_instance
/-- A node as a text. -/
def ndT (a : List Int) (n : SNode) : ByteArray := if NdP a n then knT n.1 ++ S [32] ++ lsT n.2.1 ++ S [32] ++ trT a n.2.2.1 ++ S [32] ++ lsT n.2.2.2 else ByteArray.empty
theorem trT_sz (a : List Int) (ts : List (List Int)) (k : Nat) (hk : k ≤ ts.length) (hl : ts.length ≤ 61) (h : TsOk a ts k) (h60 : ∀ i, i < ts.length → (ts.getD i default).length ≤ 60) : szT (tT a (ts.take k)) k ≤ k * 200000 := by
  refine szT_le _ 200000 (fun s hs => ?_) k
  obtain ⟨t, ht, rfl⟩ := List.mem_map.1 hs
  rw [S_size]
  obtain ⟨i, hi, rfl⟩ := List.mem_iff_getElem.1 ht
  rw [List.length_take] at hi
  have hg : (ts.take k)[i] = ts.getD i default := by
    rw [List.getElem_take, List.getD_eq_getElem?_getD, List.getElem?_eq_getElem (by omega)]; rfl
  rw [hg]
  have hok := h i (by omega)
  have h6 := h60 i (by omega)
  have hpos := termOk_len hok
  have := TX_len hok _ 0 (by omega) (Nat.le_refl _)
  have hsl : (subt a (ts.getD i default) 0).length ≤ (ts.getD i default).length := by
    unfold subt; rw [List.length_take, List.length_drop]; omega
  omega
theorem TT_sz {a t : List Int} (h : t.length ≤ 60) : (S (TT a t)).size ≤ 1000 := by
  rw [S_size]
  by_cases hok : termOk a t = true
  · rw [show TT a t = TX a t 0 from if_pos hok]
    have hpos := termOk_len hok
    have := TX_len hok _ 0 (by omega) (Nat.le_refl _)
    have hsl : (subt a t 0).length ≤ t.length := by
      unfold subt; rw [List.length_take, List.length_drop]; omega
    omega
  · rw [show TT a t = [] from if_neg hok]; simp
theorem cat_sz (K L T L2 : ByteArray) : ({ data := #[32] } : ByteArray).size = 1 ∧ (K ++ { data := #[32] }).size = K.size + 1 ∧ (K ++ { data := #[32] } ++ L).size = K.size + 1 + L.size ∧ (K ++ { data := #[32] } ++ L ++ { data := #[32] }).size = K.size + 1 + L.size + 1 ∧
    (K ++ { data := #[32] } ++ L ++ { data := #[32] } ++ T).size = K.size + 1 + L.size + 1 + T.size ∧ (K ++ { data := #[32] } ++ L ++ { data := #[32] } ++ T ++ { data := #[32] }).size = K.size + 1 + L.size + 1 + T.size + 1 := by
  simp only [bs_app]
  exact ⟨rfl, rfl, rfl, rfl, rfl, rfl⟩
theorem ndP60 {n : SNode} (h : NodeP n 64) {i : Nat} (hi : i < n.2.2.1.length) : (n.2.2.1.getD i default).length ≤ 60 := by
  have h1 := h.2.2.1
  by_cases h2 : 1 ≤ (n.2.2.1.getD i default).length ∧ (n.2.2.1.getD i default).length ≤ 60
  · exact h2.2
  · exact absurd ⟨i, hi, h2⟩ h1
theorem lsT_sz (xs : List Int) (h : ∀ n ∈ xs, In64 n) : (lsT xs).size ≤ xs.length * 22 + 1 := by
  unfold lsT
  split
  · rw [S_size]; simp
  · rw [S_size]
    have h1 := (jnT_len 44 (nT xs) xs.length).1
    have h2 := nT_sz xs h
    omega
theorem spec_NodeText_spec {w0 : World} {Γ : List Atom} {v va vb vc : Value} {a : List Int} {n : SNode} [h : HasRd (List Int) repList Γ [v] a] [ha : HasRd (List Int) repList Γ [va] n.2.1] [hb : HasRd (List (List Int)) repList Γ [vb] n.2.2.1] [hc' : HasRd (List Int) repList Γ [vc] n.2.2.2] (hk : -9223372036854775808 ≤ n.1 ∧ n.1 ≤ 9223372036854775807) :
    CJ Tryz.prog 18 [.agg #[v], .agg #[.int .i64 n.1, va, vb, vc]] w0 Γ (fun _ : Unit => .string (ndT a n)) (fun _ => Γ) := by
  refine cj_in64 va fun h64a => ?_
  refine cj_in64 vc fun h64c => ?_
  refine cj_lift (R := [.rd [v] a, .rd [va] n.2.1, .rd [vb] n.2.2.1, .rd [vc] n.2.2.2]) (A := fun _ => []) (fun w1 => ?_) (reads_cons h (reads_cons ha (reads_cons hb (reads_cons hc' (inferInstance))))) (fun _ => inferInstance)
  simp only [List.cons_append, List.nil_append]
  refine cj_enter Tryz.func18 Tryz.ntmps18 ?_
  repeat' (first | refine red ?_ | refine redf fun hbi => ?_ | refine reds ?_ | refine redc fun r => ?_ | refine redp (fun r => ?_) (fun r => ?_) | refine redv fun sv => ?_ | refine redn fun b => ?_ | refine redz fun zs => ?_ | refine redq (fun hc => ?_) (fun hc => ?_) | with_reducible refine wq_blk_o rfl ?_ | (refine redd fun p cs as_ hcs has hf => ?_; simp only [Un.cells, Un.atoms, Un.fact, List.cons_append, List.nil_append] at hcs has hf; subst hcs has) | (refine redi (fun hc => ?_) (fun hc => ?_) <;> try first | (exfalso; omega) | exact absurd rfl hc) | ((refine wa_begin 7 [false, false, false, false, false, false, false, false] [] ?_ <;> refine wa_p 0 ?_ <;> (first | refine wa_p 1 ?_ | refine wa_p0 1 ?_ | fail) <;> (first | refine wa_f 2 fun hbi => ?_ | refine wa_p 2 ?_ | fail) <;> (first | refine wa_p 3 ?_ | refine wa_p0 3 ?_) <;> (first | refine wa_p 4 ?_ | (refine wa_deep 4 fun p cs as_ asb_ hcs has hasb hf => ?_; simp only [Un.cells, Un.atoms, Un.fact, List.cons_append, List.nil_append] at hcs has hasb hf; subst hcs has hasb) | fail) <;> (first | refine wa_f 5 fun hbi => ?_ | refine wa_p 5 ?_ | (refine wa_do 5 ?_ <;> (repeat' (first | refine red ?_ | refine redc fun r => ?_ | refine redv fun sv => ?_ | refine redf fun hbi => ?_ | refine redn fun b => ?_ | refine reds ?_ | refine redi (fun hc => ?_) (fun hc => ?_) | refine redq (fun hc => ?_) (fun hc => ?_) | refine redp (fun r => ?_) (fun r => ?_) | fail))) | fail) <;> (refine wa_do 6 ?_ <;> (repeat' (first | refine red ?_ | refine redc fun r => ?_ | refine redv fun sv => ?_ | refine redf fun hbi => ?_ | refine redn fun b => ?_ | refine reds ?_ | refine redi (fun hc => ?_) (fun hc => ?_) | refine redq (fun hc => ?_) (fun hc => ?_) | refine redp (fun r => ?_) (fun r => ?_) | fail))) <;> (first | refine wa_p 7 ?_ | refine wa_p0 7 ?_ | (refine wa_do 7 ?_ <;> (repeat' (first | refine red ?_ | refine redc fun r => ?_ | refine redv fun sv => ?_ | refine redf fun hbi => ?_ | refine redn fun b => ?_ | refine reds ?_ | refine redi (fun hc => ?_) (fun hc => ?_) | refine redq (fun hc => ?_) (fun hc => ?_) | refine redp (fun r => ?_) (fun r => ?_) | fail))) | fail)) <;> (first | refine wa_end ?_ | with_reducible refine wq_keep ?_)) | ((refine wa_begin 9 [false, false, false, false, false, false, false, false, false, false, false] [9] ?_ <;> (first | refine wa_p 0 ?_ | refine wa_p0 0 ?_) <;> refine wa_p 1 ?_ <;> (first | refine wa_p 2 ?_ | refine wa_p0 2 ?_ | fail) <;> (first | refine wa_f 3 fun hbi => ?_ | refine wa_p 3 ?_ | fail) <;> (first | refine wa_p 4 ?_ | refine wa_p0 4 ?_) <;> (first | refine wa_p 5 ?_ | (refine wa_deep 5 fun p cs as_ asb_ hcs has hasb hf => ?_; simp only [Un.cells, Un.atoms, Un.fact, List.cons_append, List.nil_append] at hcs has hasb hf; subst hcs has hasb) | fail) <;> (first | refine wa_f 6 fun hbi => ?_ | refine wa_p 6 ?_ | (refine wa_do 6 ?_ <;> (repeat' (first | refine red ?_ | refine redc fun r => ?_ | refine redv fun sv => ?_ | refine redf fun hbi => ?_ | refine redn fun b => ?_ | refine reds ?_ | refine redi (fun hc => ?_) (fun hc => ?_) | refine redq (fun hc => ?_) (fun hc => ?_) | refine redp (fun r => ?_) (fun r => ?_) | fail))) | fail) <;> (refine wa_do 7 ?_ <;> (repeat' (first | refine red ?_ | refine redc fun r => ?_ | refine redv fun sv => ?_ | refine redf fun hbi => ?_ | refine redn fun b => ?_ | refine reds ?_ | refine redi (fun hc => ?_) (fun hc => ?_) | refine redq (fun hc => ?_) (fun hc => ?_) | refine redp (fun r => ?_) (fun r => ?_) | fail))) <;> (refine wa_do 8 ?_ <;> (repeat' (first | refine red ?_ | refine redc fun r => ?_ | refine redv fun sv => ?_ | refine redf fun hbi => ?_ | refine redn fun b => ?_ | refine reds ?_ | refine redi (fun hc => ?_) (fun hc => ?_) | refine redq (fun hc => ?_) (fun hc => ?_) | refine redp (fun r => ?_) (fun r => ?_) | fail))) <;> (refine wa_do 9 ?_ <;> (repeat' (first | refine red ?_ | refine redc fun r => ?_ | refine redv fun sv => ?_ | refine redf fun hbi => ?_ | refine redn fun b => ?_ | refine reds ?_ | refine redi (fun hc => ?_) (fun hc => ?_) | refine redq (fun hc => ?_) (fun hc => ?_) | refine redp (fun r => ?_) (fun r => ?_) | fail))) <;> (first | refine wa_p 10 ?_ | refine wa_p0 10 ?_)) <;> (first | refine wa_end ?_ | with_reducible refine wq_keep ?_)) | ((refine wa_begin1 9 [false, false, false, false, false, false, false, false, false, false, false] [] ?_ <;> (first | refine wa_p 0 ?_ | refine wa_p0 0 ?_) <;> refine wa_p 1 ?_ <;> (first | refine wa_p 2 ?_ | refine wa_p0 2 ?_ | fail) <;> (first | refine wa_f 3 fun hbi => ?_ | refine wa_p 3 ?_ | fail) <;> (first | refine wa_p 4 ?_ | refine wa_p0 4 ?_) <;> (first | refine wa_p 5 ?_ | (refine wa_deep 5 fun p cs as_ asb_ hcs has hasb hf => ?_; simp only [Un.cells, Un.atoms, Un.fact, List.cons_append, List.nil_append] at hcs has hasb hf; subst hcs has hasb) | fail) <;> (first | refine wa_f 6 fun hbi => ?_ | refine wa_p 6 ?_ | (refine wa_do 6 ?_ <;> (repeat' (first | refine red ?_ | refine redc fun r => ?_ | refine redv fun sv => ?_ | refine redf fun hbi => ?_ | refine redn fun b => ?_ | refine reds ?_ | refine redi (fun hc => ?_) (fun hc => ?_) | refine redq (fun hc => ?_) (fun hc => ?_) | refine redp (fun r => ?_) (fun r => ?_) | fail))) | fail) <;> (refine wa_do 7 ?_ <;> (repeat' (first | refine red ?_ | refine redc fun r => ?_ | refine redv fun sv => ?_ | refine redf fun hbi => ?_ | refine redn fun b => ?_ | refine reds ?_ | refine redi (fun hc => ?_) (fun hc => ?_) | refine redq (fun hc => ?_) (fun hc => ?_) | refine redp (fun r => ?_) (fun r => ?_) | fail))) <;> (refine wa_do 8 ?_ <;> (repeat' (first | refine red ?_ | refine redc fun r => ?_ | refine redv fun sv => ?_ | refine redf fun hbi => ?_ | refine redn fun b => ?_ | refine reds ?_ | refine redi (fun hc => ?_) (fun hc => ?_) | refine redq (fun hc => ?_) (fun hc => ?_) | refine redp (fun r => ?_) (fun r => ?_) | fail))) <;> (refine wa_do 9 ?_ <;> (repeat' (first | refine red ?_ | refine redc fun r => ?_ | refine redv fun sv => ?_ | refine redf fun hbi => ?_ | refine redn fun b => ?_ | refine reds ?_ | refine redi (fun hc => ?_) (fun hc => ?_) | refine redq (fun hc => ?_) (fun hc => ?_) | refine redp (fun r => ?_) (fun r => ?_) | fail))) <;> (first | refine wa_p 10 ?_ | refine wa_p0 10 ?_)) <;> (first | refine wa_end ?_ | with_reducible refine wq_keep ?_)) | ((refine wa_begin 13 [false, false, false, false, false, false, false, false, false, false, false, false, false, false, false, false, false] [] ?_ <;> (first | refine wa_p 0 ?_ | refine wa_p0 0 ?_ | fail) <;> (first | refine wa_f 1 fun hbi => ?_ | refine wa_p 1 ?_ | fail) <;> (first | refine wa_p 4 ?_ | refine wa_p0 4 ?_ | fail) <;> (first | refine wa_f 5 fun hbi => ?_ | refine wa_p 5 ?_ | fail) <;> (first | refine wa_p 9 ?_ | refine wa_p0 9 ?_) <;> (first | refine wa_p 12 ?_ | refine wa_p0 12 ?_ | fail) <;> (first | refine wa_f 13 fun hbi => ?_ | refine wa_p 13 ?_ | fail) <;> (refine wa_do 2 ?_ <;> (repeat' (first | refine red ?_ | refine redc fun r => ?_ | refine redv fun sv => ?_ | refine redf fun hbi => ?_ | refine redn fun b => ?_ | refine reds ?_ | refine redi (fun hc => ?_) (fun hc => ?_) | refine redq (fun hc => ?_) (fun hc => ?_) | refine redp (fun r => ?_) (fun r => ?_) | fail))) <;> (first | refine wa_p 3 ?_ | refine wa_p0 3 ?_ | fail) <;> (refine wa_do 6 ?_ <;> (repeat' (first | refine red ?_ | refine redc fun r => ?_ | refine redv fun sv => ?_ | refine redf fun hbi => ?_ | refine redn fun b => ?_ | refine reds ?_ | refine redi (fun hc => ?_) (fun hc => ?_) | refine redq (fun hc => ?_) (fun hc => ?_) | refine redp (fun r => ?_) (fun r => ?_) | fail))) <;> (first | refine wa_p 7 ?_ | refine wa_p0 7 ?_ | fail) <;> (first | refine wa_p 8 ?_ | refine wa_p0 8 ?_ | fail) <;> (first | refine wa_p 10 ?_ | refine wa_p0 10 ?_ | fail) <;> (first | refine wa_p 11 ?_ | refine wa_p0 11 ?_ | fail) <;> (refine wa_do 14 ?_ <;> (repeat' (first | refine red ?_ | refine redc fun r => ?_ | refine redv fun sv => ?_ | refine redf fun hbi => ?_ | refine redn fun b => ?_ | refine reds ?_ | refine redi (fun hc => ?_) (fun hc => ?_) | refine redq (fun hc => ?_) (fun hc => ?_) | refine redp (fun r => ?_) (fun r => ?_) | fail))) <;> (first | refine wa_p 15 ?_ | refine wa_p0 15 ?_ | (refine wa_do 15 ?_ <;> (repeat' (first | refine red ?_ | refine redc fun r => ?_ | refine redv fun sv => ?_ | refine redf fun hbi => ?_ | refine redn fun b => ?_ | refine reds ?_ | refine redi (fun hc => ?_) (fun hc => ?_) | refine redq (fun hc => ?_) (fun hc => ?_) | refine redp (fun r => ?_) (fun r => ?_) | fail))) | fail) <;> (first | refine wa_p 16 ?_ | refine wa_p0 16 ?_)) <;> (first | refine wa_end ?_ | with_reducible refine wq_keep ?_)) | fail)
  · exact ⟨(), by rw [ndT, if_neg (fun h => by rw [h.1] at hc; exact absurd hc (by decide))]; rfl, ent_e⟩
  · exact ⟨(), by rw [ndT, if_neg (fun h => hc (of_decide_eq_true h.2.1))]; rfl, ent_e⟩
  have hnp := hc
  have hsig : sigOk a = true := ‹_›
  have hl := hnp.2.1
  have hls1 := lsT_sz n.2.1 h64a
  have hls2 := lsT_sz n.2.2.2 h64c
  have hkn := knT_sz n.1
  refine wc_loop_p [5, 6] [17, 18, 19, 20, 21, 24, 25, 26, 27, 28, 29, 30, 31, 4, 32, 33, 34, 35, 36, 37, 38, 39, 40, 41, 22, 23] (ι := Nat × Value) (fun k => [k.2, .int .i64 k.1]) (fun k => [.ow [k.2] (tT a (n.2.2.1.take k.1))]) (fun k => k.1 ≤ n.2.2.1.length ∧ TsOk a n.2.2.1 k.1) (fun k => n.2.2.1.length - k.1) (0, sv) [.ow [sv] ([] : List ByteArray)] (by kernel_rfl) ⟨Nat.zero_le _, fun i hi => by omega⟩ rfl ?_
  intro ⟨k, sv⟩ u l' hl' ⟨hk, hts⟩
  simp only [patch, List.map_cons, List.map_nil, List.set_cons_zero, List.set_cons_succ] at hl'
  subst hl'
  simp only [List.cons_append, List.nil_append] at hk hts ⊢
  have hkl : (tT a (n.2.2.1.take k)).length = k := by rw [tT_len, List.length_take]; omega
  have hsz := trT_sz a n.2.2.1 k hk (by omega) hts (fun i hi => ndP60 hnp hi)
  have hjn := jnT_len 59 (tT a (n.2.2.1.take k)) k
  have hbt : szT (tT a (n.2.2.1.take k)) (tT a (n.2.2.1.take k)).length + (tT a (n.2.2.1.take k)).length ≤ 1000000000 := by rw [hkl]; omega
  have hjs : (S (jnT 59 (tT a (n.2.2.1.take k)) (tT a (n.2.2.1.take k)).length)).size ≤ 100000000 := by rw [hkl, S_size]; omega
  have h45 : ({ data := #[45] } : ByteArray).size = 1 := rfl
  have c1 := cat_sz (knT n.1) (lsT n.2.1) { data := #[45] } (lsT n.2.2.2)
  have c2 := cat_sz (knT n.1) (lsT n.2.1) (S (jnT 59 (tT a (n.2.2.1.take k)) (tT a (n.2.2.1.take k)).length)) (lsT n.2.2.2)
  have htk : k < n.2.2.1.length → (S (TT a (n.2.2.1.getD k default))).size ≤ 1000 := fun hi => TT_sz (ndP60 hnp hi)
  repeat' (first | refine red ?_ | refine redf fun hbi => ?_ | refine reds ?_ | refine redc fun r => ?_ | refine redp (fun r => ?_) (fun r => ?_) | refine redv fun sv => ?_ | refine redn fun b => ?_ | refine redz fun zs => ?_ | refine redq (fun hc => ?_) (fun hc => ?_) | with_reducible refine wq_blk_o rfl ?_ | (refine redd fun p cs as_ hcs has hf => ?_; simp only [Un.cells, Un.atoms, Un.fact, List.cons_append, List.nil_append] at hcs has hf; subst hcs has) | (refine redi (fun hc => ?_) (fun hc => ?_) <;> try first | (exfalso; omega) | exact absurd rfl hc) | ((refine wa_begin 7 [false, false, false, false, false, false, false, false] [] ?_ <;> refine wa_p 0 ?_ <;> (first | refine wa_p 1 ?_ | refine wa_p0 1 ?_ | fail) <;> (first | refine wa_f 2 fun hbi => ?_ | refine wa_p 2 ?_ | fail) <;> (first | refine wa_p 3 ?_ | refine wa_p0 3 ?_) <;> (first | refine wa_p 4 ?_ | (refine wa_deep 4 fun p cs as_ asb_ hcs has hasb hf => ?_; simp only [Un.cells, Un.atoms, Un.fact, List.cons_append, List.nil_append] at hcs has hasb hf; subst hcs has hasb) | fail) <;> (first | refine wa_f 5 fun hbi => ?_ | refine wa_p 5 ?_ | (refine wa_do 5 ?_ <;> (repeat' (first | refine red ?_ | refine redc fun r => ?_ | refine redv fun sv => ?_ | refine redf fun hbi => ?_ | refine redn fun b => ?_ | refine reds ?_ | refine redi (fun hc => ?_) (fun hc => ?_) | refine redq (fun hc => ?_) (fun hc => ?_) | refine redp (fun r => ?_) (fun r => ?_) | fail))) | fail) <;> (refine wa_do 6 ?_ <;> (repeat' (first | refine red ?_ | refine redc fun r => ?_ | refine redv fun sv => ?_ | refine redf fun hbi => ?_ | refine redn fun b => ?_ | refine reds ?_ | refine redi (fun hc => ?_) (fun hc => ?_) | refine redq (fun hc => ?_) (fun hc => ?_) | refine redp (fun r => ?_) (fun r => ?_) | fail))) <;> (first | refine wa_p 7 ?_ | refine wa_p0 7 ?_ | (refine wa_do 7 ?_ <;> (repeat' (first | refine red ?_ | refine redc fun r => ?_ | refine redv fun sv => ?_ | refine redf fun hbi => ?_ | refine redn fun b => ?_ | refine reds ?_ | refine redi (fun hc => ?_) (fun hc => ?_) | refine redq (fun hc => ?_) (fun hc => ?_) | refine redp (fun r => ?_) (fun r => ?_) | fail))) | fail)) <;> (first | refine wa_end ?_ | with_reducible refine wq_keep ?_)) | ((refine wa_begin 9 [false, false, false, false, false, false, false, false, false, false, false] [9] ?_ <;> (first | refine wa_p 0 ?_ | refine wa_p0 0 ?_) <;> refine wa_p 1 ?_ <;> (first | refine wa_p 2 ?_ | refine wa_p0 2 ?_ | fail) <;> (first | refine wa_f 3 fun hbi => ?_ | refine wa_p 3 ?_ | fail) <;> (first | refine wa_p 4 ?_ | refine wa_p0 4 ?_) <;> (first | refine wa_p 5 ?_ | (refine wa_deep 5 fun p cs as_ asb_ hcs has hasb hf => ?_; simp only [Un.cells, Un.atoms, Un.fact, List.cons_append, List.nil_append] at hcs has hasb hf; subst hcs has hasb) | fail) <;> (first | refine wa_f 6 fun hbi => ?_ | refine wa_p 6 ?_ | (refine wa_do 6 ?_ <;> (repeat' (first | refine red ?_ | refine redc fun r => ?_ | refine redv fun sv => ?_ | refine redf fun hbi => ?_ | refine redn fun b => ?_ | refine reds ?_ | refine redi (fun hc => ?_) (fun hc => ?_) | refine redq (fun hc => ?_) (fun hc => ?_) | refine redp (fun r => ?_) (fun r => ?_) | fail))) | fail) <;> (refine wa_do 7 ?_ <;> (repeat' (first | refine red ?_ | refine redc fun r => ?_ | refine redv fun sv => ?_ | refine redf fun hbi => ?_ | refine redn fun b => ?_ | refine reds ?_ | refine redi (fun hc => ?_) (fun hc => ?_) | refine redq (fun hc => ?_) (fun hc => ?_) | refine redp (fun r => ?_) (fun r => ?_) | fail))) <;> (refine wa_do 8 ?_ <;> (repeat' (first | refine red ?_ | refine redc fun r => ?_ | refine redv fun sv => ?_ | refine redf fun hbi => ?_ | refine redn fun b => ?_ | refine reds ?_ | refine redi (fun hc => ?_) (fun hc => ?_) | refine redq (fun hc => ?_) (fun hc => ?_) | refine redp (fun r => ?_) (fun r => ?_) | fail))) <;> (refine wa_do 9 ?_ <;> (repeat' (first | refine red ?_ | refine redc fun r => ?_ | refine redv fun sv => ?_ | refine redf fun hbi => ?_ | refine redn fun b => ?_ | refine reds ?_ | refine redi (fun hc => ?_) (fun hc => ?_) | refine redq (fun hc => ?_) (fun hc => ?_) | refine redp (fun r => ?_) (fun r => ?_) | fail))) <;> (first | refine wa_p 10 ?_ | refine wa_p0 10 ?_)) <;> (first | refine wa_end ?_ | with_reducible refine wq_keep ?_)) | ((refine wa_begin1 9 [false, false, false, false, false, false, false, false, false, false, false] [] ?_ <;> (first | refine wa_p 0 ?_ | refine wa_p0 0 ?_) <;> refine wa_p 1 ?_ <;> (first | refine wa_p 2 ?_ | refine wa_p0 2 ?_ | fail) <;> (first | refine wa_f 3 fun hbi => ?_ | refine wa_p 3 ?_ | fail) <;> (first | refine wa_p 4 ?_ | refine wa_p0 4 ?_) <;> (first | refine wa_p 5 ?_ | (refine wa_deep 5 fun p cs as_ asb_ hcs has hasb hf => ?_; simp only [Un.cells, Un.atoms, Un.fact, List.cons_append, List.nil_append] at hcs has hasb hf; subst hcs has hasb) | fail) <;> (first | refine wa_f 6 fun hbi => ?_ | refine wa_p 6 ?_ | (refine wa_do 6 ?_ <;> (repeat' (first | refine red ?_ | refine redc fun r => ?_ | refine redv fun sv => ?_ | refine redf fun hbi => ?_ | refine redn fun b => ?_ | refine reds ?_ | refine redi (fun hc => ?_) (fun hc => ?_) | refine redq (fun hc => ?_) (fun hc => ?_) | refine redp (fun r => ?_) (fun r => ?_) | fail))) | fail) <;> (refine wa_do 7 ?_ <;> (repeat' (first | refine red ?_ | refine redc fun r => ?_ | refine redv fun sv => ?_ | refine redf fun hbi => ?_ | refine redn fun b => ?_ | refine reds ?_ | refine redi (fun hc => ?_) (fun hc => ?_) | refine redq (fun hc => ?_) (fun hc => ?_) | refine redp (fun r => ?_) (fun r => ?_) | fail))) <;> (refine wa_do 8 ?_ <;> (repeat' (first | refine red ?_ | refine redc fun r => ?_ | refine redv fun sv => ?_ | refine redf fun hbi => ?_ | refine redn fun b => ?_ | refine reds ?_ | refine redi (fun hc => ?_) (fun hc => ?_) | refine redq (fun hc => ?_) (fun hc => ?_) | refine redp (fun r => ?_) (fun r => ?_) | fail))) <;> (refine wa_do 9 ?_ <;> (repeat' (first | refine red ?_ | refine redc fun r => ?_ | refine redv fun sv => ?_ | refine redf fun hbi => ?_ | refine redn fun b => ?_ | refine reds ?_ | refine redi (fun hc => ?_) (fun hc => ?_) | refine redq (fun hc => ?_) (fun hc => ?_) | refine redp (fun r => ?_) (fun r => ?_) | fail))) <;> (first | refine wa_p 10 ?_ | refine wa_p0 10 ?_)) <;> (first | refine wa_end ?_ | with_reducible refine wq_keep ?_)) | ((refine wa_begin 13 [false, false, false, false, false, false, false, false, false, false, false, false, false, false, false, false, false] [] ?_ <;> (first | refine wa_p 0 ?_ | refine wa_p0 0 ?_ | fail) <;> (first | refine wa_f 1 fun hbi => ?_ | refine wa_p 1 ?_ | fail) <;> (first | refine wa_p 4 ?_ | refine wa_p0 4 ?_ | fail) <;> (first | refine wa_f 5 fun hbi => ?_ | refine wa_p 5 ?_ | fail) <;> (first | refine wa_p 9 ?_ | refine wa_p0 9 ?_) <;> (first | refine wa_p 12 ?_ | refine wa_p0 12 ?_ | fail) <;> (first | refine wa_f 13 fun hbi => ?_ | refine wa_p 13 ?_ | fail) <;> (refine wa_do 2 ?_ <;> (repeat' (first | refine red ?_ | refine redc fun r => ?_ | refine redv fun sv => ?_ | refine redf fun hbi => ?_ | refine redn fun b => ?_ | refine reds ?_ | refine redi (fun hc => ?_) (fun hc => ?_) | refine redq (fun hc => ?_) (fun hc => ?_) | refine redp (fun r => ?_) (fun r => ?_) | fail))) <;> (first | refine wa_p 3 ?_ | refine wa_p0 3 ?_ | fail) <;> (refine wa_do 6 ?_ <;> (repeat' (first | refine red ?_ | refine redc fun r => ?_ | refine redv fun sv => ?_ | refine redf fun hbi => ?_ | refine redn fun b => ?_ | refine reds ?_ | refine redi (fun hc => ?_) (fun hc => ?_) | refine redq (fun hc => ?_) (fun hc => ?_) | refine redp (fun r => ?_) (fun r => ?_) | fail))) <;> (first | refine wa_p 7 ?_ | refine wa_p0 7 ?_ | fail) <;> (first | refine wa_p 8 ?_ | refine wa_p0 8 ?_ | fail) <;> (first | refine wa_p 10 ?_ | refine wa_p0 10 ?_ | fail) <;> (first | refine wa_p 11 ?_ | refine wa_p0 11 ?_ | fail) <;> (refine wa_do 14 ?_ <;> (repeat' (first | refine red ?_ | refine redc fun r => ?_ | refine redv fun sv => ?_ | refine redf fun hbi => ?_ | refine redn fun b => ?_ | refine reds ?_ | refine redi (fun hc => ?_) (fun hc => ?_) | refine redq (fun hc => ?_) (fun hc => ?_) | refine redp (fun r => ?_) (fun r => ?_) | fail))) <;> (first | refine wa_p 15 ?_ | refine wa_p0 15 ?_ | (refine wa_do 15 ?_ <;> (repeat' (first | refine red ?_ | refine redc fun r => ?_ | refine redv fun sv => ?_ | refine redf fun hbi => ?_ | refine redn fun b => ?_ | refine reds ?_ | refine redi (fun hc => ?_) (fun hc => ?_) | refine redq (fun hc => ?_) (fun hc => ?_) | refine redp (fun r => ?_) (fun r => ?_) | fail))) | fail) <;> (first | refine wa_p 16 ?_ | refine wa_p0 16 ?_)) <;> (first | refine wa_end ?_ | with_reducible refine wq_keep ?_)) | fail)
  · exact ⟨(), by rw [ndT, if_neg (fun h => by rw [h.2.2 k (by omega)] at hc; exact absurd hc (by decide))]; rfl, ent_e⟩
  · rw [show TT a (n.2.2.1.getD k default) = TX a (n.2.2.1.getD k default) 0 from if_pos hc, tT_take a n.2.2.1 (by omega)]
    exact wq_next (k + 1, sv) ⟨by simp only; omega, tsOk_next hts hc⟩ (by simp only; omega) (by kernel_rfl) ent_e
  · refine ⟨(), congrArg Value.string ?_, ent_e⟩
    have hkn : k = n.2.2.1.length := by omega
    rw [ndT, if_pos ⟨hsig, decide_eq_true hnp, hkn ▸ hts⟩, trT, if_neg (by omega), hkl, hkn, List.take_length]; rfl
  · refine ⟨(), congrArg Value.string ?_, ent_e⟩
    have hkn : k = n.2.2.1.length := by omega
    rw [ndT, if_pos ⟨hsig, decide_eq_true hnp, hkn ▸ hts⟩, trT, if_pos (by omega)]; rfl
instance spec_NodeText_ctr {Γ : List Atom} {v va vb vc : Value} {a : List Int} {n : SNode} [h : HasRd (List Int) repList Γ [v] a] [ha : HasRd (List Int) repList Γ [va] n.2.1] [hb : HasRd (List (List Int)) repList Γ [vb] n.2.2.1] [hc' : HasRd (List Int) repList Γ [vc] n.2.2.2] :
    CtrC Tryz.prog 18 [.agg #[v], .agg #[.int .i64 n.1, va, vb, vc]] Γ (-9223372036854775808 ≤ n.1 ∧ n.1 ≤ 9223372036854775807) (Unit) (fun _ : Unit => .string (ndT a n)) (fun _ => Γ) := ⟨fun s w0 => spec_NodeText_spec s⟩

theorem jn4 (A B C D : ByteArray) : S (jnT 32 [A, B, C, D] 4) = A ++ S [32] ++ B ++ S [32] ++ C ++ S [32] ++ D := by
  apply ByteArray.ext
  simp [jnT, S, ByteArray.data_append]
theorem jn4_sz (A B C D : ByteArray) : szT [A, B, C, D] 4 = A.size + B.size + C.size + D.size := by simp [szT]
theorem jn1 (A : ByteArray) : S (jnT 59 [A] 1) = A := by
  apply ByteArray.ext
  simp [jnT, S]
theorem jn1_sz (A : ByteArray) : szT [A] 1 = A.size := by simp [szT]
theorem textT_spec {w0 : World} {Γ : List Atom} {v vt : Value} {a t : List Int} [h : HasRd (List Int) repList Γ [v] a] [h1 : HasRd (List Int) repList Γ [vt] t] (hok : termOk a t = true) :
    CJ Tryz.prog 65 [.agg #[v], vt] w0 Γ (fun _ : Unit => .string (S (TT a t))) (fun _ => Γ) := by
  rw [show TT a t = TX a t 0 from if_pos hok]
  exact text_spec hok
instance textT_ctr {Γ : List Atom} {v vt : Value} {a t : List Int} [h : HasRd (List Int) repList Γ [v] a] [h1 : HasRd (List Int) repList Γ [vt] t] :
    CtrC Tryz.prog 65 [.agg #[v], vt] Γ (termOk a t = true) (Unit) (fun _ : Unit => .string (S (TT a t))) (fun _ => Γ) := ⟨fun s w0 => textT_spec s⟩

attribute [local instance 2000] textT_ctr
theorem j4 (A B C D : ByteArray) (h : A.size + B.size + C.size + D.size ≤ 999999996) : szT [A, B, C, D] [A, B, C, D].length + [A, B, C, D].length ≤ 1000000000 := by
  rw [show [A, B, C, D].length = 4 from rfl, jn4_sz]; omega
end Go.Proofs.YtogmjihokkdcfaaGreatDoor
