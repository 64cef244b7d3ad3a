/- The automaton of what can be reduced: the program and the reference. -/
import Derived.Test.YtbbdjjlnachnlaaGreatDoorMat
import Derived.Test.YtbbdjjlnachnlaaGreatDoorOthI
import Derived.Test.YtbbdjjlnachnlaaGreatDoorAutL
import Derived.Test.YtbbdjjlnachnlaaGreatDoorSureIn
import Derived.Test.YtbbdjjlnachnlaaGreatDoorEngV
import Derived.Test.YtbbdjjlnachnlaaGreatDoorInst
import Derived.Test.YtbbdjjlnachnlaaGreatDoorTerm
import Derived.Test.YtbbdjjlnachnlaaGreatDoorNumG
import Derived.LaidSub
import Derived.MakeChecks
import Derived.Test.YtbbdjjlnachnlaaGreatDoorEngZ
import Derived.Test.YtbbdjjlnachnlaaGreatDoorIfc
import Derived.Test.YtbbdjjlnachnlaaGreatDoorNrmA
import Derived.Test.YtbbdjjlnachnlaaGreatDoorRound
namespace Go.Proofs.YtbbdjjlnachnlaaGreatDoor
open Go Go.Eng
set_option linter.unusedVariables false
set_option linter.unusedSimpArgs false
set_option synthInstance.maxHeartbeats 400000
set_option synthInstance.maxSize 1000
set_option maxHeartbeats 0
set_option maxRecDepth 20000

/-- The automaton, if there is one. -/
noncomputable def redD (x : SSystem) : SAuto := if (normA x).isSome = true then othD x.1 (normD x) else (0, [], [])
noncomputable def redF (x : SSystem) : Bool := (normA x).isSome && (sureOf x.1 (normD x)).isSome
theorem redD_yes {x : SSystem} (h : (normA x).isSome = true) : redD x = othD x.1 (normD x) := if_pos h
theorem redD_no {x : SSystem} (h : (normA x).isSome = false) : redD x = (0, [], []) := if_neg (by rw [h]; decide)
theorem redF_yes {x : SSystem} (h : (normA x).isSome = true) : redF x = (sureOf x.1 (normD x)).isSome := by unfold redF; rw [h]; rfl
theorem redF_no {x : SSystem} (h : (normA x).isSome = false) : redF x = false := by unfold redF; rw [h]; rfl
theorem impl_ReducibleAuto_spec {w0 : World} {Γ : List Atom} {v0 v1 : Value} {x : SSystem} [h0 : HasRd (List Int) repList Γ [v0] x.1] [h1 : HasRd (List SRule) repList Γ [v1] x.2] [ht : HasRd (Tab) repTab Γ [tabV] (Tab.mk Lib.pow10Tab)] :
    CJ Tryz.prog 10 [.agg #[v0, v1]] w0 Γ (fun q : Value × Value => .tuple #[.agg #[.int .i64 (redD x).1, q.1, q.2], .bool (redF x)]) (fun q => .ow [q.1] (redD x).2.1 :: .ow [q.2] (redD x).2.2 :: Γ) := by
  refine cj_lift (R := [.rd [v0] x.1, .rd [v1] x.2, .rd [tabV] (Tab.mk Lib.pow10Tab)]) (A := fun q : Value × Value => [.ow [q.1] (redD x).2.1, .ow [q.2] (redD x).2.2]) (fun w1 => ?_) (reads_cons h0 (reads_cons h1 (reads_cons ht (inferInstance)))) (fun _ => inferInstance)
  simp only [List.cons_append, List.nil_append]
  refine cj_enter Tryz.func10 Tryz.ntmps10 ?_
  repeat' (first | refine red ?_ | (refine redc fun r => ?_; try have hr := Subtype.property r) | refine redn fun b => ?_ | (refine redi (fun hc => ?_) (fun hc => ?_) <;> try first | (exfalso; omega) | with_reducible first | exact absurd rfl hc | exact absurd hc Bool.false_ne_true | exact absurd hc Bool.false_ne_true.symm) | fail)
  all_goals first
    | (have hs : (normA x).isSome = true := by assumption
       rw [redD_yes hs, redF_yes hs]
       exact ⟨r, rfl, ent_e⟩)
    | (have hs : (normA x).isSome = false := by assumption
       rw [redD_no hs, redF_no hs]
       exact ⟨(.slice none 0 0, .slice none 0 0), rfl, ent_e⟩)
instance impl_ReducibleAuto_ctr {Γ : List Atom} {v0 v1 : Value} {x : SSystem} [h0 : HasRd (List Int) repList Γ [v0] x.1] [h1 : HasRd (List SRule) repList Γ [v1] x.2] [ht : HasRd (Tab) repTab Γ [tabV] (Tab.mk Lib.pow10Tab)] :
    CtrC Tryz.prog 10 [.agg #[v0, v1]] Γ (True) (Value × Value) (fun q : Value × Value => .tuple #[.agg #[.int .i64 (redD x).1, q.1, q.2], .bool (redF x)]) (fun q => .ow [q.1] (redD x).2.1 :: .ow [q.2] (redD x).2.2 :: Γ) := ⟨fun s w0 => impl_ReducibleAuto_spec⟩

end Go.Proofs.YtbbdjjlnachnlaaGreatDoor
namespace Go.Proofs.YtbbdjjlnachnlaaGreatDoor
open Go Go.Eng
set_option linter.unusedVariables false
set_option linter.unusedSimpArgs false
set_option synthInstance.maxHeartbeats 400000
set_option synthInstance.maxSize 1000
set_option maxHeartbeats 2000000
set_option maxRecDepth 20000

theorem accepts_spec {w0 : World} {Γ : List Atom} {v v0 v1 vt : Value} {a t : List Int} {x : SAuto} [h : HasRd (List Int) repList Γ [v] a] [h0 : HasRd (List STrans) repList Γ [v0] x.2.1] [h1 : HasRd (List Int) repList Γ [v1] x.2.2] [h2 : HasRd (List Int) repList Γ [vt] t] (hag : AG a x t) :
    CJ Tryz.prog 52 [.agg #[.int .i64 x.1, v0, v1], .agg #[v], vt] w0 Γ (fun _ : Unit => .bool (accN a x t)) (fun _ => Γ) := by
  have hf16 := fin_in hag.au
  have ht := termOk_len hag.gr.1
  have hin := inS_of hag.au
  refine cj_enter Tryz.func52 Tryz.ntmps52 ?_
  repeat' (first | refine red ?_ | refine redn fun b => ?_ | ((refine wa_begin 1 [false, false, false, false, false, false, false, false, false, false] [] ?_ <;> (first | refine wa_p 0 ?_ | fail) <;> refine wa_p 1 ?_ <;> refine wa_p 2 ?_ <;> (first | refine wa_p 4 ?_ | fail) <;> (first | refine wa_p 5 ?_ | fail) <;> (refine wa_do 3 ?_ <;> (repeat' (first | refine red ?_ | (refine redc fun r => ?_; try have hr := Subtype.property r) | fail))) <;> (refine wa_do 6 ?_ <;> (repeat' (first | refine red ?_ | (refine redc fun r => ?_; try have hr := Subtype.property r) | fail))) <;> (first | refine wa_p 7 ?_ | fail) <;> (first | refine wa_p 8 ?_ | fail) <;> refine wa_p 9 ?_) <;> (refine wa_end ?_)) | fail)
  rename_i r1 hr1
  refine ⟨(), ret_bool ?_, ent_e⟩
  rw [Bool.eq_iff_iff, decide_eq_true_iff, acc_iff hag.au hag.gr]
  constructor
  · rintro ⟨q, h1, h2⟩ h0
    have hq := hf16 q h2
    have e : ((q.toNat : Nat) : Int) = q := by omega
    have b1 := (hr1.2 q.toNat).2 (by rw [e]; exact h1)
    have b2 := (hr.2 q.toNat).2 (by rw [e]; exact h2)
    have b3 : (r1.1 &&& r.1).testBit q.toNat = true := by rw [Nat.testBit_and, b1, b2]; rfl
    rw [show r1.1 &&& r.1 = 0 by omega, Nat.zero_testBit] at b3
    cases b3
  · intro h0
    obtain ⟨i, hi⟩ := Nat.exists_testBit_of_ne_zero (show r1.1 &&& r.1 ≠ 0 by omega)
    rw [Nat.testBit_and, Bool.and_eq_true] at hi
    exact ⟨(i : Int), (hr1.2 i).1 hi.1, (hr.2 i).1 hi.2⟩
instance accepts_ctr {Γ : List Atom} {v v0 v1 vt : Value} {a t : List Int} {x : SAuto} [h : HasRd (List Int) repList Γ [v] a] [h0 : HasRd (List STrans) repList Γ [v0] x.2.1] [h1 : HasRd (List Int) repList Γ [v1] x.2.2] [h2 : HasRd (List Int) repList Γ [vt] t] :
    CtrC Tryz.prog 52 [.agg #[.int .i64 x.1, v0, v1], .agg #[v], vt] Γ (AG a x t) (Unit) (fun _ : Unit => .bool (accN a x t)) (fun _ => Γ) := ⟨fun s w0 => accepts_spec s⟩

theorem impl_AcceptsIn_spec {w0 : World} {Γ : List Atom} {v v0 v1 vt : Value} {a t : List Int} {x : SAuto} [h : HasRd (List Int) repList Γ [v] a] [h0 : HasRd (List STrans) repList Γ [v0] x.2.1] [h1 : HasRd (List Int) repList Γ [v1] x.2.2] [h2 : HasRd (List Int) repList Γ [vt] t] :
    CJ Tryz.prog 16 [.agg #[v], .agg #[.int .i64 x.1, v0, v1], vt] w0 Γ (fun _ : Unit => .bool (accN a x t)) (fun _ => Γ) := by
  by_cases hok : AutoP a x ∧ GrP a t
  · have hag : AG a x t := ⟨hok.1, hok.2⟩
    refine cj_enter Tryz.func16 Tryz.ntmps16 ?_
    repeat' (first | refine red ?_ | (refine redc fun r => ?_; try have hr := Subtype.property r) | refine redn fun b => ?_ | (refine redi (fun hc => ?_) (fun hc => ?_) <;> try first | (exfalso; omega) | with_reducible first | exact absurd rfl hc | exact absurd hc Bool.false_ne_true | exact absurd hc Bool.false_ne_true.symm) | fail)
    · exact ⟨(), rfl, ent_e⟩
    · exact absurd hok.2 hc
    · exact absurd hok.1 hc
  · have hno := acc_no hok
    refine cj_enter Tryz.func16 Tryz.ntmps16 ?_
    repeat' (first | refine red ?_ | (refine redc fun r => ?_; try have hr := Subtype.property r) | refine redn fun b => ?_ | (refine redi (fun hc => ?_) (fun hc => ?_) <;> try first | (exfalso; omega) | with_reducible first | exact absurd rfl hc | exact absurd hc Bool.false_ne_true | exact absurd hc Bool.false_ne_true.symm) | fail)
    · exact absurd ⟨by assumption, by assumption⟩ hok
    · exact ⟨(), by rw [hno], ent_e⟩
    · exact ⟨(), by rw [hno], ent_e⟩
instance impl_AcceptsIn_ctr {Γ : List Atom} {v v0 v1 vt : Value} {a t : List Int} {x : SAuto} [h : HasRd (List Int) repList Γ [v] a] [h0 : HasRd (List STrans) repList Γ [v0] x.2.1] [h1 : HasRd (List Int) repList Γ [v1] x.2.2] [h2 : HasRd (List Int) repList Γ [vt] t] :
    CtrC Tryz.prog 16 [.agg #[v], .agg #[.int .i64 x.1, v0, v1], vt] Γ (True) (Unit) (fun _ : Unit => .bool (accN a x t)) (fun _ => Γ) := ⟨fun s w0 => impl_AcceptsIn_spec⟩

/-! ### The complement -/
theorem compN_mem {fs : List Int} {q : Int} : ∀ {m}, q ∈ compN fs m ↔ ∃ i : Nat, i < m ∧ q = (i : Int) ∧ (i : Int) ∉ fs
  | 0 => by simp [compN]
  | m + 1 => by
    unfold compN
    rw [List.mem_append, compN_mem]
    constructor
    · rintro (⟨i, h1, h2, h3⟩ | h)
      · exact ⟨i, by omega, h2, h3⟩
      · split at h
        · cases h
        · rename_i hn
          rw [List.mem_singleton] at h; exact ⟨m, by omega, h, hn⟩
    · rintro ⟨i, h1, h2, h3⟩
      by_cases e : i = m
      · subst e; exact .inr (by rw [if_neg h3, h2]; simp)
      · exact .inl ⟨i, by omega, h2, h3⟩
theorem compN_pw {fs : List Int} : ∀ m, (compN fs m).Pairwise (· < ·)
  | 0 => List.Pairwise.nil
  | m + 1 => by
    unfold compN
    rw [List.pairwise_append]
    refine ⟨compN_pw m, by split <;> simp, fun a ha b hb => ?_⟩
    obtain ⟨i, h3, h4, _⟩ := compN_mem.1 ha
    split at hb
    · cases hb
    · rw [List.mem_singleton] at hb; omega
theorem oth_auto {a : List Int} {x z : SAuto} {sets : List (List Int)} (h : SureW a x z sets) : AutoP a (z.1, z.2.1, compN z.2.2 z.1.toNat) := by
  have hz := h.auto
  refine ⟨hz.1, hz.2.1, hz.2.2.1, setP_of (compN_pw _) fun q hq => ?_, hz.2.2.2.2⟩
  obtain ⟨i, h1, h2, _⟩ := compN_mem.1 hq
  have := hz.2.1
  show 0 ≤ q ∧ q < z.1
  omega
theorem oth_acc {a t : List Int} {x z : SAuto} {sets : List (List Int)} (h : SureW a x z sets) (ht : GrP a t) : accN a (z.1, z.2.1, compN z.2.2 z.1.toNat) t = !accN a x t := by
  rw [← h.acc ht]
  have hz := h.auto
  have ho := oth_auto h
  have hi := inS_of h.au
  obtain ⟨h1, h2⟩ := sure_rs hi (by have := h.n1; omega) h.cl ht t.length 0 (gr_pos ht) (by omega)
  have h3 := place_mem h1
  have e1 := acc_iff ho ht
  have e2 := acc_iff hz ht
  rw [h.ok] at e1 e2 ⊢
  simp only at e1 e2 ⊢
  have key : accN a ((sets.length : Int), allT x.2.1 a sets, compN (finN sets x.2.2 sets.length) (sets.length : Int).toNat) t = true ↔ ¬ accN a ((sets.length : Int), allT x.2.1 a sets, finN sets x.2.2 sets.length) t = true := by
    rw [e1, e2]
    constructor
    · rintro ⟨n, hn, hf⟩ ⟨m, hm, hg⟩
      rw [h2] at hn hm
      subst hn hm
      obtain ⟨i, _, h5, h6⟩ := compN_mem.1 hf
      rw [h5] at hg
      exact h6 hg
    · intro hno
      refine ⟨_, (h2 _).2 rfl, compN_mem.2 ⟨_, by rw [Int.toNat_natCast]; exact h3.2.1, h3.1, fun hm => hno ⟨_, (h2 _).2 rfl, ?_⟩⟩⟩
      rw [h3.1]; exact hm
  cases h7 : accN a ((sets.length : Int), allT x.2.1 a sets, finN sets x.2.2 sets.length) t
  · rw [h7] at key
    rw [key.2 (by simp)]; rfl
  · rw [h7] at key
    cases h8 : accN a ((sets.length : Int), allT x.2.1 a sets, compN (finN sets x.2.2 sets.length) (sets.length : Int).toNat) t
    · rfl
    · exact absurd rfl (key.1 h8)
end Go.Proofs.YtbbdjjlnachnlaaGreatDoor
namespace Go.Proofs.YtbbdjjlnachnlaaGreatDoor
open Go Go.Eng
set_option linter.unusedVariables false
set_option linter.unusedSimpArgs false
set_option synthInstance.maxHeartbeats 400000
set_option synthInstance.maxSize 1000
instance : Op_ Tryz.prog 5 UInt8 repU8 := op_u8 Tryz.underlying5 (by kernel_rfl)
instance : Op_ Tryz.prog 22 (List UInt8) repList := op_slice Tryz.underlying22 (by kernel_rfl) inferInstance
theorem big_spec {w0 : World} {Γ : List Atom} {v : Value} {code : List UInt8} [hv : HasRd (List UInt8) repList Γ [v] code] :
    CJ Tryz.prog 6 [v] w0 Γ (fun _ : Unit => .bool (decide (4096 < code.length))) (fun _ => Γ) := by
  refine cj_len v fun hlx => ?_
  refine cj_enter Tryz.func6 Tryz.ntmps6 ?_
  repeat' (first | refine red ?_ | fail)
  exact ⟨(), ret_bool (by congr 1; simp only [eq_iff_iff]; omega), ent_e⟩
instance big_ctr {Γ : List Atom} {v : Value} {code : List UInt8} [hv : HasRd (List UInt8) repList Γ [v] code] :
    CtrC Tryz.prog 6 [v] Γ (True) (Unit) (fun _ : Unit => .bool (decide (4096 < code.length))) (fun _ => Γ) := ⟨fun s w0 => big_spec⟩

end Go.Proofs.YtbbdjjlnachnlaaGreatDoor
namespace Go.Proofs.YtbbdjjlnachnlaaGreatDoor
open Go Go.Eng
set_option linter.unusedVariables false
set_option linter.unusedSimpArgs false
set_option maxRecDepth 20000
/-- The table stands in memory where the row lists it. -/
theorem tab_rd {W : World} {l : List (String × DataW Unit)} (h : laidMetH Tryz.prog l W) (hl : (l.filter fun x => x.1 == "internal/strconv.uint64pow10") = [("internal/strconv.uint64pow10", Lib.tabData .u64 Lib.pow10Tab)]) :
    @Rep.rd Tab repTab (fun _ => True) W [tabV] (Tab.mk Lib.pow10Tab) := by
  have h1 := h.filter fun x => x.1 == "internal/strconv.uint64pow10"
  rw [hl, MakeChecks.laidMetH_plain _ _ _ (by kernel_rfl)] at h1
  have h2 := Lib.tabIs_of_head (P := Tryz.prog) (W := W) (name := "internal/strconv.uint64pow10") (k := .u64) (zs := Lib.pow10Tab) (rest := []) (g := 0) tab_named (t := 244) (e := 198) (n := 20) (by kernel_rfl) (by kernel_rfl) (by kernel_rfl) (by kernel_rfl) (by kernel_rfl) h1
  unfold Lib.TabIs World.var? at h2
  rw [tab_named] at h2
  simp only [Option.bind_some] at h2
  split at h2
  · rename_i cs e fz he
    exact ⟨0, e, fz, rfl, trivial, by rw [he]; simp only [Option.some.injEq] at h2; rw [h2]⟩
  · exact absurd h2 (by simp)
end Go.Proofs.YtbbdjjlnachnlaaGreatDoor
namespace Go.Proofs.YtbbdjjlnachnlaaGreatDoor
open Go Go.Eng
set_option linter.unusedVariables false
set_option linter.unusedSimpArgs false
set_option synthInstance.maxHeartbeats 4000000
set_option synthInstance.maxSize 20000
set_option maxHeartbeats 0
set_option maxRecDepth 20000

theorem nra_auto {x : SSystem} (h : (normA x).isSome = true) : AutoP x.1 (normD x) := normD_auto h
theorem nra_acc {x : SSystem} {t : List Int} (h : (normA x).isSome = true) (ht : GrP x.1 t) : accN x.1 (normD x) t = normalIn x t := by
  obtain ⟨y, hy⟩ := Option.isSome_iff_exists.1 h
  have hd : normD x = y := by unfold normD; rw [hy]; rfl
  rw [hd]
  exact norm_acc hy ht
theorem nra_oth {x : SSystem} {t : List Int} (h : (normA x).isSome = true) (ht : GrP x.1 t) (hr : redF x = true) : accN x.1 (redD x) t = !normalIn x t := by
  rw [redF_yes h] at hr
  rw [redD_yes h, ← nra_acc h ht]
  obtain ⟨z, hz⟩ := Option.isSome_iff_exists.1 hr
  obtain ⟨sets, hw⟩ := sureOf_w hz
  unfold othD
  rw [sureD_some hz]
  exact oth_acc hw ht
theorem nra_state {x : SSystem} {t : List Int} (h : (normA x).isSome = true) (ht : GrP x.1 t) : 0 ≤ nsO x t ↔ normalIn x t = true := by
  have ha := nra_auto h
  obtain ⟨y, hy⟩ := Option.isSome_iff_exists.1 h
  have hd : normD x = y := by unfold normD; rw [hy]; rfl
  have hr := norm_rs hy ht
  rw [← hd] at hr
  unfold nsO
  rw [if_pos ⟨h, decC_t ht⟩, ← hr, st_yes ha ht]
  have hm : ∀ q, q ∈ pL (Rs x.1 t (normD x).2.1 0) ↔ Rs x.1 t (normD x).2.1 0 q := fun q => pL_mem fun q hq => rs_in (inS_of ha) hq
  constructor
  · intro h0
    split at h0
    · omega
    · exact ⟨_, (hm _).1 (getD_mem (t := pL (Rs x.1 t (normD x).2.1 0)) (k := 0) (by omega))⟩
  · rintro ⟨q, hq⟩
    have hl := List.length_pos_of_mem ((hm q).2 hq)
    rw [if_neg (by omega)]
    exact (rs_in (inS_of ha) ((hm _).1 (getD_mem (t := pL (Rs x.1 t (normD x).2.1 0)) (k := 0) hl))).1
theorem nra_c1 {x : SSystem} (h : (normA x).isSome = false) (h' : redF x = true) : False := by rw [redF_no h] at h'; cases h'
theorem nra_c2 {x : SSystem} (h : (normA x).isSome = false) : decide (((normD x).2.1.length : Int) = 0) = true := by
  have hn : normA x = none := by
    cases e : normA x with
    | none => rfl
    | some y => rw [e] at h; cases h
  rw [normD_none hn]; rfl
theorem nra_c3 {a : List Int} {x : SAuto} (h : AutoP a x) : autoOk a x = true := decC_t h
theorem nra_c4 {x : SSystem} {t : List Int} (h : (normA x).isSome = true) (ht : GrP x.1 t) : (decide (0 ≤ nsO x t) == normalIn x t) = true := by
  have := nra_state h ht
  by_cases h0 : 0 ≤ nsO x t
  · rw [decide_eq_true h0, this.1 h0]; rfl
  · have h1 : normalIn x t = false := by
      cases e : normalIn x t with
      | false => rfl
      | true => exact absurd (this.2 e) h0
    rw [decide_eq_false h0, h1]; rfl
theorem FnNormalAuto_spec {w0 : World} {Γ : List Atom} {v : Value} {code : List UInt8} [hv : HasRd (List UInt8) repList Γ [v] code] [ht : HasRd (Tab) repTab Γ [tabV] (Tab.mk Lib.pow10Tab)] :
    CJ Tryz.prog 3 [v] w0 Γ (fun _ : Unit => .bool true) (fun _ => Γ) := by
  refine cj_enter Tryz.func3 Tryz.ntmps3 ?_
  repeat' (first | refine red ?_ | (refine redc fun r => ?_; try have hr := Subtype.property r) | refine redn fun b => ?_ | (refine redi (fun hc => ?_) (fun hc => ?_) <;> try first | (exfalso; omega) | with_reducible first | exact absurd rfl hc | exact absurd hc Bool.false_ne_true | exact absurd hc Bool.false_ne_true.symm) | ((refine wa_begin 7 [false, false, false, false, false, false, false, false, false, false, false, false] [] ?_ <;> refine wa_p 0 ?_ <;> refine wa_p 1 ?_ <;> (first | refine wa_p 2 ?_ | fail) <;> refine wa_p 3 ?_ <;> (first | (refine wa_if 37 (fun hc => ?_) (fun hc => ?_) <;> (try first | (exfalso; omega) | with_reducible first | exact absurd rfl hc | exact absurd hc Bool.false_ne_true | exact absurd hc Bool.false_ne_true.symm) <;> first | refine wa_pg 4 ?_ | refine wa_no 4 ?_) | fail) <;> (first | refine wa_pg 5 ?_ | fail) <;> (first | refine wa_pg 7 ?_ | fail) <;> (first | refine wa_pg 8 ?_ | fail) <;> (refine wa_do 6 ?_ <;> (repeat' (first | refine red ?_ | (refine redc fun r => ?_; try have hr := Subtype.property r) | fail))) <;> (refine wa_do 9 ?_ <;> (repeat' (first | refine red ?_ | (refine redc fun r => ?_; try have hr := Subtype.property r) | fail))) <;> (first | refine wa_pg 10 ?_ | fail) <;> (first | refine wa_p 11 ?_ | fail)) <;> (refine wa_end ?_)) | fail)
  · exact ⟨(), rfl, ent_e⟩
  all_goals
   (rename { q : Value × Value × SSystem × Value × List Int // q.2.2.1.1.length ≤ 9 ∧ q.2.2.1.2.length ≤ 13 } => d
    obtain ⟨⟨v0, v1, x, vt, t⟩, hd1, hd2⟩ := d
    simp only at *)
  all_goals first
    | (exfalso; exact nra_c1 (by assumption) (by assumption))
    | (exfalso; exact absurd (nra_auto (by assumption)) (by assumption))
    | exact ⟨(), ret_bool (nra_c2 (by assumption)).symm, ent_e⟩
    | exact ⟨(), ret_bool (nra_c3 (by assumption)).symm, ent_e⟩
    | exact ⟨(), ret_bool (nra_c4 (by assumption) (by assumption)).symm, ent_e⟩
    | (exfalso; exact absurd (nra_oth (by assumption) (by assumption) (by assumption)) (by assumption))
    | (exfalso; exact absurd (nra_acc (by assumption) (by assumption)) (by assumption))
    | skip
theorem FnNormalAuto_law {w0 : World} {Γ : List Atom} {x0 : List UInt8} {v0_0 : Value} [h0_0 : HasRd (List UInt8) repList Γ [v0_0] x0] [htab : HasRd (Tab) repTab Γ [tabV] (Tab.mk Lib.pow10Tab)] (hf0 : x0.length ≤ 9223372036854775807) :
    CJ Tryz.prog 3 [v0_0] w0 Γ (fun _ : Unit => .bool true) (fun _ => Γ) := FnNormalAuto_spec
end Go.Proofs.YtbbdjjlnachnlaaGreatDoor
