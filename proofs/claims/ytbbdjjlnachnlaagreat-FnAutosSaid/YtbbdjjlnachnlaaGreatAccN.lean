/- Acceptance, union, wholeness: both sides. -/
import Derived.Test.YtbbdjjlnachnlaaGreatAutL
import Derived.Test.YtbbdjjlnachnlaaGreatStat2
import Derived.Test.YtbbdjjlnachnlaaGreatOthI
namespace Go.Proofs.YtbbdjjlnachnlaaGreat
open Go Go.Eng
set_option linter.unusedVariables false
set_option linter.unusedSimpArgs false
set_option synthInstance.maxHeartbeats 400000
set_option synthInstance.maxSize 1000
set_option maxHeartbeats 2000000
set_option maxRecDepth 20000


theorem spec_AcceptsIn_spec {w0 : World} {Γ : List Atom} {v v0 v1 vt : Value} {a t : List Int} {x : SAuto} [h : HasRd (List Int) repList Γ [v] a] [h0 : HasRd (List STrans) repList Γ [v0] x.2.1] [h1 : HasRd (List Int) repList Γ [v1] x.2.2] [h2 : HasRd (List Int) repList Γ [vt] t] :
    CJ Tryz.prog 27 [.agg #[v], .agg #[.int .i64 x.1, v0, v1], vt] w0 Γ (fun _ : Unit => .bool (accN a x t)) (fun _ => Γ) := by
  refine cj_lift (R := [.rd [v] a, .rd [v0] x.2.1, .rd [v1] x.2.2, .rd [vt] t]) (A := fun _ => []) (fun w1 => ?_) (reads_cons h (reads_cons h0 (reads_cons h1 (reads_cons h2 (inferInstance))))) (fun _ => inferInstance)
  simp only [List.cons_append, List.nil_append]
  refine cj_enter Tryz.func27 Tryz.ntmps27 ?_
  repeat' (first | refine red ?_ | refine redn fun b => ?_ | ((refine wa_begin 1 [false, false, false, false, false, false, false, false] [] ?_ <;> refine wa_p 0 ?_ <;> (first | refine wa_p 1 ?_ | fail) <;> refine wa_p 2 ?_ <;> (first | refine wa_p 4 ?_ | fail) <;> (first | refine wa_p 5 ?_ | fail) <;> (refine wa_do 3 ?_ <;> (repeat' (first | refine red ?_ | (refine redc fun r => ?_; try have hr := Subtype.property r) | fail))) <;> (refine wa_do 6 ?_ <;> (repeat' (first | refine red ?_ | (refine redc fun r => ?_; try have hr := Subtype.property r) | fail))) <;> refine wa_p 7 ?_) <;> (refine wa_end ?_)) | fail)
  exact ⟨(), rfl, ent_e⟩
instance spec_AcceptsIn_ctr {Γ : List Atom} {v v0 v1 vt : Value} {a t : List Int} {x : SAuto} [h : HasRd (List Int) repList Γ [v] a] [h0 : HasRd (List STrans) repList Γ [v0] x.2.1] [h1 : HasRd (List Int) repList Γ [v1] x.2.2] [h2 : HasRd (List Int) repList Γ [vt] t] :
    CtrC Tryz.prog 27 [.agg #[v], .agg #[.int .i64 x.1, v0, v1], vt] Γ (True) (Unit) (fun _ : Unit => .bool (accN a x t)) (fun _ => Γ) := ⟨fun s w0 => spec_AcceptsIn_spec⟩

theorem accepts_spec {w0 : World} {Γ : List Atom} {v v0 v1 vt : Value} {a t : List Int} {x : SAuto} [h : HasRd (List Int) repList Γ [v] a] [h0 : HasRd (List STrans) repList Γ [v0] x.2.1] [h1 : HasRd (List Int) repList Γ [v1] x.2.2] [h2 : HasRd (List Int) repList Γ [vt] t] (hag : AG a x t) :
    CJ Tryz.prog 82 [.agg #[.int .i64 x.1, v0, v1], .agg #[v], vt] w0 Γ (fun _ : Unit => .bool (accN a x t)) (fun _ => Γ) := by
  have hf16 := fin_in hag.au
  have ht := termOk_len hag.gr.1
  have hin := inS_of hag.au
  refine cj_enter Tryz.func82 Tryz.ntmps82 ?_
  repeat' (first | refine red ?_ | refine redn fun b => ?_ | ((refine wa_begin 1 [false, false, false, false, false, false, false, false, false, false] [] ?_ <;> (first | refine wa_p 0 ?_ | fail) <;> refine wa_p 1 ?_ <;> refine wa_p 2 ?_ <;> (first | refine wa_p 4 ?_ | fail) <;> (first | refine wa_p 5 ?_ | fail) <;> (refine wa_do 3 ?_ <;> (repeat' (first | refine red ?_ | (refine redc fun r => ?_; try have hr := Subtype.property r) | fail))) <;> (refine wa_do 6 ?_ <;> (repeat' (first | refine red ?_ | (refine redc fun r => ?_; try have hr := Subtype.property r) | fail))) <;> (first | refine wa_p 7 ?_ | fail) <;> (first | refine wa_p 8 ?_ | fail) <;> refine wa_p 9 ?_) <;> (refine wa_end ?_)) | fail)
  rename_i r1 hr1
  refine ⟨(), ret_bool ?_, ent_e⟩
  rw [Bool.eq_iff_iff, decide_eq_true_iff, acc_iff hag.au hag.gr]
  constructor
  · rintro ⟨q, h1, h2⟩ h0
    have hq := hf16 q h2
    have e : ((q.toNat : Nat) : Int) = q := by omega
    have b1 := (hr1.2 q.toNat).2 (by rw [e]; exact h1)
    have b2 := (hr.2 q.toNat).2 (by rw [e]; exact h2)
    have b3 : (r1.1 &&& r.1).testBit q.toNat = true := by rw [Nat.testBit_and, b1, b2]; rfl
    rw [show r1.1 &&& r.1 = 0 by omega, Nat.zero_testBit] at b3
    cases b3
  · intro h0
    obtain ⟨i, hi⟩ := Nat.exists_testBit_of_ne_zero (show r1.1 &&& r.1 ≠ 0 by omega)
    rw [Nat.testBit_and, Bool.and_eq_true] at hi
    exact ⟨(i : Int), (hr1.2 i).1 hi.1, (hr.2 i).1 hi.2⟩
instance accepts_ctr {Γ : List Atom} {v v0 v1 vt : Value} {a t : List Int} {x : SAuto} [h : HasRd (List Int) repList Γ [v] a] [h0 : HasRd (List STrans) repList Γ [v0] x.2.1] [h1 : HasRd (List Int) repList Γ [v1] x.2.2] [h2 : HasRd (List Int) repList Γ [vt] t] :
    CtrC Tryz.prog 82 [.agg #[.int .i64 x.1, v0, v1], .agg #[v], vt] Γ (AG a x t) (Unit) (fun _ : Unit => .bool (accN a x t)) (fun _ => Γ) := ⟨fun s w0 => accepts_spec s⟩

theorem impl_AcceptsIn_spec {w0 : World} {Γ : List Atom} {v v0 v1 vt : Value} {a t : List Int} {x : SAuto} [h : HasRd (List Int) repList Γ [v] a] [h0 : HasRd (List STrans) repList Γ [v0] x.2.1] [h1 : HasRd (List Int) repList Γ [v1] x.2.2] [h2 : HasRd (List Int) repList Γ [vt] t] :
    CJ Tryz.prog 28 [.agg #[v], .agg #[.int .i64 x.1, v0, v1], vt] w0 Γ (fun _ : Unit => .bool (accN a x t)) (fun _ => Γ) := by
  by_cases hok : AutoP a x ∧ GrP a t
  · have hag : AG a x t := ⟨hok.1, hok.2⟩
    refine cj_enter Tryz.func28 Tryz.ntmps28 ?_
    repeat' (first | refine red ?_ | (refine redc fun r => ?_; try have hr := Subtype.property r) | refine redn fun b => ?_ | (refine redi (fun hc => ?_) (fun hc => ?_) <;> try first | (exfalso; omega) | with_reducible first | exact absurd rfl hc | exact absurd hc Bool.false_ne_true | exact absurd hc Bool.false_ne_true.symm) | fail)
    · exact ⟨(), rfl, ent_e⟩
    · exact absurd hok.2 hc
    · exact absurd hok.1 hc
  · have hno := acc_no hok
    refine cj_enter Tryz.func28 Tryz.ntmps28 ?_
    repeat' (first | refine red ?_ | (refine redc fun r => ?_; try have hr := Subtype.property r) | refine redn fun b => ?_ | (refine redi (fun hc => ?_) (fun hc => ?_) <;> try first | (exfalso; omega) | with_reducible first | exact absurd rfl hc | exact absurd hc Bool.false_ne_true | exact absurd hc Bool.false_ne_true.symm) | fail)
    · exact absurd ⟨by assumption, by assumption⟩ hok
    · exact ⟨(), by rw [hno], ent_e⟩
    · exact ⟨(), by rw [hno], ent_e⟩
instance impl_AcceptsIn_ctr {Γ : List Atom} {v v0 v1 vt : Value} {a t : List Int} {x : SAuto} [h : HasRd (List Int) repList Γ [v] a] [h0 : HasRd (List STrans) repList Γ [v0] x.2.1] [h1 : HasRd (List Int) repList Γ [v1] x.2.2] [h2 : HasRd (List Int) repList Γ [vt] t] :
    CtrC Tryz.prog 28 [.agg #[v], .agg #[.int .i64 x.1, v0, v1], vt] Γ (True) (Unit) (fun _ : Unit => .bool (accN a x t)) (fun _ => Γ) := ⟨fun s w0 => impl_AcceptsIn_spec⟩

/-! ### The complement -/
theorem compN_mem {fs : List Int} {q : Int} : ∀ {m}, q ∈ compN fs m ↔ ∃ i : Nat, i < m ∧ q = (i : Int) ∧ (i : Int) ∉ fs
  | 0 => by simp [compN]
  | m + 1 => by
    unfold compN
    rw [List.mem_append, compN_mem]
    constructor
    · rintro (⟨i, h1, h2, h3⟩ | h)
      · exact ⟨i, by omega, h2, h3⟩
      · split at h
        · cases h
        · rename_i hn
          rw [List.mem_singleton] at h; exact ⟨m, by omega, h, hn⟩
    · rintro ⟨i, h1, h2, h3⟩
      by_cases e : i = m
      · subst e; exact .inr (by rw [if_neg h3, h2]; simp)
      · exact .inl ⟨i, by omega, h2, h3⟩
theorem compN_pw {fs : List Int} : ∀ m, (compN fs m).Pairwise (· < ·)
  | 0 => List.Pairwise.nil
  | m + 1 => by
    unfold compN
    rw [List.pairwise_append]
    refine ⟨compN_pw m, by split <;> simp, fun a ha b hb => ?_⟩
    obtain ⟨i, h3, h4, _⟩ := compN_mem.1 ha
    split at hb
    · cases hb
    · rw [List.mem_singleton] at hb; omega
theorem oth_auto {a : List Int} {x z : SAuto} {sets : List (List Int)} (h : SureW a x z sets) : AutoP a (z.1, z.2.1, compN z.2.2 z.1.toNat) := by
  have hz := h.auto
  refine ⟨hz.1, hz.2.1, hz.2.2.1, setP_of (compN_pw _) fun q hq => ?_, hz.2.2.2.2⟩
  obtain ⟨i, h1, h2, _⟩ := compN_mem.1 hq
  have := hz.2.1
  show 0 ≤ q ∧ q < z.1
  omega
theorem oth_acc {a t : List Int} {x z : SAuto} {sets : List (List Int)} (h : SureW a x z sets) (ht : GrP a t) : accN a (z.1, z.2.1, compN z.2.2 z.1.toNat) t = !accN a x t := by
  rw [← h.acc ht]
  have hz := h.auto
  have ho := oth_auto h
  have hi := inS_of h.au
  obtain ⟨h1, h2⟩ := sure_rs hi (by have := h.n1; omega) h.cl ht t.length 0 (gr_pos ht) (by omega)
  have h3 := place_mem h1
  have e1 := acc_iff ho ht
  have e2 := acc_iff hz ht
  rw [h.ok] at e1 e2 ⊢
  simp only at e1 e2 ⊢
  have key : accN a ((sets.length : Int), allT x.2.1 a sets, compN (finN sets x.2.2 sets.length) (sets.length : Int).toNat) t = true ↔ ¬ accN a ((sets.length : Int), allT x.2.1 a sets, finN sets x.2.2 sets.length) t = true := by
    rw [e1, e2]
    constructor
    · rintro ⟨n, hn, hf⟩ ⟨m, hm, hg⟩
      rw [h2] at hn hm
      subst hn hm
      obtain ⟨i, _, h5, h6⟩ := compN_mem.1 hf
      rw [h5] at hg
      exact h6 hg
    · intro hno
      refine ⟨_, (h2 _).2 rfl, compN_mem.2 ⟨_, by rw [Int.toNat_natCast]; exact h3.2.1, h3.1, fun hm => hno ⟨_, (h2 _).2 rfl, ?_⟩⟩⟩
      rw [h3.1]; exact hm
  cases h7 : accN a ((sets.length : Int), allT x.2.1 a sets, finN sets x.2.2 sets.length) t
  · rw [h7] at key
    rw [key.2 (by simp)]; rfl
  · rw [h7] at key
    cases h8 : accN a ((sets.length : Int), allT x.2.1 a sets, compN (finN sets x.2.2 sets.length) (sets.length : Int).toNat) t
    · rfl
    · exact absurd rfl (key.1 h8)
end Go.Proofs.YtbbdjjlnachnlaaGreat
