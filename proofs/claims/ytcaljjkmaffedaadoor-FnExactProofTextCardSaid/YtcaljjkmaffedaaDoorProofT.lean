/- The texts of proofs. -/
import Derived.Test.YtcaljjkmaffedaaDoorNodeT
import Derived.Test.YtcaljjkmaffedaaDoorProofOk
namespace Go.Proofs.YtcaljjkmaffedaaDoor
open Go Go.Eng
set_option linter.unusedVariables false
set_option linter.unusedSimpArgs false
set_option synthInstance.maxHeartbeats 400000
set_option synthInstance.maxSize 1000
set_option maxHeartbeats 2000000
set_option maxRecDepth 20000

abbrev PfOk (ps : List SNode) : Prop := AllN ps ps.length ∧ 1 ≤ ps.length ∧ ps.length ≤ 64
/-- The bytes of the first k lines. -/
def plL (a : List Int) (ps : List SNode) : Nat → List UInt8
  | 0 => []
  | k + 1 => plL a ps k ++ (ndT a (ps.getD k default) ++ { data := #[10] }).data.toList
theorem plL_len (a : List Int) (ps : List SNode) (k : Nat) : (plL a ps (k + 1)).length = (plL a ps k).length + ((ndT a (ps.getD k default)).size + 1) := by
  show (plL a ps k ++ (ndT a (ps.getD k default) ++ { data := #[10] }).data.toList).length = _
  rw [List.length_append, Array.length_toList]
  show _ + (ndT a (ps.getD k default) ++ { data := #[10] }).size = _
  rw [bs_app]; rfl
/-- The first k nodes have a text. -/
def NeT (a : List Int) (ps : List SNode) (k : Nat) : Prop := ∀ i, i < k → ¬ ndT a (ps.getD i default) = { data := #[] }
theorem neT_next {a : List Int} {ps : List SNode} {k : Nat} (h : NeT a ps k) (hk : ¬ ndT a (ps.getD k default) = { data := #[] }) : NeT a ps (k + 1) := fun i hi => by
  by_cases he : i = k
  · rw [he]; exact hk
  · exact h i (by omega)
instance {a : List Int} {ps : List SNode} {k : Nat} : Decidable (NeT a ps k) := decidable_of_iff (∀ i, ∀ _ : i < k, ¬ ndT a (ps.getD i default) = { data := #[] }) Iff.rfl
/-- A proof as a text. -/
def pfT (a : List Int) (ps : List SNode) : ByteArray := if PfOk ps ∧ NeT a ps ps.length then S (plL a ps ps.length) else { data := #[] }
abbrev NdR (a : List Int) (n : SNode) : Type := { s : ByteArray // s = ndT a n ∧ s.size ≤ 20000000 }
theorem ndT_sz {a : List Int} {n : SNode} (h1 : ∀ x ∈ n.2.1, In64 x) (h2 : ∀ x ∈ n.2.2.2, In64 x) : (ndT a n).size ≤ 20000000 := by
  unfold ndT
  split
  · rename_i h
    have hnp := of_decide_eq_true h.2.1
    have hl := hnp.2.1
    have e1 := lsT_sz n.2.1 h1
    have e2 := lsT_sz n.2.2.2 h2
    have e3 := knT_sz n.1
    have e4 := trT_sz a n.2.2.1 n.2.2.1.length (Nat.le_refl _) hl.2.1 h.2.2 (fun i hi => ndP60 hnp hi)
    rw [List.take_length] at e4
    have e5 := (jnT_len 59 (tT a n.2.2.1) n.2.2.1.length).1
    have e6 : (trT a n.2.2.1).size ≤ 13000000 := by
      unfold trT
      split <;> rw [S_size]
      · simp
      · omega
    have e7 : (S [32]).size = 1 := rfl
    simp only [bs_app, e7]
    omega
  · exact Nat.zero_le _
theorem spec_NodeTextB_spec {w0 : World} {Γ : List Atom} {v va vb vc : Value} {a : List Int} {n : SNode} [h : HasRd (List Int) repList Γ [v] a] [ha : HasRd (List Int) repList Γ [va] n.2.1] [hb : HasRd (List (List Int)) repList Γ [vb] n.2.2.1] [hc' : HasRd (List Int) repList Γ [vc] n.2.2.2] (hk : -9223372036854775808 ≤ n.1 ∧ n.1 ≤ 9223372036854775807) :
    CJ Tryd.prog 19 [.agg #[v], .agg #[.int .i64 n.1, va, vb, vc]] w0 Γ (fun q : NdR a n => .string q.1) (fun _ => Γ) := by
  refine cj_in64 va fun h64a => ?_
  refine cj_in64 vc fun h64c => ?_
  exact cj_mono (spec_NodeText_spec hk) fun _ => ⟨⟨ndT a n, rfl, ndT_sz h64a h64c⟩, rfl, fun _ h => h⟩
instance spec_NodeTextB_ctr {Γ : List Atom} {v va vb vc : Value} {a : List Int} {n : SNode} [h : HasRd (List Int) repList Γ [v] a] [ha : HasRd (List Int) repList Γ [va] n.2.1] [hb : HasRd (List (List Int)) repList Γ [vb] n.2.2.1] [hc' : HasRd (List Int) repList Γ [vc] n.2.2.2] :
    CtrC Tryd.prog 19 [.agg #[v], .agg #[.int .i64 n.1, va, vb, vc]] Γ (-9223372036854775808 ≤ n.1 ∧ n.1 ≤ 9223372036854775807) (NdR a n) (fun q : NdR a n => .string q.1) (fun _ => Γ) := ⟨fun s w0 => spec_NodeTextB_spec s⟩

theorem impl_NodeTextB_spec {w0 : World} {Γ : List Atom} {v va vb vc : Value} {a : List Int} {n : SNode} [h : HasRd (List Int) repList Γ [v] a] [ha : HasRd (List Int) repList Γ [va] n.2.1] [hb : HasRd (List (List Int)) repList Γ [vb] n.2.2.1] [hc' : HasRd (List Int) repList Γ [vc] n.2.2.2] [ht : HasRd (Tab) repTab Γ [tabV] (Tab.mk Lib.pow10Tab)] (hk : -9223372036854775808 ≤ n.1 ∧ n.1 ≤ 9223372036854775807) :
    CJ Tryd.prog 22 [.agg #[v], .agg #[.int .i64 n.1, va, vb, vc]] w0 Γ (fun q : NdR a n => .string q.1) (fun _ => Γ) := by
  refine cj_in64 va fun h64a => ?_
  refine cj_in64 vc fun h64c => ?_
  exact cj_mono (impl_NodeText_spec hk) fun _ => ⟨⟨ndT a n, rfl, ndT_sz h64a h64c⟩, rfl, fun _ h => h⟩
instance impl_NodeTextB_ctr {Γ : List Atom} {v va vb vc : Value} {a : List Int} {n : SNode} [h : HasRd (List Int) repList Γ [v] a] [ha : HasRd (List Int) repList Γ [va] n.2.1] [hb : HasRd (List (List Int)) repList Γ [vb] n.2.2.1] [hc' : HasRd (List Int) repList Γ [vc] n.2.2.2] [ht : HasRd (Tab) repTab Γ [tabV] (Tab.mk Lib.pow10Tab)] :
    CtrC Tryd.prog 22 [.agg #[v], .agg #[.int .i64 n.1, va, vb, vc]] Γ (-9223372036854775808 ≤ n.1 ∧ n.1 ≤ 9223372036854775807) (NdR a n) (fun q : NdR a n => .string q.1) (fun _ => Γ) := ⟨fun s w0 => impl_NodeTextB_spec s⟩

attribute [local instance 2000] spec_NodeTextB_ctr impl_NodeTextB_ctr
theorem spec_ProofText_spec {w0 : World} {Γ : List Atom} {v vp : Value} {a : List Int} {ps : List SNode} [h : HasRd (List Int) repList Γ [v] a] [h1 : HasRd (List SNode) repList Γ [vp] ps] :
    CJ Tryd.prog 26 [.agg #[v], .agg #[vp]] w0 Γ (fun _ : Unit => .string (pfT a ps)) (fun _ => Γ) := by
  refine cj_len vp fun hlv => ?_
  refine cj_lift (R := [.rd [v] a, .rd [vp] ps]) (A := fun _ => []) (fun w1 => ?_) (reads_cons h (reads_cons h1 (inferInstance))) (fun _ => inferInstance)
  simp only [List.cons_append, List.nil_append]
  refine cj_enter Tryd.func26 Tryd.ntmps26 ?_
  repeat' (first | refine red ?_ | refine redf fun hbi => ?_ | refine reds ?_ | (refine redc fun r => ?_; try have hr := Subtype.property r) | refine redp (fun r => ?_) (fun r => ?_) | refine redv fun sv => ?_ | refine redn fun b => ?_ | refine redz fun zs => ?_ | refine redq (fun hc => ?_) (fun hc => ?_) | with_reducible refine wq_blk_o rfl ?_ | (refine redd fun p cs as_ hcs has hf => ?_; simp only [Un.cells, Un.atoms, Un.fact, List.cons_append, List.nil_append] at hcs has hf; subst hcs has) | (refine redi (fun hc => ?_) (fun hc => ?_) <;> try first | (exfalso; omega) | exact absurd rfl hc) | ((refine wa_begin 5 [false, false, false, false, false, false, false, false] [] ?_ <;> refine wa_p 0 ?_ <;> (first | refine wa_p 1 ?_ | refine wa_p0 1 ?_ | fail) <;> (first | refine wa_f 2 fun hbi => ?_ | refine wa_p 2 ?_ | fail) <;> (first | refine wa_p 3 ?_ | refine wa_p0 3 ?_) <;> (first | refine wa_p 4 ?_ | (refine wa_deep 4 fun p cs as_ asb_ hcs has hasb hf => ?_; simp only [Un.cells, Un.atoms, Un.fact, List.cons_append, List.nil_append] at hcs has hasb hf; subst hcs has hasb) | fail) <;> (first | refine wa_f 5 fun hbi => ?_ | refine wa_p 5 ?_ | (refine wa_do 5 ?_ <;> (repeat' (first | refine red ?_ | (refine redc fun r => ?_; try have hr := Subtype.property r) | refine redv fun sv => ?_ | refine redf fun hbi => ?_ | refine redn fun b => ?_ | refine reds ?_ | refine redi (fun hc => ?_) (fun hc => ?_) | refine redq (fun hc => ?_) (fun hc => ?_) | refine redp (fun r => ?_) (fun r => ?_) | fail))) | fail) <;> (refine wa_do 6 ?_ <;> (repeat' (first | refine red ?_ | (refine redc fun r => ?_; try have hr := Subtype.property r) | refine redv fun sv => ?_ | refine redf fun hbi => ?_ | refine redn fun b => ?_ | refine reds ?_ | refine redi (fun hc => ?_) (fun hc => ?_) | refine redq (fun hc => ?_) (fun hc => ?_) | refine redp (fun r => ?_) (fun r => ?_) | fail))) <;> (first | refine wa_p 7 ?_ | refine wa_p0 7 ?_)) <;> (first | refine wa_end ?_ | with_reducible refine wq_keep ?_)) | fail)
  refine wc_loop_c [5, 6] [8, 9, 10, 11, 12, 13, 14, 15, 16, 19, 20, 21, 22, 23, 24, 25, 7, 26, 27, 4, 28, 29, 30, 31, 17, 18] (ι := Nat) (fun k => [.string (S (plL a ps k)), .int .i64 k]) (fun k => k ≤ ps.length ∧ (0 < k → PfOk ps) ∧ NeT a ps k ∧ (plL a ps k).length ≤ k * 20000001) (fun k => ps.length - k) 0 (by kernel_rfl) ⟨Nat.zero_le _, fun h => absurd h (by omega), fun i hi => by omega, Nat.zero_le _⟩ ?_
  intro k u l' hl' ⟨hk, hpo, hne, hln⟩
  simp only [patch, List.map_cons, List.map_nil, List.set_cons_zero, List.set_cons_succ] at hl'
  subst hl'
  have hk64 : 0 < k → k ≤ 64 := fun h => by have := (hpo h).2.2; omega
  have hss := S_size (plL a ps k)
  have h10 : ({ data := #[10] } : ByteArray).size = 1 := rfl
  have hpl : ∀ s : ByteArray, s = ndT a (ps.getD k default) → S (plL a ps k) ++ s ++ { data := #[10] } = S (plL a ps (k + 1)) := fun s e => by
    rw [e]; apply ByteArray.ext; simp [plL, S, ByteArray.data_append]
  have hpn : ∀ s : ByteArray, s = ndT a (ps.getD k default) → s.size ≤ 20000000 → (plL a ps k).length ≤ k * 20000001 → (plL a ps (k + 1)).length ≤ (k + 1) * 20000001 := fun s e h1 h2 => by
    have h3 : (plL a ps (k + 1)).length = (plL a ps k).length + (s.size + 1) := by rw [e]; exact plL_len a ps k
    rw [h3, Nat.add_mul]; omega
  repeat' (first | refine red ?_ | refine redf fun hbi => ?_ | refine reds ?_ | (refine redc fun r => ?_; try have hr := Subtype.property r) | refine redp (fun r => ?_) (fun r => ?_) | refine redv fun sv => ?_ | refine redn fun b => ?_ | refine redz fun zs => ?_ | refine redq (fun hc => ?_) (fun hc => ?_) | with_reducible refine wq_blk_o rfl ?_ | (refine redd fun p cs as_ hcs has hf => ?_; simp only [Un.cells, Un.atoms, Un.fact, List.cons_append, List.nil_append] at hcs has hf; subst hcs has) | (refine redi (fun hc => ?_) (fun hc => ?_) <;> try first | (exfalso; omega) | exact absurd rfl hc) | ((refine wa_begin 5 [false, false, false, false, false, false, false, false] [] ?_ <;> refine wa_p 0 ?_ <;> (first | refine wa_p 1 ?_ | refine wa_p0 1 ?_ | fail) <;> (first | refine wa_f 2 fun hbi => ?_ | refine wa_p 2 ?_ | fail) <;> (first | refine wa_p 3 ?_ | refine wa_p0 3 ?_) <;> (first | refine wa_p 4 ?_ | (refine wa_deep 4 fun p cs as_ asb_ hcs has hasb hf => ?_; simp only [Un.cells, Un.atoms, Un.fact, List.cons_append, List.nil_append] at hcs has hasb hf; subst hcs has hasb) | fail) <;> (first | refine wa_f 5 fun hbi => ?_ | refine wa_p 5 ?_ | (refine wa_do 5 ?_ <;> (repeat' (first | refine red ?_ | (refine redc fun r => ?_; try have hr := Subtype.property r) | refine redv fun sv => ?_ | refine redf fun hbi => ?_ | refine redn fun b => ?_ | refine reds ?_ | refine redi (fun hc => ?_) (fun hc => ?_) | refine redq (fun hc => ?_) (fun hc => ?_) | refine redp (fun r => ?_) (fun r => ?_) | fail))) | fail) <;> (refine wa_do 6 ?_ <;> (repeat' (first | refine red ?_ | (refine redc fun r => ?_; try have hr := Subtype.property r) | refine redv fun sv => ?_ | refine redf fun hbi => ?_ | refine redn fun b => ?_ | refine reds ?_ | refine redi (fun hc => ?_) (fun hc => ?_) | refine redq (fun hc => ?_) (fun hc => ?_) | refine redp (fun r => ?_) (fun r => ?_) | fail))) <;> (first | refine wa_p 7 ?_ | refine wa_p0 7 ?_)) <;> (first | refine wa_end ?_ | with_reducible refine wq_keep ?_)) | fail)
  · exact ⟨(), by rw [pfT, if_neg (fun h => h.2 k (by omega) (hr.1 ▸ hc))], ent_e⟩
  · refine reds ?_ (by rw [bs_app]; omega)
    repeat' (first | refine red ?_ | refine redf fun hbi => ?_ | refine reds ?_ | (refine redc fun r => ?_; try have hr := Subtype.property r) | refine redp (fun r => ?_) (fun r => ?_) | refine redv fun sv => ?_ | refine redn fun b => ?_ | refine redz fun zs => ?_ | refine redq (fun hc => ?_) (fun hc => ?_) | with_reducible refine wq_blk_o rfl ?_ | (refine redd fun p cs as_ hcs has hf => ?_; simp only [Un.cells, Un.atoms, Un.fact, List.cons_append, List.nil_append] at hcs has hf; subst hcs has) | (refine redi (fun hc => ?_) (fun hc => ?_) <;> try first | (exfalso; omega) | exact absurd rfl hc) | ((refine wa_begin 5 [false, false, false, false, false, false, false, false] [] ?_ <;> refine wa_p 0 ?_ <;> (first | refine wa_p 1 ?_ | refine wa_p0 1 ?_ | fail) <;> (first | refine wa_f 2 fun hbi => ?_ | refine wa_p 2 ?_ | fail) <;> (first | refine wa_p 3 ?_ | refine wa_p0 3 ?_) <;> (first | refine wa_p 4 ?_ | (refine wa_deep 4 fun p cs as_ asb_ hcs has hasb hf => ?_; simp only [Un.cells, Un.atoms, Un.fact, List.cons_append, List.nil_append] at hcs has hasb hf; subst hcs has hasb) | fail) <;> (first | refine wa_f 5 fun hbi => ?_ | refine wa_p 5 ?_ | (refine wa_do 5 ?_ <;> (repeat' (first | refine red ?_ | (refine redc fun r => ?_; try have hr := Subtype.property r) | refine redv fun sv => ?_ | refine redf fun hbi => ?_ | refine redn fun b => ?_ | refine reds ?_ | refine redi (fun hc => ?_) (fun hc => ?_) | refine redq (fun hc => ?_) (fun hc => ?_) | refine redp (fun r => ?_) (fun r => ?_) | fail))) | fail) <;> (refine wa_do 6 ?_ <;> (repeat' (first | refine red ?_ | (refine redc fun r => ?_; try have hr := Subtype.property r) | refine redv fun sv => ?_ | refine redf fun hbi => ?_ | refine redn fun b => ?_ | refine reds ?_ | refine redi (fun hc => ?_) (fun hc => ?_) | refine redq (fun hc => ?_) (fun hc => ?_) | refine redp (fun r => ?_) (fun r => ?_) | fail))) <;> (first | refine wa_p 7 ?_ | refine wa_p0 7 ?_)) <;> (first | refine wa_end ?_ | with_reducible refine wq_keep ?_)) | fail)
    rw [hpl _ hr.1]
    exact wq_next (k + 1) ⟨by omega, fun _ => ‹_›, neT_next hne (hr.1 ▸ hc), hpn _ hr.1 hr.2 hln⟩ (by omega) (by kernel_rfl) ent_e
  · by_cases hk0 : 0 < k
    · exact absurd (hpo hk0) hc
    · exact ⟨(), by rw [pfT, if_neg (fun h => hc h.1), show k = 0 by omega]; rfl, ent_e⟩
  · refine ⟨(), ?_, ent_e⟩
    have hkl : k = ps.length := by omega
    by_cases hk0 : 0 < k
    · rw [pfT, if_pos ⟨hpo hk0, hkl ▸ hne⟩, hkl]
    · rw [pfT, if_neg (fun h => by have := h.1.2.1; omega), show k = 0 by omega]; rfl
instance spec_ProofText_ctr {Γ : List Atom} {v vp : Value} {a : List Int} {ps : List SNode} [h : HasRd (List Int) repList Γ [v] a] [h1 : HasRd (List SNode) repList Γ [vp] ps] :
    CtrC Tryd.prog 26 [.agg #[v], .agg #[vp]] Γ (True) (Unit) (fun _ : Unit => .string (pfT a ps)) (fun _ => Γ) := ⟨fun s w0 => spec_ProofText_spec⟩

theorem wc_ownilT {P : Program} {Q : Exit → Act → World → Prop} {w0 : World} {c : Code} {l : List Value} {Γ : List Atom} (h : WC P Q w0 c l (@Atom.ow (TBy t8) repTBy [.slice none 0 0] (TBy.mk []) :: Γ)) : WC P Q w0 c l Γ := fun w hs => by
  obtain ⟨hb, F, hnd, hl, hsep⟩ := hs
  exact h w ⟨hb, F, hnd, hl, [], F, rfl, .inl ⟨rfl, rfl, rfl⟩, hsep⟩
theorem impl_ProofText_spec {w0 : World} {Γ : List Atom} {v vp : Value} {a : List Int} {ps : List SNode} [h : HasRd (List Int) repList Γ [v] a] [h1 : HasRd (List SNode) repList Γ [vp] ps] [ht : HasRd (Tab) repTab Γ [tabV] (Tab.mk Lib.pow10Tab)] :
    CJ Tryd.prog 28 [.agg #[v], .agg #[vp]] w0 Γ (fun _ : Unit => .string (pfT a ps)) (fun _ => Γ) := by
  refine cj_len vp fun hlv => ?_
  refine cj_lift (R := [.rd [v] a, .rd [vp] ps, .rd [tabV] (Tab.mk Lib.pow10Tab)]) (A := fun _ => []) (fun w1 => ?_) (reads_cons h (reads_cons h1 (reads_cons ht (inferInstance)))) (fun _ => inferInstance)
  simp only [List.cons_append, List.nil_append]
  refine cj_enter Tryd.func28 Tryd.ntmps28 ?_
  repeat' (first | refine red ?_ | refine redf fun hbi => ?_ | refine reds ?_ | (refine redc fun r => ?_; try have hr := Subtype.property r) | refine redp (fun r => ?_) (fun r => ?_) | refine redv fun sv => ?_ | refine redn fun b => ?_ | refine redz fun zs => ?_ | refine redq (fun hc => ?_) (fun hc => ?_) | with_reducible refine wq_blk_o rfl ?_ | (refine redd fun p cs as_ hcs has hf => ?_; simp only [Un.cells, Un.atoms, Un.fact, List.cons_append, List.nil_append] at hcs has hf; subst hcs has) | (refine redi (fun hc => ?_) (fun hc => ?_) <;> try first | (exfalso; omega) | exact absurd rfl hc) | fail)
  · exact ⟨(), by rw [pfT, if_neg (fun h => hc h.1)], ent_e⟩
  have hpo : PfOk ps := hc
  have hp64 := hpo.2
  refine wc_ownilT ?_
  refine wc_loop_p [15] [16, 17, 18, 7, 19, 20, 21, 8, 22, 23, 4, 24, 25, 26, 27] (ι := Nat × Value × Value) (fun k => [.int .i64 k.1]) (fun k => [@Atom.ow (TB tB) repTB [.pointer (some ⟨b, 0, none⟩)] (TB.mk [k.2.1, k.2.2]), @Atom.ow (TBy t8) repTBy [k.2.2] (TBy.mk (plL a ps k.1))]) (fun k => k.1 ≤ ps.length ∧ (k.2.1 = .pointer none ∨ k.2.1 = .pointer (some ⟨b, 0, none⟩)) ∧ NeT a ps k.1 ∧ ((plL a ps k.1).length ≤ k.1 * 20000001 ∧ k.1 ≤ (plL a ps k.1).length)) (fun k => ps.length - k.1) (0, .pointer none, .slice none 0 0) [@Atom.ow (TB tB) repTB [.pointer (some ⟨b, 0, none⟩)] (TB.mk [.pointer none, .slice none 0 0]), @Atom.ow (TBy t8) repTBy [.slice none 0 0] (TBy.mk [])] (by kernel_rfl) ⟨Nat.zero_le _, .inl rfl, fun i hi => by omega, Nat.zero_le _, Nat.zero_le _⟩ rfl ?_
  intro ⟨k, pv, bv⟩ u l' hl' ⟨hk, hpv, hne, hln⟩
  simp only [patch, List.map_cons, List.map_nil, List.set_cons_zero, List.set_cons_succ] at hl'
  subst hl'
  simp only [List.cons_append, List.nil_append] at hk hpv hne hln ⊢
  have h10 : ({ data := #[10] } : ByteArray).size = 1 := rfl
  have hpn : ∀ s : ByteArray, s = ndT a (ps.getD k default) → s.size ≤ 20000000 → (plL a ps k).length ≤ k * 20000001 ∧ k ≤ (plL a ps k).length → (plL a ps (k + 1)).length ≤ (k + 1) * 20000001 ∧ k + 1 ≤ (plL a ps (k + 1)).length := fun s e h1 h2 => by
    have h3 : (plL a ps (k + 1)).length = (plL a ps k).length + (s.size + 1) := by rw [e]; exact plL_len a ps k
    rw [h3, Nat.add_mul]; omega
  repeat' (first | refine red ?_ | refine redf fun hbi => ?_ | refine reds ?_ | (refine redc fun r => ?_; try have hr := Subtype.property r) | refine redp (fun r => ?_) (fun r => ?_) | refine redv fun sv => ?_ | refine redn fun b => ?_ | refine redz fun zs => ?_ | refine redq (fun hc => ?_) (fun hc => ?_) | with_reducible refine wq_blk_o rfl ?_ | (refine redd fun p cs as_ hcs has hf => ?_; simp only [Un.cells, Un.atoms, Un.fact, List.cons_append, List.nil_append] at hcs has hf; subst hcs has) | (refine redi (fun hc => ?_) (fun hc => ?_) <;> try first | (exfalso; omega) | exact absurd rfl hc) | fail)
  · exact ⟨(), by rw [pfT, if_neg (fun h => h.2 k (by omega) (hr.1 ▸ hc))], ent_e⟩
  · have hsz2 : (plL a ps k).length + (r.1 ++ ({ data := #[10] } : ByteArray)).size ≤ 140737488355328 := by rw [bs_app]; omega
    have hnx := hpn _ hr.1 hr.2 hln
    have hnn := neT_next hne (hr.1 ▸ hc)
    have hap : plL a ps k ++ (r.1 ++ ({ data := #[10] } : ByteArray)).data.toList = plL a ps (k + 1) := by rw [hr.1]; rfl
    repeat' (first | refine red ?_ | refine redf fun hbi => ?_ | refine reds ?_ | (refine redc fun r => ?_; try have hr := Subtype.property r) | refine redp (fun r => ?_) (fun r => ?_) | refine redv fun sv => ?_ | refine redn fun b => ?_ | refine redz fun zs => ?_ | refine redq (fun hc => ?_) (fun hc => ?_) | with_reducible refine wq_blk_o rfl ?_ | (refine redd fun p cs as_ hcs has hf => ?_; simp only [Un.cells, Un.atoms, Un.fact, List.cons_append, List.nil_append] at hcs has hf; subst hcs has) | (refine redi (fun hc => ?_) (fun hc => ?_) <;> try first | (exfalso; omega) | exact absurd rfl hc) | fail)
    rw [hap]
    exact wq_next (k + 1, .pointer (some ⟨_, 0, none⟩), r) ⟨by simp only; omega, .inr rfl, hnn, hnx⟩ (by simp only; omega) (by kernel_rfl) ent_e
  · refine ⟨(), ?_, ent_e⟩
    have hkl : k = ps.length := by omega
    rw [pfT, if_pos ⟨hpo, hkl ▸ hne⟩, hkl]; rfl
instance impl_ProofText_ctr {Γ : List Atom} {v vp : Value} {a : List Int} {ps : List SNode} [h : HasRd (List Int) repList Γ [v] a] [h1 : HasRd (List SNode) repList Γ [vp] ps] [ht : HasRd (Tab) repTab Γ [tabV] (Tab.mk Lib.pow10Tab)] :
    CtrC Tryd.prog 28 [.agg #[v], .agg #[vp]] Γ (True) (Unit) (fun _ : Unit => .string (pfT a ps)) (fun _ => Γ) := ⟨fun s w0 => impl_ProofText_spec⟩

end Go.Proofs.YtcaljjkmaffedaaDoor
