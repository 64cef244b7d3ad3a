/- Filled terms, and terms put into terms. -/
import Derived.Test.YtbbdjjlnachnlaaGreatDoorL04
import Derived.Test.YtbbdjjlnachnlaaGreatDoorL06
import Derived.Test.YtbbdjjlnachnlaaGreatDoorL02m
import Derived.Test.YtbbdjjlnachnlaaGreatDoorDrl
import Derived.Test.YtbbdjjlnachnlaaGreatDoorNrmS
import Derived.Test.YtbbdjjlnachnlaaGreatDoorInst
import Derived.Laws.Build
namespace Go.Proofs.YtbbdjjlnachnlaaGreatDoor
open Go Go.Eng
set_option linter.unusedVariables false
set_option linter.unusedSimpArgs false

def look (ts : List (List Int)) (n : Int) : List Int := if n < 0 then ts.getD (-1 - n).toNat default else []
/-- What a number of a term becomes. -/
def fe (ts : List (List Int)) (n : Int) : List Int := if n < 0 then gives ts (-1 - n).toNat else [n]
def fillTo (ts : List (List Int)) (t : List Int) (k : Nat) : List Int := ((t.take k).map (fe ts)).flatten
def fillOf (ts : List (List Int)) (t : List Int) : Option (List Int) := if (fillTo ts t t.length).length ≤ 60 then some (fillTo ts t t.length) else none
theorem fillTo_succ {ts : List (List Int)} {t : List Int} {k : Nat} (hk : k < t.length) : fillTo ts t (k + 1) = fillTo ts t k ++ fe ts (t.getD k 0) := by
  unfold fillTo
  rw [List.take_succ_eq_append_getElem hk, List.map_append, List.flatten_append, List.getD_eq_getElem?_getD, List.getElem?_eq_getElem hk]
  simp
theorem fillTo_le {ts : List (List Int)} {t : List Int} {k : Nat} : (fillTo ts t k).length ≤ (fillTo ts t t.length).length := by
  unfold fillTo
  rw [List.take_length]
  conv => rhs; rw [← List.take_append_drop k t, List.map_append, List.flatten_append, List.length_append]
  omega
theorem fill_no {ts : List (List Int)} {t : List Int} {k : Nat} (h : 60 < (fillTo ts t k).length) : fillOf ts t = none := by
  have := fillTo_le (ts := ts) (t := t) (k := k)
  exact if_neg (by omega)
theorem fill_yes {ts : List (List Int)} {t : List Int} {k : Nat} (hk : k = t.length) (h : (fillTo ts t k).length ≤ 60) : fillOf ts t = some (fillTo ts t k) := by
  subst hk
  exact if_pos h

theorem l2Filled_spec {w0 : World} {Γ : List Atom} {v vt : Value} {ts : List (List Int)} {t : List Int} [h : HasRd (List (List Int)) repList Γ [v] ts] [h2 : HasRd (List Int) repList Γ [vt] t] (hl : ∀ x ∈ ts, x.length ≤ 60) (htl : t.length ≤ 60) (hv : ∀ n ∈ t, -24 ≤ n) :
    CJ Tryz.prog 75 [.agg #[v], vt] w0 Γ (fun q : Value => .tuple #[q, .bool (fillOf ts t).isSome]) (fun q => .ow [q] ((fillOf ts t).getD []) :: Γ) := by
  refine cj_lift (R := [.rd [v] ts, .rd [vt] t]) (A := fun q : Value => [.ow [q] ((fillOf ts t).getD [])]) (fun w1 => ?_) (reads_cons h (reads_cons h2 (inferInstance))) (fun _ => inferInstance)
  simp only [List.cons_append, List.nil_append]
  refine cj_enter Tryz.func75 Tryz.ntmps75 ?_
  repeat' (first | refine red ?_ | refine redv fun sv => ?_ | refine redn fun b => ?_ | fail)
  refine wc_loop_p [6, 7] [9, 10, 11, 12, 15, 16, 17, 18, 19, 20, 21, 22, 23, 24, 25, 26, 27, 28, 29, 30, 31, 32, 33, 34, 35, 36, 37, 38, 39, 4, 5, 13, 14] (ι := Nat × Value) (fun k => [k.2, .int .i64 k.1]) (fun k => [.ow [k.2] (fillTo ts t k.1)]) (fun k => k.1 ≤ t.length ∧ (fillTo ts t k.1).length ≤ 60) (fun k => t.length - k.1) (0, sv) [.ow [sv] ([] : List Int)] (by kernel_rfl) ⟨Nat.zero_le _, by simp [fillTo]⟩ rfl ?_
  intro ⟨k, sw⟩ u l' hl' ⟨hk, hkl⟩
  simp only [patch, List.map_cons, List.map_nil, List.set_cons_zero, List.set_cons_succ] at hl'
  subst hl'
  simp only [List.cons_append, List.nil_append] at hk hkl ⊢
  have hvk : k < t.length → -24 ≤ t.getD k 0 := fun h => hv _ (getD_mem h)
  have hfl := gives_len (ts := ts) (i := (-1 - t.getD k 0).toNat) hl
  repeat' (first | refine red ?_ | refine redf fun hbi => ?_ | refine reds ?_ | refine redv fun sv => ?_ | (refine redi (fun hc => ?_) (fun hc => ?_) <;> try first | (exfalso; omega) | exact absurd rfl hc) | ((refine wa_begin 6 [false, false, false, false, false, false, false, false, false, false] [8] ?_ <;> refine wa_p 0 ?_ <;> (first | refine wa_p 1 ?_ | fail) <;> refine wa_p 2 ?_ <;> refine wa_p 3 ?_ <;> refine wa_p 4 ?_ <;> (first | refine wa_f 5 fun hbi => ?_ | fail) <;> (first | refine wa_p 6 ?_ | fail) <;> (refine wa_do 7 ?_ <;> (repeat' (first | refine red ?_ | refine redc fun r => ?_ | fail))) <;> (refine wa_do 8 ?_ <;> (repeat' (first | refine red ?_ | refine redv fun sv => ?_ | fail))) <;> refine wa_p0 9 ?_) <;> (refine wa_end ?_)) | fail)
  · have e := fillTo_succ (ts := ts) (t := t) (k := k) (by omega)
    rw [show fe ts (t.getD k 0) = gives ts (-1 - t.getD k 0).toNat from if_pos ‹_›] at e
    rw [← e] at hc
    rw [fill_no (k := k + 1) (by omega)]
    simp only [Option.getD_none, Option.isSome_none]
    exact ⟨_, rfl, ent_e⟩
  · have e := fillTo_succ (ts := ts) (t := t) (k := k) (by omega)
    rw [show fe ts (t.getD k 0) = gives ts (-1 - t.getD k 0).toNat from if_pos ‹_›] at e
    rw [← e] at hc ⊢
    exact wq_next (k + 1, sv) ⟨by simp only; omega, by simp only; omega⟩ (by simp only; omega) (by kernel_rfl) ent_e
  · have e := fillTo_succ (ts := ts) (t := t) (k := k) (by omega)
    rw [show fe ts (t.getD k 0) = [t.getD k 0] from if_neg (by omega)] at e
    rw [← e] at hc
    rw [fill_no (k := k + 1) (by omega)]
    simp only [Option.getD_none, Option.isSome_none]
    exact ⟨_, rfl, ent_e⟩
  · have e := fillTo_succ (ts := ts) (t := t) (k := k) (by omega)
    rw [show fe ts (t.getD k 0) = [t.getD k 0] from if_neg (by omega)] at e
    rw [← e] at hc ⊢
    exact wq_next (k + 1, sv) ⟨by simp only; omega, by simp only; omega⟩ (by simp only; omega) (by kernel_rfl) ent_e
  · rw [fill_yes (show k = t.length by omega) hkl]
    simp only [Option.getD_some, Option.isSome_some]
    exact ⟨_, rfl, ent_e⟩
instance l2Filled_ctr {Γ : List Atom} {v vt : Value} {ts : List (List Int)} {t : List Int} [h : HasRd (List (List Int)) repList Γ [v] ts] [h2 : HasRd (List Int) repList Γ [vt] t] :
    CtrC Tryz.prog 75 [.agg #[v], vt] Γ ((∀ x ∈ ts, x.length ≤ 60) ∧ (t.length ≤ 60) ∧ (∀ n ∈ t, -24 ≤ n)) (Value) (fun q : Value => .tuple #[q, .bool (fillOf ts t).isSome]) (fun q => .ow [q] ((fillOf ts t).getD []) :: Γ) := ⟨fun s w0 => l2Filled_spec s.1 s.2.1 s.2.2⟩

end Go.Proofs.YtbbdjjlnachnlaaGreatDoor
namespace Go.Proofs.YtbbdjjlnachnlaaGreatDoor
open Go Go.Eng
set_option linter.unusedVariables false
theorem cj_dupD {P : Program} {f : FuncId} {vs : List Value} {w0 : World} {Γ : List Atom} {α : Type} {i : Rep α} {cs : List Value} {x : α} {ρ : Type} {r : ρ → Value} {Γ' : ρ → List Atom} [hr : HasIm α i Γ cs x] (h : CJ P f vs w0 (@Atom.rd α i cs x :: Γ) r Γ') : CJ P f vs w0 Γ r Γ' := fun w hs => by
  obtain ⟨hbel, F, hnd, hl, hsep⟩ := hs
  exact h w ⟨hbel, F, hnd, hl, [], F, rfl, ⟨rfl, hr.get hsep⟩, hsep⟩
end Go.Proofs.YtbbdjjlnachnlaaGreatDoor
namespace Go.Proofs.YtbbdjjlnachnlaaGreatDoor
open Go Go.Eng
set_option linter.unusedVariables false
set_option linter.unusedSimpArgs false
set_option synthInstance.maxHeartbeats 400000
set_option synthInstance.maxSize 1000
set_option maxHeartbeats 4000000
set_option maxRecDepth 20000

theorem l6DrawR_spec {w0 : World} {Γ Δ : List Atom} {bc : Nat} {vb : Value} {code : List UInt8} {p : CurS code} [hb : PullBk Γ bc (cur vb p) Δ] [hv : HasRd (List UInt8) repList Δ [vb] code] :
    CJ Tryz.prog 67 [.pointer (some ⟨bc, 0, none⟩)] w0 Γ (fun q : DaT code => .agg #[q.1.1, q.1.2.1]) (fun q => .rd [q.1.2.1] q.1.2.2.1.2 :: .rd [q.1.1] q.1.2.2.1.1 :: .bk bc (cur vb q.1.2.2.2) :: Δ) := by
  refine cj_mono (l6Draw_spec (p := p)) (fun q => ⟨⟨(q.1.1, q.1.2.1, (q.1.2.2.1, q.1.2.2.2.1.map Sh.v), q.1.2.2.2.2), ⟨q.2.1, by simp only [List.length_map]; have := q.2.2.1; omega, fun r hr => by
    obtain ⟨y, hy, e⟩ := List.mem_map.1 hr
    rw [← e]; exact q.2.2.2 y hy⟩⟩, rfl, fun w hs => ?_⟩)
  rw [← sh_backR q.1.2.2.2.1] at hs
  have h2 : Ent w0 (.ow [q.1.1] q.1.2.2.1 :: .ow [q.1.2.1] ((q.1.2.2.2.1.map Sh.v).map Sh.mk) :: .bk bc (cur vb q.1.2.2.2.2) :: Δ) (.rd [q.1.2.1] (q.1.2.2.2.1.map Sh.v) :: .rd [q.1.1] q.1.2.2.1 :: .bk bc (cur vb q.1.2.2.2.2) :: Δ) :=
    ent_unsh (ys := q.1.2.2.2.1.map Sh.v) q.1.2.1 (ent_rd q.1.1 ent_e)
  exact h2 w hs
instance l6DrawR_ctr {Γ Δ : List Atom} {bc : Nat} {vb : Value} {code : List UInt8} {p : CurS code} [hb : PullBk Γ bc (cur vb p) Δ] [hv : HasRd (List UInt8) repList Δ [vb] code] :
    CtrC Tryz.prog 67 [.pointer (some ⟨bc, 0, none⟩)] Γ (True) (DaT code) (fun q : DaT code => .agg #[q.1.1, q.1.2.1]) (fun q => .rd [q.1.2.1] q.1.2.2.1.2 :: .rd [q.1.1] q.1.2.2.1.1 :: .bk bc (cur vb q.1.2.2.2) :: Δ) := ⟨fun s w0 => l6DrawR_spec⟩

attribute [local instance 2000] l6DrawR_ctr
theorem l24Draw_spec {w0 : World} {Γ Δ : List Atom} {bc : Nat} {vb : Value} {code : List UInt8} {p : CurS code} [hb : PullBk Γ bc (cur vb p) Δ] [hv : HasRd (List UInt8) repList Δ [vb] code] :
    CJ Tryz.prog 28 [.pointer (some ⟨bc, 0, none⟩)] w0 Γ (fun q : DaT code => .agg #[q.1.1, q.1.2.1]) (fun q => .rd [q.1.2.1] q.1.2.2.1.2 :: .rd [q.1.1] q.1.2.2.1.1 :: .bk bc (cur vb q.1.2.2.2) :: Δ) := by
  refine cj_perm hb.perm ?_
  refine cj_enter Tryz.func28 Tryz.ntmps28 ?_
  repeat' (first | refine red ?_ | refine redn fun b => ?_ | fail)
  refine wc_loop_p [3] [5, 6, 9, 10, 4, 11, 12, 13, 7, 8] (ι := Nat × CurS code) (fun k => [.int .i64 k.1]) (fun k => [.bk bc (cur vb k.2)]) (fun k => k.1 ≤ 4) (fun k => 4 - k.1) (0, p) [.bk bc (cur vb p)] (by kernel_rfl) (Nat.zero_le _) rfl ?_
  intro ⟨k, p0⟩ u l' hl' hk
  simp only [patch, List.map_cons, List.map_nil, List.set_cons_zero, List.set_cons_succ] at hl'
  subst hl'
  simp only [List.cons_append, List.nil_append] at hk ⊢
  repeat' (first | refine red ?_ | refine reds ?_ | (refine redc fun r => ?_; try have hr := Subtype.property r) | refine redn fun b => ?_ | (refine redi (fun hc => ?_) (fun hc => ?_) <;> try first | (exfalso; omega) | exact absurd rfl hc) | fail)
  · rename DaT code => d
    exact ⟨d, rfl, ent_e⟩
  · rename DaT code => d
    exact wq_next (k + 1, d.1.2.2.2) (by simp only; omega) (by simp only; omega) (by kernel_rfl) ent_e
  · exact ⟨r, rfl, ent_e⟩
instance l24Draw_ctr {Γ Δ : List Atom} {bc : Nat} {vb : Value} {code : List UInt8} {p : CurS code} [hb : PullBk Γ bc (cur vb p) Δ] [hv : HasRd (List UInt8) repList Δ [vb] code] :
    CtrC Tryz.prog 28 [.pointer (some ⟨bc, 0, none⟩)] Γ (True) (DaT code) (fun q : DaT code => .agg #[q.1.1, q.1.2.1]) (fun q => .rd [q.1.2.1] q.1.2.2.1.2 :: .rd [q.1.1] q.1.2.2.1.1 :: .bk bc (cur vb q.1.2.2.2) :: Δ) := ⟨fun s w0 => l24Draw_spec⟩

theorem l24DrawGround_spec {w0 : World} {Γ Δ : List Atom} {bc : Nat} {vb v0 v1 : Value} {code : List UInt8} {p : CurS code} {x : SSystem} [hb : PullBk Γ bc (cur vb p) Δ] [hv : HasRd (List UInt8) repList Δ [vb] code] [h0 : HasIm (List Int) repList Δ [v0] x.1] [h1 : HasIm (List SRule) repList Δ [v1] x.2] :
    CJ Tryz.prog 29 [.pointer (some ⟨bc, 0, none⟩), .agg #[v0, v1]] w0 Γ (fun q : Value × List Int × CurS code => q.1) (fun q => .rd [q.1] q.2.1 :: .bk bc (cur vb q.2.2) :: Δ) := by
  refine cj_perm hb.perm ?_
  refine cj_dupD (i := repList) (cs := [v1]) (x := x.2) ?_
  refine cj_len v1 fun hl1 => ?_
  by_cases hok : sysOk x = true
  · have hsg := (sysOk_iff.1 hok).1.1
    have hrl := (sysOk_iff.1 hok).1.2
    refine cj_enter Tryz.func29 Tryz.ntmps29 ?_
    repeat' (first | refine red ?_ | (refine redc fun r => ?_; try have hr := Subtype.property r) | refine redn fun b => ?_ | (refine redi (fun hc => ?_) (fun hc => ?_) <;> try first | (exfalso; omega) | exact absurd rfl hc) | ((refine wa_beginc 4 [false, false, false, false, false, false, false, false, false, false, false] [] ?_ <;> (first | refine wa_p 0 ?_ | fail) <;> (first | refine wa_p 1 ?_ | fail) <;> refine wa_p 2 ?_ <;> (first | refine wa_p 3 ?_ | fail) <;> (first | refine wa_p 4 ?_ | fail) <;> (first | refine wa_p 5 ?_ | fail) <;> (refine wa_do 6 ?_ <;> (repeat' (first | refine red ?_ | (refine redc fun r => ?_; try have hr := Subtype.property r) | fail))) <;> (first | (refine wa_deep 7 fun p cs as_ asb_ hcs has hasb hf => ?_; simp only [Un.cells, Un.atoms, Un.fact, List.cons_append, List.nil_append] at hcs has hasb hf; subst hcs has hasb) | fail) <;> (first | refine wa_p 8 ?_ | fail) <;> (first | refine wa_p 9 ?_ | fail) <;> refine wa_p 10 ?_) <;> (refine wa_end ?_)) | fail)
    · exact ⟨(r.1.1, r.1.2.1, r.1.2.2), rfl, ent_e⟩
    · rename Nat => b0
      obtain ⟨⟨ri, pr⟩, hri⟩ := r
      simp only at hri hr hf ⊢
      have hrule := (of_decide_eq_true ((sysOk_iff.1 hok).2 _ (getD_memD (k := ri.toNat) (by omega))) : RuleP _ _).1.1
      have htl := (termOk_len hrule).2
      have hv24 : ∀ n ∈ (x.2.getD ri.toNat default).1, -24 ≤ n := fun n hn => (termOk_mem hrule hn).1
      refine wc_loop_p [7] [36, 37, 40, 41, 42, 43, 44, 45, 46, 47, 48, 38, 39] (ι := Nat × Value × List (List Int) × CurS code) (fun k => [.int .i64 k.1]) (fun k => [.bk b0 [k.2.1], .ow [k.2.1] k.2.2.1, .bk bc (cur vb k.2.2.2)]) (fun k => k.1 ≤ 4 ∧ k.2.2.1.length = k.1 ∧ ∀ x ∈ k.2.2.1, x.length ≤ 60) (fun k => 4 - k.1) (0, .slice none 0 0, [], pr) [.bk b0 [.slice none 0 0], .ow [.slice none 0 0] ([] : List (List Int)), .bk bc (cur vb pr)] (by kernel_rfl) ⟨Nat.zero_le _, rfl, fun x hx => by cases hx⟩ rfl ?_
      intro ⟨k, sw, ts, p1⟩ u l' hl' ⟨hk, htsl, hts⟩
      simp only [patch, List.map_cons, List.map_nil, List.set_cons_zero, List.set_cons_succ] at hl'
      subst hl'
      simp only [List.cons_append, List.nil_append] at hk htsl hts ⊢
      repeat' (first | refine red ?_ | refine reds ?_ | (refine redc fun r => ?_; try have hr := Subtype.property r) | (refine redi (fun hc => ?_) (fun hc => ?_) <;> try first | (exfalso; omega) | exact absurd rfl hc) | ((refine wa_beginc 9 [false, false, false, false, false, false, false, false, false, false] [7, 9] ?_ <;> (first | refine wa_p 0 ?_ | fail) <;> (first | refine wa_p 1 ?_ | fail) <;> refine wa_p 2 ?_ <;> (first | refine wa_p 3 ?_ | fail) <;> refine wa_p 4 ?_ <;> (refine wa_do 5 ?_ <;> (repeat' (first | refine red ?_ | (refine redc fun r => ?_; try have hr := Subtype.property r) | fail))) <;> (refine wa_do 6 ?_ <;> (repeat' (first | refine red ?_ | refine redv fun sv => ?_ | fail))) <;> (refine wa_do 7 ?_ <;> (repeat' (first | refine red ?_ | refine redv fun sv => ?_ | fail))) <;> (first | refine wa_p0 8 ?_ | fail) <;> (refine wa_do 9 ?_ <;> (repeat' (first | refine red ?_ | fail)))) <;> (refine wa_end ?_)) | fail)
      · exact wq_next (k + 1, sv, ts ++ [r.1.2.1], r.1.2.2) ⟨by simp only; omega, by simp only [List.length_append, List.length_cons, List.length_nil]; omega, fun y hy => by
          rcases List.mem_append.1 hy with h | h
          · exact hts y h
          · rw [List.mem_singleton] at h; rw [h]; omega⟩ (by simp only; omega) (by kernel_rfl) ent_e
      · exact ⟨(r, (fillOf ts (x.2.getD ri.toNat default).1).getD [], p1), rfl, ent_rd r ent_e⟩
      · exact ⟨(r.1, r.2.1, r.2.2), rfl, ent_e⟩
    · exact ⟨(r.1, r.2.1, r.2.2), rfl, ent_e⟩
    · exact ⟨(r.1, r.2.1, r.2.2), rfl, ent_e⟩
  · refine cj_enter Tryz.func29 Tryz.ntmps29 ?_
    repeat' (first | refine red ?_ | (refine redc fun r => ?_; try have hr := Subtype.property r) | refine redn fun b => ?_ | (refine redi (fun hc => ?_) (fun hc => ?_) <;> try first | (exfalso; omega) | exact absurd rfl hc) | ((refine wa_beginc 4 [false, false, false, false, false, false, false, false, false, false, false] [] ?_ <;> (first | refine wa_p 0 ?_ | fail) <;> (first | refine wa_p 1 ?_ | fail) <;> refine wa_p 2 ?_ <;> (first | refine wa_p 3 ?_ | fail) <;> (first | refine wa_p 4 ?_ | fail) <;> (first | refine wa_p 5 ?_ | fail) <;> (refine wa_do 6 ?_ <;> (repeat' (first | refine red ?_ | (refine redc fun r => ?_; try have hr := Subtype.property r) | fail))) <;> (first | (refine wa_deep 7 fun p cs as_ asb_ hcs has hasb hf => ?_; simp only [Un.cells, Un.atoms, Un.fact, List.cons_append, List.nil_append] at hcs has hasb hf; subst hcs has hasb) | fail) <;> (first | refine wa_p 8 ?_ | fail) <;> (first | refine wa_p 9 ?_ | fail) <;> refine wa_p 10 ?_) <;> (refine wa_end ?_)) | fail)
    all_goals first
      | exact ⟨(r.1.1, r.1.2.1, r.1.2.2), rfl, ent_e⟩
      | exact absurd (by assumption) hok
instance l24DrawGround_ctr {Γ Δ : List Atom} {bc : Nat} {vb v0 v1 : Value} {code : List UInt8} {p : CurS code} {x : SSystem} [hb : PullBk Γ bc (cur vb p) Δ] [hv : HasRd (List UInt8) repList Δ [vb] code] [h0 : HasIm (List Int) repList Δ [v0] x.1] [h1 : HasIm (List SRule) repList Δ [v1] x.2] :
    CtrC Tryz.prog 29 [.pointer (some ⟨bc, 0, none⟩), .agg #[v0, v1]] Γ (True) (Value × List Int × CurS code) (fun q : Value × List Int × CurS code => q.1) (fun q => .rd [q.1] q.2.1 :: .bk bc (cur vb q.2.2) :: Δ) := ⟨fun s w0 => l24DrawGround_spec⟩

theorem DrawNormalStateOf_spec {w0 : World} {Γ : List Atom} {v : Value} {code : List UInt8} [hv : HasRd (List UInt8) repList Γ [v] code] :
    CJ Tryz.prog 7 [v] w0 Γ (fun q : { q : Value × Value × SSystem × Value × List Int // q.2.2.1.1.length ≤ 9 ∧ q.2.2.1.2.length ≤ 13 } => .tuple #[.agg #[q.1.1, q.1.2.1], q.1.2.2.2.1]) (fun q => .rd [q.1.2.2.2.1] q.1.2.2.2.2 :: .rd [q.1.2.1] q.1.2.2.1.2 :: .rd [q.1.1] q.1.2.2.1.1 :: Γ) := by
  refine cj_enter Tryz.func7 Tryz.ntmps7 ?_
  repeat' (first | refine red ?_ | (refine redc fun r => ?_; try have hr := Subtype.property r) | refine redn fun b => ?_ | ((refine wa_beginc 3 [false, false, false, false, false, false] [4] ?_ <;> (first | refine wa_p 0 ?_ | fail) <;> refine wa_p 1 ?_ <;> (first | refine wa_p 2 ?_ | fail) <;> (refine wa_do 3 ?_ <;> (repeat' (first | refine red ?_ | (refine redc fun r => ?_; try have hr := Subtype.property r) | fail))) <;> (refine wa_do 4 ?_ <;> (repeat' (first | refine red ?_ | fail))) <;> refine wa_p0 5 ?_) <;> (refine wa_end ?_)) | fail)
  rename DaT code => d
  exact ⟨⟨(d.1.1, d.1.2.1, d.1.2.2.1, r.1, r.2.1), ⟨d.2.1, d.2.2.1⟩⟩, rfl, ent_e⟩
instance DrawNormalStateOf_ctr {Γ : List Atom} {v : Value} {code : List UInt8} [hv : HasRd (List UInt8) repList Γ [v] code] :
    CtrC Tryz.prog 7 [v] Γ (True) ({ q : Value × Value × SSystem × Value × List Int // q.2.2.1.1.length ≤ 9 ∧ q.2.2.1.2.length ≤ 13 }) (fun q : { q : Value × Value × SSystem × Value × List Int // q.2.2.1.1.length ≤ 9 ∧ q.2.2.1.2.length ≤ 13 } => .tuple #[.agg #[q.1.1, q.1.2.1], q.1.2.2.2.1]) (fun q => .rd [q.1.2.2.2.1] q.1.2.2.2.2 :: .rd [q.1.2.1] q.1.2.2.1.2 :: .rd [q.1.1] q.1.2.2.1.1 :: Γ) := ⟨fun s w0 => DrawNormalStateOf_spec⟩

end Go.Proofs.YtbbdjjlnachnlaaGreatDoor
namespace Go.Eng
open Go Go.RowKit
set_option linter.unusedVariables false
set_option linter.unusedSimpArgs false
/-- A struct type whose values may stand in an interface. -/
class IfT (P : Program) (T : TypeId) : Prop where
  conc : P.concrete T = true
  str : ∃ fs, P.underlying T = some (.struct fs)
section
variable {P : Program} {w0 : World} {l : List Value} {Γ : List Atom} {ty T S : TypeId} {x : Operand} {v : Value}
instance [h : Ev l x v] [hT : IfT P T] : PuC P l Γ (.makeInterface T x) ty (.iface T v) := ⟨fun w0 =>
  pu_of (s := Instr.makeInterface T v) (fun o ho _ => by unfold execOp; rw [ho]; simp only [h.eq]) (fun w _ => run_makeInterface w T v hT.conc)⟩
instance [h : Ev l x (.iface T v)] [hT : IfT P T] : PuC P l Γ (.typeAssert x S T true) ty (.tuple #[v, .bool true]) := ⟨fun w0 =>
  pu_of (s := Instr.typeAssert (.iface T v) S T true) (fun o ho _ => by unfold execOp; rw [ho]; simp only [h.eq]) (fun w _ => by
    obtain ⟨fs, hu⟩ := hT.str
    simp [Instr.typeAssert, run_underlying hu])⟩
end
end Go.Eng
namespace Go.Proofs.YtbbdjjlnachnlaaGreatDoor
open Go Go.Eng
instance : IfT Tryz.prog 95 := ⟨by kernel_rfl, _, Tryz.underlying95⟩
end Go.Proofs.YtbbdjjlnachnlaaGreatDoor
