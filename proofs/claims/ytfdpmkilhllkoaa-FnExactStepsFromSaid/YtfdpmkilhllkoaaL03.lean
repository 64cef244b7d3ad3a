/- Filled terms, and terms put into terms. -/
import Derived.Test.YtfdpmkilhllkoaaCat2
namespace Go.Proofs.Ytfdpmkilhllkoaa
open Go Go.Eng
set_option linter.unusedVariables false
set_option linter.unusedSimpArgs false

theorem byVar_spec {w0 : World} {Γ : List Atom} {v : Value} {ts : List (List Int)} {i : Int} {m : Nat} [hm : ToN i m] [h : HasIm (List (List Int)) repList Γ [v] ts] (hi : 0 ≤ i ∧ i ≤ 9223372036854775807) :
    CJ Try.prog 215 [.agg #[v], .int .i64 i] w0 Γ (fun q : { q : Value // ts.getD m default = [] → q = .slice none 0 0 } => q.1) (fun q => .rd [q.1] (ts.getD m default) :: Γ) := by
  obtain rfl : i = (m : Int) := by have := hm.eq; omega
  refine cj_enter Try.func215 Try.ntmps215 ?_
  repeat' (first | refine red ?_ | refine redf fun hbi => ?_ | refine reds ?_ | refine redc fun r => ?_ | refine redp (fun r => ?_) (fun r => ?_) | refine redv fun sv => ?_ | refine redn fun b => ?_ | refine redz fun zs => ?_ | refine redq (fun hc => ?_) (fun hc => ?_) | with_reducible refine wq_blk_o rfl ?_ | (refine redd fun p cs as_ hcs has hf => ?_; simp only [Un.cells, Un.atoms, Un.fact, List.cons_append, List.nil_append] at hcs has hf; subst hcs has) | (refine redi (fun hc => ?_) (fun hc => ?_) <;> try first | (exfalso; omega) | exact absurd rfl hc) | fail)
  · rw [show ts.getD m default = [] by rw [List.getD_eq_getElem?_getD, List.getElem?_eq_none (by omega)]; rfl]
    exact ⟨⟨.slice none 0 0, fun _ => rfl⟩, rfl, ent_e⟩
  · rw [show ts.getD m default = [] from List.eq_nil_of_length_eq_zero (by omega)]
    exact ⟨⟨.slice none 0 0, fun _ => rfl⟩, rfl, ent_e⟩
  · exact ⟨⟨p, fun h => absurd (by rw [h]; rfl) hc⟩, rfl, ent_e⟩
instance byVar_ctr {Γ : List Atom} {v : Value} {ts : List (List Int)} {i : Int} {m : Nat} [hm : ToN i m] [h : HasIm (List (List Int)) repList Γ [v] ts] :
    CtrC Try.prog 215 [.agg #[v], .int .i64 i] Γ (0 ≤ i ∧ i ≤ 9223372036854775807) ({ q : Value // ts.getD m default = [] → q = .slice none 0 0 }) (fun q : { q : Value // ts.getD m default = [] → q = .slice none 0 0 } => q.1) (fun q => .rd [q.1] (ts.getD m default) :: Γ) := ⟨fun s w0 => byVar_spec s⟩

theorem lookup_spec {w0 : World} {Γ : List Atom} {v : Value} {ts : List (List Int)} [h : HasRd (List (List Int)) repList Γ [v] ts] : CJ Try.prog 199 [.agg #[v]] w0 Γ (fun b : Nat => .func (.func 214) #[] #[.pointer (some ⟨b, 0, none⟩)]) (fun b => .bk b [v] :: Γ) := by
  refine cj_enter Try.func199 Try.ntmps199 ?_
  repeat' (first | refine red ?_ | refine redf fun hbi => ?_ | refine reds ?_ | refine redc fun r => ?_ | refine redp (fun r => ?_) (fun r => ?_) | refine redv fun sv => ?_ | refine redn fun b => ?_ | refine redz fun zs => ?_ | refine redq (fun hc => ?_) (fun hc => ?_) | with_reducible refine wq_blk_o rfl ?_ | (refine redi (fun hc => ?_) (fun hc => ?_) <;> try first | (exfalso; omega) | exact absurd rfl hc) | fail)
  exact ⟨b, rfl, ent_e⟩
instance lookup_ctr {Γ : List Atom} {v : Value} {ts : List (List Int)} [h : HasRd (List (List Int)) repList Γ [v] ts] :
    CtrC Try.prog 199 [.agg #[v]] Γ (True) (Nat) (fun b : Nat => .func (.func 214) #[] #[.pointer (some ⟨b, 0, none⟩)]) (fun b => .bk b [v] :: Γ) := ⟨fun s w0 => lookup_spec⟩

def look (ts : List (List Int)) (n : Int) : List Int := if n < 0 then ts.getD (-1 - n).toNat default else []
theorem lookup1_spec {w0 : World} {Γ Δ : List Atom} {v : Value} {n : Int} {ts : List (List Int)} {b : Nat} [hb : PullBk Γ b [v] Δ] [h : HasIm (List (List Int)) repList Δ [v] ts] (hn : -9223372036854775808 ≤ n) :
    CJ Try.prog 214 [.int .i64 n, .pointer (some ⟨b, 0, none⟩)] w0 Γ (fun q : { q : Value // look ts n = [] → q = .slice none 0 0 } => q.1) (fun q => .rd [q.1] (look ts n) :: .bk b [v] :: Δ) := by
  refine cj_perm hb.perm ?_
  unfold look
  refine cj_enter Try.func214 Try.ntmps214 ?_
  by_cases hneg : n < 0
  · simp only [if_pos hneg]
    repeat' (first | refine red ?_ | refine redf fun hbi => ?_ | refine reds ?_ | refine redc fun r => ?_ | refine redp (fun r => ?_) (fun r => ?_) | refine redv fun sv => ?_ | refine redn fun b => ?_ | refine redz fun zs => ?_ | refine redq (fun hc => ?_) (fun hc => ?_) | with_reducible refine wq_blk_o rfl ?_ | (refine redi (fun hc => ?_) (fun hc => ?_) <;> try first | (exfalso; omega) | exact absurd rfl hc) | fail)
    exact ⟨⟨r.1, fun h => r.2 (by rw [if_pos hneg] at h; exact h)⟩, rfl, ent_e⟩
  · simp only [if_neg hneg]
    repeat' (first | refine red ?_ | refine redf fun hbi => ?_ | refine reds ?_ | refine redc fun r => ?_ | refine redp (fun r => ?_) (fun r => ?_) | refine redv fun sv => ?_ | refine redn fun b => ?_ | refine redz fun zs => ?_ | refine redq (fun hc => ?_) (fun hc => ?_) | with_reducible refine wq_blk_o rfl ?_ | (refine redi (fun hc => ?_) (fun hc => ?_) <;> try first | (exfalso; omega) | exact absurd rfl hc) | fail)
    exact ⟨⟨.slice none 0 0, fun _ => rfl⟩, rfl, ent_e⟩

instance lookup1_ctr {Γ Δ : List Atom} {v : Value} {n : Int} {ts : List (List Int)} {b : Nat} [hb : PullBk Γ b [v] Δ] [h : HasIm (List (List Int)) repList Δ [v] ts] :
    CtrC Try.prog 214 [.int .i64 n, .pointer (some ⟨b, 0, none⟩)] Γ (-9223372036854775808 ≤ n) ({ q : Value // look ts n = [] → q = .slice none 0 0 }) (fun q : { q : Value // look ts n = [] → q = .slice none 0 0 } => q.1) (fun q => .rd [q.1] (look ts n) :: .bk b [v] :: Δ) := ⟨fun s w0 => lookup1_spec s⟩

/-- What a number of a term becomes. -/
def fe (ts : List (List Int)) (n : Int) : List Int := if n < 0 then gives ts (-1 - n).toNat else [n]
theorem fe_nil {ts : List (List Int)} {n : Int} (h : look ts n = []) : fe ts n = [n] := by
  unfold look at h
  unfold fe gives
  split at h
  · rename_i hn
    rw [if_pos hn, if_neg (by rw [h]; simp)]
    congr 1; omega
  · rename_i hn
    rw [if_neg hn]
theorem fe_some {ts : List (List Int)} {n : Int} (h : look ts n ≠ []) : fe ts n = look ts n := by
  unfold look at h ⊢
  unfold fe gives
  split at h
  · rename_i hn
    rw [if_pos hn, if_pos hn, if_pos]
    refine ⟨?_, List.length_pos_iff.2 h⟩
    by_cases hl : (-1 - n).toNat < ts.length
    · exact hl
    · rw [List.getD_eq_getElem?_getD, List.getElem?_eq_none (by omega)] at h
      exact absurd rfl h
  · exact absurd rfl h
theorem look_len {ts : List (List Int)} {n : Int} (hl : ∀ x ∈ ts, x.length ≤ 60) : (look ts n).length ≤ 60 := by
  unfold look
  split
  · by_cases h : (-1 - n).toNat < ts.length
    · exact hl _ (mem_getD h)
    · rw [List.getD_eq_getElem?_getD, List.getElem?_eq_none (by omega)]
      exact Nat.zero_le _
  · simp
def fillTo (ts : List (List Int)) (t : List Int) (k : Nat) : List Int := ((t.take k).map (fe ts)).flatten
def fillOf (ts : List (List Int)) (t : List Int) : Option (List Int) := if (fillTo ts t t.length).length ≤ 60 then some (fillTo ts t t.length) else none
theorem fillTo_succ {ts : List (List Int)} {t : List Int} {k : Nat} (hk : k < t.length) : fillTo ts t (k + 1) = fillTo ts t k ++ fe ts (t.getD k 0) := by
  unfold fillTo
  rw [List.take_succ_eq_append_getElem hk, List.map_append, List.flatten_append, List.getD_eq_getElem?_getD, List.getElem?_eq_getElem hk]
  simp
theorem fillTo_le {ts : List (List Int)} {t : List Int} {k : Nat} : (fillTo ts t k).length ≤ (fillTo ts t t.length).length := by
  unfold fillTo
  rw [List.take_length]
  conv => rhs; rw [← List.take_append_drop k t, List.map_append, List.flatten_append, List.length_append]
  omega
theorem fill_no {ts : List (List Int)} {t : List Int} {k : Nat} (h : 60 < (fillTo ts t k).length) : fillOf ts t = none := by
  have := fillTo_le (ts := ts) (t := t) (k := k)
  exact if_neg (by omega)
theorem fill_yes {ts : List (List Int)} {t : List Int} {k : Nat} (hk : k = t.length) (h : (fillTo ts t k).length ≤ 60) : fillOf ts t = some (fillTo ts t k) := by
  subst hk
  exact if_pos h

theorem fill_spec {w0 : World} {Γ : List Atom} {v vt : Value} {ts : List (List Int)} {t : List Int} [h : HasRd (List (List Int)) repList Γ [v] ts] [h2 : HasRd (List Int) repList Γ [vt] t] (hl : ∀ x ∈ ts, x.length ≤ 60) (htl : t.length ≤ 60) :
    CJ Try.prog 174 [.agg #[v], vt] w0 Γ (fun q : Value => .tuple #[q, .bool (fillOf ts t).isSome]) (fun q => .ow [q] ((fillOf ts t).getD []) :: Γ) := by
  refine cj_lift (R := [.rd [v] ts, .rd [vt] t]) (A := fun q : Value => [.ow [q] ((fillOf ts t).getD [])]) (fun w1 => ?_) (reads_cons h (reads_cons h2 (inferInstance))) (fun _ => inferInstance)
  simp only [List.cons_append, List.nil_append]
  refine cj_enter Try.func174 Try.ntmps174 ?_
  repeat' (first | refine red ?_ | refine redf fun hbi => ?_ | refine reds ?_ | refine redc fun r => ?_ | refine redp (fun r => ?_) (fun r => ?_) | refine redv fun sv => ?_ | refine redn fun b => ?_ | refine redz fun zs => ?_ | refine redq (fun hc => ?_) (fun hc => ?_) | with_reducible refine wq_blk_o rfl ?_ | (refine redi (fun hc => ?_) (fun hc => ?_) <;> try first | (exfalso; omega) | exact absurd rfl hc) | fail)
  rw [List.replicate_zero]
  refine wc_loop_p [7, 18] [19, 20, 21, 9, 22, 23, 24, 10, 25, 26, 27, 28, 29, 30, 31, 32, 33, 34, 35, 36, 4, 5, 37] (ι := Nat × Value) (fun k => [k.2, .int .i64 k.1]) (fun k => [.ow [k.2] (fillTo ts t k.1)]) (fun k => k.1 ≤ t.length ∧ (fillTo ts t k.1).length ≤ 60) (fun k => t.length - k.1) (0, sv) [.ow [sv] ([] : List Int)] (by kernel_rfl) ⟨Nat.zero_le _, by simp [fillTo]⟩ rfl ?_
  intro ⟨k, sw⟩ u l' hl' ⟨hk, hkl⟩
  simp only [patch, List.map_cons, List.map_nil, List.set_cons_zero, List.set_cons_succ] at hl'
  subst hl'
  simp only [List.cons_append, List.nil_append] at hk hkl ⊢
  have hfl := look_len (n := t.getD k 0) hl
  repeat' (first | refine red ?_ | refine redf fun hbi => ?_ | refine reds ?_ | refine redc fun r => ?_ | refine redp (fun r => ?_) (fun r => ?_) | refine redv fun sv => ?_ | refine redn fun b => ?_ | refine redz fun zs => ?_ | refine redq (fun hc => ?_) (fun hc => ?_) | with_reducible refine wq_blk_o rfl ?_ | (refine redi (fun hc => ?_) (fun hc => ?_) <;> try first | (exfalso; omega) | exact absurd rfl hc) | fail)
  · have e := fillTo_succ (ts := ts) (t := t) (k := k) (by omega)
    rw [fe_nil ‹look ts (t.getD k 0) = []›] at e
    rw [← e] at hc
    rw [fill_no (k := k + 1) (by omega)]
    simp only [Option.getD_none, Option.isSome_none]
    exact ⟨_, rfl, ent_e⟩
  · have e := fillTo_succ (ts := ts) (t := t) (k := k) (by omega)
    rw [fe_nil ‹look ts (t.getD k 0) = []›] at e
    rw [← e] at hc ⊢
    exact wq_next (k + 1, sv) ⟨by simp only; omega, by simp only; omega⟩ (by simp only; omega) (by kernel_rfl) ent_e
  · have e := fillTo_succ (ts := ts) (t := t) (k := k) (by omega)
    rw [fe_some (fun h => ‹r.val ≠ Value.slice none 0 0› (r.2 h))] at e
    rw [← e] at hc
    rw [fill_no (k := k + 1) (by omega)]
    simp only [Option.getD_none, Option.isSome_none]
    exact ⟨_, rfl, ent_e⟩
  · have e := fillTo_succ (ts := ts) (t := t) (k := k) (by omega)
    rw [fe_some (fun h => ‹r.val ≠ Value.slice none 0 0› (r.2 h))] at e
    rw [← e] at hc ⊢
    exact wq_next (k + 1, sv) ⟨by simp only; omega, by simp only; omega⟩ (by simp only; omega) (by kernel_rfl) ent_e
  · rw [fill_yes (show k = t.length by omega) hkl]
    simp only [Option.getD_some, Option.isSome_some]
    exact ⟨_, rfl, ent_e⟩
instance fill_ctr {Γ : List Atom} {v vt : Value} {ts : List (List Int)} {t : List Int} [h : HasRd (List (List Int)) repList Γ [v] ts] [h2 : HasRd (List Int) repList Γ [vt] t] :
    CtrC Try.prog 174 [.agg #[v], vt] Γ ((∀ x ∈ ts, x.length ≤ 60) ∧ (t.length ≤ 60)) (Value) (fun q : Value => .tuple #[q, .bool (fillOf ts t).isSome]) (fun q => .ow [q] ((fillOf ts t).getD []) :: Γ) := ⟨fun s w0 => fill_spec s.1 s.2⟩

theorem fe_len {ts : List (List Int)} {n : Int} (hl : ∀ x ∈ ts, x.length ≤ 60) : (fe ts n).length ≤ 60 := by
  unfold fe
  split
  · exact (gives_len hl).2
  · simp
theorem l2Filled_spec {w0 : World} {Γ : List Atom} {v vt : Value} {ts : List (List Int)} {t : List Int} [h : HasRd (List (List Int)) repList Γ [v] ts] [h2 : HasRd (List Int) repList Γ [vt] t] (hl : ∀ x ∈ ts, x.length ≤ 60) (htl : t.length ≤ 60) (hv : ∀ n ∈ t, -24 ≤ n) :
    CJ Try.prog 169 [.agg #[v], vt] w0 Γ (fun q : Value => .tuple #[q, .bool (fillOf ts t).isSome]) (fun q => .ow [q] ((fillOf ts t).getD []) :: Γ) := by
  refine cj_lift (R := [.rd [v] ts, .rd [vt] t]) (A := fun q : Value => [.ow [q] ((fillOf ts t).getD [])]) (fun w1 => ?_) (reads_cons h (reads_cons h2 (inferInstance))) (fun _ => inferInstance)
  simp only [List.cons_append, List.nil_append]
  refine cj_enter Try.func169 Try.ntmps169 ?_
  repeat' (first | refine red ?_ | refine redf fun hbi => ?_ | refine reds ?_ | refine redc fun r => ?_ | refine redp (fun r => ?_) (fun r => ?_) | refine redv fun sv => ?_ | refine redn fun b => ?_ | refine redz fun zs => ?_ | refine redq (fun hc => ?_) (fun hc => ?_) | with_reducible refine wq_blk_o rfl ?_ | (refine redi (fun hc => ?_) (fun hc => ?_) <;> try first | (exfalso; omega) | exact absurd rfl hc) | ((refine wa_begin 6 [false, false, false, false, false, false, false, false, false, false] [8] ?_ <;> (first | refine wa_p 0 ?_ | refine wa_p0 0 ?_) <;> (first | refine wa_f 1 fun hbi => ?_ | refine wa_p 1 ?_ | fail) <;> (first | refine wa_p 2 ?_ | refine wa_p0 2 ?_) <;> (first | refine wa_p 3 ?_ | refine wa_p0 3 ?_) <;> refine wa_p 4 ?_ <;> (first | refine wa_f 5 fun hbi => ?_ | refine wa_p 5 ?_ | (refine wa_do 5 ?_ <;> (repeat' (first | refine red ?_ | refine redc fun r => ?_ | refine redv fun sv => ?_ | refine redf fun hbi => ?_ | refine redn fun b => ?_ | refine reds ?_ | refine redi (fun hc => ?_) (fun hc => ?_) | refine redq (fun hc => ?_) (fun hc => ?_) | refine redp (fun r => ?_) (fun r => ?_) | fail))) | fail) <;> (first | refine wa_p 6 ?_ | refine wa_p0 6 ?_ | (refine wa_do 6 ?_ <;> (repeat' (first | refine red ?_ | refine redc fun r => ?_ | refine redv fun sv => ?_ | refine redf fun hbi => ?_ | refine redn fun b => ?_ | refine reds ?_ | refine redi (fun hc => ?_) (fun hc => ?_) | refine redq (fun hc => ?_) (fun hc => ?_) | refine redp (fun r => ?_) (fun r => ?_) | fail))) | fail) <;> (refine wa_do 7 ?_ <;> (repeat' (first | refine red ?_ | refine redc fun r => ?_ | refine redv fun sv => ?_ | refine redf fun hbi => ?_ | refine redn fun b => ?_ | refine reds ?_ | refine redi (fun hc => ?_) (fun hc => ?_) | refine redq (fun hc => ?_) (fun hc => ?_) | refine redp (fun r => ?_) (fun r => ?_) | fail))) <;> (refine wa_do 8 ?_ <;> (repeat' (first | refine red ?_ | refine redc fun r => ?_ | refine redv fun sv => ?_ | refine redf fun hbi => ?_ | refine redn fun b => ?_ | refine reds ?_ | refine redi (fun hc => ?_) (fun hc => ?_) | refine redq (fun hc => ?_) (fun hc => ?_) | refine redp (fun r => ?_) (fun r => ?_) | fail))) <;> (first | refine wa_p 9 ?_ | refine wa_p0 9 ?_)) <;> (first | refine wa_end ?_ | with_reducible refine wq_keep ?_)) | ((refine wa_begin1 6 [false, false, false, false, false, false, false, false, false, false] [] ?_ <;> (first | refine wa_p 0 ?_ | refine wa_p0 0 ?_) <;> (first | refine wa_f 1 fun hbi => ?_ | refine wa_p 1 ?_ | fail) <;> (first | refine wa_p 2 ?_ | refine wa_p0 2 ?_) <;> (first | refine wa_p 3 ?_ | refine wa_p0 3 ?_) <;> refine wa_p 4 ?_ <;> (first | refine wa_f 5 fun hbi => ?_ | refine wa_p 5 ?_ | (refine wa_do 5 ?_ <;> (repeat' (first | refine red ?_ | refine redc fun r => ?_ | refine redv fun sv => ?_ | refine redf fun hbi => ?_ | refine redn fun b => ?_ | refine reds ?_ | refine redi (fun hc => ?_) (fun hc => ?_) | refine redq (fun hc => ?_) (fun hc => ?_) | refine redp (fun r => ?_) (fun r => ?_) | fail))) | fail) <;> (first | refine wa_p 6 ?_ | refine wa_p0 6 ?_ | (refine wa_do 6 ?_ <;> (repeat' (first | refine red ?_ | refine redc fun r => ?_ | refine redv fun sv => ?_ | refine redf fun hbi => ?_ | refine redn fun b => ?_ | refine reds ?_ | refine redi (fun hc => ?_) (fun hc => ?_) | refine redq (fun hc => ?_) (fun hc => ?_) | refine redp (fun r => ?_) (fun r => ?_) | fail))) | fail) <;> (refine wa_do 7 ?_ <;> (repeat' (first | refine red ?_ | refine redc fun r => ?_ | refine redv fun sv => ?_ | refine redf fun hbi => ?_ | refine redn fun b => ?_ | refine reds ?_ | refine redi (fun hc => ?_) (fun hc => ?_) | refine redq (fun hc => ?_) (fun hc => ?_) | refine redp (fun r => ?_) (fun r => ?_) | fail))) <;> (refine wa_do 8 ?_ <;> (repeat' (first | refine red ?_ | refine redc fun r => ?_ | refine redv fun sv => ?_ | refine redf fun hbi => ?_ | refine redn fun b => ?_ | refine reds ?_ | refine redi (fun hc => ?_) (fun hc => ?_) | refine redq (fun hc => ?_) (fun hc => ?_) | refine redp (fun r => ?_) (fun r => ?_) | fail))) <;> (first | refine wa_p 9 ?_ | refine wa_p0 9 ?_)) <;> (first | refine wa_end ?_ | with_reducible refine wq_keep ?_)) | fail)
  refine wc_loop_p [6, 7] [9, 10, 11, 12, 15, 16, 17, 18, 19, 20, 21, 22, 23, 24, 25, 26, 27, 28, 29, 30, 31, 32, 33, 34, 35, 36, 37, 38, 39, 4, 5, 13, 14] (ι := Nat × Value) (fun k => [k.2, .int .i64 k.1]) (fun k => [.ow [k.2] (fillTo ts t k.1)]) (fun k => k.1 ≤ t.length ∧ (fillTo ts t k.1).length ≤ 60) (fun k => t.length - k.1) (0, sv) [.ow [sv] ([] : List Int)] (by kernel_rfl) ⟨Nat.zero_le _, by simp [fillTo]⟩ rfl ?_
  intro ⟨k, sw⟩ u l' hl' ⟨hk, hkl⟩
  simp only [patch, List.map_cons, List.map_nil, List.set_cons_zero, List.set_cons_succ] at hl'
  subst hl'
  simp only [List.cons_append, List.nil_append] at hk hkl ⊢
  have hvk : k < t.length → -24 ≤ t.getD k 0 := fun h => hv _ (getD_mem h)
  have hfl := gives_len (ts := ts) (i := (-1 - t.getD k 0).toNat) hl
  repeat' (first | refine red ?_ | refine redf fun hbi => ?_ | refine reds ?_ | refine redc fun r => ?_ | refine redp (fun r => ?_) (fun r => ?_) | refine redv fun sv => ?_ | refine redn fun b => ?_ | refine redz fun zs => ?_ | refine redq (fun hc => ?_) (fun hc => ?_) | with_reducible refine wq_blk_o rfl ?_ | (refine redi (fun hc => ?_) (fun hc => ?_) <;> try first | (exfalso; omega) | exact absurd rfl hc) | ((refine wa_begin 6 [false, false, false, false, false, false, false, false, false, false] [8] ?_ <;> (first | refine wa_p 0 ?_ | refine wa_p0 0 ?_) <;> (first | refine wa_f 1 fun hbi => ?_ | refine wa_p 1 ?_ | fail) <;> (first | refine wa_p 2 ?_ | refine wa_p0 2 ?_) <;> (first | refine wa_p 3 ?_ | refine wa_p0 3 ?_) <;> refine wa_p 4 ?_ <;> (first | refine wa_f 5 fun hbi => ?_ | refine wa_p 5 ?_ | (refine wa_do 5 ?_ <;> (repeat' (first | refine red ?_ | refine redc fun r => ?_ | refine redv fun sv => ?_ | refine redf fun hbi => ?_ | refine redn fun b => ?_ | refine reds ?_ | refine redi (fun hc => ?_) (fun hc => ?_) | refine redq (fun hc => ?_) (fun hc => ?_) | refine redp (fun r => ?_) (fun r => ?_) | fail))) | fail) <;> (first | refine wa_p 6 ?_ | refine wa_p0 6 ?_ | (refine wa_do 6 ?_ <;> (repeat' (first | refine red ?_ | refine redc fun r => ?_ | refine redv fun sv => ?_ | refine redf fun hbi => ?_ | refine redn fun b => ?_ | refine reds ?_ | refine redi (fun hc => ?_) (fun hc => ?_) | refine redq (fun hc => ?_) (fun hc => ?_) | refine redp (fun r => ?_) (fun r => ?_) | fail))) | fail) <;> (refine wa_do 7 ?_ <;> (repeat' (first | refine red ?_ | refine redc fun r => ?_ | refine redv fun sv => ?_ | refine redf fun hbi => ?_ | refine redn fun b => ?_ | refine reds ?_ | refine redi (fun hc => ?_) (fun hc => ?_) | refine redq (fun hc => ?_) (fun hc => ?_) | refine redp (fun r => ?_) (fun r => ?_) | fail))) <;> (refine wa_do 8 ?_ <;> (repeat' (first | refine red ?_ | refine redc fun r => ?_ | refine redv fun sv => ?_ | refine redf fun hbi => ?_ | refine redn fun b => ?_ | refine reds ?_ | refine redi (fun hc => ?_) (fun hc => ?_) | refine redq (fun hc => ?_) (fun hc => ?_) | refine redp (fun r => ?_) (fun r => ?_) | fail))) <;> (first | refine wa_p 9 ?_ | refine wa_p0 9 ?_)) <;> (first | refine wa_end ?_ | with_reducible refine wq_keep ?_)) | ((refine wa_begin1 6 [false, false, false, false, false, false, false, false, false, false] [] ?_ <;> (first | refine wa_p 0 ?_ | refine wa_p0 0 ?_) <;> (first | refine wa_f 1 fun hbi => ?_ | refine wa_p 1 ?_ | fail) <;> (first | refine wa_p 2 ?_ | refine wa_p0 2 ?_) <;> (first | refine wa_p 3 ?_ | refine wa_p0 3 ?_) <;> refine wa_p 4 ?_ <;> (first | refine wa_f 5 fun hbi => ?_ | refine wa_p 5 ?_ | (refine wa_do 5 ?_ <;> (repeat' (first | refine red ?_ | refine redc fun r => ?_ | refine redv fun sv => ?_ | refine redf fun hbi => ?_ | refine redn fun b => ?_ | refine reds ?_ | refine redi (fun hc => ?_) (fun hc => ?_) | refine redq (fun hc => ?_) (fun hc => ?_) | refine redp (fun r => ?_) (fun r => ?_) | fail))) | fail) <;> (first | refine wa_p 6 ?_ | refine wa_p0 6 ?_ | (refine wa_do 6 ?_ <;> (repeat' (first | refine red ?_ | refine redc fun r => ?_ | refine redv fun sv => ?_ | refine redf fun hbi => ?_ | refine redn fun b => ?_ | refine reds ?_ | refine redi (fun hc => ?_) (fun hc => ?_) | refine redq (fun hc => ?_) (fun hc => ?_) | refine redp (fun r => ?_) (fun r => ?_) | fail))) | fail) <;> (refine wa_do 7 ?_ <;> (repeat' (first | refine red ?_ | refine redc fun r => ?_ | refine redv fun sv => ?_ | refine redf fun hbi => ?_ | refine redn fun b => ?_ | refine reds ?_ | refine redi (fun hc => ?_) (fun hc => ?_) | refine redq (fun hc => ?_) (fun hc => ?_) | refine redp (fun r => ?_) (fun r => ?_) | fail))) <;> (refine wa_do 8 ?_ <;> (repeat' (first | refine red ?_ | refine redc fun r => ?_ | refine redv fun sv => ?_ | refine redf fun hbi => ?_ | refine redn fun b => ?_ | refine reds ?_ | refine redi (fun hc => ?_) (fun hc => ?_) | refine redq (fun hc => ?_) (fun hc => ?_) | refine redp (fun r => ?_) (fun r => ?_) | fail))) <;> (first | refine wa_p 9 ?_ | refine wa_p0 9 ?_)) <;> (first | refine wa_end ?_ | with_reducible refine wq_keep ?_)) | fail)
  · have e := fillTo_succ (ts := ts) (t := t) (k := k) (by omega)
    rw [show fe ts (t.getD k 0) = gives ts (-1 - t.getD k 0).toNat from if_pos ‹_›] at e
    rw [← e] at hc
    rw [fill_no (k := k + 1) (by omega)]
    simp only [Option.getD_none, Option.isSome_none]
    exact ⟨_, rfl, ent_e⟩
  · have e := fillTo_succ (ts := ts) (t := t) (k := k) (by omega)
    rw [show fe ts (t.getD k 0) = gives ts (-1 - t.getD k 0).toNat from if_pos ‹_›] at e
    rw [← e] at hc ⊢
    exact wq_next (k + 1, sv) ⟨by simp only; omega, by simp only; omega⟩ (by simp only; omega) (by kernel_rfl) ent_e
  · have e := fillTo_succ (ts := ts) (t := t) (k := k) (by omega)
    rw [show fe ts (t.getD k 0) = [t.getD k 0] from if_neg (by omega)] at e
    rw [← e] at hc
    rw [fill_no (k := k + 1) (by omega)]
    simp only [Option.getD_none, Option.isSome_none]
    exact ⟨_, rfl, ent_e⟩
  · have e := fillTo_succ (ts := ts) (t := t) (k := k) (by omega)
    rw [show fe ts (t.getD k 0) = [t.getD k 0] from if_neg (by omega)] at e
    rw [← e] at hc ⊢
    exact wq_next (k + 1, sv) ⟨by simp only; omega, by simp only; omega⟩ (by simp only; omega) (by kernel_rfl) ent_e
  · rw [fill_yes (show k = t.length by omega) hkl]
    simp only [Option.getD_some, Option.isSome_some]
    exact ⟨_, rfl, ent_e⟩
instance l2Filled_ctr {Γ : List Atom} {v vt : Value} {ts : List (List Int)} {t : List Int} [h : HasRd (List (List Int)) repList Γ [v] ts] [h2 : HasRd (List Int) repList Γ [vt] t] :
    CtrC Try.prog 169 [.agg #[v], vt] Γ ((∀ x ∈ ts, x.length ≤ 60) ∧ (t.length ≤ 60) ∧ (∀ n ∈ t, -24 ≤ n)) (Value) (fun q : Value => .tuple #[q, .bool (fillOf ts t).isSome]) (fun q => .ow [q] ((fillOf ts t).getD []) :: Γ) := ⟨fun s w0 => l2Filled_spec s.1 s.2.1 s.2.2⟩

end Go.Proofs.Ytfdpmkilhllkoaa
