/- The law FnUnified: what unifies is found; no program in sight. -/
import Derived.Test.YtcpfcnjchlbapaaFnMat0
import Derived.Test.YtcpfcnjchlbapaaUniS2
import Derived.Test.YtcpfcnjchlbapaaDraw5
import Derived.Test.YtcpfcnjchlbapaaUniW
namespace Go.Proofs.Ytcpfcnjchlbapaa
open Go Go.Eng
set_option linter.unusedVariables false
set_option linter.unusedSimpArgs false

theorem first_diff : ∀ (x y : List Int), (∃ k, k < x.length ∧ k < y.length ∧ x.take k = y.take k ∧ x.getD k 0 ≠ y.getD k 0) ∨ ∃ k, x.take k = y.take k ∧ (x.length ≤ k ∨ y.length ≤ k)
  | [], y => .inr ⟨0, rfl, .inl (Nat.le_refl _)⟩
  | x :: xs, [] => .inr ⟨0, rfl, .inr (Nat.le_refl _)⟩
  | x :: xs, y :: ys => by
    by_cases h : x = y
    · subst h
      rcases first_diff xs ys with ⟨k, h1, h2, h3, h4⟩ | ⟨k, h1, h2⟩
      · exact .inl ⟨k + 1, by simpa using h1, by simpa using h2, by simpa using h3, by simpa using h4⟩
      · exact .inr ⟨k + 1, by simpa using h1, by simpa using h2⟩
    · exact .inl ⟨0, by simp, by simp, rfl, by simpa using h⟩
structure Bnd (a s t : List Int) (τ : Int → List Int) : Prop where
  sb : Sb a τ
  eq : fm τ s = fm τ t
  l1 : (fm τ s).length ≤ 60
  l2 : ∀ n, -24 ≤ n → n < 0 → (τ n).length ≤ 60
theorem ex_step {a s t x y : List Int} {ts : List (List Int)} {k : Nat} {τ : Int → List Int} (hB : Bnd a s t τ) (h : SInv a s t ts) (hs : Tm a s) (ht : Tm a t) (hx : x = fm (fe ts) s ∨ x = fm (fe ts) t) (hy : y = fm (fe ts) s ∨ y = fm (fe ts) t) (hxo : termOk a x = true) (hyo : termOk a y = true) (hk : k < x.length) (hk2 : k < y.length) (hτ : ∀ τ, Sb a τ → fm τ s = fm τ t → fm τ (subt a x k) = fm τ (subt a y k))
    (h0 : x.getD k 0 < 0) (hne : x.getD k 0 ≠ y.getD k 0) (ho : y.getD k 0 < 0 → x.getD k 0 < y.getD k 0) : ∃ ts', SInv a s t ts' ∧ fxN (fe ts') < fxN (fe ts) := by
  have hb := bind_step h hs ht hx hy hxo hyo hk hk2 hτ h0 hne ho
  have hix := getD_mem hk
  have hir := termOk_mem hxo hix
  have hm : x.getD k 0 = -1 - ((-1 - x.getD k 0).toNat : Int) := by omega
  have hut := tm_ok (subt_ok hyo hk2)
  have hτi : τ (x.getD k 0) = fm τ (subt a y k) := by
    have := hτ τ hB.sb hB.eq
    rw [one_sub hxo hk h0, fm_one] at this
    exact this
  obtain ⟨r', hr'⟩ := subt_head hyo hk2
  have hni : x.getD k 0 ∉ subt a y k := fun hin => occ_no hB.sb hut hin (fun e => hne (by
    rw [hr'] at e
    injection e with e _
    exact e.symm)) hτi
  refine ⟨_, (hb.2 _ hm hni).2 (fun j hj => ?_)⟩
  have e1 : fm τ (fm (one (x.getD k 0) (subt a y k)) (gives ts j)) = τ (-1 - (j : Int)) := by
    have e2 := h.gen τ hB.sb hB.eq (-1 - (j : Int)) (by omega) (by omega)
    rw [fe_gives (by omega), show (-1 - (-1 - (j : Int))).toNat = j by omega] at e2
    rw [fm_fm, ← e2]
    refine fm_congr fun n _ => ?_
    by_cases hn : n = x.getD k 0
    · rw [hn, one_self, hτi]
    · rw [one_ne _ hn, fm_one]
  have h3 : Tm a (fm (one (x.getD k 0) (subt a y k)) (gives ts j)) := by
    have := h.io.sb.tm (-1 - (j : Int)) (by omega) (by omega)
    rw [fe_gives (by omega), show (-1 - (-1 - (j : Int))).toNat = j by omega] at this
    exact (sb_one h0 hut).fm this
  have h4 := fm_len_ge (hB.sb.lens h3)
  rw [e1] at h4
  rw [← hm]
  have := hB.l2 (-1 - (j : Int)) (by omega) (by omega)
  omega
theorem ex_uni {a s t : List Int} {τ : Int → List Int} (hso : termOk a s = true) (hto : termOk a t = true) (hB : Bnd a s t τ) : ∀ N ts, fxN (fe ts) ≤ N → SInv a s t ts → (uniOf a s t).isSome = true
  | N, ts, hN, h => by
    have hst := tm_ok hso
    have htt := tm_ok hto
    have hl1 : (fm (fe ts) s).length ≤ 60 := by
      have h1 := fm_len_ge (hB.sb.lens (h.io.sb.fm hst))
      rw [h.gen.all h.io.sb hB.sb hB.eq hst] at h1
      have := hB.l1
      omega
    have hl2 : (fm (fe ts) t).length ≤ 60 := by
      have h1 := fm_len_ge (hB.sb.lens (h.io.sb.fm htt))
      rw [h.gen.all h.io.sb hB.sb hB.eq htt, ← hB.eq] at h1
      have := hB.l1
      omega
    have hxo := ok_tm (termOk_sig hso) (h.io.sb.fm hst) hl1
    have hyo := ok_tm (termOk_sig hso) (h.io.sb.fm htt) hl2
    obtain ⟨x, hx⟩ : ∃ x, x = fm (fe ts) s := ⟨_, rfl⟩
    obtain ⟨y, hy⟩ : ∃ y, y = fm (fe ts) t := ⟨_, rfl⟩
    rw [← hx] at hxo
    rw [← hy] at hyo
    have step : (∃ ts', SInv a s t ts' ∧ fxN (fe ts') < fxN (fe ts)) → (uniOf a s t).isSome = true := fun ⟨ts', h1, h2⟩ => match N, hN with
      | 0, hN => absurd h2 (by omega)
      | N + 1, hN => ex_uni hso hto hB N ts' (by omega) h1
    rcases first_diff x y with ⟨k, hk, hk2, he, hne⟩ | ⟨k, he, hk⟩
    · have hpt := part_tau h hst htt hx hy hxo hyo hk hk2 he
      by_cases hpos : 0 ≤ x.getD k 0 ∧ 0 ≤ y.getD k 0
      · exact absurd (hpt τ hB.sb hB.eq) (part_clash hxo hyo hk hk2 hpos.1 hpos.2 hne hB.sb)
      by_cases hq : 0 ≤ x.getD k 0 ∨ y.getD k 0 < 0 ∧ y.getD k 0 < x.getD k 0
      · exact step (ex_step hB h hst htt (.inr hy) (.inl hx) hyo hxo hk2 hk (fun τ h1 h2 => (hpt τ h1 h2).symm) (by omega) (fun e => hne e.symm) (by omega))
      · exact step (ex_step hB h hst htt (.inl hx) (.inr hy) hxo hyo hk hk2 hpt (by omega) hne (by omega))
    · have hxy := pre_eq hxo hyo he hk
      rw [← sinv_end h (by rw [← hx, ← hy, hxy]) hl1]; rfl
/-- The substitution that a list of terms is. -/
theorem sb_fe {a : List Int} {ts : List (List Int)} (hs : substOk a ts = true) : Sb a (fe ts) ∧ ∀ n, -24 ≤ n → n < 0 → (fe ts n).length ≤ 60 := by
  refine ⟨⟨fun n hn => by unfold fe; rw [if_neg (by omega)], fun n h1 h2 => ?_⟩, fun n h1 h2 => ?_⟩
  · unfold fe
    rw [if_pos h2, gives_getD]
    by_cases h3 : ts.getD (-1 - n).toNat [] = []
    · rw [if_pos h3, show -1 - (((-1 - n).toNat : Nat) : Int) = n by omega]
      exact tm_var ⟨h1, h2⟩
    · rw [if_neg h3]
      have hl : (-1 - n).toNat < ts.length := by
        by_cases hl : (-1 - n).toNat < ts.length
        · exact hl
        · rw [List.getD_eq_getElem?_getD, List.getElem?_eq_none (by omega)] at h3
          exact absurd rfl h3
      unfold substOk at hs
      rw [Bool.and_eq_true, Bool.and_eq_true, List.all_eq_true] at hs
      have h4 := hs.2.2 _ (mem_getD hl)
      have e : ts.getD (-1 - n).toNat default = ts.getD (-1 - n).toNat [] := rfl
      unfold tOk at h4
      rw [Bool.or_eq_true, decide_eq_true_eq, e] at h4
      rcases h4 with h5 | h5
      · exact absurd (List.length_eq_zero_iff.1 h5) h3
      · exact tm_ok h5
  · rw [fe_gives h2]
    exact (gives_len (subst_len hs)).2
/-- Filling, as the law asks for it. -/
def fillS (a : List Int) (ts : List (List Int)) (t : List Int) : Option (List Int) := if substOk a ts = true ∧ termOk a t = true then fillOf ts t else none
theorem fillS_eq {a : List Int} {ts : List (List Int)} {t x : List Int} (h : fillS a ts t = some x) : substOk a ts = true ∧ termOk a t = true ∧ x = fm (fe ts) t ∧ x.length ≤ 60 := by
  unfold fillS at h
  split at h
  · rename_i hc
    rw [fillOf_fm] at h
    split at h
    · rename_i hl
      injection h with h
      exact ⟨hc.1, hc.2, h.symm, by rw [← h]; exact hl⟩
    · cases h
  · cases h
theorem fillS_yes {a : List Int} {ts : List (List Int)} {t : List Int} (h1 : substOk a ts = true) (h2 : termOk a t = true) (h3 : (fm (fe ts) t).length ≤ 60) : fillS a ts t = some (fm (fe ts) t) := by
  unfold fillS
  rw [if_pos ⟨h1, h2⟩, fillOf_fm, if_pos h3]
theorem law_found {a s t x : List Int} {us : List (List Int)} (h1 : fillS a us s = some x) (h2 : fillS a us t = some x) : (unified a s t).isSome = true := by
  obtain ⟨hu, hso, e1, hl⟩ := fillS_eq h1
  obtain ⟨_, hto, e2, _⟩ := fillS_eq h2
  rw [un_yes hso hto]
  obtain ⟨hsb, hsl⟩ := sb_fe hu
  exact ex_uni hso hto ⟨hsb, e1.symm.trans e2, e1 ▸ hl, hsl⟩ _ [] (Nat.le_refl _) sinv_nil
theorem unified_iom {a s t : List Int} {ts : List (List Int)} (h : unified a s t = some ts) : termOk a s = true ∧ termOk a t = true ∧ ∃ σ, IOM a s t σ ∧ LenOk σ s ∧ ts = plainOf (tabOf σ) := by
  unfold unified at h
  split at h
  · rename_i hc
    refine ⟨hc.1, hc.2, ?_⟩
    by_cases hx : ∃ σ, IOM a s t σ ∧ LenOk σ s
    · obtain ⟨σ, h1, h2⟩ := hx
      rw [uni_some h1 h2] at h
      injection h with h
      exact ⟨σ, h1, h2, h.symm⟩
    · rw [uni_none fun σ h1 h2 => hx ⟨σ, h1, h2⟩] at h
      cases h
  · cases h
theorem plain_fe {σ : Int → List Int} {a : List Int} (h : Sb a σ) {n : Int} (hn : -24 ≤ n) : fe (plainOf (tabOf σ)) n = σ n := by
  by_cases h0 : n < 0
  · rw [fe_gives h0, gives_plain, gives_getD, tab_get (by omega), show -1 - (((-1 - n).toNat : Nat) : Int) = n by omega, if_neg]
    have := tm_pos (h.tm n hn h0)
    intro e
    rw [e] at this
    simp at this
  · rw [h.pos n (by omega)]
    exact if_neg h0
theorem plain_ok {σ : Int → List Int} {a : List Int} (hs : sigOk a = true) (h : Sb a σ) (hl : ∀ n, -24 ≤ n → n < 0 → (σ n).length ≤ 60) : substOk a (plainOf (tabOf σ)) = true := by
  unfold plainOf
  refine subst_yes hs ?_ (List.all_eq_true.2 fun x hx => ?_)
  · have := strip_len_le (trivL 0 (tabOf σ))
    rw [trivL_len, tab_len] at this
    omega
  · unfold tOk
    rcases trivL_mem (strip_sub hx) with e | e
    · rw [e]; rfl
    · obtain ⟨i, hi, rfl⟩ := List.mem_map.1 e
      have hi := List.mem_range.1 hi
      rw [ok_tm hs (h.tm _ (by omega) (by omega)) (hl _ (by omega) (by omega))]
      simp
theorem law_fill {a s t : List Int} {ts : List (List Int)} (h : unified a s t = some ts) : substOk a ts = true ∧ ∃ x, fillS a ts s = some x ∧ fillS a ts t = some x := by
  obtain ⟨hso, hto, σ, h1, h2, rfl⟩ := unified_iom h
  have hok := plain_ok (termOk_sig hso) h1.1.sb h2.2
  have e1 : fm (fe (plainOf (tabOf σ))) s = fm σ s := fm_congr fun n hn => plain_fe h1.1.sb (termOk_mem hso hn).1
  have e2 : fm (fe (plainOf (tabOf σ))) t = fm σ s := by
    rw [fm_congr (g := σ) fun n hn => plain_fe h1.1.sb (termOk_mem hto hn).1]
    exact h1.2.1.symm
  refine ⟨hok, fm σ s, ?_, ?_⟩
  · rw [← e1]; exact fillS_yes hok hso (by rw [e1]; exact h2.1)
  · rw [← e2]; exact fillS_yes hok hto (by rw [e2]; exact h2.1)
theorem law_swap {a s t : List Int} (h : (unified a s t).isSome = true) : (unified a t s).isSome = true := by
  obtain ⟨ts, h⟩ := Option.isSome_iff_exists.1 h
  obtain ⟨hso, hto, σ, h1, h2, rfl⟩ := unified_iom h
  rw [un_yes hto hso, uni_some (σ := σ) ⟨h1.1, h1.2.1.symm, fun τ h3 h4 => h1.2.2 τ h3 h4.symm⟩ ⟨by rw [← h1.2.1]; exact h2.1, h2.2⟩]
  rfl
/-- One substitution after another. -/
def comL (ts us : List (List Int)) (k : Nat) : List (List Int) := (List.range k).map fun i : Nat => fm (fe us) (gives ts i)
def comOf (ts us : List (List Int)) : Option (List (List Int)) := if ∀ x ∈ comL ts us 24, x.length ≤ 60 then some (plainOf (comL ts us 24)) else none
def compS (a : List Int) (ts us : List (List Int)) : Option (List (List Int)) := if substOk a ts = true ∧ substOk a us = true then comOf ts us else none
theorem comL_succ (ts us : List (List Int)) (k : Nat) : comL ts us (k + 1) = comL ts us k ++ [fm (fe us) (gives ts k)] := by
  unfold comL; rw [List.range_succ, List.map_append]; rfl
theorem comL_len (ts us : List (List Int)) (k : Nat) : (comL ts us k).length = k := by simp [comL]
theorem comL_tab {ts us : List (List Int)} : comL ts us 24 = tabOf fun n => fm (fe us) (fe ts n) := by
  unfold comL tabOf
  refine List.map_congr_left fun i _ => ?_
  show _ = fm (fe us) (fe ts (-1 - (i : Int)))
  rw [fe_gives (by omega), show (-1 - (-1 - (i : Int))).toNat = i by omega]
theorem compS_eq {a : List Int} {ts us bo : List (List Int)} (h : compS a ts us = some bo) : substOk a ts = true ∧ substOk a us = true ∧ bo = plainOf (tabOf fun n => fm (fe us) (fe ts n)) ∧ ∀ n, -24 ≤ n → n < 0 → (fm (fe us) (fe ts n)).length ≤ 60 := by
  unfold compS at h
  split at h
  · rename_i hc
    unfold comOf at h
    split at h
    · rename_i hl
      injection h with h
      refine ⟨hc.1, hc.2, by rw [← h, comL_tab], fun n h1 h2 => ?_⟩
      rw [fe_gives h2]
      exact hl _ (List.mem_map.2 ⟨(-1 - n).toNat, List.mem_range.2 (by omega), rfl⟩)
    · cases h
  · cases h
theorem law_twice {a s t : List Int} {ts ag : List (List Int)} (h : unified a s t = some ts) (hc : compS a ts ts = some ag) : ag = ts := by
  obtain ⟨hso, hto, σ, h1, h2, rfl⟩ := unified_iom h
  obtain ⟨_, _, rfl, _⟩ := compS_eq hc
  congr 1
  refine tab_congr fun n h3 h4 => ?_
  have ht := h1.1.sb.tm n h3 h4
  rw [plain_fe h1.1.sb h3, fm_congr (g := σ) fun m hm => plain_fe h1.1.sb (tm_mem ht hm).1]
  refine fm_id fun m hm => ?_
  by_cases h0 : m < 0
  · exact h1.1.idem n h3 h4 m hm h0
  · exact h1.1.sb.pos m (by omega)
theorem law_both {a s t x : List Int} {ts us bo : List (List Int)} (h : unified a s t = some ts) (hx : fillS a us s = some x) (hy : fillS a us t = some x) (hc : compS a ts us = some bo) : fillS a bo s = some x := by
  obtain ⟨hso, hto, σ, h1, h2, rfl⟩ := unified_iom h
  obtain ⟨hu, _, e1, hl⟩ := fillS_eq hx
  obtain ⟨_, _, e2, _⟩ := fillS_eq hy
  obtain ⟨ho1, _, rfl, hlen⟩ := compS_eq hc
  obtain ⟨hsb, hsl⟩ := sb_fe hu
  have hsg := termOk_sig hso
  have hst := tm_ok hso
  have hcsb : Sb a fun n => fm (fe us) (fe (plainOf (tabOf σ)) n) := ⟨fun n hn => by
    show fm (fe us) (fe _ n) = _
    rw [(sb_fe ho1).1.pos n hn, fm_one, hsb.pos n hn], fun n h3 h4 => hsb.fm ((sb_fe ho1).1.tm n h3 h4)⟩
  have hok := plain_ok hsg hcsb hlen
  have e3 : fm (fe (plainOf (tabOf fun n => fm (fe us) (fe (plainOf (tabOf σ)) n)))) s = x := by
    rw [fm_congr (g := fun n => fm (fe us) (σ n)) fun n hn => ?_, ← fm_fm, h1.2.2.all h1.1.sb hsb (e1.symm.trans e2) hst, ← e1]
    rw [plain_fe hcsb (termOk_mem hso hn).1, plain_fe h1.1.sb (termOk_mem hso hn).1]
  have := fillS_yes hok hso (by rw [e3]; exact hl)
  rw [e3] at this
  exact this
end Go.Proofs.Ytcpfcnjchlbapaa
namespace Go.Proofs.Ytcpfcnjchlbapaa
open Go Go.Eng
set_option linter.unusedVariables false
set_option linter.unusedSimpArgs false
set_option synthInstance.maxHeartbeats 400000
set_option synthInstance.maxSize 1000
set_option maxHeartbeats 2000000

theorem EqualFunc_spec {w0 : World} {Γ : List Atom} {v v' : Value} {ts : List (List Int)} [h2 : HasRd (List (List Int)) repList Γ [v] ts] [h3 : HasRd (List (List Int)) repList Γ [v'] ts] :
    CJ Try.prog 142 [v, v', .func (.func 79) #[] #[]] w0 Γ (fun _ : Unit => .bool true) (fun _ => Γ) := by
  refine cj_lift (R := [.rd [v] ts, .rd [v'] ts]) (A := fun _ => []) (fun w1 => ?_) (reads_cons h2 (reads_cons h3 (inferInstance))) (fun _ => inferInstance)
  simp only [List.cons_append, List.nil_append]
  refine cj_len v fun hlx => ?_
  refine cj_enter Try.func142 Try.ntmps142 ?_
  repeat' (first | refine red ?_ | refine redf fun hbi => ?_ | refine reds ?_ | (refine redc fun r => ?_; try have hr := Subtype.property r) | refine redp (fun r => ?_) (fun r => ?_) | refine redv fun sv => ?_ | refine redn fun b => ?_ | refine redz fun zs => ?_ | refine redq (fun hc => ?_) (fun hc => ?_) | with_reducible refine wq_blk_o rfl ?_ | (refine redd fun p cs as_ hcs has hf => ?_; simp only [Un.cells, Un.atoms, Un.fact, List.cons_append, List.nil_append] at hcs has hf; subst hcs has) | (refine redi (fun hc => ?_) (fun hc => ?_) <;> try first | (exfalso; omega) | exact absurd rfl hc) | fail)
  refine wc_loop_c [17] [18, 19, 20, 21, 7, 8, 22, 23, 24, 25, 9, 26, 27, 28, 29, 30, 6, 31] (ι := Nat) (fun k => [.int .i64 k]) (fun k => k ≤ ts.length) (fun k => ts.length - k) 0 (by kernel_rfl) (Nat.zero_le _) ?_
  intro k u l' hl' hk
  simp only [patch, List.map_cons, List.map_nil, List.set_cons_zero, List.set_cons_succ] at hl'
  subst hl'
  repeat' (first | refine red ?_ | refine redf fun hbi => ?_ | refine reds ?_ | (refine redc fun r => ?_; try have hr := Subtype.property r) | refine redp (fun r => ?_) (fun r => ?_) | refine redv fun sv => ?_ | refine redn fun b => ?_ | refine redz fun zs => ?_ | refine redq (fun hc => ?_) (fun hc => ?_) | with_reducible refine wq_blk_o rfl ?_ | (refine redd fun p cs as_ hcs has hf => ?_; simp only [Un.cells, Un.atoms, Un.fact, List.cons_append, List.nil_append] at hcs has hf; subst hcs has) | (refine redi (fun hc => ?_) (fun hc => ?_) <;> try first | (exfalso; omega) | exact absurd rfl hc) | fail)
  · exact wq_next (k + 1) (by omega) (by omega) (by kernel_rfl) ent_e
  · exact ⟨(), rfl, ent_e⟩
instance EqualFunc_ctr {Γ : List Atom} {v v' : Value} {ts : List (List Int)} [h2 : HasRd (List (List Int)) repList Γ [v] ts] [h3 : HasRd (List (List Int)) repList Γ [v'] ts] :
    CtrC Try.prog 142 [v, v', .func (.func 79) #[] #[]] Γ (True) (Unit) (fun _ : Unit => .bool true) (fun _ => Γ) := ⟨fun s w0 => EqualFunc_spec⟩

theorem sameTerms_spec {w0 : World} {Γ : List Atom} {v v' : Value} {ts : List (List Int)} [h2 : HasRd (List (List Int)) repList Γ [v] ts] [h3 : HasRd (List (List Int)) repList Γ [v'] ts] :
    CJ Try.prog 95 [v, v'] w0 Γ (fun _ : Unit => .bool true) (fun _ => Γ) := by
  refine cj_enter Try.func95 Try.ntmps95 ?_
  repeat' (first | refine red ?_ | refine redf fun hbi => ?_ | refine reds ?_ | (refine redc fun r => ?_; try have hr := Subtype.property r) | refine redp (fun r => ?_) (fun r => ?_) | refine redv fun sv => ?_ | refine redn fun b => ?_ | refine redz fun zs => ?_ | refine redq (fun hc => ?_) (fun hc => ?_) | with_reducible refine wq_blk_o rfl ?_ | (refine redi (fun hc => ?_) (fun hc => ?_) <;> try first | (exfalso; omega) | exact absurd rfl hc) | fail)
  exact ⟨(), rfl, ent_e⟩
instance sameTerms_ctr {Γ : List Atom} {v v' : Value} {ts : List (List Int)} [h2 : HasRd (List (List Int)) repList Γ [v] ts] [h3 : HasRd (List (List Int)) repList Γ [v'] ts] :
    CtrC Try.prog 95 [v, v'] Γ (True) (Unit) (fun _ : Unit => .bool true) (fun _ => Γ) := ⟨fun s w0 => sameTerms_spec⟩

instance : FiS Try.prog 36 0 0 := ⟨_, _, Try.underlying36, rfl, rfl, fun w => (inferInstance : Sc Try.prog 34).agg w⟩
theorem impl_SameSubst_spec {w0 : World} {Γ : List Atom} {va v v' : Value} {a : List Int} {ts : List (List Int)} [h : HasRd (List Int) repList Γ [va] a] [h2 : HasRd (List (List Int)) repList Γ [v] ts] [h3 : HasRd (List (List Int)) repList Γ [v'] ts] (hs : substOk a ts = true ∧ ts.length ≤ 24) :
    CJ Try.prog 42 [.agg #[va], .agg #[v], .agg #[v']] w0 Γ (fun _ : Unit => .bool true) (fun _ => Γ) := by
  refine cj_lift (R := [.rd [va] a, .rd [v] ts, .rd [v'] ts]) (A := fun _ => []) (fun w1 => ?_) (reads_cons h (reads_cons h2 (reads_cons h3 (inferInstance)))) (fun _ => inferInstance)
  simp only [List.cons_append, List.nil_append]
  have hl := subst_len hs.1
  have hn := hs.2
  have hs1 := hs.1
  haveI hT : ∀ (Δ : List Atom) (va v : Value) (a : List Int) (ts : List (List Int)) [HasRd (List Int) repList Δ [va] a] [HasRd (List (List Int)) repList Δ [v] ts], CtrC Try.prog 77 [.agg #[va], .agg #[v]] Δ (substOk a ts = true) Unit (fun _ => .bool true) (fun _ => Δ) := fun Δ va v a ts _ _ => ⟨fun h w0 => by
    have := impl_SubstOk_spec (w0 := w0) (Γ := Δ) (va := va) (v := v) (a := a) (ts := ts)
    rw [h] at this
    exact this⟩
  refine cj_enter Try.func42 Try.ntmps42 ?_
  repeat' (first | refine red ?_ | refine redf fun hbi => ?_ | refine reds ?_ | (refine redc fun r => ?_; try have hr := Subtype.property r) | refine redp (fun r => ?_) (fun r => ?_) | refine redv fun sv => ?_ | refine redn fun b => ?_ | refine redz fun zs => ?_ | refine redq (fun hc => ?_) (fun hc => ?_) | with_reducible refine wq_blk_o rfl ?_ | (refine redi (fun hc => ?_) (fun hc => ?_) <;> try first | (exfalso; omega) | exact absurd rfl hc) | ((refine wa_begin 1 [false, false, false, false, false, false, false, false, false, false, false, false, false, false, false, false, false, false] [] ?_ <;> refine wa_p 0 ?_ <;> (first | refine wa_f 1 fun hbi => ?_ | refine wa_p 1 ?_ | (refine wa_do 1 ?_ <;> (repeat' (first | refine red ?_ | (refine redc fun r => ?_; try have hr := Subtype.property r) | refine redv fun sv => ?_ | refine redf fun hbi => ?_ | refine redn fun b => ?_ | refine reds ?_ | refine redi (fun hc => ?_) (fun hc => ?_) | refine redq (fun hc => ?_) (fun hc => ?_) | refine redp (fun r => ?_) (fun r => ?_) | fail))) | fail) <;> (refine wa_do 2 ?_ <;> (repeat' (first | refine red ?_ | (refine redc fun r => ?_; try have hr := Subtype.property r) | refine redv fun sv => ?_ | refine redf fun hbi => ?_ | refine redn fun b => ?_ | refine reds ?_ | refine redi (fun hc => ?_) (fun hc => ?_) | refine redq (fun hc => ?_) (fun hc => ?_) | refine redp (fun r => ?_) (fun r => ?_) | fail))) <;> (first | refine wa_p 3 ?_ | refine wa_p0 3 ?_) <;> (first | refine wa_pg 4 ?_ | refine wa_no 4 ?_ | (refine wa_if 10 (fun hc => ?_) (fun hc => ?_) <;> (try first | (exfalso; omega) | exact absurd rfl hc) <;> first | refine wa_pg 4 ?_ | refine wa_no 4 ?_) | fail) <;> (first | refine wa_pg 5 ?_ | refine wa_no 5 ?_ | (refine wa_do 5 ?_ <;> (repeat' (first | refine red ?_ | (refine redc fun r => ?_; try have hr := Subtype.property r) | refine redv fun sv => ?_ | refine redf fun hbi => ?_ | refine redn fun b => ?_ | refine reds ?_ | refine redi (fun hc => ?_) (fun hc => ?_) | refine redq (fun hc => ?_) (fun hc => ?_) | refine redp (fun r => ?_) (fun r => ?_) | fail))) | fail) <;> (refine wa_do 6 ?_ <;> (repeat' (first | refine red ?_ | (refine redc fun r => ?_; try have hr := Subtype.property r) | refine redv fun sv => ?_ | refine redf fun hbi => ?_ | refine redn fun b => ?_ | refine reds ?_ | refine redi (fun hc => ?_) (fun hc => ?_) | refine redq (fun hc => ?_) (fun hc => ?_) | refine redp (fun r => ?_) (fun r => ?_) | fail))) <;> (first | refine wa_p 7 ?_ | refine wa_p0 7 ?_ | (refine wa_do 7 ?_ <;> (repeat' (first | refine red ?_ | (refine redc fun r => ?_; try have hr := Subtype.property r) | refine redv fun sv => ?_ | refine redf fun hbi => ?_ | refine redn fun b => ?_ | refine reds ?_ | refine redi (fun hc => ?_) (fun hc => ?_) | refine redq (fun hc => ?_) (fun hc => ?_) | refine redp (fun r => ?_) (fun r => ?_) | fail))) | fail) <;> (first | refine wa_p 8 ?_ | refine wa_p0 8 ?_) <;> (first | refine wa_pg 9 ?_ | refine wa_no 9 ?_ | (refine wa_if 15 (fun hc => ?_) (fun hc => ?_) <;> (try first | (exfalso; omega) | exact absurd rfl hc) <;> first | refine wa_pg 9 ?_ | refine wa_no 9 ?_) | fail) <;> (first | refine wa_pg 12 ?_ | refine wa_no 12 ?_ | fail) <;> (refine wa_do 10 ?_ <;> (repeat' (first | refine red ?_ | (refine redc fun r => ?_; try have hr := Subtype.property r) | refine redv fun sv => ?_ | refine redf fun hbi => ?_ | refine redn fun b => ?_ | refine reds ?_ | refine redi (fun hc => ?_) (fun hc => ?_) | refine redq (fun hc => ?_) (fun hc => ?_) | refine redp (fun r => ?_) (fun r => ?_) | fail))) <;> (first | refine wa_pg 11 ?_ | refine wa_no 11 ?_ | fail) <;> (refine wa_do 13 ?_ <;> (repeat' (first | refine red ?_ | (refine redc fun r => ?_; try have hr := Subtype.property r) | refine redv fun sv => ?_ | refine redf fun hbi => ?_ | refine redn fun b => ?_ | refine reds ?_ | refine redi (fun hc => ?_) (fun hc => ?_) | refine redq (fun hc => ?_) (fun hc => ?_) | refine redp (fun r => ?_) (fun r => ?_) | fail))) <;> (first | refine wa_pg 14 ?_ | refine wa_no 14 ?_ | (refine wa_do 14 ?_ <;> (repeat' (first | refine red ?_ | (refine redc fun r => ?_; try have hr := Subtype.property r) | refine redv fun sv => ?_ | refine redf fun hbi => ?_ | refine redn fun b => ?_ | refine reds ?_ | refine redi (fun hc => ?_) (fun hc => ?_) | refine redq (fun hc => ?_) (fun hc => ?_) | refine redp (fun r => ?_) (fun r => ?_) | fail))) | fail) <;> (refine wa_do 15 ?_ <;> (repeat' (first | refine red ?_ | (refine redc fun r => ?_; try have hr := Subtype.property r) | refine redv fun sv => ?_ | refine redf fun hbi => ?_ | refine redn fun b => ?_ | refine reds ?_ | refine redi (fun hc => ?_) (fun hc => ?_) | refine redq (fun hc => ?_) (fun hc => ?_) | refine redp (fun r => ?_) (fun r => ?_) | fail))) <;> (first | refine wa_p 16 ?_ | refine wa_p0 16 ?_ | (refine wa_do 16 ?_ <;> (repeat' (first | refine red ?_ | (refine redc fun r => ?_; try have hr := Subtype.property r) | refine redv fun sv => ?_ | refine redf fun hbi => ?_ | refine redn fun b => ?_ | refine reds ?_ | refine redi (fun hc => ?_) (fun hc => ?_) | refine redq (fun hc => ?_) (fun hc => ?_) | refine redp (fun r => ?_) (fun r => ?_) | fail))) | fail) <;> (first | refine wa_p 17 ?_ | refine wa_p0 17 ?_)) <;> (first | refine wa_end ?_ | with_reducible refine wq_keep ?_)) | fail)
  exact ⟨(), rfl, ent_e⟩
instance impl_SameSubst_ctr {Γ : List Atom} {va v v' : Value} {a : List Int} {ts : List (List Int)} [h : HasRd (List Int) repList Γ [va] a] [h2 : HasRd (List (List Int)) repList Γ [v] ts] [h3 : HasRd (List (List Int)) repList Γ [v'] ts] :
    CtrC Try.prog 42 [.agg #[va], .agg #[v], .agg #[v']] Γ (substOk a ts = true ∧ ts.length ≤ 24) (Unit) (fun _ : Unit => .bool true) (fun _ => Γ) := ⟨fun s w0 => impl_SameSubst_spec s⟩

theorem comOf_no {ts us : List (List Int)} {k : Nat} (hk : k < 24) (h : 60 < (fm (fe us) (gives ts k)).length) : comOf ts us = none := if_neg fun h' => by
  have := h' _ (List.mem_map.2 ⟨k, List.mem_range.2 hk, rfl⟩)
  omega
theorem comOf_yes {ts us : List (List Int)} (h : ∀ k, k < 24 → (fm (fe us) (gives ts k)).length ≤ 60) : comOf ts us = some (plainOf (comL ts us 24)) := if_pos fun x hx => by
  obtain ⟨k, hk, rfl⟩ := List.mem_map.1 hx
  exact h k (List.mem_range.1 hk)
theorem compose_spec {w0 : World} {Γ : List Atom} {v vu : Value} {ts us : List (List Int)} [h2 : HasRd (List (List Int)) repList Γ [v] ts] [h3 : HasRd (List (List Int)) repList Γ [vu] us] (hs : (∀ x ∈ ts, x.length ≤ 60) ∧ ∀ x ∈ us, x.length ≤ 60) :
    CJ Try.prog 94 [.agg #[v], .agg #[vu]] w0 Γ (fun q : Value => .tuple #[.agg #[q], .bool (comOf ts us).isSome]) (fun q => .ow [q] ((comOf ts us).getD []) :: Γ) := by
  refine cj_lift (R := [.rd [v] ts, .rd [vu] us]) (A := fun q => [.ow [q] ((comOf ts us).getD [])]) (fun w1 => ?_) (reads_cons h2 (reads_cons h3 (inferInstance))) (fun _ => inferInstance)
  simp only [List.cons_append, List.nil_append]
  obtain ⟨hts, hus⟩ := hs
  refine cj_enter Try.func94 Try.ntmps94 ?_
  repeat' (first | refine red ?_ | refine redf fun hbi => ?_ | refine reds ?_ | (refine redc fun r => ?_; try have hr := Subtype.property r) | refine redp (fun r => ?_) (fun r => ?_) | refine redv fun sv => ?_ | refine redn fun b => ?_ | refine redz fun zs => ?_ | refine redq (fun hc => ?_) (fun hc => ?_) | with_reducible refine wq_blk_o rfl ?_ | (refine redi (fun hc => ?_) (fun hc => ?_) <;> try first | (exfalso; omega) | exact absurd rfl hc) | fail)
  rename_i b1 b2 b3
  refine wc_loop_p [11] [12, 13, 7, 14, 15, 16, 8, 17, 18, 19, 20, 22, 23, 24, 21, 25, 26, 9, 10, 27, 28, 29, 5, 30, 31, 32, 33, 34, 35, 36] (ι := Nat × Value) (fun k => [.int .i64 k.1]) (fun k => [.bk b [k.2], .ow [k.2] (comL ts us k.1)]) (fun k => k.1 ≤ 24 ∧ ∀ j, j < k.1 → (fm (fe us) (gives ts j)).length ≤ 60) (fun k => 24 - k.1) (0, .slice none 0 0) [.bk b [.slice none 0 0], .ow [.slice none 0 0] ([] : List (List Int))] (by kernel_rfl) ⟨by decide, fun j hj => absurd hj (Nat.not_lt_zero _)⟩ rfl ?_
  intro ⟨k, sw⟩ u l' hl' ⟨hk, hkk⟩
  simp only [patch, List.map_cons, List.map_nil, List.set_cons_zero, List.set_cons_succ] at hl'
  subst hl'
  simp only [List.cons_append, List.nil_append] at hk hkk ⊢
  have hcl := comL_len ts us k
  have hgl := gives_len (ts := ts) (i := k) hts
  have hgt : (ts.getD k default).length ≤ 60 := by
    by_cases h : k < ts.length
    · exact hts _ (mem_getD h)
    · rw [List.getD_eq_getElem?_getD, List.getElem?_eq_none (by omega)]; exact Nat.zero_le _
  have hall : ∀ x ∈ comL ts us k, x.length ≤ 60 := fun x hx => by
    obtain ⟨j, hj, rfl⟩ := List.mem_map.1 hx
    exact hkk j (List.mem_range.1 hj)
  have h1l : ([-1 - (k : Int)] : List Int).length ≤ 60 := by simp
  have hga : ts.getD k default = [] → gives ts k = [-1 - (k : Int)] := fun h => by rw [gives_getD, if_pos (show ts.getD k [] = [] from h)]
  have hgb : ts.getD k default ≠ [] → gives ts k = ts.getD k default := fun h => by rw [gives_getD, if_neg (show ¬ ts.getD k [] = [] from h)]; rfl
  repeat' (first | refine red ?_ | refine redf fun hbi => ?_ | refine reds ?_ | (refine redc fun r => ?_; try have hr := Subtype.property r) | refine redp (fun r => ?_) (fun r => ?_) | refine redv fun sv => ?_ | refine redn fun b => ?_ | refine redz fun zs => ?_ | refine redq (fun hc => ?_) (fun hc => ?_) | with_reducible refine wq_blk_o rfl ?_ | (refine redi (fun hc => ?_) (fun hc => ?_) <;> try first | (exfalso; omega) | exact absurd rfl hc) | fail)
  · rw [comOf_no (k := k) (by omega) (by rw [hga ‹_›]; exact fillOf_not hc)]
    simp only [Option.getD_none, Option.isSome_none]
    exact ⟨_, rfl, ent_e⟩
  · obtain ⟨h5, h6⟩ := fillOf_yes hc
    rw [h5, ← hga ‹_›, ← comL_succ]
    rw [← hga ‹_›] at h6
    refine wq_next (k + 1, sv) ⟨by simp only; omega, fun j hj => ?_⟩ (by simp only; omega) (by kernel_rfl) ent_e
    by_cases e : j = k
    · rw [e]; exact h6
    · exact hkk j (by simp only at hj; omega)
  · have hne := fun h => ‹_ ≠ Value.slice none 0 0› (hr h)
    rw [comOf_no (k := k) (by omega) (by rw [hgb hne]; exact fillOf_not hc)]
    simp only [Option.getD_none, Option.isSome_none]
    exact ⟨_, rfl, ent_e⟩
  · have hne := fun h => ‹_ ≠ Value.slice none 0 0› (hr h)
    obtain ⟨h5, h6⟩ := fillOf_yes hc
    have e1 : comL ts us k ++ [(fillOf us (ts.getD k default)).getD []] = comL ts us (k + 1) := by rw [h5, ← hgb hne, ← comL_succ]
    rw [e1]
    rw [← hgb hne] at h6
    refine wq_next (k + 1, sv) ⟨by simp only; omega, fun j hj => ?_⟩ (by simp only; omega) (by kernel_rfl) ent_e
    by_cases e : j = k
    · rw [e]; exact h6
    · exact hkk j (by simp only at hj; omega)
  · obtain rfl : k = 24 := by omega
    rw [comOf_yes hkk]
    simp only [Option.getD_some, Option.isSome_some]
    exact ⟨_, rfl, ent_e⟩
instance compose_ctr {Γ : List Atom} {v vu : Value} {ts us : List (List Int)} [h2 : HasRd (List (List Int)) repList Γ [v] ts] [h3 : HasRd (List (List Int)) repList Γ [vu] us] :
    CtrC Try.prog 94 [.agg #[v], .agg #[vu]] Γ ((∀ x ∈ ts, x.length ≤ 60) ∧ ∀ x ∈ us, x.length ≤ 60) (Value) (fun q : Value => .tuple #[.agg #[q], .bool (comOf ts us).isSome]) (fun q => .ow [q] ((comOf ts us).getD []) :: Γ) := ⟨fun s w0 => compose_spec s⟩

theorem impl_Composed_spec {w0 : World} {Γ : List Atom} {va v vu : Value} {a : List Int} {ts us : List (List Int)} [h : HasRd (List Int) repList Γ [va] a] [h2 : HasRd (List (List Int)) repList Γ [v] ts] [h3 : HasRd (List (List Int)) repList Γ [vu] us] :
    CJ Try.prog 41 [.agg #[va], .agg #[v], .agg #[vu]] w0 Γ (fun q : Value => .tuple #[.agg #[q], .bool (compS a ts us).isSome]) (fun q => .ow [q] ((compS a ts us).getD []) :: Γ) := by
  refine cj_lift (R := [.rd [va] a, .rd [v] ts, .rd [vu] us]) (A := fun q => [.ow [q] ((compS a ts us).getD [])]) (fun w1 => ?_) (reads_cons h (reads_cons h2 (reads_cons h3 (inferInstance)))) (fun _ => inferInstance)
  simp only [List.cons_append, List.nil_append]
  by_cases hok : substOk a ts = true ∧ substOk a us = true
  · have e : compS a ts us = comOf ts us := if_pos hok
    rw [e]
    have hl : (∀ x ∈ ts, x.length ≤ 60) ∧ ∀ x ∈ us, x.length ≤ 60 := ⟨subst_len hok.1, subst_len hok.2⟩
    refine cj_enter Try.func41 Try.ntmps41 ?_
    repeat' (first | refine red ?_ | refine redf fun hbi => ?_ | refine reds ?_ | (refine redc fun r => ?_; try have hr := Subtype.property r) | refine redp (fun r => ?_) (fun r => ?_) | refine redv fun sv => ?_ | refine redn fun b => ?_ | refine redz fun zs => ?_ | refine redq (fun hc => ?_) (fun hc => ?_) | with_reducible refine wq_blk_o rfl ?_ | (refine redi (fun hc => ?_) (fun hc => ?_) <;> try first | (exfalso; omega) | exact absurd rfl hc) | fail)
    all_goals first
      | exact Bool.noConfusion (hc.symm.trans hok.1 : false = true)
      | exact Bool.noConfusion (hc.symm.trans hok.2 : false = true)
      | (refine redc (fun r => ?_) hl
         repeat' (first | refine red ?_ | refine redf fun hbi => ?_ | refine reds ?_ | (refine redc fun r => ?_; try have hr := Subtype.property r) | refine redp (fun r => ?_) (fun r => ?_) | refine redv fun sv => ?_ | refine redn fun b => ?_ | refine redz fun zs => ?_ | refine redq (fun hc => ?_) (fun hc => ?_) | with_reducible refine wq_blk_o rfl ?_ | (refine redi (fun hc => ?_) (fun hc => ?_) <;> try first | (exfalso; omega) | exact absurd rfl hc) | fail)
         exact ⟨_, rfl, ent_e⟩)
      | exact ⟨_, rfl, ent_e⟩
  · have e : compS a ts us = none := if_neg hok
    rw [e]
    simp only [Option.getD_none, Option.isSome_none]
    refine cj_enter Try.func41 Try.ntmps41 ?_
    repeat' (first | refine red ?_ | refine redf fun hbi => ?_ | refine reds ?_ | (refine redc fun r => ?_; try have hr := Subtype.property r) | refine redp (fun r => ?_) (fun r => ?_) | refine redv fun sv => ?_ | refine redn fun b => ?_ | refine redz fun zs => ?_ | refine redq (fun hc => ?_) (fun hc => ?_) | with_reducible refine wq_blk_o rfl ?_ | (refine redi (fun hc => ?_) (fun hc => ?_) <;> try first | (exfalso; omega) | exact absurd rfl hc) | fail)
    · exact ⟨_, rfl, ent_e⟩
    · exact ⟨_, rfl, ent_e⟩
    · exact absurd ⟨by assumption, hc⟩ hok
instance impl_Composed_ctr {Γ : List Atom} {va v vu : Value} {a : List Int} {ts us : List (List Int)} [h : HasRd (List Int) repList Γ [va] a] [h2 : HasRd (List (List Int)) repList Γ [v] ts] [h3 : HasRd (List (List Int)) repList Γ [vu] us] :
    CtrC Try.prog 41 [.agg #[va], .agg #[v], .agg #[vu]] Γ (True) (Value) (fun q : Value => .tuple #[.agg #[q], .bool (compS a ts us).isSome]) (fun q => .ow [q] ((compS a ts us).getD []) :: Γ) := ⟨fun s w0 => impl_Composed_spec⟩

end Go.Proofs.Ytcpfcnjchlbapaa
namespace Go.Proofs.Ytcpfcnjchlbapaa
open Go Go.Eng
set_option linter.unusedVariables false
set_option linter.unusedSimpArgs false
set_option synthInstance.maxHeartbeats 400000
set_option synthInstance.maxSize 1000
set_option maxHeartbeats 4000000
set_option maxRecDepth 20000


structure Gate : Prop where
  ok : True
theorem FnUnified_spec {w0 : World} {Γ : List Atom} {v : Value} {code : List UInt8} [hv : HasRd (List UInt8) repList Γ [v] code] :
    CJ Try.prog 7 [v] w0 Γ (fun _ : Unit => .bool true) (fun _ => Γ) := by
  haveI hIU : ∀ (Δ : List Atom) (va vs vt : Value) (a s t : List Int) [HasRd (List Int) repList Δ [va] a] [HasRd (List Int) repList Δ [vs] s] [HasRd (List Int) repList Δ [vt] t], CtrC Try.prog 37 [.agg #[va], vs, vt] Δ Gate Value (fun q => .tuple #[.agg #[q], .bool (unified a s t).isSome]) (fun q => .ow [q] ((unified a s t).getD []) :: Δ) := fun Δ va v vt a t ts _ _ _ => ⟨fun _ w0 => impl_Unified_spec⟩
  haveI hSU : ∀ (Δ : List Atom) (va vs vt : Value) (a s t : List Int) [HasRd (List Int) repList Δ [va] a] [HasRd (List Int) repList Δ [vs] s] [HasRd (List Int) repList Δ [vt] t], CtrC Try.prog 38 [.agg #[va], vs, vt] Δ Gate Value (fun q => .tuple #[.agg #[q], .bool (unified a s t).isSome]) (fun q => .ow [q] ((unified a s t).getD []) :: Δ) := fun Δ va v vt a t ts _ _ _ => ⟨fun _ w0 => spec_Unified_spec⟩
  haveI hIC : ∀ (Δ : List Atom) (va v vu : Value) (a : List Int) (ts us : List (List Int)) [HasRd (List Int) repList Δ [va] a] [HasRd (List (List Int)) repList Δ [v] ts] [HasRd (List (List Int)) repList Δ [vu] us], CtrC Try.prog 41 [.agg #[va], .agg #[v], .agg #[vu]] Δ Gate Value (fun q => .tuple #[.agg #[q], .bool (compS a ts us).isSome]) (fun q => .ow [q] ((compS a ts us).getD []) :: Δ) := fun Δ va v vt a t ts _ _ _ => ⟨fun _ w0 => impl_Composed_spec⟩
  haveI hSF : ∀ (Δ : List Atom) (va v vt : Value) (a t : List Int) (ts : List (List Int)) [HasRd (List Int) repList Δ [va] a] [HasRd (List (List Int)) repList Δ [v] ts] [HasRd (List Int) repList Δ [vt] t], CtrC Try.prog 23 [.agg #[va], .agg #[v], vt] Δ Gate Value (fun q => .tuple #[q, .bool (fillS a ts t).isSome]) (fun q => .ow [q] ((fillS a ts t).getD []) :: Δ) := fun Δ va v vt a t ts _ _ _ => ⟨fun _ w0 => spec_Filled_spec⟩
  haveI hIF : ∀ (Δ : List Atom) (va v vt : Value) (a t : List Int) (ts : List (List Int)) [HasRd (List Int) repList Δ [va] a] [HasRd (List (List Int)) repList Δ [v] ts] [HasRd (List Int) repList Δ [vt] t], CtrC Try.prog 24 [.agg #[va], .agg #[v], vt] Δ Gate Value (fun q => .tuple #[q, .bool (fillS a ts t).isSome]) (fun q => .ow [q] ((fillS a ts t).getD []) :: Δ) := fun Δ va v vt a t ts _ _ _ => ⟨fun _ w0 => impl_Filled_spec⟩
  refine cj_enter Try.func7 Try.ntmps7 ?_
  repeat' (first | refine red ?_ | refine redf fun hbi => ?_ | refine reds ?_ | (refine redc fun r => ?_; try have hr := Subtype.property r) | refine redp (fun r => ?_) (fun r => ?_) | refine redv fun sv => ?_ | refine redn fun b => ?_ | refine redz fun zs => ?_ | refine redq (fun hc => ?_) (fun hc => ?_) | with_reducible refine wq_blk_o rfl ?_ | (refine redi (fun hc => ?_) (fun hc => ?_) <;> try first | (exfalso; omega) | with_reducible first | exact absurd rfl hc | exact absurd hc Bool.false_ne_true | exact absurd hc Bool.false_ne_true.symm) | fail)
  · exact ⟨(), rfl, ent_e⟩
  obtain ⟨⟨⟨va, a⟩, ⟨vs, s⟩, ⟨vt, t⟩⟩, ha, hs, ht⟩ := r
  simp only at hr ha hs ht ⊢
  clear hr hc
  refine redc (fun r => ?_) ⟨trivial⟩
  repeat' (first | refine red ?_ | refine redf fun hbi => ?_ | refine reds ?_ | (refine redc fun r => ?_; try have hr := Subtype.property r) | refine redp (fun r => ?_) (fun r => ?_) | refine redv fun sv => ?_ | refine redn fun b => ?_ | refine redz fun zs => ?_ | refine redq (fun hc => ?_) (fun hc => ?_) | with_reducible refine wq_blk_o rfl ?_ | (refine redi (fun hc => ?_) (fun hc => ?_) <;> try first | (exfalso; omega) | with_reducible first | exact absurd rfl hc | exact absurd hc Bool.false_ne_true | exact absurd hc Bool.false_ne_true.symm) | fail)
  refine redc (fun r => ?_) ⟨trivial⟩
  cases hU : unified a s t with
  | none =>
    simp only [Option.getD_none, Option.isSome_none]
    repeat' (first | refine red ?_ | refine redf fun hbi => ?_ | refine reds ?_ | (refine redc fun r => ?_; try have hr := Subtype.property r) | refine redp (fun r => ?_) (fun r => ?_) | refine redv fun sv => ?_ | refine redn fun b => ?_ | refine redz fun zs => ?_ | refine redq (fun hc => ?_) (fun hc => ?_) | with_reducible refine wq_blk_o rfl ?_ | (refine redi (fun hc => ?_) (fun hc => ?_) <;> try first | (exfalso; omega) | with_reducible first | exact absurd rfl hc | exact absurd hc Bool.false_ne_true | exact absurd hc Bool.false_ne_true.symm) | fail)
    obtain ⟨⟨⟨_, _⟩, ⟨vu, us⟩, ⟨_, _⟩⟩, _, hus, _⟩ := r
    simp only at hus ⊢
    refine redc (fun r => ?_) ⟨trivial⟩
    repeat' (first | refine red ?_ | refine redf fun hbi => ?_ | refine reds ?_ | (refine redc fun r => ?_; try have hr := Subtype.property r) | refine redp (fun r => ?_) (fun r => ?_) | refine redv fun sv => ?_ | refine redn fun b => ?_ | refine redz fun zs => ?_ | refine redq (fun hc => ?_) (fun hc => ?_) | with_reducible refine wq_blk_o rfl ?_ | (refine redi (fun hc => ?_) (fun hc => ?_) <;> try first | (exfalso; omega) | with_reducible first | exact absurd rfl hc | exact absurd hc Bool.false_ne_true | exact absurd hc Bool.false_ne_true.symm) | fail)
    refine redc (fun r => ?_) ⟨trivial⟩
    cases hX : fillS a us s with
    | none =>
      simp only [Option.getD_none, Option.isSome_none]
      repeat' (first | refine red ?_ | refine redf fun hbi => ?_ | refine reds ?_ | (refine redc fun r => ?_; try have hr := Subtype.property r) | refine redp (fun r => ?_) (fun r => ?_) | refine redv fun sv => ?_ | refine redn fun b => ?_ | refine redz fun zs => ?_ | refine redq (fun hc => ?_) (fun hc => ?_) | with_reducible refine wq_blk_o rfl ?_ | (refine redi (fun hc => ?_) (fun hc => ?_) <;> try first | (exfalso; omega) | with_reducible first | exact absurd rfl hc | exact absurd hc Bool.false_ne_true | exact absurd hc Bool.false_ne_true.symm) | fail)
      rw [hU]; exact ⟨(), rfl, ent_e⟩
    | some x =>
      cases hY : fillS a us t with
      | none =>
        simp only [Option.getD_none, Option.isSome_none, Option.getD_some, Option.isSome_some]
        repeat' (first | refine red ?_ | refine redf fun hbi => ?_ | refine reds ?_ | (refine redc fun r => ?_; try have hr := Subtype.property r) | refine redp (fun r => ?_) (fun r => ?_) | refine redv fun sv => ?_ | refine redn fun b => ?_ | refine redz fun zs => ?_ | refine redq (fun hc => ?_) (fun hc => ?_) | with_reducible refine wq_blk_o rfl ?_ | (refine redi (fun hc => ?_) (fun hc => ?_) <;> try first | (exfalso; omega) | with_reducible first | exact absurd rfl hc | exact absurd hc Bool.false_ne_true | exact absurd hc Bool.false_ne_true.symm) | fail)
        rw [hU]; exact ⟨(), rfl, ent_e⟩
      | some y =>
        have hxy : x ≠ y := fun e => by
          have := law_found hX (e ▸ hY)
          rw [hU] at this
          cases this
        simp only [Option.getD_some, Option.isSome_some]
        repeat' (first | refine red ?_ | refine redf fun hbi => ?_ | refine reds ?_ | (refine redc fun r => ?_; try have hr := Subtype.property r) | refine redp (fun r => ?_) (fun r => ?_) | refine redv fun sv => ?_ | refine redn fun b => ?_ | refine redz fun zs => ?_ | refine redq (fun hc => ?_) (fun hc => ?_) | with_reducible refine wq_blk_o rfl ?_ | (refine redi (fun hc => ?_) (fun hc => ?_) <;> try first | (exfalso; omega) | with_reducible first | exact absurd rfl hc | exact absurd hc Bool.false_ne_true | exact absurd hc Bool.false_ne_true.symm) | fail)
        · exact absurd ‹x = y› hxy
        · rw [hU]; exact ⟨(), rfl, ent_e⟩
  | some ts =>
    simp only [Option.getD_some, Option.isSome_some]
    obtain ⟨hok, x, hx, hy⟩ := law_fill hU
    repeat' (first | refine red ?_ | refine redf fun hbi => ?_ | refine reds ?_ | (refine redc fun r => ?_; try have hr := Subtype.property r) | refine redp (fun r => ?_) (fun r => ?_) | refine redv fun sv => ?_ | refine redn fun b => ?_ | refine redz fun zs => ?_ | refine redq (fun hc => ?_) (fun hc => ?_) | with_reducible refine wq_blk_o rfl ?_ | (refine redi (fun hc => ?_) (fun hc => ?_) <;> try first | (exfalso; omega) | with_reducible first | exact absurd rfl hc | exact absurd hc Bool.false_ne_true | exact absurd hc Bool.false_ne_true.symm) | fail)
    obtain ⟨⟨⟨_, _⟩, ⟨vu, us⟩, ⟨_, _⟩⟩, _, hus, _⟩ := r
    simp only at hus ⊢
    repeat' (first | refine red ?_ | refine redf fun hbi => ?_ | refine reds ?_ | (refine redc fun r => ?_; try have hr := Subtype.property r) | refine redp (fun r => ?_) (fun r => ?_) | refine redv fun sv => ?_ | refine redn fun b => ?_ | refine redz fun zs => ?_ | refine redq (fun hc => ?_) (fun hc => ?_) | with_reducible refine wq_blk_o rfl ?_ | (refine redi (fun hc => ?_) (fun hc => ?_) <;> try first | (exfalso; omega) | with_reducible first | exact absurd rfl hc | exact absurd hc Bool.false_ne_true | exact absurd hc Bool.false_ne_true.symm) | fail)
    refine redc (fun r => ?_) ⟨trivial⟩
    repeat' (first | refine red ?_ | refine redf fun hbi => ?_ | refine reds ?_ | (refine redc fun r => ?_; try have hr := Subtype.property r) | refine redp (fun r => ?_) (fun r => ?_) | refine redv fun sv => ?_ | refine redn fun b => ?_ | refine redz fun zs => ?_ | refine redq (fun hc => ?_) (fun hc => ?_) | with_reducible refine wq_blk_o rfl ?_ | (refine redi (fun hc => ?_) (fun hc => ?_) <;> try first | (exfalso; omega) | with_reducible first | exact absurd rfl hc | exact absurd hc Bool.false_ne_true | exact absurd hc Bool.false_ne_true.symm) | fail)
    refine redc (fun r => ?_) ⟨trivial⟩
    have hsw : (unified a t s).isSome = true := law_swap (by rw [hU]; rfl)
    have hok2 : substOk a ts = true ∧ ts.length ≤ 24 := ⟨hok, by
      have h := hok
      unfold substOk at h
      rw [Bool.and_eq_true, Bool.and_eq_true, decide_eq_true_eq] at h
      exact h.2.1⟩
    cases hX : fillS a us s with
    | none =>
      have hxy : ¬ False := id
      simp only [Option.getD_none, Option.isSome_none]
      repeat' (first | refine red ?_ | refine redf fun hbi => ?_ | refine reds ?_ | (refine redc fun r => ?_; try have hr := Subtype.property r) | refine redp (fun r => ?_) (fun r => ?_) | refine redv fun sv => ?_ | refine redn fun b => ?_ | refine redz fun zs => ?_ | refine redq (fun hc => ?_) (fun hc => ?_) | with_reducible refine wq_blk_o rfl ?_ | (refine redi (fun hc => ?_) (fun hc => ?_) <;> try first | (exfalso; omega) | with_reducible first | exact absurd rfl hc | exact absurd hc Bool.false_ne_true | exact absurd hc Bool.false_ne_true.symm) | fail)
      refine redc (fun r => ?_) ⟨trivial⟩
      rw [hx]
      simp only [Option.getD_some, Option.isSome_some]
      repeat' (first | refine red ?_ | refine redf fun hbi => ?_ | refine reds ?_ | (refine redc fun r => ?_; try have hr := Subtype.property r) | refine redp (fun r => ?_) (fun r => ?_) | refine redv fun sv => ?_ | refine redn fun b => ?_ | refine redz fun zs => ?_ | refine redq (fun hc => ?_) (fun hc => ?_) | with_reducible refine wq_blk_o rfl ?_ | (refine redi (fun hc => ?_) (fun hc => ?_) <;> try first | (exfalso; omega) | with_reducible first | exact absurd rfl hc | exact absurd hc Bool.false_ne_true | exact absurd hc Bool.false_ne_true.symm) | fail)
      refine redc (fun r => ?_) ⟨trivial⟩
      rw [hy]
      simp only [Option.getD_some, Option.isSome_some]
      repeat' (first | refine red ?_ | refine redf fun hbi => ?_ | refine reds ?_ | (refine redc fun r => ?_; try have hr := Subtype.property r) | refine redp (fun r => ?_) (fun r => ?_) | refine redv fun sv => ?_ | refine redn fun b => ?_ | refine redz fun zs => ?_ | refine redq (fun hc => ?_) (fun hc => ?_) | with_reducible refine wq_blk_o rfl ?_ | (refine redi (fun hc => ?_) (fun hc => ?_) <;> try first | (exfalso; omega) | with_reducible first | exact absurd rfl hc | exact absurd hc Bool.false_ne_true | exact absurd hc Bool.false_ne_true.symm) | fail)
      refine redc (fun r => ?_) ⟨trivial⟩
      cases hC : compS a ts ts with
      | none =>
        simp only [Option.getD_none, Option.isSome_none, Option.getD_some, Option.isSome_some]
        repeat' (first | refine red ?_ | refine redf fun hbi => ?_ | refine reds ?_ | (refine redc fun r => ?_; try have hr := Subtype.property r) | refine redp (fun r => ?_) (fun r => ?_) | refine redv fun sv => ?_ | refine redn fun b => ?_ | refine redz fun zs => ?_ | refine redq (fun hc => ?_) (fun hc => ?_) | with_reducible refine wq_blk_o rfl ?_ | (refine redi (fun hc => ?_) (fun hc => ?_) <;> try first | (exfalso; omega) | with_reducible first | exact absurd rfl hc | exact absurd hc Bool.false_ne_true | exact absurd hc Bool.false_ne_true.symm) | fail)
        all_goals first
          | (rw [hsw]; exact ⟨(), rfl, ent_e⟩)
          | exact absurd (‹x' = y'›) hxy
      | some ag =>
        obtain rfl := (law_twice hU hC).symm
        simp only [Option.getD_none, Option.isSome_none, Option.getD_some, Option.isSome_some]
        repeat' (first | refine red ?_ | refine redf fun hbi => ?_ | refine reds ?_ | (refine redc fun r => ?_; try have hr := Subtype.property r) | refine redp (fun r => ?_) (fun r => ?_) | refine redv fun sv => ?_ | refine redn fun b => ?_ | refine redz fun zs => ?_ | refine redq (fun hc => ?_) (fun hc => ?_) | with_reducible refine wq_blk_o rfl ?_ | (refine redi (fun hc => ?_) (fun hc => ?_) <;> try first | (exfalso; omega) | with_reducible first | exact absurd rfl hc | exact absurd hc Bool.false_ne_true | exact absurd hc Bool.false_ne_true.symm) | fail)
        all_goals first
          | (rw [hsw]; exact ⟨(), rfl, ent_e⟩)
          | exact absurd (‹x' = y'›) hxy
    | some x' =>
      cases hY : fillS a us t with
      | none =>
        have hxy : ¬ False := id
        simp only [Option.getD_none, Option.isSome_none, Option.getD_some, Option.isSome_some]
        repeat' (first | refine red ?_ | refine redf fun hbi => ?_ | refine reds ?_ | (refine redc fun r => ?_; try have hr := Subtype.property r) | refine redp (fun r => ?_) (fun r => ?_) | refine redv fun sv => ?_ | refine redn fun b => ?_ | refine redz fun zs => ?_ | refine redq (fun hc => ?_) (fun hc => ?_) | with_reducible refine wq_blk_o rfl ?_ | (refine redi (fun hc => ?_) (fun hc => ?_) <;> try first | (exfalso; omega) | with_reducible first | exact absurd rfl hc | exact absurd hc Bool.false_ne_true | exact absurd hc Bool.false_ne_true.symm) | fail)
        refine redc (fun r => ?_) ⟨trivial⟩
        rw [hx]
        simp only [Option.getD_some, Option.isSome_some]
        repeat' (first | refine red ?_ | refine redf fun hbi => ?_ | refine reds ?_ | (refine redc fun r => ?_; try have hr := Subtype.property r) | refine redp (fun r => ?_) (fun r => ?_) | refine redv fun sv => ?_ | refine redn fun b => ?_ | refine redz fun zs => ?_ | refine redq (fun hc => ?_) (fun hc => ?_) | with_reducible refine wq_blk_o rfl ?_ | (refine redi (fun hc => ?_) (fun hc => ?_) <;> try first | (exfalso; omega) | with_reducible first | exact absurd rfl hc | exact absurd hc Bool.false_ne_true | exact absurd hc Bool.false_ne_true.symm) | fail)
        refine redc (fun r => ?_) ⟨trivial⟩
        rw [hy]
        simp only [Option.getD_some, Option.isSome_some]
        repeat' (first | refine red ?_ | refine redf fun hbi => ?_ | refine reds ?_ | (refine redc fun r => ?_; try have hr := Subtype.property r) | refine redp (fun r => ?_) (fun r => ?_) | refine redv fun sv => ?_ | refine redn fun b => ?_ | refine redz fun zs => ?_ | refine redq (fun hc => ?_) (fun hc => ?_) | with_reducible refine wq_blk_o rfl ?_ | (refine redi (fun hc => ?_) (fun hc => ?_) <;> try first | (exfalso; omega) | with_reducible first | exact absurd rfl hc | exact absurd hc Bool.false_ne_true | exact absurd hc Bool.false_ne_true.symm) | fail)
        refine redc (fun r => ?_) ⟨trivial⟩
        cases hC : compS a ts ts with
        | none =>
          simp only [Option.getD_none, Option.isSome_none, Option.getD_some, Option.isSome_some]
          repeat' (first | refine red ?_ | refine redf fun hbi => ?_ | refine reds ?_ | (refine redc fun r => ?_; try have hr := Subtype.property r) | refine redp (fun r => ?_) (fun r => ?_) | refine redv fun sv => ?_ | refine redn fun b => ?_ | refine redz fun zs => ?_ | refine redq (fun hc => ?_) (fun hc => ?_) | with_reducible refine wq_blk_o rfl ?_ | (refine redi (fun hc => ?_) (fun hc => ?_) <;> try first | (exfalso; omega) | with_reducible first | exact absurd rfl hc | exact absurd hc Bool.false_ne_true | exact absurd hc Bool.false_ne_true.symm) | fail)
          all_goals first
            | (rw [hsw]; exact ⟨(), rfl, ent_e⟩)
            | exact absurd (‹x' = y'›) hxy
        | some ag =>
          obtain rfl := (law_twice hU hC).symm
          simp only [Option.getD_none, Option.isSome_none, Option.getD_some, Option.isSome_some]
          repeat' (first | refine red ?_ | refine redf fun hbi => ?_ | refine reds ?_ | (refine redc fun r => ?_; try have hr := Subtype.property r) | refine redp (fun r => ?_) (fun r => ?_) | refine redv fun sv => ?_ | refine redn fun b => ?_ | refine redz fun zs => ?_ | refine redq (fun hc => ?_) (fun hc => ?_) | with_reducible refine wq_blk_o rfl ?_ | (refine redi (fun hc => ?_) (fun hc => ?_) <;> try first | (exfalso; omega) | with_reducible first | exact absurd rfl hc | exact absurd hc Bool.false_ne_true | exact absurd hc Bool.false_ne_true.symm) | fail)
          all_goals first
            | (rw [hsw]; exact ⟨(), rfl, ent_e⟩)
            | exact absurd (‹x' = y'›) hxy
      | some y' =>
        by_cases hxy : x' = y'
        · subst hxy
          simp only [Option.getD_some, Option.isSome_some]
          repeat' (first | refine red ?_ | refine redf fun hbi => ?_ | refine reds ?_ | (refine redc fun r => ?_; try have hr := Subtype.property r) | refine redp (fun r => ?_) (fun r => ?_) | refine redv fun sv => ?_ | refine redn fun b => ?_ | refine redz fun zs => ?_ | refine redq (fun hc => ?_) (fun hc => ?_) | with_reducible refine wq_blk_o rfl ?_ | (refine redi (fun hc => ?_) (fun hc => ?_) <;> try first | (exfalso; omega) | with_reducible first | exact absurd rfl hc | exact absurd hc Bool.false_ne_true | exact absurd hc Bool.false_ne_true.symm) | fail)
          refine redc (fun r => ?_) ⟨trivial⟩
          rw [hx]
          simp only [Option.getD_some, Option.isSome_some]
          repeat' (first | refine red ?_ | refine redf fun hbi => ?_ | refine reds ?_ | (refine redc fun r => ?_; try have hr := Subtype.property r) | refine redp (fun r => ?_) (fun r => ?_) | refine redv fun sv => ?_ | refine redn fun b => ?_ | refine redz fun zs => ?_ | refine redq (fun hc => ?_) (fun hc => ?_) | with_reducible refine wq_blk_o rfl ?_ | (refine redi (fun hc => ?_) (fun hc => ?_) <;> try first | (exfalso; omega) | with_reducible first | exact absurd rfl hc | exact absurd hc Bool.false_ne_true | exact absurd hc Bool.false_ne_true.symm) | fail)
          refine redc (fun r => ?_) ⟨trivial⟩
          rw [hy]
          simp only [Option.getD_some, Option.isSome_some]
          repeat' (first | refine red ?_ | refine redf fun hbi => ?_ | refine reds ?_ | (refine redc fun r => ?_; try have hr := Subtype.property r) | refine redp (fun r => ?_) (fun r => ?_) | refine redv fun sv => ?_ | refine redn fun b => ?_ | refine redz fun zs => ?_ | refine redq (fun hc => ?_) (fun hc => ?_) | with_reducible refine wq_blk_o rfl ?_ | (refine redi (fun hc => ?_) (fun hc => ?_) <;> try first | (exfalso; omega) | with_reducible first | exact absurd rfl hc | exact absurd hc Bool.false_ne_true | exact absurd hc Bool.false_ne_true.symm) | fail)
          refine redc (fun r => ?_) ⟨trivial⟩
          cases hC : compS a ts ts with
          | none =>
            simp only [Option.getD_none, Option.isSome_none, Option.getD_some, Option.isSome_some]
            repeat' (first | refine red ?_ | refine redf fun hbi => ?_ | refine reds ?_ | (refine redc fun r => ?_; try have hr := Subtype.property r) | refine redp (fun r => ?_) (fun r => ?_) | refine redv fun sv => ?_ | refine redn fun b => ?_ | refine redz fun zs => ?_ | refine redq (fun hc => ?_) (fun hc => ?_) | with_reducible refine wq_blk_o rfl ?_ | (refine redi (fun hc => ?_) (fun hc => ?_) <;> try first | (exfalso; omega) | with_reducible first | exact absurd rfl hc | exact absurd hc Bool.false_ne_true | exact absurd hc Bool.false_ne_true.symm) | fail)
            refine redc (fun r => ?_) ⟨trivial⟩
            have key : (compS a ts us).isSome = true → fillS a ((compS a ts us).getD []) s = some x' := fun h => by
              obtain ⟨bo, hb⟩ := Option.isSome_iff_exists.1 h
              rw [hb]
              exact law_both hU hX hY hb
            generalize (compS a ts us).isSome = fi at key ⊢
            generalize (compS a ts us).getD [] = bo at key ⊢
            repeat' (first | refine red ?_ | refine redf fun hbi => ?_ | refine reds ?_ | (refine redc fun r => ?_; try have hr := Subtype.property r) | refine redp (fun r => ?_) (fun r => ?_) | refine redv fun sv => ?_ | refine redn fun b => ?_ | refine redz fun zs => ?_ | refine redq (fun hc => ?_) (fun hc => ?_) | with_reducible refine wq_blk_o rfl ?_ | (refine redi (fun hc => ?_) (fun hc => ?_) <;> try first | (exfalso; omega) | with_reducible first | exact absurd rfl hc | exact absurd hc Bool.false_ne_true | exact absurd hc Bool.false_ne_true.symm) | fail)
            refine redc (fun r => ?_) ⟨trivial⟩
            generalize fillS a bo s = F at key ⊢
            repeat' (first | refine red ?_ | refine redf fun hbi => ?_ | refine reds ?_ | (refine redc fun r => ?_; try have hr := Subtype.property r) | refine redp (fun r => ?_) (fun r => ?_) | refine redv fun sv => ?_ | refine redn fun b => ?_ | refine redz fun zs => ?_ | refine redq (fun hc => ?_) (fun hc => ?_) | with_reducible refine wq_blk_o rfl ?_ | (refine redi (fun hc => ?_) (fun hc => ?_) <;> try first | (exfalso; omega) | with_reducible first | exact absurd rfl hc | exact absurd hc Bool.false_ne_true | exact absurd hc Bool.false_ne_true.symm) | fail)
            · exact ⟨(), rfl, ent_e⟩
            · exact ⟨(), ret_bool (by rw [key ‹fi = true›]; simp), ent_e⟩
            · rw [key ‹fi = true›] at hc; cases hc
          | some ag =>
            obtain rfl := (law_twice hU hC).symm
            simp only [Option.getD_none, Option.isSome_none, Option.getD_some, Option.isSome_some]
            repeat' (first | refine red ?_ | refine redf fun hbi => ?_ | refine reds ?_ | (refine redc fun r => ?_; try have hr := Subtype.property r) | refine redp (fun r => ?_) (fun r => ?_) | refine redv fun sv => ?_ | refine redn fun b => ?_ | refine redz fun zs => ?_ | refine redq (fun hc => ?_) (fun hc => ?_) | with_reducible refine wq_blk_o rfl ?_ | (refine redi (fun hc => ?_) (fun hc => ?_) <;> try first | (exfalso; omega) | with_reducible first | exact absurd rfl hc | exact absurd hc Bool.false_ne_true | exact absurd hc Bool.false_ne_true.symm) | fail)
            refine redc (fun r => ?_) ⟨trivial⟩
            have key : (compS a ts us).isSome = true → fillS a ((compS a ts us).getD []) s = some x' := fun h => by
              obtain ⟨bo, hb⟩ := Option.isSome_iff_exists.1 h
              rw [hb]
              exact law_both hU hX hY hb
            generalize (compS a ts us).isSome = fi at key ⊢
            generalize (compS a ts us).getD [] = bo at key ⊢
            repeat' (first | refine red ?_ | refine redf fun hbi => ?_ | refine reds ?_ | (refine redc fun r => ?_; try have hr := Subtype.property r) | refine redp (fun r => ?_) (fun r => ?_) | refine redv fun sv => ?_ | refine redn fun b => ?_ | refine redz fun zs => ?_ | refine redq (fun hc => ?_) (fun hc => ?_) | with_reducible refine wq_blk_o rfl ?_ | (refine redi (fun hc => ?_) (fun hc => ?_) <;> try first | (exfalso; omega) | with_reducible first | exact absurd rfl hc | exact absurd hc Bool.false_ne_true | exact absurd hc Bool.false_ne_true.symm) | fail)
            refine redc (fun r => ?_) ⟨trivial⟩
            generalize fillS a bo s = F at key ⊢
            repeat' (first | refine red ?_ | refine redf fun hbi => ?_ | refine reds ?_ | (refine redc fun r => ?_; try have hr := Subtype.property r) | refine redp (fun r => ?_) (fun r => ?_) | refine redv fun sv => ?_ | refine redn fun b => ?_ | refine redz fun zs => ?_ | refine redq (fun hc => ?_) (fun hc => ?_) | with_reducible refine wq_blk_o rfl ?_ | (refine redi (fun hc => ?_) (fun hc => ?_) <;> try first | (exfalso; omega) | with_reducible first | exact absurd rfl hc | exact absurd hc Bool.false_ne_true | exact absurd hc Bool.false_ne_true.symm) | fail)
            · exact ⟨(), rfl, ent_e⟩
            · exact ⟨(), ret_bool (by rw [key ‹fi = true›]; simp), ent_e⟩
            · rw [key ‹fi = true›] at hc; cases hc
        · simp only [Option.getD_some, Option.isSome_some]
          repeat' (first | refine red ?_ | refine redf fun hbi => ?_ | refine reds ?_ | (refine redc fun r => ?_; try have hr := Subtype.property r) | refine redp (fun r => ?_) (fun r => ?_) | refine redv fun sv => ?_ | refine redn fun b => ?_ | refine redz fun zs => ?_ | refine redq (fun hc => ?_) (fun hc => ?_) | with_reducible refine wq_blk_o rfl ?_ | (refine redi (fun hc => ?_) (fun hc => ?_) <;> try first | (exfalso; omega) | with_reducible first | exact absurd rfl hc | exact absurd hc Bool.false_ne_true | exact absurd hc Bool.false_ne_true.symm) | fail)
          · exact absurd ‹x' = y'› hxy
          refine redc (fun r => ?_) ⟨trivial⟩
          rw [hx]
          simp only [Option.getD_some, Option.isSome_some]
          repeat' (first | refine red ?_ | refine redf fun hbi => ?_ | refine reds ?_ | (refine redc fun r => ?_; try have hr := Subtype.property r) | refine redp (fun r => ?_) (fun r => ?_) | refine redv fun sv => ?_ | refine redn fun b => ?_ | refine redz fun zs => ?_ | refine redq (fun hc => ?_) (fun hc => ?_) | with_reducible refine wq_blk_o rfl ?_ | (refine redi (fun hc => ?_) (fun hc => ?_) <;> try first | (exfalso; omega) | with_reducible first | exact absurd rfl hc | exact absurd hc Bool.false_ne_true | exact absurd hc Bool.false_ne_true.symm) | fail)
          refine redc (fun r => ?_) ⟨trivial⟩
          rw [hy]
          simp only [Option.getD_some, Option.isSome_some]
          repeat' (first | refine red ?_ | refine redf fun hbi => ?_ | refine reds ?_ | (refine redc fun r => ?_; try have hr := Subtype.property r) | refine redp (fun r => ?_) (fun r => ?_) | refine redv fun sv => ?_ | refine redn fun b => ?_ | refine redz fun zs => ?_ | refine redq (fun hc => ?_) (fun hc => ?_) | with_reducible refine wq_blk_o rfl ?_ | (refine redi (fun hc => ?_) (fun hc => ?_) <;> try first | (exfalso; omega) | with_reducible first | exact absurd rfl hc | exact absurd hc Bool.false_ne_true | exact absurd hc Bool.false_ne_true.symm) | fail)
          refine redc (fun r => ?_) ⟨trivial⟩
          cases hC : compS a ts ts with
          | none =>
            simp only [Option.getD_none, Option.isSome_none, Option.getD_some, Option.isSome_some]
            repeat' (first | refine red ?_ | refine redf fun hbi => ?_ | refine reds ?_ | (refine redc fun r => ?_; try have hr := Subtype.property r) | refine redp (fun r => ?_) (fun r => ?_) | refine redv fun sv => ?_ | refine redn fun b => ?_ | refine redz fun zs => ?_ | refine redq (fun hc => ?_) (fun hc => ?_) | with_reducible refine wq_blk_o rfl ?_ | (refine redi (fun hc => ?_) (fun hc => ?_) <;> try first | (exfalso; omega) | with_reducible first | exact absurd rfl hc | exact absurd hc Bool.false_ne_true | exact absurd hc Bool.false_ne_true.symm) | fail)
            all_goals first
              | (rw [hsw]; exact ⟨(), rfl, ent_e⟩)
              | exact absurd (‹x' = y'›) hxy
          | some ag =>
            obtain rfl := (law_twice hU hC).symm
            simp only [Option.getD_none, Option.isSome_none, Option.getD_some, Option.isSome_some]
            repeat' (first | refine red ?_ | refine redf fun hbi => ?_ | refine reds ?_ | (refine redc fun r => ?_; try have hr := Subtype.property r) | refine redp (fun r => ?_) (fun r => ?_) | refine redv fun sv => ?_ | refine redn fun b => ?_ | refine redz fun zs => ?_ | refine redq (fun hc => ?_) (fun hc => ?_) | with_reducible refine wq_blk_o rfl ?_ | (refine redi (fun hc => ?_) (fun hc => ?_) <;> try first | (exfalso; omega) | with_reducible first | exact absurd rfl hc | exact absurd hc Bool.false_ne_true | exact absurd hc Bool.false_ne_true.symm) | fail)
            all_goals first
              | (rw [hsw]; exact ⟨(), rfl, ent_e⟩)
              | exact absurd (‹x' = y'›) hxy
instance FnUnified_ctr {Γ : List Atom} {v : Value} {code : List UInt8} [hv : HasRd (List UInt8) repList Γ [v] code] :
    CtrC Try.prog 7 [v] Γ (True) (Unit) (fun _ : Unit => .bool true) (fun _ => Γ) := ⟨fun s w0 => FnUnified_spec⟩

theorem FnUnified_law {w0 : World} {Γ : List Atom} {x0 : List UInt8} {v0_0 : Value} [h0_0 : HasRd (List UInt8) repList Γ [v0_0] x0] (hf0 : x0.length ≤ 9223372036854775807) :
    CJ Try.prog 7 [v0_0] w0 Γ (fun _ : Unit => .bool true) (fun _ => Γ) := FnUnified_spec
end Go.Proofs.Ytcpfcnjchlbapaa
