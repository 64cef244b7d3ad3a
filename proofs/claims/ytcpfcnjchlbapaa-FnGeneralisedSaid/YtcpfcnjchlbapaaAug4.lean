/- What two terms have in common: what the law asks for; no program in sight. -/
import Derived.Test.YtcpfcnjchlbapaaGenI
import Derived.Test.YtcpfcnjchlbapaaMat
import Derived.Test.YtcpfcnjchlbapaaL02m
namespace Go.Proofs.Ytcpfcnjchlbapaa
open Go Go.Eng
set_option linter.unusedVariables false
set_option linter.unusedSimpArgs false

theorem pigeon : ∀ (n : Nat) (l : List Int), l.Nodup → (∀ x ∈ l, -(n : Int) ≤ x ∧ x < 0) → l.length ≤ n
  | 0, l, _, h => by
    cases l with
    | nil => exact Nat.le_refl _
    | cons x xs => have := h x (by simp); omega
  | n + 1, l, hd, h => by
    by_cases hm : (-((n : Int) + 1)) ∈ l
    · have h1 := pigeon n (l.erase (-((n : Int) + 1))) (hd.erase _) (fun x hx => by
        obtain ⟨h2, h3⟩ := (hd.mem_erase_iff).1 hx
        have := h x h3
        omega)
      have h2 := List.length_erase_of_mem hm
      have : 1 ≤ l.length := List.length_pos_of_mem hm
      omega
    · have h1 := pigeon n l hd (fun x hx => by
        have h2 := h x hx
        refine ⟨?_, h2.2⟩
        by_cases e : x = -((n : Int) + 1)
        · rw [e] at hx; exact absurd hx hm
        · omega)
      omega
theorem ordIs {t : List Int} {n : Int} : ∀ m, n ∈ ordTo t m → n < 0 ∧ ∃ k, k < m ∧ t.getD k 0 = n
  | 0, h => by cases h
  | m + 1, h => by
    unfold ordTo at h
    split at h
    · rename_i hc
      rcases List.mem_append.1 h with h1 | h1
      · obtain ⟨a1, k, a2, a3⟩ := ordIs m h1
        exact ⟨a1, k, by omega, a3⟩
      · rw [List.mem_singleton] at h1
        exact ⟨h1 ▸ hc.1, m, by omega, h1.symm⟩
    · obtain ⟨a1, k, a2, a3⟩ := ordIs m h
      exact ⟨a1, k, by omega, a3⟩
theorem skpMap {a : List Int} {g : Int → Int} : ∀ (l : List Int) (m : Nat), (∀ n ∈ l, badS a n = false → badS a (g n) = false ∧ ar a (g n) = ar a n) → Frst a l m → Frst a (l.map g) m
  | [], 0, _, _ => fr_nil
  | x :: xs, 0, _, e => absurd (fr_zero e) (by simp)
  | [], m + 1, _, e => absurd e fr_ne
  | x :: xs, m + 1, h, e => by
    obtain ⟨hb, e1⟩ := fr_cons e
    obtain ⟨h1, h2⟩ := h x (by simp) hb
    rw [List.map_cons]
    exact fr_cons' h1 (by rw [h2]; exact skpMap xs _ (fun n hn => h n (List.mem_cons_of_mem _ hn)) e1)
theorem ren_ok {a t : List Int} (h : termOk a t = true) : termOk a (renOf t) = true := by
  have hl := termOk_len h
  have h24 : (ordTo t t.length).length ≤ 24 := pigeon 24 _ (ordTo_nodup t _) fun x hx => by
    obtain ⟨h1, k, h2, h3⟩ := ordIs _ hx
    have := (termOk_get h h2).1
    rw [h3] at this
    omega
  refine ok_tm (termOk_sig h) ?_ (by unfold renOf; rw [List.length_map]; exact hl.2)
  refine skpMap t 1 (fun n hn hb => ?_) (tm_ok h)
  unfold rn
  by_cases hc : n < 0 ∧ n ∈ ordTo t t.length
  · have := List.idxOf_lt_length_of_mem hc.2
    rw [if_pos hc, ar_var hc.1, ar_var (by omega)]
    refine ⟨?_, rfl⟩
    unfold badS
    rw [decide_eq_false_iff_not]
    omega
  · rw [if_neg hc]; exact ⟨hb, rfl⟩
theorem genS_ne {a s t : List Int} (h : genS a s t ≠ []) : termOk a s = true ∧ termOk a t = true ∧ (gw a 1 s t []).2.length ≤ 24 ∧ genS a s t = (gw a 1 s t []).1 := by
  unfold genS at h ⊢
  split at h
  · rename_i hc
    unfold genOf at h ⊢
    split at h
    · rename_i hl
      rw [if_pos hc, if_pos hl]
      exact ⟨hc.1, hc.2, hl, rfl⟩
    · exact absurd rfl h
  · exact absurd rfl h
theorem genS_ok {a s t : List Int} (h : genS a s t ≠ []) : termOk a (genS a s t) = true := by
  obtain ⟨h1, h2, h3, h4⟩ := genS_ne h
  rw [h4]
  exact ok_tm (termOk_sig h1) (gw_fo (tm_ok h1) (tm_ok h2) [] h3) (by have := gw_len (tm_ok h1) (tm_ok h2) []; have := termOk_len h1; omega)
theorem law_gi {a s t : List Int} (h : genS a s t ≠ []) : instanceIn a (genS a s t) s = true ∧ instanceIn a (genS a s t) t = true := by
  have hok := genS_ok h
  obtain ⟨h1, h2, h3, h4⟩ := genS_ne h
  have hp := gw_ptm (tm_ok h1) (tm_ok h2) [] (fun p hp => absurd hp List.not_mem_nil)
  obtain ⟨h5, h6⟩ := gw_fst (tm_ok h1) (tm_ok h2) [] (gw a 1 s t []).2 ⟨[], by simp⟩
  obtain ⟨h7, h8⟩ := sb_look hp
  rw [← h4] at h5 h6
  exact ⟨instanceIn_iff.2 ⟨hok, h1, _, h7, h5⟩, instanceIn_iff.2 ⟨hok, h2, _, h8, h6⟩⟩
theorem law_gs (a s t : List Int) : genS a t s = genS a s t := by
  by_cases hc : termOk a s = true ∧ termOk a t = true
  · have h := gw_sw (tm_ok hc.1) (tm_ok hc.2) []
    rw [List.map_nil] at h
    rw [genS_yes hc.1 hc.2, genS_yes hc.2 hc.1]
    unfold genOf
    rw [h, List.length_map]
  · unfold genS
    rw [if_neg hc, if_neg (fun h => hc ⟨h.2, h.1⟩)]
theorem law_gb {a s t p : List Int} (h : genS a s t ≠ []) (hs : instanceIn a p s = true) (ht : instanceIn a p t = true) : instanceIn a p (genS a s t) = true := by
  have hok := genS_ok h
  obtain ⟨h1, h2, h3, h4⟩ := genS_ne h
  obtain ⟨hp, _, α, hα, rfl⟩ := instanceIn_iff.1 hs
  obtain ⟨_, _, β, hβ, rfl⟩ := instanceIn_iff.1 ht
  have hpt := tm_ok hp
  obtain ⟨M, hM⟩ : ∃ M, M = (gw a 1 (fm α p) (fm β p) []).2 := ⟨_, rfl⟩
  have hst := gw_stay (tm_ok h1) (tm_ok h2) [] M ⟨[], by rw [hM]; simp⟩
  obtain ⟨h5, h6⟩ := gw_best hα hβ M p 1 hpt (by rw [hst])
  rw [hst] at h5
  have hM24 : M.length ≤ 24 := by rw [hM]; exact h3
  refine instanceIn_iff.2 ⟨hp, hok, fun m => if m < 0 ∧ m ∈ p then (gw a 1 (α m) (β m) M).1 else [m], ⟨fun n hn => if_neg (by omega), fun n h7 h8 => ?_⟩, ?_⟩
  · by_cases hm : n < 0 ∧ n ∈ p
    · rw [if_pos hm]
      exact gw_fo (hα.tm n h7 h8) (hβ.tm n h7 h8) M (by rw [h6 n hm.2 hm.1]; exact hM24)
    · rw [if_neg hm]; exact tm_var ⟨h7, h8⟩
  · rw [h4, h5]
    refine fm_congr fun n hn => ?_
    by_cases h0 : n < 0
    · rw [if_pos ⟨h0, hn⟩, if_pos h0]
    · rw [if_neg (fun h => h0 h.1), if_neg h0]
end Go.Proofs.Ytcpfcnjchlbapaa
