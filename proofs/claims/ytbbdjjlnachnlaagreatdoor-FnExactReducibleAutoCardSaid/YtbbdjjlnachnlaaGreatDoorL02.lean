/- Chapter 2: plain substitutions. -/
import Derived.Test.YtbbdjjlnachnlaaGreatDoorL01
namespace Go.Proofs.YtbbdjjlnachnlaaGreatDoor
open Go Go.Eng
set_option linter.unusedVariables false
set_option linter.unusedSimpArgs false

theorem plain_skip {ts : List (List Int)} {k : Nat} (hk : k < ts.length) (h : ts.getD k default = [] ∨ ts.getD k default = [-1 - (k : Int)]) : strip (trivL 0 (ts.take (k + 1))) = strip (trivL 0 (ts.take k)) := by
  rw [trivL_take (get_lt hk)]
  have : triv k (ts.getD k default) = [] := by unfold triv; rw [if_pos h]
  rw [this, strip_snoc_nil]
theorem plain_put {ts : List (List Int)} {k : Nat} (hk : k < ts.length) (h : ¬ (ts.getD k default = [] ∨ ts.getD k default = [-1 - (k : Int)])) : strip (trivL 0 (ts.take (k + 1))) = trivL 0 (ts.take k) ++ [ts.getD k default] := by
  rw [trivL_take (get_lt hk)]
  have : triv k (ts.getD k default) = ts.getD k default := by unfold triv; rw [if_neg h]
  rw [this, strip_snoc]
  intro e; exact h (.inl e)
theorem plain_pad {ts : List (List Int)} {k j : Nat} (hk : k ≤ ts.length) (h : (strip (trivL 0 (ts.take k))).length + j = k) : strip (trivL 0 (ts.take k)) ++ List.replicate j [] = trivL 0 (ts.take k) := by
  have := strip_pad (trivL 0 (ts.take k))
  rw [trivL_len, List.length_take, Nat.min_eq_left hk, show k - (strip (trivL 0 (ts.take k))).length = j by omega] at this
  exact this
theorem strip_take_len (ts : List (List Int)) (k : Nat) : (strip (trivL 0 (ts.take k))).length ≤ k := by
  have := strip_len_le (trivL 0 (ts.take k))
  rw [trivL_len, List.length_take] at this
  omega

def gives (ts : List (List Int)) (i : Nat) : List Int := if i < ts.length ∧ 0 < (ts.getD i default).length then ts.getD i default else [-1 - (i : Int)]
theorem gives_len {ts : List (List Int)} {i : Nat} (hl : ∀ t ∈ ts, t.length ≤ 60) : 1 ≤ (gives ts i).length ∧ (gives ts i).length ≤ 60 := by
  unfold gives
  split
  · rename_i h
    exact ⟨h.2, hl _ (by rw [List.getD_eq_getElem?_getD, List.getElem?_eq_getElem h.1]; exact List.getElem_mem h.1)⟩
  · simp
theorem mem_getD {ts : List (List Int)} {i : Nat} (h : i < ts.length) : ts.getD i default ∈ ts := by
  rw [List.getD_eq_getElem?_getD, List.getElem?_eq_getElem h]; exact List.getElem_mem h
theorem l2Gives_spec {w0 : World} {Γ : List Atom} {v : Value} {ts : List (List Int)} {i : Int} {m : Nat} [hm : ToN i m] [h : HasRd (List (List Int)) repList Γ [v] ts] (hi : 0 ≤ i ∧ i ≤ 1048576) (hl : ∀ t ∈ ts, t.length ≤ 60) :
    CJ Tryz.prog 127 [.agg #[v], .int .i64 i] w0 Γ (fun p : Value => p) (fun p => .ow [p] (gives ts m) :: Γ) := by
  refine cj_lift (R := [.rd [v] ts]) (A := fun p => [.ow [p] (gives ts m)]) (fun w1 => ?_) (reads_cons h inferInstance) (fun _ => inferInstance)
  simp only [List.cons_append, List.nil_append]
  obtain rfl : i = (m : Int) := by have := hm.eq; omega
  refine cj_len v fun hlx => ?_
  have hle : m < ts.length → (ts.getD m default).length ≤ 60 := fun h => hl _ (mem_getD h)
  refine cj_enter Tryz.func127 Tryz.ntmps127 ?_
  repeat' (first | refine red ?_ | refine reds ?_ | refine redc fun r => ?_ | refine redv fun sv => ?_ | refine redn fun b => ?_ | (refine redd fun p cs as_ hcs has hf => ?_; simp only [Un.cells, Un.atoms, Un.fact, List.cons_append, List.nil_append] at hcs has hf; subst hcs has) | (refine redi (fun hc => ?_) (fun hc => ?_) <;> try first | (exfalso; omega) | exact absurd rfl hc) | fail)
  · rw [show gives ts m = ts.getD m default from if_pos (by omega)]
    exact ⟨_, rfl, ent_e⟩
  · rw [show gives ts m = [-1 - (m : Int)] from if_neg (by omega)]
    exact ⟨_, rfl, ent_e⟩
  · rw [show gives ts m = [-1 - (m : Int)] from if_neg (by omega)]
    exact ⟨_, rfl, ent_e⟩

instance l2Gives_ctr {Γ : List Atom} {v : Value} {ts : List (List Int)} {i : Int} {m : Nat} [hm : ToN i m] [h : HasRd (List (List Int)) repList Γ [v] ts] :
    CtrC Tryz.prog 127 [.agg #[v], .int .i64 i] Γ ((0 ≤ i ∧ i ≤ 1048576) ∧ (∀ t ∈ ts, t.length ≤ 60)) (Value) (fun p : Value => p) (fun p => .ow [p] (gives ts m) :: Γ) := ⟨fun s w0 => l2Gives_spec s.1 s.2⟩

theorem gives_triv {ts : List (List Int)} {i : Nat} (h : i < ts.length) : triv i (ts.getD i default) = if (gives ts i).length = 1 ∧ (gives ts i).getD 0 0 = -1 - (i : Int) then [] else gives ts i := by
  unfold triv gives
  generalize ts.getD i default = x
  simp only [h, true_and]
  match x with
  | [] => simp
  | [a] => by_cases ha : a = -1 - (i : Int) <;> simp [ha]
  | a :: b :: t => simp

theorem l2Plain_spec {w0 : World} {Γ : List Atom} {v : Value} {ts : List (List Int)} [h : HasRd (List (List Int)) repList Γ [v] ts] (hn : ts.length ≤ 48) (hl : ∀ t ∈ ts, t.length ≤ 60) :
    CJ Tryz.prog 152 [.agg #[v]] w0 Γ (fun p : Value => .agg #[p]) (fun p => .ow [p] (plainOf ts) :: Γ) := by
  refine cj_lift (R := [.rd [v] ts]) (A := fun p => [.ow [p] (plainOf ts)]) (fun w1 => ?_) (reads_cons h inferInstance) (fun _ => inferInstance)
  simp only [List.cons_append, List.nil_append]
  refine cj_enter Tryz.func152 Tryz.ntmps152 ?_
  repeat' (first | refine red ?_ | refine redn fun b => ?_ | fail)
  refine wc_loop_p [4] [7, 8, 9, 10, 11, 14, 15, 16, 5, 17, 18, 19, 20, 21, 22, 23, 24, 25, 26, 27, 28, 29, 30, 31, 32, 33, 34, 12, 13] (ι := Nat × Value) (fun k => [.int .i64 k.1]) (fun k => [.bk b [k.2], .ow [k.2] (trivL 0 (ts.take k.1))]) (fun k => k.1 ≤ ts.length) (fun k => ts.length - k.1) (0, .slice none 0 0) [.bk b [.slice none 0 0], .ow [.slice none 0 0] ([] : List (List Int))] (by kernel_rfl) (Nat.zero_le _) rfl ?_
  intro ⟨k, sw⟩ u l' hl' hk
  simp only [patch, List.map_cons, List.map_nil, List.set_cons_zero, List.set_cons_succ] at hl'
  subst hl'
  simp only [List.cons_append, List.nil_append] at hk ⊢
  have hg := gives_len (ts := ts) (i := k) hl
  have htl := trivL_len 0 (ts.take k)
  have htk := List.length_take (i := k) (l := ts)
  repeat' (first | refine red ?_ | refine redf fun hbi => ?_ | refine reds ?_ | refine redc fun r => ?_ | refine redv fun sv => ?_ | (refine redi (fun hc => ?_) (fun hc => ?_) <;> try first | (exfalso; omega) | exact absurd rfl hc) | fail)
  · have e : trivL 0 (ts.take k) ++ [[]] = trivL 0 (ts.take (k + 1)) := by
      rw [trivL_take (get_lt (by omega)), gives_triv (by omega), if_pos ⟨by omega, hc⟩]
    rw [e]
    exact wq_next (k + 1, sv) (by simp only; omega) (by simp only; omega) (by kernel_rfl) ent_e
  · have e : trivL 0 (ts.take k) ++ [gives ts k] = trivL 0 (ts.take (k + 1)) := by
      rw [trivL_take (get_lt (by omega)), gives_triv (by omega), if_neg (fun h => hc h.2)]
    rw [e]
    exact wq_next (k + 1, sv) (by simp only; omega) (by simp only; omega) (by kernel_rfl) ent_e
  · have e : trivL 0 (ts.take k) ++ [gives ts k] = trivL 0 (ts.take (k + 1)) := by
      rw [trivL_take (get_lt (by omega)), gives_triv (by omega), if_neg (fun h => by omega)]
    rw [e]
    exact wq_next (k + 1, sv) (by simp only; omega) (by simp only; omega) (by kernel_rfl) ent_e
  rw [List.take_of_length_le (by omega)] at htl ⊢
  refine wc_loop_p [] [35, 36, 37, 38, 39, 40, 41, 42, 43, 44, 45, 46, 47, 48, 49, 50, 51, 52, 53, 54, 55, 56, 57, 58] (ι := Nat × Value) (fun _ => []) (fun j => [.bk b [j.2], .ow [j.2] ((trivL 0 ts).take j.1)]) (fun j => j.1 ≤ ts.length ∧ strip ((trivL 0 ts).take j.1) = strip (trivL 0 ts)) (fun j => j.1) (ts.length, sw) [.bk b [sw], .ow [sw] (trivL 0 ts)] (by kernel_rfl) ⟨Nat.le_refl _, by rw [List.take_of_length_le (by omega)]⟩ (by simp only; rw [List.take_of_length_le (by omega)]) ?_
  intro ⟨j, sx⟩ u l' hl' ⟨hj, hst⟩
  simp only [patch, List.map_cons, List.map_nil, List.set_cons_zero, List.set_cons_succ] at hl'
  subst hl'
  simp only [List.cons_append, List.nil_append] at hj hst ⊢
  have hjl : ((trivL 0 ts).take j).length = j := by rw [List.length_take]; omega
  have hlast : 0 < j → ((trivL 0 ts).take j).getD (j - 1) default = (trivL 0 ts).getD (j - 1) [] := fun h => by
    rw [List.getD_eq_getElem?_getD, List.getD_eq_getElem?_getD, List.getElem?_take, if_pos (by omega)]; rfl
  have htake : ((trivL 0 ts).take j).take (j - 1) = (trivL 0 ts).take (j - 1) := by rw [List.take_take]; congr 1; omega
  have hs1 : 0 < j → (trivL 0 ts).getD (j - 1) [] = [] → strip ((trivL 0 ts).take (j - 1)) = strip (trivL 0 ts) := fun h h' => by
    rw [← hst, ← strip_take_last (by omega) h', show j - 1 + 1 = j by omega]
  have hs2 : 0 < j → (trivL 0 ts).getD (j - 1) [] ≠ [] → strip (trivL 0 ts) = (trivL 0 ts).take j := fun h h' => by
    have := strip_take_full (j := j - 1) (by omega) h'
    rw [show j - 1 + 1 = j by omega, hst] at this
    exact this
  repeat' (first | refine red ?_ | refine reds ?_ | refine redl fun qa qc => ?_ | refine redv fun sv => ?_ | (refine redi (fun hc => ?_) (fun hc => ?_) <;> try first | (exfalso; omega) | exact absurd rfl hc) | fail)
  · rw [hjl, hlast (by omega)] at hc
    have h1 := hs1 (by omega) (List.eq_nil_of_length_eq_zero (by omega))
    rw [hjl, htake]
    exact wq_next (j - 1, sv) ⟨by simp only; omega, h1⟩ (by simp only; omega) (by kernel_rfl) ent_e
  · rw [hjl, hlast (by omega)] at hc
    have h1 := hs2 (by omega) (fun h => hc (by rw [h]; rfl))
    unfold plainOf
    rw [h1]
    exact ⟨_, rfl, ent_e⟩
  · have h1 : (trivL 0 ts).take j = plainOf ts := by
      unfold plainOf
      have hz : j = 0 := by omega
      rw [← hst, hz]; rfl
    rw [h1]
    exact ⟨_, rfl, ent_e⟩
instance l2Plain_ctr {Γ : List Atom} {v : Value} {ts : List (List Int)} [h : HasRd (List (List Int)) repList Γ [v] ts] :
    CtrC Tryz.prog 152 [.agg #[v]] Γ ((ts.length ≤ 48) ∧ (∀ t ∈ ts, t.length ≤ 60)) (Value) (fun p : Value => .agg #[p]) (fun p => .ow [p] (plainOf ts) :: Γ) := ⟨fun s w0 => l2Plain_spec s.1 s.2⟩

end Go.Proofs.YtbbdjjlnachnlaaGreatDoor
