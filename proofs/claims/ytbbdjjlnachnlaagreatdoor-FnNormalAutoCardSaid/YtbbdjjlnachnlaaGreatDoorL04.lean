/- Draws: terms, bent ones, substitutions. -/
import Derived.Test.YtbbdjjlnachnlaaGreatDoorDraw
import Derived.Test.YtbbdjjlnachnlaaGreatDoorL01
namespace Go.Proofs.YtbbdjjlnachnlaaGreatDoor
open Go Go.Eng
set_option linter.unusedVariables false
set_option linter.unusedSimpArgs false
set_option synthInstance.maxHeartbeats 400000
set_option synthInstance.maxSize 1000

theorem l1DrawAny_spec {w0 : World} {Γ Δ : List Atom} {bc : Nat} {vb va : Value} {code : List UInt8} {p : CurS code} {a : List Int} [hb : PullBk Γ bc (cur vb p) Δ] [hv : HasRd (List UInt8) repList Δ [vb] code] [ha : HasRd (List Int) repList Δ [va] a] :
    CJ Tryz.prog 71 [.pointer (some ⟨bc, 0, none⟩), .agg #[va]] w0 Γ (fun q : { q : Value × List Int × CurS code // q.2.1.length ≤ 41 } => q.1.1) (fun q => .rd [q.1.1] q.1.2.1 :: .bk bc (cur vb q.1.2.2) :: Δ) := by
  refine cj_perm hb.perm ?_
  refine cj_len va fun hla => ?_
  refine cj_enter Tryz.func71 Tryz.ntmps71 ?_
  repeat' (first | refine red ?_ | refine reds ?_ | (refine redc fun r => ?_; try have hr := Subtype.property r) | refine redv fun sv => ?_ | refine redn fun b => ?_ | (refine redi (fun hc => ?_) (fun hc => ?_) <;> try first | (exfalso; omega) | exact absurd rfl hc) | ((refine wa_beginc 3 [false, false, false, false, false, false, false] [] ?_ <;> refine wa_p 0 ?_ <;> refine wa_p 1 ?_ <;> refine wa_p 2 ?_ <;> (refine wa_do 3 ?_ <;> (repeat' (first | refine red ?_ | (refine redc fun r => ?_; try have hr := Subtype.property r) | fail))) <;> (first | refine wa_p 4 ?_ | fail) <;> (refine wa_do 5 ?_ <;> (repeat' (first | refine red ?_ | (refine redc fun r => ?_; try have hr := Subtype.property r) | fail))) <;> refine wa_p 6 ?_) <;> (refine wa_end ?_)) | fail)
  · exact ⟨⟨(sv, [r.1.1], r.1.2), by simp⟩, rfl, ent_rd sv ent_e⟩
  · exact ⟨⟨(sv, [r.1.1], r.1.2), by simp⟩, rfl, ent_rd sv ent_e⟩
  · rename_i r1 hr1 _ _ _ _ _
    exact ⟨⟨(sv, r1.1.2.1 ++ [r.1.1], r.1.2), by simp only [List.length_append, List.length_cons, List.length_nil]; omega⟩, rfl, ent_rd sv ent_e⟩
  · rename_i r1 hr1 _ _ _ _ _ r2 _
    exact ⟨⟨(r1.1.1, r1.1.2.1.set r2.1.1.toNat r.1.1, r.1.2), by simp only [List.length_set]; omega⟩, rfl, ent_rd r1.1.1 ent_e⟩
  · rename_i r1 hr1 _ _ _ _
    refine wl_share r1.1.1 ?_
    repeat' (first | refine red ?_ | refine redv fun sv => ?_ | fail)
    exact ⟨⟨(sv, r1.1.2.1.drop 1, r.1.2), by simp only [List.length_drop]; omega⟩, rfl, ent_e⟩
  · rename_i r1 hr1 _ _ _ _ _ _ _ _
    exact ⟨⟨(sv, r1.1.2.1 ++ [r.1.1], r.1.2), by simp only [List.length_append, List.length_cons, List.length_nil]; omega⟩, rfl, ent_rd sv ent_e⟩
  · rename_i r1
    exact ⟨⟨(r1.1.1, r1.1.2.1, r.2), by simp only; omega⟩, rfl, ent_rd r1.1.1 ent_e⟩

instance l1DrawAny_ctr {Γ Δ : List Atom} {bc : Nat} {vb va : Value} {code : List UInt8} {p : CurS code} {a : List Int} [hb : PullBk Γ bc (cur vb p) Δ] [hv : HasRd (List UInt8) repList Δ [vb] code] [ha : HasRd (List Int) repList Δ [va] a] :
    CtrC Tryz.prog 71 [.pointer (some ⟨bc, 0, none⟩), .agg #[va]] Γ (True) ({ q : Value × List Int × CurS code // q.2.1.length ≤ 41 }) (fun q : { q : Value × List Int × CurS code // q.2.1.length ≤ 41 } => q.1.1) (fun q => .rd [q.1.1] q.1.2.1 :: .bk bc (cur vb q.1.2.2) :: Δ) := ⟨fun s w0 => l1DrawAny_spec⟩

/-! ### Substitutions -/
structure ShB (n : Nat) (ts : List (Sh (List Int))) : Prop where
  len : ts.length ≤ n
  el : ∀ x ∈ ts, x.v.length ≤ 41
theorem ShB.nil (n : Nat) : ShB n [] := ⟨Nat.zero_le _, fun x hx => by cases hx⟩
theorem ShB.snoc {n : Nat} {ts : List (Sh (List Int))} {t : List Int} (h : ShB n ts) (ht : t.length ≤ 41) : ShB (n + 1) (ts ++ [Sh.mk t]) := ⟨by
  have := h.len
  simp only [List.length_append, List.length_cons, List.length_nil]; omega, fun x hx => by
  rcases List.mem_append.1 hx with h1 | h1
  · exact h.el x h1
  · rw [List.mem_singleton] at h1
    rw [h1]; exact ht⟩
theorem ShB.mono {n m : Nat} {ts : List (Sh (List Int))} (h : ShB n ts) (hm : n ≤ m) : ShB m ts := ⟨Nat.le_trans h.len hm, h.el⟩
end Go.Proofs.YtbbdjjlnachnlaaGreatDoor
namespace Go.Proofs.YtbbdjjlnachnlaaGreatDoor
open Go Go.Eng
set_option linter.unusedVariables false
set_option linter.unusedSimpArgs false

def gives (ts : List (List Int)) (i : Nat) : List Int := if i < ts.length ∧ 0 < (ts.getD i default).length then ts.getD i default else [-1 - (i : Int)]
theorem gives_len {ts : List (List Int)} {i : Nat} (hl : ∀ t ∈ ts, t.length ≤ 60) : 1 ≤ (gives ts i).length ∧ (gives ts i).length ≤ 60 := by
  unfold gives
  split
  · rename_i h
    exact ⟨h.2, hl _ (by rw [List.getD_eq_getElem?_getD, List.getElem?_eq_getElem h.1]; exact List.getElem_mem h.1)⟩
  · simp
theorem mem_getD {ts : List (List Int)} {i : Nat} (h : i < ts.length) : ts.getD i default ∈ ts := by
  rw [List.getD_eq_getElem?_getD, List.getElem?_eq_getElem h]; exact List.getElem_mem h
theorem l2Gives_spec {w0 : World} {Γ : List Atom} {v : Value} {ts : List (List Int)} {i : Int} {m : Nat} [hm : ToN i m] [h : HasRd (List (List Int)) repList Γ [v] ts] (hi : 0 ≤ i ∧ i ≤ 1048576) (hl : ∀ t ∈ ts, t.length ≤ 60) :
    CJ Tryz.prog 127 [.agg #[v], .int .i64 i] w0 Γ (fun p : Value => p) (fun p => .ow [p] (gives ts m) :: Γ) := by
  refine cj_lift (R := [.rd [v] ts]) (A := fun p => [.ow [p] (gives ts m)]) (fun w1 => ?_) (reads_cons h inferInstance) (fun _ => inferInstance)
  simp only [List.cons_append, List.nil_append]
  obtain rfl : i = (m : Int) := by have := hm.eq; omega
  refine cj_len v fun hlx => ?_
  have hle : m < ts.length → (ts.getD m default).length ≤ 60 := fun h => hl _ (mem_getD h)
  refine cj_enter Tryz.func127 Tryz.ntmps127 ?_
  repeat' (first | refine red ?_ | refine reds ?_ | refine redc fun r => ?_ | refine redv fun sv => ?_ | refine redn fun b => ?_ | (refine redd fun p cs as_ hcs has hf => ?_; simp only [Un.cells, Un.atoms, Un.fact, List.cons_append, List.nil_append] at hcs has hf; subst hcs has) | (refine redi (fun hc => ?_) (fun hc => ?_) <;> try first | (exfalso; omega) | exact absurd rfl hc) | fail)
  · rw [show gives ts m = ts.getD m default from if_pos (by omega)]
    exact ⟨_, rfl, ent_e⟩
  · rw [show gives ts m = [-1 - (m : Int)] from if_neg (by omega)]
    exact ⟨_, rfl, ent_e⟩
  · rw [show gives ts m = [-1 - (m : Int)] from if_neg (by omega)]
    exact ⟨_, rfl, ent_e⟩

instance l2Gives_ctr {Γ : List Atom} {v : Value} {ts : List (List Int)} {i : Int} {m : Nat} [hm : ToN i m] [h : HasRd (List (List Int)) repList Γ [v] ts] :
    CtrC Tryz.prog 127 [.agg #[v], .int .i64 i] Γ ((0 ≤ i ∧ i ≤ 1048576) ∧ (∀ t ∈ ts, t.length ≤ 60)) (Value) (fun p : Value => p) (fun p => .ow [p] (gives ts m) :: Γ) := ⟨fun s w0 => l2Gives_spec s.1 s.2⟩

theorem gives_triv {ts : List (List Int)} {i : Nat} (h : i < ts.length) : triv i (ts.getD i default) = if (gives ts i).length = 1 ∧ (gives ts i).getD 0 0 = -1 - (i : Int) then [] else gives ts i := by
  unfold triv gives
  generalize ts.getD i default = x
  simp only [h, true_and]
  match x with
  | [] => simp
  | [a] => by_cases ha : a = -1 - (i : Int) <;> simp [ha]
  | a :: b :: t => simp

theorem l2Plain_spec {w0 : World} {Γ : List Atom} {v : Value} {ts : List (List Int)} [h : HasRd (List (List Int)) repList Γ [v] ts] (hn : ts.length ≤ 48) (hl : ∀ t ∈ ts, t.length ≤ 60) :
    CJ Tryz.prog 152 [.agg #[v]] w0 Γ (fun p : Value => .agg #[p]) (fun p => .ow [p] (plainOf ts) :: Γ) := by
  refine cj_lift (R := [.rd [v] ts]) (A := fun p => [.ow [p] (plainOf ts)]) (fun w1 => ?_) (reads_cons h inferInstance) (fun _ => inferInstance)
  simp only [List.cons_append, List.nil_append]
  refine cj_enter Tryz.func152 Tryz.ntmps152 ?_
  repeat' (first | refine red ?_ | refine redn fun b => ?_ | fail)
  refine wc_loop_p [4] [7, 8, 9, 10, 11, 14, 15, 16, 5, 17, 18, 19, 20, 21, 22, 23, 24, 25, 26, 27, 28, 29, 30, 31, 32, 33, 34, 12, 13] (ι := Nat × Value) (fun k => [.int .i64 k.1]) (fun k => [.bk b [k.2], .ow [k.2] (trivL 0 (ts.take k.1))]) (fun k => k.1 ≤ ts.length) (fun k => ts.length - k.1) (0, .slice none 0 0) [.bk b [.slice none 0 0], .ow [.slice none 0 0] ([] : List (List Int))] (by kernel_rfl) (Nat.zero_le _) rfl ?_
  intro ⟨k, sw⟩ u l' hl' hk
  simp only [patch, List.map_cons, List.map_nil, List.set_cons_zero, List.set_cons_succ] at hl'
  subst hl'
  simp only [List.cons_append, List.nil_append] at hk ⊢
  have hg := gives_len (ts := ts) (i := k) hl
  have htl := trivL_len 0 (ts.take k)
  have htk := List.length_take (i := k) (l := ts)
  repeat' (first | refine red ?_ | refine redf fun hbi => ?_ | refine reds ?_ | refine redc fun r => ?_ | refine redv fun sv => ?_ | (refine redi (fun hc => ?_) (fun hc => ?_) <;> try first | (exfalso; omega) | exact absurd rfl hc) | fail)
  · have e : trivL 0 (ts.take k) ++ [[]] = trivL 0 (ts.take (k + 1)) := by
      rw [trivL_take (get_lt (by omega)), gives_triv (by omega), if_pos ⟨by omega, hc⟩]
    rw [e]
    exact wq_next (k + 1, sv) (by simp only; omega) (by simp only; omega) (by kernel_rfl) ent_e
  · have e : trivL 0 (ts.take k) ++ [gives ts k] = trivL 0 (ts.take (k + 1)) := by
      rw [trivL_take (get_lt (by omega)), gives_triv (by omega), if_neg (fun h => hc h.2)]
    rw [e]
    exact wq_next (k + 1, sv) (by simp only; omega) (by simp only; omega) (by kernel_rfl) ent_e
  · have e : trivL 0 (ts.take k) ++ [gives ts k] = trivL 0 (ts.take (k + 1)) := by
      rw [trivL_take (get_lt (by omega)), gives_triv (by omega), if_neg (fun h => by omega)]
    rw [e]
    exact wq_next (k + 1, sv) (by simp only; omega) (by simp only; omega) (by kernel_rfl) ent_e
  rw [List.take_of_length_le (by omega)] at htl ⊢
  refine wc_loop_p [] [35, 36, 37, 38, 39, 40, 41, 42, 43, 44, 45, 46, 47, 48, 49, 50, 51, 52, 53, 54, 55, 56, 57, 58] (ι := Nat × Value) (fun _ => []) (fun j => [.bk b [j.2], .ow [j.2] ((trivL 0 ts).take j.1)]) (fun j => j.1 ≤ ts.length ∧ strip ((trivL 0 ts).take j.1) = strip (trivL 0 ts)) (fun j => j.1) (ts.length, sw) [.bk b [sw], .ow [sw] (trivL 0 ts)] (by kernel_rfl) ⟨Nat.le_refl _, by rw [List.take_of_length_le (by omega)]⟩ (by simp only; rw [List.take_of_length_le (by omega)]) ?_
  intro ⟨j, sx⟩ u l' hl' ⟨hj, hst⟩
  simp only [patch, List.map_cons, List.map_nil, List.set_cons_zero, List.set_cons_succ] at hl'
  subst hl'
  simp only [List.cons_append, List.nil_append] at hj hst ⊢
  have hjl : ((trivL 0 ts).take j).length = j := by rw [List.length_take]; omega
  have hlast : 0 < j → ((trivL 0 ts).take j).getD (j - 1) default = (trivL 0 ts).getD (j - 1) [] := fun h => by
    rw [List.getD_eq_getElem?_getD, List.getD_eq_getElem?_getD, List.getElem?_take, if_pos (by omega)]; rfl
  have htake : ((trivL 0 ts).take j).take (j - 1) = (trivL 0 ts).take (j - 1) := by rw [List.take_take]; congr 1; omega
  have hs1 : 0 < j → (trivL 0 ts).getD (j - 1) [] = [] → strip ((trivL 0 ts).take (j - 1)) = strip (trivL 0 ts) := fun h h' => by
    rw [← hst, ← strip_take_last (by omega) h', show j - 1 + 1 = j by omega]
  have hs2 : 0 < j → (trivL 0 ts).getD (j - 1) [] ≠ [] → strip (trivL 0 ts) = (trivL 0 ts).take j := fun h h' => by
    have := strip_take_full (j := j - 1) (by omega) h'
    rw [show j - 1 + 1 = j by omega, hst] at this
    exact this
  repeat' (first | refine red ?_ | refine reds ?_ | refine redl fun qa qc => ?_ | refine redv fun sv => ?_ | (refine redi (fun hc => ?_) (fun hc => ?_) <;> try first | (exfalso; omega) | exact absurd rfl hc) | fail)
  · rw [hjl, hlast (by omega)] at hc
    have h1 := hs1 (by omega) (List.eq_nil_of_length_eq_zero (by omega))
    rw [hjl, htake]
    exact wq_next (j - 1, sv) ⟨by simp only; omega, h1⟩ (by simp only; omega) (by kernel_rfl) ent_e
  · rw [hjl, hlast (by omega)] at hc
    have h1 := hs2 (by omega) (fun h => hc (by rw [h]; rfl))
    unfold plainOf
    rw [h1]
    exact ⟨_, rfl, ent_e⟩
  · have h1 : (trivL 0 ts).take j = plainOf ts := by
      unfold plainOf
      have hz : j = 0 := by omega
      rw [← hst, hz]; rfl
    rw [h1]
    exact ⟨_, rfl, ent_e⟩
instance l2Plain_ctr {Γ : List Atom} {v : Value} {ts : List (List Int)} [h : HasRd (List (List Int)) repList Γ [v] ts] :
    CtrC Tryz.prog 152 [.agg #[v]] Γ ((ts.length ≤ 48) ∧ (∀ t ∈ ts, t.length ≤ 60)) (Value) (fun p : Value => .agg #[p]) (fun p => .ow [p] (plainOf ts) :: Γ) := ⟨fun s w0 => l2Plain_spec s.1 s.2⟩

end Go.Proofs.YtbbdjjlnachnlaaGreatDoor
namespace Go.Proofs.YtbbdjjlnachnlaaGreatDoor
open Go Go.Eng
set_option linter.unusedVariables false
set_option linter.unusedSimpArgs false

theorem match_bound {a : List Int} : ∀ (p t : List Int) (b : List (List Int)) (ys : List (List Int)), matchGo a p t b = some ys → t.length ≤ 60 → (∀ x ∈ b, x.length ≤ 60) → ys.length = b.length ∧ ∀ x ∈ ys, x.length ≤ 60
  | [], t, b, ys, h, ht, hb => by simp only [matchGo, Option.some.injEq] at h; subst h; exact ⟨rfl, hb⟩
  | n :: p, [], b, ys, h, ht, hb => by simp [matchGo] at h
  | n :: p, x :: ts, b, ys, h, ht, hb => by
    have htl : ts.length ≤ 60 := by simp only [List.length_cons] at ht; omega
    simp only [matchGo] at h
    split at h
    · split at h
      · exact match_bound p ts b ys h htl hb
      · cases h
    · split at h
      · have := match_bound p _ _ ys h (by rw [List.length_drop]; omega) (fun y hy => by
          rcases List.mem_or_eq_of_mem_set hy with h | h
          · exact hb y h
          · rw [h, List.length_take]; omega)
        simpa using this
      · split at h
        · exact match_bound p _ b ys h (by rw [List.length_drop]; omega) hb
        · cases h
theorem rep_le : ∀ x ∈ List.replicate 24 ([] : List Int), x.length ≤ 60 := fun x hx => by rw [(List.mem_replicate.1 hx).2]; simp

theorem set_same' {xs : List (List Int)} {m : Nat} {x : List Int} (h : xs.getD m [] = x) (hm : m < xs.length) : xs.set m x = xs := by
  apply List.ext_getElem?
  intro i
  rw [List.getElem?_set]
  split
  · rename_i e; subst e
    try rw [if_pos hm]
    rw [List.getD_eq_getElem?_getD, List.getElem?_eq_getElem hm] at h
    rw [List.getElem?_eq_getElem hm]
    simp only [Option.getD_some] at h
    rw [h]
  · rfl
theorem l4Match_spec {w0 : World} {Γ : List Atom} {va vp vt : Value} {a p t : List Int} [h : HasRd (List Int) repList Γ [va] a] [h1 : HasRd (List Int) repList Γ [vp] p] [h2 : HasRd (List Int) repList Γ [vt] t] (hp : termOk a p = true) (ht : termOk a t = true) :
    CJ Tryz.prog 105 [.agg #[va], vp, vt] w0 Γ (fun q : Value => .tuple #[.agg #[q], .bool (matchOf a p t).isSome]) (fun q => .ow [q] ((matchOf a p t).getD []) :: Γ) := by
  have hpl := termOk_len hp
  have htl := termOk_len ht
  have hmo : matchOf a p t = (matchGo a p t (List.replicate 24 [])).map plainOf := rfl
  refine cj_lift (R := [.rd [va] a, .rd [vp] p, .rd [vt] t]) (A := fun q : Value => [.ow [q] ((matchOf a p t).getD [])]) (fun w1 => ?_) (reads_cons h (reads_cons h1 (reads_cons h2 (inferInstance)))) (fun _ => inferInstance)
  simp only [List.cons_append, List.nil_append]
  refine cj_enter Tryz.func105 Tryz.ntmps105 ?_
  repeat' (first | refine red ?_ | refine redv fun sv => ?_ | refine redn fun b => ?_ | fail)
  rename Value => tv
  refine wc_loop_p [9, 10] [15, 16, 17, 18, 21, 22, 23, 24, 25, 7, 26, 27, 28, 29, 30, 31, 32, 33, 34, 35, 36, 37, 38, 39, 40, 41, 42, 43, 44, 45, 46, 11, 47, 48, 49, 50, 51, 52, 53, 54, 55, 12, 56, 57, 58, 59, 60, 61, 62, 63, 64, 65, 66, 67, 68, 69, 70, 71, 72, 73, 74, 75, 76, 77, 78, 19, 20] (ι := Nat × Nat × List (List Int)) (fun k => [.int .i64 k.2.1, .int .i64 k.1]) (fun k => [.ow [tv] k.2.2]) (fun k => k.1 ≤ p.length ∧ k.2.1 ≤ t.length ∧ k.2.2.length = 24 ∧ matchGo a p t (List.replicate 24 []) = matchGo a (p.drop k.1) (t.drop k.2.1) k.2.2) (fun k => p.length - k.1) (0, 0, List.replicate 24 []) [.ow [tv] (List.replicate 24 ([] : List Int))] (by kernel_rfl) ⟨Nat.zero_le _, Nat.zero_le _, by simp, rfl⟩ rfl ?_
  intro ⟨i, k, ys⟩ u l' hl' ⟨hi, hk, hy, hgo⟩
  simp only [patch, List.map_cons, List.map_nil, List.set_cons_zero, List.set_cons_succ] at hl'
  subst hl'
  simp only [List.cons_append, List.nil_append] at hi hk hy hgo ⊢
  have hpi : i < p.length → -24 ≤ p.getD i 0 ∧ p.getD i 0 < a.length := fun h => termOk_get hp h
  have hta : k < t.length → 1 ≤ sz a t k ∧ k + sz a t k ≤ t.length := fun h => (term_at ht h).2
  have hsl : k < t.length → (subt a t k).length = sz a t k := fun h => subt_len ht h
  repeat' (first | refine red ?_ | refine redf fun hbi => ?_ | refine reds ?_ | refine redc fun r => ?_ | (refine redi (fun hc => ?_) (fun hc => ?_) <;> try first | (exfalso; omega) | exact absurd rfl hc) | ((refine wa_begin 9 [false, false, false, false, false, false, false, false, false] [] ?_ <;> refine wa_p 0 ?_ <;> refine wa_p 1 ?_ <;> refine wa_p 2 ?_ <;> (first | refine wa_f 3 fun hbi => ?_ | fail) <;> refine wa_p 4 ?_ <;> refine wa_p 5 ?_ <;> refine wa_p 6 ?_ <;> (first | refine wa_f 7 fun hbi => ?_ | fail) <;> (first | refine wa_p 8 ?_ | fail)) <;> (refine wa_end ?_)) | ((refine wa_begin 13 [false, false, false, false, false, false, false, false, false, false] [8] ?_ <;> (first | refine wa_p 0 ?_ | fail) <;> (first | refine wa_p 1 ?_ | fail) <;> refine wa_p 2 ?_ <;> refine wa_p 3 ?_ <;> refine wa_p 4 ?_ <;> (first | refine wa_f 5 fun hbi => ?_ | fail) <;> (first | refine wa_p 6 ?_ | fail) <;> (first | refine wa_p 7 ?_ | fail) <;> (refine wa_do 8 ?_ <;> (repeat' (first | refine red ?_ | refine redo fun sv => ?_ | fail))) <;> refine wa_p0 9 ?_) <;> (refine wa_end ?_)) | ((refine wa_begin 16 [false, false, false, false, false, false, false, false, false, false] [9] ?_ <;> (first | refine wa_p 0 ?_ | fail) <;> (first | refine wa_p 1 ?_ | fail) <;> refine wa_p 2 ?_ <;> refine wa_p 3 ?_ <;> refine wa_p 4 ?_ <;> (first | refine wa_f 5 fun hbi => ?_ | fail) <;> (first | refine wa_p 6 ?_ | fail) <;> refine wa_p 7 ?_ <;> (first | refine wa_p 8 ?_ | fail) <;> (refine wa_do 9 ?_ <;> (repeat' (first | refine red ?_ | fail)))) <;> (refine wa_end ?_)) | fail)
  · have e : matchOf a p t = none := by rw [hmo, hgo, match_out (by omega) (by omega)]; rfl
    rw [e]
    simp only [Option.getD_none, Option.isSome_none]
    exact ⟨_, rfl, ent_e⟩
  · have e : matchOf a p t = none := by rw [hmo, hgo, match_sym_ne (by omega) (by omega) (by omega) (fun h => hc h.symm)]; rfl
    rw [e]
    simp only [Option.getD_none, Option.isSome_none]
    exact ⟨_, rfl, ent_e⟩
  · exact wq_next (i + 1, k + 1, ys) ⟨by simp only; omega, by simp only; omega, hy, by rw [hgo]; exact match_sym (by omega) (by omega) (by omega) hc.symm⟩ (by simp only; omega) (by kernel_rfl) ent_e
  · have hne : ¬ ys.getD (-1 - p.getD i 0).toNat [] = [] := fun h => by
      have : (ys.getD (-1 - p.getD i 0).toNat default).length = 0 := by rw [show (default : List Int) = [] from rfl, h]; rfl
      omega
    have e : matchOf a p t = none := by rw [hmo, hgo, match_old_ne (by omega) (by omega) (by omega) hne hc]; rfl
    rw [e]
    simp only [Option.getD_none, Option.isSome_none]
    exact ⟨_, rfl, ent_e⟩
  · have hne : ¬ ys.getD (-1 - p.getD i 0).toNat [] = [] := fun h => by
      have : (ys.getD (-1 - p.getD i 0).toNat default).length = 0 := by rw [show (default : List Int) = [] from rfl, h]; rfl
      omega
    rw [hsl (by omega)]
    refine wq_unfocus (Ε := ?Ee) tv (subt a t k) ?ho ?_
    case ho => exact own_pull
    rw [set_same' hc (by omega)]
    exact wq_next (i + 1, k + sz a t k, ys) ⟨by simp only; omega, by simp only; omega, hy, by rw [hgo]; exact match_old (by omega) (by omega) (by omega) hne hc⟩ (by simp only; omega) (by kernel_rfl) ent_e
  · have hnil : ys.getD (-1 - p.getD i 0).toNat [] = [] := List.eq_nil_of_length_eq_zero (by show (ys.getD (-1 - p.getD i 0).toNat default).length = 0; omega)
    rw [hsl (by omega)]
    refine wq_unfocus (Ε := ?Ee) tv (subt a t k) ?ho ?_
    case ho => exact own_pull
    exact wq_next (i + 1, k + sz a t k, ys.set (-1 - p.getD i 0).toNat (subt a t k)) ⟨by simp only; omega, by simp only; omega, by simpa using hy, by rw [hgo]; exact match_new (by omega) (by omega) (by omega) hnil⟩ (by simp only; omega) (by kernel_rfl) ent_e
  · have hg : matchGo a p t (List.replicate 24 []) = some ys := by rw [hgo]; exact match_end (by omega)
    obtain ⟨hyl, hyb⟩ := match_bound p t _ ys hg (by omega) rep_le
    have e : matchOf a p t = some (plainOf ys) := by rw [hmo, hg]; rfl
    refine redc (fun r2 => ?_) ⟨by omega, hyb⟩
    repeat' (first | refine red ?_ | fail)
    rw [e]
    simp only [Option.getD_some, Option.isSome_some]
    exact ⟨_, rfl, ent_e⟩
instance l4Match_ctr {Γ : List Atom} {va vp vt : Value} {a p t : List Int} [h : HasRd (List Int) repList Γ [va] a] [h1 : HasRd (List Int) repList Γ [vp] p] [h2 : HasRd (List Int) repList Γ [vt] t] :
    CtrC Tryz.prog 105 [.agg #[va], vp, vt] Γ ((termOk a p = true) ∧ (termOk a t = true)) (Value) (fun q : Value => .tuple #[.agg #[q], .bool (matchOf a p t).isSome]) (fun q => .ow [q] ((matchOf a p t).getD []) :: Γ) := ⟨fun s w0 => l4Match_spec s.1 s.2⟩

def instOf (a p t : List Int) : Bool := (matchOf a p t).isSome
def matchedOf (a p t : List Int) : Option (List (List Int)) := if termOk a p = true ∧ termOk a t = true then matchOf a p t else none
def instanceIn (a p t : List Int) : Bool := (matchedOf a p t).isSome
/-! lists of terms -/
end Go.Proofs.YtbbdjjlnachnlaaGreatDoor
