/- Ways in the graph, parts of a set: the reference. -/
import Derived.Test.YtjblieilblcdnaaTraB
import Derived.Test.YtjblieilblcdnaaQue
namespace Go.Proofs.Ytjblieilblcdnaa
open Go Go.Eng
set_option linter.unusedVariables false
set_option linter.unusedSimpArgs false
set_option synthInstance.maxHeartbeats 400000
set_option synthInstance.maxSize 1000
set_option maxHeartbeats 4000000
set_option maxRecDepth 20000

/-- A step in the graph, into the set. -/
def EdgR (g : List (List Int)) (s : List Int) (u v : Int) : Prop := v ∈ g.getD u.toNat [] ∧ v ∈ s
inductive Way (g : List (List Int)) (s : List Int) : Int → Int → Prop
  | one {u v : Int} : EdgR g s u v → Way g s u v
  | more {u v z : Int} : Way g s u v → EdgR g s v z → Way g s u z
theorem Way.trans {g : List (List Int)} {s : List Int} {u v z : Int} (h : Way g s u v) (h' : Way g s v z) : Way g s u z := by
  induction h' with
  | one e => exact .more h e
  | more _ e ih => exact .more ih e
theorem edg_in {g : List (List Int)} {s : List Int} {n : Nat} {u v : Int} (hg : GrfP g n) (h : EdgR g s u v) : 0 ≤ v ∧ v < n := by
  obtain ⟨h1, _⟩ := h
  by_cases hu : u.toNat < g.length
  · rw [List.getD_eq_getElem?_getD, List.getElem?_eq_getElem hu] at h1
    exact (hg.row _ (List.getElem_mem hu)).2 v h1
  · rw [List.getD_eq_getElem?_getD, List.getElem?_eq_none (by omega)] at h1
    exact absurd h1 (by simp)
theorem Way.inn {g : List (List Int)} {s : List Int} {n : Nat} {u v : Int} (hg : GrfP g n) (h : Way g s u v) : 0 ≤ v ∧ v < n := by
  cases h with
  | one e => exact edg_in hg e
  | more _ e => exact edg_in hg e
theorem Way.mem {g : List (List Int)} {s : List Int} {u v : Int} (h : Way g s u v) : v ∈ s := by
  cases h with
  | one e => exact e.2
  | more _ e => exact e.2
theorem len_in {n : Int} : ∀ (ys : List Int) (lo : Int), ys.Pairwise (· < ·) → (∀ q ∈ ys, lo ≤ q ∧ q < n) → lo ≤ n → (ys.length : Int) ≤ n - lo
  | [], lo, _, _, h => by simp only [List.length_nil]; omega
  | y :: ys, lo, hp, hq, h => by
    have hy := hq y (by simp)
    rw [List.pairwise_cons] at hp
    have := len_in (n := n) ys (y + 1) hp.2 (fun q hm => by have := hp.1 q hm; have := hq q (by simp [hm]); omega) (by omega)
    simp only [List.length_cons]
    omega
/-- What was found, what is still to be looked at. -/
structure AfI (g : List (List Int)) (s : List Int) (f : Int) (out todo : List Int) : Prop where
  so : out.Pairwise (· < ·)
  way : ∀ q ∈ out, Way g s f q
  td : ∀ q ∈ todo, q = f ∨ q ∈ out
  cl : ∀ u, (u = f ∨ u ∈ out) → u ∉ todo → ∀ q, EdgR g s u q → q ∈ out
/-- The same, while u is looked at. -/
structure AfJ (g : List (List Int)) (s : List Int) (f : Int) (out todo : List Int) (u : Int) (k : Nat) : Prop where
  so : out.Pairwise (· < ·)
  way : ∀ q ∈ out, Way g s f q
  td : ∀ q ∈ todo, q = f ∨ q ∈ out
  cl : ∀ v, (v = f ∨ v ∈ out) → v ∉ todo → v ≠ u → ∀ q, EdgR g s v q → q ∈ out
  here : u = f ∨ u ∈ out
  row : ∀ i, i < k → (g.getD u.toNat []).getD i 0 ∈ s → (g.getD u.toNat []).getD i 0 ∈ out
theorem AfI.len {g : List (List Int)} {s : List Int} {f : Int} {out todo : List Int} {n : Nat} (hg : GrfP g n) (h : AfI g s f out todo) : out.length ≤ n := by
  have := len_in (n := n) out 0 h.so (fun q hq => (h.way q hq).inn hg) (by omega)
  omega
theorem AfJ.len {g : List (List Int)} {s : List Int} {f : Int} {out todo : List Int} {u : Int} {k : Nat} {n : Nat} (hg : GrfP g n) (h : AfJ g s f out todo u k) : out.length ≤ n := by
  have := len_in (n := n) out 0 h.so (fun q hq => (h.way q hq).inn hg) (by omega)
  omega
theorem af_start (g : List (List Int)) (s : List Int) (f : Int) : AfI g s f [] [f] := ⟨.nil, fun q hq => absurd hq (by simp), fun q hq => .inl (List.mem_singleton.1 hq), fun u hu hn => by
  rcases hu with rfl | hu
  · exact absurd (List.mem_singleton.2 rfl) hn
  · exact absurd hu (by simp)⟩
theorem af_pop {g : List (List Int)} {s : List Int} {f u : Int} {out todo : List Int} (h : AfI g s f out (u :: todo)) : AfJ g s f out todo u 0 := ⟨h.so, h.way, fun q hq => h.td q (by simp [hq]), fun v hv hn hne q hq => h.cl v hv (by simp [hn, hne]) q hq, h.td u (by simp), fun i hi => absurd hi (Nat.not_lt_zero i)⟩
theorem af_push {g : List (List Int)} {s : List Int} {f u q : Int} {k : Nat} {out out' todo : List Int} (h : AfJ g s f out todo u k) (hk : k < (g.getD u.toNat []).length) (e : (g.getD u.toNat []).getD k 0 = q) (hs : q ∈ s) (hs' : out'.Pairwise (· < ·)) (hm : ∀ z, z ∈ out' ↔ z = q ∨ z ∈ out) : AfJ g s f out' (todo ++ [q]) u (k + 1) := by
  have he : EdgR g s u q := ⟨by rw [← e]; exact getD_mem hk, hs⟩
  have hw : Way g s f q := by
    rcases h.here with rfl | hu
    · exact .one he
    · exact .more (h.way u hu) he
  refine ⟨hs', fun z hz => ?_, fun z hz => ?_, fun v hv hn hne z hz => ?_, ?_, fun i hi hi2 => ?_⟩
  · rcases (hm z).1 hz with rfl | hz
    · exact hw
    · exact h.way z hz
  · rcases List.mem_append.1 hz with hz | hz
    · exact (h.td z hz).imp id fun h => (hm z).2 (.inr h)
    · exact .inr ((hm z).2 (.inl (List.mem_singleton.1 hz)))
  · have hn1 : v ∉ todo := fun h => hn (by simp [h])
    have hn2 : v ≠ q := fun h => hn (by simp [h])
    refine (hm z).2 (.inr (h.cl v (hv.imp id fun h => ((hm v).1 h).resolve_left hn2) hn1 hne z hz))
  · exact h.here.imp id fun h => (hm u).2 (.inr h)
  · by_cases e2 : i = k
    · subst e2; rw [e]; exact (hm q).2 (.inl rfl)
    · exact (hm _).2 (.inr (h.row i (by omega) hi2))
theorem af_skip {g : List (List Int)} {s : List Int} {f u : Int} {k : Nat} {out todo : List Int} (h : AfJ g s f out todo u k) (hq : (g.getD u.toNat []).getD k 0 ∈ s → (g.getD u.toNat []).getD k 0 ∈ out) : AfJ g s f out todo u (k + 1) := ⟨h.so, h.way, h.td, h.cl, h.here, fun i hi hi2 => by
  by_cases e2 : i = k
  · subst e2; exact hq hi2
  · exact h.row i (by omega) hi2⟩
theorem af_done {g : List (List Int)} {s : List Int} {f u : Int} {out todo : List Int} (h : AfJ g s f out todo u (g.getD u.toNat []).length) : AfI g s f out todo := ⟨h.so, h.way, h.td, fun v hv hn q hq => by
  by_cases e : v = u
  · subst e
    obtain ⟨i, hi, e2⟩ := List.getElem_of_mem hq.1
    have e3 : (g.getD v.toNat []).getD i 0 = q := by rw [List.getD_eq_getElem?_getD, List.getElem?_eq_getElem hi]; exact e2
    rw [← e3]
    exact h.row i hi (by rw [e3]; exact hq.2)
  · exact h.cl v hv hn e q hq⟩
theorem af_end {g : List (List Int)} {s : List Int} {f : Int} {out : List Int} (h : AfI g s f out []) : out.Pairwise (· < ·) ∧ ∀ q, q ∈ out ↔ Way g s f q := by
  refine ⟨h.so, fun q => ⟨h.way q, fun hw => ?_⟩⟩
  induction hw with
  | one e => exact h.cl _ (.inl rfl) (by simp) _ e
  | more _ e ih => exact h.cl _ (.inr ih) (by simp) _ e
theorem into_len {out out' : List Int} {q : Int} (hs : out.Pairwise (· < ·)) (hs' : out'.Pairwise (· < ·)) (hm : ∀ z, z ∈ out' ↔ z = q ∨ z ∈ out) (hq : q ∉ out) : out'.length = out.length + 1 := by
  have n1 : out'.Nodup := hs'.imp fun h e => by rw [e] at h; omega
  have n2 : (q :: out).Nodup := List.nodup_cons.2 ⟨hq, hs.imp fun h e => by rw [e] at h; omega⟩
  exact ((List.perm_ext_iff_of_nodup n1 n2).2 fun z => by rw [hm, List.mem_cons]).length_eq
abbrev AftT (g : List (List Int)) (s : List Int) (f : Int) : Type := { ys : List Int // ys.Pairwise (· < ·) ∧ ∀ q, q ∈ ys ↔ Way g s f q }
structure AfC (g : List (List Int)) (s : List Int) (f : Int) : Prop where
  hg : ∃ n, n ≤ 64 ∧ GrfP g n ∧ 0 ≤ f ∧ f < n
  sl : s.length ≤ 64
theorem l18After_spec {w0 : World} {Γ : List Atom} {vg vs : Value} {g : List (List Int)} {s : List Int} {f : Int} [h0 : HasRd (List (List Int)) repList Γ [vg] g] [h1 : HasRd (List Int) repList Γ [vs] s] (hs : AfC g s f) :
    CJ Try.prog 38 [vg, vs, .int .i64 f] w0 Γ (fun q : Value × AftT g s f => q.1) (fun q => .ow [q.1] q.2.1 :: Γ) := by
  refine cj_lift (R := [.rd [vg] g, .rd [vs] s]) (A := fun q : Value × AftT g s f => [.ow [q.1] q.2.1]) (fun w1 => ?_) (reads_cons h0 (reads_cons h1 (inferInstance))) (fun _ => inferInstance)
  simp only [List.cons_append, List.nil_append]
  obtain ⟨⟨n, hn, hg, hf0, hf1⟩, hsl⟩ := hs
  have hgl := hg.len
  refine cj_enter Try.func38 Try.ntmps38 ?_
  repeat' (first | refine red ?_ | refine redv fun sv => ?_ | fail)
  rename_i sv0
  refine wc_entT (ent_tl sv fun w h => h) ?_
  refine wc_loop_p [7, 8] [15, 16, 17, 18, 19, 20, 9, 21, 22, 10, 23, 24, 25, 26, 27, 28, 29, 32, 33, 34, 35, 36, 37, 38, 11, 39, 40, 41, 42, 43, 44, 45, 46, 47, 48, 49, 50, 51, 52, 53, 54, 30, 31] (ι := Value × List Int × Value × List Int) (fun k => [k.1, k.2.2.1]) (fun k => [.ow [k.1] k.2.1, .ow [k.2.2.1] (Tl.mk k.2.2.2)]) (fun k => AfI g s f k.2.1 k.2.2.2 ∧ k.2.2.2.length ≤ 1 + k.2.1.length) (fun k => 2 * (n - k.2.1.length) + k.2.2.2.length) (sv0, [], sv, [f]) [.ow [sv0] ([] : List Int), .ow [sv] (Tl.mk [f])] (by kernel_rfl) ⟨af_start g s f, by simp⟩ rfl ?_
  intro ⟨so, out, st, todo⟩ u l' hl' ⟨hI, htl⟩
  simp only [patch, List.map_cons, List.map_nil, List.set_cons_zero, List.set_cons_succ] at hl'
  subst hl'
  simp only [List.cons_append, List.nil_append] at hI htl ⊢
  have hol := hI.len hg
  match todo, hI, htl with
  | [], hI, htl =>
    have hcl : ([] : List Int).length = 0 := rfl
    repeat' (first | refine red ?_ | (refine redi (fun hc => ?_) (fun hc => ?_) <;> try first | (exfalso; omega) | with_reducible first | exact absurd rfl hc | exact absurd hc Bool.false_ne_true | exact absurd hc Bool.false_ne_true.symm) | fail)
    exact ⟨(so, ⟨out, af_end hI⟩), rfl, ent_e⟩
  | u0 :: todo, hI, htl =>
    have hu : 0 ≤ u0 ∧ u0 < n := by
      rcases hI.td u0 (by simp) with rfl | h
      · exact ⟨hf0, hf1⟩
      · exact (hI.way u0 h).inn hg
    have hcl : (u0 :: todo).length = todo.length + 1 := rfl
    simp only [List.length_cons] at htl
    repeat' (first | refine red ?_ | refine redf fun hbi => ?_ | refine reds ?_ | refine redv fun sv => ?_ | (refine redi (fun hc => ?_) (fun hc => ?_) <;> try first | (exfalso; omega) | with_reducible first | exact absurd rfl hc | exact absurd hc Bool.false_ne_true | exact absurd hc Bool.false_ne_true.symm) | fail)
    simp only [List.getD_cons_zero] at hbi ⊢
    refine wc_loop_p [7, 8, 10] [23, 24, 25, 26, 27, 28, 29, 32, 33, 34, 35, 36, 37, 38, 11, 39, 40, 41, 42, 43, 44, 45, 46, 47, 48, 49, 50, 51, 52, 53, 54, 30, 31] (ι := Value × List Int × Value × List Int × Nat) (fun k => [k.1, k.2.2.1, .int .i64 k.2.2.2.2]) (fun k => [.ow [k.1] k.2.1, .ow [k.2.2.1] (Tl.mk k.2.2.2.1)]) (fun k => k.2.2.2.2 ≤ (g.getD u0.toNat []).length ∧ AfJ g s f k.2.1 k.2.2.2.1 u0 k.2.2.2.2 ∧ k.2.2.2.1.length ≤ k.2.1.length ∧ 2 * (n - k.2.1.length) + k.2.2.2.1.length ≤ 2 * (n - out.length) + todo.length) (fun k => (g.getD u0.toNat []).length - k.2.2.2.2) (so, out, sv, todo, 0) [.ow [so] out, .ow [sv] (Tl.mk ((u0 :: todo).drop 1))] (by kernel_rfl) ⟨Nat.zero_le _, af_pop hI, by simp only; omega, Nat.le_refl _⟩ rfl ?_
    intro ⟨so2, out2, st2, todo2, k⟩ u l' hl' ⟨hk, hJ, htl2, hM⟩
    simp only [patch, List.map_cons, List.map_nil, List.set_cons_zero, List.set_cons_succ] at hl'
    subst hl'
    simp only [List.cons_append, List.nil_append] at hk hJ htl2 hM ⊢
    have hol2 := hJ.len hg
    have hso := hJ.so
    have hgd : (g.getD u0.toNat default).length = (g.getD u0.toNat []).length := rfl
    by_cases hkl : k < (g.getD u0.toNat []).length
    · repeat' (first | refine red ?_ | refine redf fun hbi => ?_ | refine reds ?_ | (refine redc fun r => ?_; try have hr := Subtype.property r) | refine redv fun sv => ?_ | (refine redd fun p cs as_ hcs has hf => ?_; simp only [Un.cells, Un.atoms, Un.fact, List.cons_append, List.nil_append] at hcs has hf; subst hcs has) | (refine redi (fun hc => ?_) (fun hc => ?_) <;> try first | (exfalso; omega) | with_reducible first | exact absurd rfl hc | exact absurd hc Bool.false_ne_true | exact absurd hc Bool.false_ne_true.symm) | fail)
      · have hil := into_len hso r.2.2.1 r.2.2.2.1 (by assumption)
        have hJ2 := af_push hJ hkl rfl (by assumption) r.2.2.1 r.2.2.2.1
        have hr2 := hJ2.len hg
        exact wq_next (r.1, r.2.1, sv, todo2 ++ [(g.getD u0.toNat []).getD k 0], k + 1) ⟨by simp only; omega, hJ2, by simp only [List.length_append, List.length_cons, List.length_nil]; omega, by simp only [List.length_append, List.length_cons, List.length_nil]; omega⟩ (by simp only; omega) (by kernel_rfl) ent_e
      · exact wq_next (so2, out2, st2, todo2, k + 1) ⟨by simp only; omega, af_skip hJ fun _ => hc, htl2, hM⟩ (by simp only; omega) (by kernel_rfl) ent_e
      · exact wq_next (so2, out2, st2, todo2, k + 1) ⟨by simp only; omega, af_skip hJ fun h => absurd h hc, htl2, hM⟩ (by simp only; omega) (by kernel_rfl) ent_e
    · obtain rfl : k = (g.getD u0.toNat []).length := by omega
      repeat' (first | refine red ?_ | (refine redd fun p cs as_ hcs has hf => ?_; simp only [Un.cells, Un.atoms, Un.fact, List.cons_append, List.nil_append] at hcs has hf; subst hcs has) | (refine redi (fun hc => ?_) (fun hc => ?_) <;> try first | (exfalso; omega) | with_reducible first | exact absurd rfl hc | exact absurd hc Bool.false_ne_true | exact absurd hc Bool.false_ne_true.symm) | fail)
      exact wq_next (so2, out2, st2, todo2) ⟨af_done hJ, by simp only; omega⟩ (by simp only [List.length_cons]; omega) (by kernel_rfl) ent_e
instance l18After_ctr {Γ : List Atom} {vg vs : Value} {g : List (List Int)} {s : List Int} {f : Int} [h0 : HasRd (List (List Int)) repList Γ [vg] g] [h1 : HasRd (List Int) repList Γ [vs] s] :
    CtrC Try.prog 38 [vg, vs, .int .i64 f] Γ (AfC g s f) (Value × AftT g s f) (fun q : Value × AftT g s f => q.1) (fun q => .ow [q.1] q.2.1 :: Γ) := ⟨fun s w0 => l18After_spec s⟩

end Go.Proofs.Ytjblieilblcdnaa
