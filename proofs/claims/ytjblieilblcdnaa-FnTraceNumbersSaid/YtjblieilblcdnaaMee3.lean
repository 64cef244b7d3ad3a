/- A list of shared lists that the call has built is its own. -/
import Derived.Test.YtjblieilblcdnaaEngY
import Derived.Test.YtjblieilblcdnaaMee2
namespace Go.Eng
open Go Go.RowKit
set_option linter.unusedVariables false
set_option linter.unusedSimpArgs false
/-- Each element shared. -/
class ShM {α : Type} (ys : List α) (zs : outParam (List (Sh α))) : Prop where
  eq : zs = ys.map Sh.mk
instance {α : Type} : ShM ([] : List α) [] := ⟨rfl⟩
instance {α : Type} {y : α} {ys : List α} {zs : List (Sh α)} [h : ShM ys zs] : ShM (y :: ys) (Sh.mk y :: zs) := ⟨by rw [h.eq]; rfl⟩
section
variable {P : Program} {ops : Array Oper} {Q : Exit → Act → World → Prop} {w0 : World} {rest : List Oper} {l l' : List Value} {Γ Δ : List Atom} {ty : TypeId} {v : Value} {pos : String} {after : Array Edge} {d : Nat}
theorem shBuild {α : Type} {iα : Rep α} {zs : List (Sh α)} {T k by_ N : Nat} {ps : List (Nat × Operand)} {groups : List (List Value)} {ys : List α} {len : Nat} [hO : Op_ P T (List α) repList] [hT : Sl P T k by_] [hp0 : PartsL Γ l k 0 ps groups] [hf : FrzL Γ groups Δ] [hp : PartsL Δ l k 0 ps groups] [hk : SzIs α k] [ho : ShL α Δ groups ys] [hl : LenIs ys len] [hn : NatEq len N] [hz : ShM ys zs] :
    RedV (WL P ops Q w0 (⟨some d, .buildSlice T N ps.toArray, ty, pos, after, none⟩ :: rest) l Γ) (N * k ≤ 16777216) (fun sv => WL P ops Q w0 rest (l.set d sv) (.ow [sv] zs :: Δ)) := ⟨fun s h w hs =>
  wl_buildSlice (α := Sh α) (k := k) (hT := hT) (hp := hp) ho.run (by rw [hk.eq]; rfl) (by rw [List.length_map, ← hn.eq, ← hl.eq]) s (fun sv w' hs' => h sv w' (hz.eq ▸ hs')) w (hf.run hs)⟩
end
end Go.Eng
namespace Go.Proofs.Ytjblieilblcdnaa
open Go Go.Eng
set_option linter.unusedVariables false
set_option linter.unusedSimpArgs false
set_option synthInstance.maxHeartbeats 400000
set_option synthInstance.maxSize 1000
set_option maxHeartbeats 4000000
set_option maxRecDepth 20000

/-- Looked at: it is not x, and if something stands for it, it is marked. -/
def Lkd (bs : List (List Int)) (x : Int) (seen : List Bool) (z : Int) : Prop := z ≠ x ∧ (z < 0 → bdW bs z ≠ [] → seen.getD (-1 - z).toNat false = true)
/-- What is marked is looked through, or waits. -/
structure OcI (bs : List (List Int)) (x : Int) (t : List Int) (seen : List Bool) (W : List Int → Prop) : Prop where
  len : seen.length = 48
  mrk : ∀ y, -48 ≤ y → y < 0 → seen.getD (-1 - y).toNat false = true → bdW bs y ≠ [] ∧ (W (bdW bs y) ∨ ∀ z ∈ bdW bs y, Lkd bs x seen z)
  st : W t ∨ ∀ z ∈ t, Lkd bs x seen z
theorem Lkd.up {bs : List (List Int)} {x z : Int} {seen seen' : List Bool} (h : Lkd bs x seen z) (hs : ∀ k, seen.getD k false = true → seen'.getD k false = true) : Lkd bs x seen' z := ⟨h.1, fun h1 h2 => hs _ (h.2 h1 h2)⟩
theorem occ_end {bs : List (List Int)} {x : Int} {t : List Int} {seen : List Bool} (h : OcI bs x t seen (fun _ => False)) (ht : ∀ z ∈ t, -48 ≤ z) {E : Int → List Int} {ρ : Int → Nat} (hE : Ex bs E ρ) (hx : -48 ≤ x ∧ x < 0 ∧ bdW bs x = []) : x ∉ t.flatMap E := by
  have key : ∀ n (z : Int), ρ z < n → -48 ≤ z → Lkd bs x seen z → x ∉ E z := by
    intro n
    induction n with
    | zero => intro z h; omega
    | succ n ih =>
      intro z hn hz hL
      by_cases h0 : 0 ≤ z
      · rw [hE.sym z h0, List.mem_singleton]; omega
      · by_cases hb : bdW bs z = []
        · rw [hE.fr z hz (by omega) hb, List.mem_singleton]; exact fun e => hL.1 e.symm
        · rw [hE.bo z hz (by omega) hb]
          have hm := hL.2 (by omega) hb
          have h2 := ((h.mrk z hz (by omega) hm).2).resolve_left id
          intro hmem
          obtain ⟨y, hy, hxy⟩ := List.mem_flatMap.1 hmem
          have h3 := hE.rk z hz (by omega) hb y hy
          exact ih y (by omega) h3.1 (h2 y hy) hxy
  intro hmem
  obtain ⟨y, hy, hxy⟩ := List.mem_flatMap.1 hmem
  exact key (ρ y + 1) y (by omega) (ht y hy) ((h.st.resolve_left id) y hy) hxy
theorem set_true {seen : List Bool} {i k : Nat} (h : seen.getD k false = true) : (seen.set i true).getD k false = true := by
  rw [List.getD_eq_getElem?_getD, List.getElem?_set]
  by_cases e : i = k
  · subst e
    rw [if_pos rfl]
    by_cases hl : i < seen.length
    · rw [if_pos hl]; rfl
    · rw [List.getD_eq_getElem?_getD, List.getElem?_eq_none (by omega)] at h
      cases h
  · rw [if_neg e, ← List.getD_eq_getElem?_getD]; exact h
def unsN (seen : List Bool) : Nat := (seen.filter fun b => !b).length
theorem uns_set : ∀ {seen : List Bool} {k : Nat}, k < seen.length → seen.getD k false = false → unsN (seen.set k true) + 1 = unsN seen
  | b :: seen, 0, _, h => by
    have hb : b = false := h
    subst hb
    rfl
  | b :: seen, k + 1, hk, h => by
    have ih := uns_set (seen := seen) (k := k) (by simpa using hk) h
    unfold unsN at ih ⊢
    rw [List.set_cons_succ]
    cases b
    · rw [List.filter_cons_of_pos (by rfl), List.filter_cons_of_pos (by rfl), List.length_cons, List.length_cons, ← ih]
    · rw [List.filter_cons_of_neg (by decide), List.filter_cons_of_neg (by decide), ih]
/-- What waits: the stack, and the rest of the term at hand. -/
def WtS (todo : List (Sh (List Int))) (s : List Int) : Prop := ∃ y ∈ todo, y.v = s
attribute [local instance 350] shBuild
theorem OcI.up {bs : List (List Int)} {x : Int} {t : List Int} {seen seen' : List Bool} {W W' : List Int → Prop} (h : OcI bs x t seen W) (hl : seen'.length = 48) (hs : ∀ k, seen.getD k false = true → seen'.getD k false = true)
    (hn : ∀ y, -48 ≤ y → y < 0 → seen'.getD (-1 - y).toNat false = true → seen.getD (-1 - y).toNat false = true ∨ (bdW bs y ≠ [] ∧ W' (bdW bs y))) (hW : ∀ s, W s → W' s ∨ ∀ z ∈ s, Lkd bs x seen' z) : OcI bs x t seen' W' := by
  refine ⟨hl, fun y h1 h2 h3 => ?_, ?_⟩
  · rcases hn y h1 h2 h3 with h4 | h4
    · obtain ⟨h5, h6⟩ := h.mrk y h1 h2 h4
      refine ⟨h5, ?_⟩
      rcases h6 with h6 | h6
      · exact hW _ h6
      · exact .inr fun z hz => (h6 z hz).up hs
    · exact ⟨h4.1, .inl h4.2⟩
  · rcases h.st with h1 | h1
    · exact hW _ h1
    · exact .inr fun z hz => (h1 z hz).up hs
theorem oc_init {bs : List (List Int)} {x : Int} {t : List Int} {n : Nat} (hn : n = 48) : OcI bs x t (List.replicate n false) (WtS [Sh.mk t]) := by
  refine ⟨by simp [hn], fun y _ _ h => ?_, .inl ⟨Sh.mk t, by simp, rfl⟩⟩
  rw [List.getD_eq_getElem?_getD, List.getElem?_replicate] at h
  split at h <;> cases h
theorem uns_rep (n : Nat) : unsN (List.replicate n false) = n := by
  unfold unsN
  rw [List.filter_eq_self.2 (by simp), List.length_replicate]
theorem wts_pop {todo : List (Sh (List Int))} {n : Nat} (hn : todo.length = n + 1) {s : List Int} (h : WtS todo s) : WtS (todo.take n) s ∨ s = (todo.getD n default).v := by
  obtain ⟨y, hy, rfl⟩ := h
  obtain ⟨i, hi, rfl⟩ := List.getElem_of_mem hy
  by_cases e : i < n
  · exact .inl ⟨todo[i], List.mem_take_iff_getElem.2 ⟨i, by omega, rfl⟩, rfl⟩
  · obtain rfl : i = n := by omega
    right
    rw [List.getD_eq_getElem?_getD, List.getElem?_eq_getElem hi]; rfl
theorem wts_add {todo : List (Sh (List Int))} {y : Sh (List Int)} {s : List Int} (h : WtS todo s) : WtS (todo ++ [y]) s := by
  obtain ⟨z, hz, e⟩ := h
  exact ⟨z, List.mem_append_left _ hz, e⟩
theorem wts_new {todo : List (Sh (List Int))} {y : Sh (List Int)} : WtS (todo ++ [y]) y.v := ⟨y, by simp, rfl⟩
theorem getD_set_true {seen : List Bool} {i k : Nat} (h : (seen.set i true).getD k false = true) : seen.getD k false = true ∨ k = i := by
  by_cases e : k = i
  · exact .inr e
  · left
    rw [List.getD_eq_getElem?_getD, List.getElem?_set, if_neg (fun e' => e e'.symm)] at h
    rw [List.getD_eq_getElem?_getD]; exact h
structure OcC (bs : List (Sh (List Int))) (x : Int) (t : List Int) : Prop where
  mb : MeB bs
  vt : VOk t
  x1 : -48 ≤ x ∧ x < 0
  fr : bdW (bsV bs) x = []
abbrev OcT (bs : List (Sh (List Int))) (x : Int) (t : List Int) : Type := { q : Bool // q = false → ∀ E ρ, Ex (bsV bs) E ρ → x ∉ t.flatMap E }
theorem lkd_next {bs : List (List Int)} {x : Int} {sn : List Bool} {uu : List Int} {i : Nat} (h : ∀ j, j < i → Lkd bs x sn (uu.getD j 0)) (h' : Lkd bs x sn (uu.getD i 0)) : ∀ j, j < i + 1 → Lkd bs x sn (uu.getD j 0) := fun j hj => by
  by_cases e : j = i
  · rw [e]; exact h'
  · exact h j (by omega)
theorem l11Occurs_spec {w0 : World} {Γ Δ : List Atom} {bb : Nat} {so vt : Value} {bs : List (Sh (List Int))} {t : List Int} {x : Int} [hb : HasBk Γ bb [so]] [h3 : PullOw (List (Sh (List Int))) repList Γ [so] bs Δ] [hb1 : HasBk Δ bb [so]] [h2 : HasIm (List Int) repList Δ [vt] t] (hs : OcC bs x t) :
    CJ Try.prog 80 [.pointer (some ⟨bb, 0, none⟩), .int .i64 x, vt] w0 Γ (fun q : OcT bs x t => .bool q.1) (fun q => .ow [so] bs :: Δ) := by
  refine cj_perm h3.perm ?_
  refine cj_dupD (i := repList) (cs := [vt]) (x := t) ?_
  obtain ⟨hB, hT, hx1, hfr⟩ := hs
  have hbl := hB.len
  have hget := bsV_get bs
  have hx2 := hx1.1
  have hx3 := hx1.2
  refine cj_enter Try.func80 Try.ntmps80 ?_
  repeat' (first | refine red ?_ | refine redv fun sv => ?_ | fail)
  rename_i se
  refine wc_loop_p [8] [19, 20, 21, 22, 23, 24, 25, 26, 27, 9, 28, 29, 30, 31, 32, 10, 33, 34, 35, 36, 39, 40, 41, 42, 43, 44, 6, 45, 46, 47, 48, 49, 50, 51, 52, 53, 54, 55, 56, 57, 58, 59, 60, 61, 62, 63, 64, 65, 66, 67, 68, 69, 70, 71, 72, 73, 74, 75, 76, 77, 78, 79, 80, 81, 82, 83, 84, 85, 86, 87, 88, 89, 90, 91, 92, 93, 94, 95, 96, 37, 38] (ι := Value × List (Sh (List Int)) × List Bool) (fun k => [k.1]) (fun k => [.ow [k.1] k.2.1, .ow [se] k.2.2]) (fun k => OcI (bsV bs) x t k.2.2 (WtS k.2.1) ∧ (∀ y ∈ k.2.1, VOk y.v) ∧ 2 * unsN k.2.2 + k.2.1.length ≤ 100) (fun k => 2 * unsN k.2.2 + k.2.1.length) (sv, [Sh.mk t], List.replicate bs.length false) [.ow [sv] [Sh.mk t], .ow [se] (List.replicate bs.length false)] (by kernel_rfl) ⟨oc_init hbl, fun y hy => by
    rw [List.mem_singleton] at hy; rw [hy]; exact hT, by simp only [uns_rep, hbl, List.length_cons, List.length_nil]; omega⟩ rfl ?_
  intro ⟨sw, todo, seen⟩ u l' hl' ⟨hI, hV, htl⟩
  simp only [patch, List.map_cons, List.map_nil, List.set_cons_zero, List.set_cons_succ] at hl'
  subst hl'
  simp only [List.cons_append, List.nil_append] at hI hV htl ⊢
  have hsl := hI.len
  by_cases hz : todo.length = 0
  · obtain rfl : todo = [] := List.length_eq_zero_iff.1 hz
    have hend : OcI (bsV bs) x t seen (fun _ => False) := hI.up hsl (fun _ h => h) (fun y _ _ h => .inl h) (fun s h => by
      obtain ⟨y, hy, _⟩ := h
      cases hy)
    repeat' (first | refine red ?_ | (refine redi (fun hc => ?_) (fun hc => ?_) <;> try first | (exfalso; omega) | with_reducible first | exact absurd rfl hc | exact absurd hc Bool.false_ne_true | exact absurd hc Bool.false_ne_true.symm) | fail)
    exact ⟨⟨false, fun _ E ρ hE => occ_end hend hT.lo hE ⟨hx2, hx3, hfr⟩⟩, rfl, ent_e⟩
  · obtain ⟨n, hn⟩ : ∃ n, todo.length = n + 1 := ⟨todo.length - 1, by omega⟩
    have hu : VOk (todo.getD n default).v := hV _ (by
      rw [List.getD_eq_getElem?_getD, List.getElem?_eq_getElem (by omega)]; exact List.getElem_mem _)
    have hul := hu.len
    haveI : ToN ((todo.length : Int) - 1) n := ⟨by omega⟩
    have htk : (todo.take n).length = n := by rw [List.length_take]; omega
    generalize hue : (todo.getD n default).v = uu at hu hul
    repeat' (first | refine red ?_ | refine reds ?_ | refine redv fun sv => ?_ | (refine redi (fun hc => ?_) (fun hc => ?_) <;> try first | (exfalso; omega) | with_reducible first | exact absurd rfl hc | exact absurd hc Bool.false_ne_true | exact absurd hc Bool.false_ne_true.symm) | fail)
    rename_i pv
    rw [hue]
    refine wc_loop_p [8, 10] [33, 34, 35, 36, 39, 40, 41, 42, 43, 44, 6, 45, 46, 47, 48, 49, 50, 51, 52, 53, 54, 55, 56, 57, 58, 59, 60, 61, 62, 63, 64, 65, 66, 67, 68, 69, 70, 71, 72, 73, 74, 75, 76, 77, 78, 79, 80, 81, 82, 83, 84, 85, 86, 87, 88, 89, 90, 91, 92, 93, 94, 95, 96, 37, 38] (ι := Value × List (Sh (List Int)) × List Bool × Nat) (fun k => [k.1, .int .i64 k.2.2.2]) (fun k => [.ow [k.1] k.2.1, .ow [se] k.2.2.1]) (fun k => k.2.2.2 ≤ uu.length ∧ OcI (bsV bs) x t k.2.2.1 (fun s => WtS k.2.1 s ∨ s = uu) ∧ (∀ j, j < k.2.2.2 → Lkd (bsV bs) x k.2.2.1 (uu.getD j 0)) ∧ (∀ y ∈ k.2.1, VOk y.v) ∧ 2 * unsN k.2.2.1 + k.2.1.length + 1 ≤ 2 * unsN seen + todo.length) (fun k => uu.length - k.2.2.2) (sv, todo.take n, seen, 0) [.ow [sv] (todo.take n), .ow [se] seen] (by kernel_rfl) ⟨Nat.zero_le _, hI.up hsl (fun _ h => h) (fun y _ _ h => .inl h) (fun s h => .inl ((wts_pop hn h).imp id fun e => by rw [e, hue])), fun j hj => absurd hj (Nat.not_lt_zero _), fun y hy => hV y (List.mem_of_mem_take hy), by simp only; omega⟩ rfl ?_
    intro ⟨tw, td, sn, i⟩ u2 l2 hl2 ⟨hi, hI2, hL, hV2, hM⟩
    simp only [patch, List.map_cons, List.map_nil, List.set_cons_zero, List.set_cons_succ] at hl2
    subst hl2
    simp only [List.cons_append, List.nil_append] at hi hI2 hL hV2 hM ⊢
    have hsl2 := hI2.len
    by_cases hil : i < uu.length
    · have hui := hu.lo _ (getD_mem hil)
      have he : (bs.getD (-1 - uu.getD i 0).toNat default).v = bdW (bsV bs) (uu.getD i 0) := hget _
      repeat' (first | refine red ?_ | refine redf fun hbi => ?_ | refine reds ?_ | (refine redi (fun hc => ?_) (fun hc => ?_) <;> try first | (exfalso; omega) | with_reducible first | exact absurd rfl hc | exact absurd hc Bool.false_ne_true | exact absurd hc Bool.false_ne_true.symm) | ((refine wa_begin 11 [false, false, false, false, false, false, false, false, false, false, false, false, false, false, false, false, false, false, false, false, false, false, false, false, false, false, false, false, false, false, false] [] ?_ <;> refine wa_p 0 ?_ <;> refine wa_p 1 ?_ <;> refine wa_p 2 ?_ <;> (first | refine wa_f 3 fun hbi => ?_ | fail) <;> refine wa_p 4 ?_ <;> refine wa_p 5 ?_ <;> (first | (refine wa_if 50 (fun hc => ?_) (fun hc => ?_) <;> (try first | (exfalso; omega) | with_reducible first | exact absurd rfl hc | exact absurd hc Bool.false_ne_true | exact absurd hc Bool.false_ne_true.symm) <;> first | refine wa_pg 6 ?_ | refine wa_no 6 ?_) | fail) <;> (first | refine wa_pg 7 ?_ | refine wa_no 7 ?_ | fail) <;> (first | refine wa_pg 8 ?_ | refine wa_no 8 ?_ | fail) <;> (first | refine wa_pg 9 ?_ | refine wa_no 9 ?_ | fail) <;> (first | refine wa_pg 10 ?_ | refine wa_no 10 ?_ | fail) <;> (first | refine wa_pg 11 ?_ | refine wa_no 11 ?_ | fail) <;> (first | refine wa_pg 12 ?_ | refine wa_no 12 ?_ | fail) <;> (first | refine wa_pg 13 ?_ | refine wa_no 13 ?_ | fail) <;> (first | refine wa_pg 14 ?_ | refine wa_no 14 ?_ | fail) <;> (first | refine wa_p 15 ?_ | fail) <;> refine wa_p 16 ?_ <;> (first | refine wa_no 17 ?_ | (refine wa_if 61 (fun hc => ?_) (fun hc => ?_) <;> (try first | (exfalso; omega) | with_reducible first | exact absurd rfl hc | exact absurd hc Bool.false_ne_true | exact absurd hc Bool.false_ne_true.symm) <;> first | refine wa_pg 17 ?_ | refine wa_no 17 ?_) | fail) <;> (first | refine wa_pg 18 ?_ | refine wa_no 18 ?_ | fail) <;> (first | refine wa_pg 19 ?_ | refine wa_no 19 ?_ | fail) <;> (first | refine wa_pg 20 ?_ | refine wa_no 20 ?_ | fail) <;> (first | refine wa_pg 21 ?_ | refine wa_no 21 ?_ | fail) <;> (first | refine wa_pg 22 ?_ | refine wa_no 22 ?_ | fail) <;> (first | refine wa_pg 23 ?_ | refine wa_no 23 ?_ | fail) <;> (first | refine wa_pg 24 ?_ | refine wa_no 24 ?_ | fail) <;> (first | refine wa_pg 25 ?_ | refine wa_no 25 ?_ | fail) <;> (first | refine wa_pg 26 ?_ | refine wa_no 26 ?_ | fail) <;> (first | refine wa_no 27 ?_ | (refine wa_do 27 ?_ <;> (repeat' (first | refine red ?_ | refine redv fun sv => ?_ | fail))) | fail) <;> (first | refine wa_no 28 ?_ | (refine wa_do 28 ?_ <;> (repeat' (first | refine red ?_ | fail))) | fail) <;> (first | refine wa_pg 29 ?_ | refine wa_no 29 ?_ | fail) <;> (first | refine wa_p 30 ?_ | fail)) <;> (refine wa_end ?_)) | ((refine wa_begin 13 [false, false, false, false, false, false, false, false, false, false, false, false, false, false, false] [13] ?_ <;> refine wa_p 0 ?_ <;> refine wa_p 1 ?_ <;> (first | refine wa_p 2 ?_ | fail) <;> (first | refine wa_p 3 ?_ | fail) <;> (first | refine wa_p 4 ?_ | fail) <;> refine wa_p 5 ?_ <;> refine wa_p 6 ?_ <;> refine wa_p 7 ?_ <;> (first | refine wa_f 8 fun hbi => ?_ | fail) <;> (first | refine wa_p 9 ?_ | fail) <;> (first | refine wa_p 10 ?_ | fail) <;> (first | (refine wa_do 11 ?_ <;> (repeat' (first | refine red ?_ | refine redv fun sv => ?_ | fail))) | fail) <;> (refine wa_do 12 ?_ <;> (repeat' (first | refine red ?_ | refine redv fun sv => ?_ | fail))) <;> (refine wa_do 13 ?_ <;> (repeat' (first | refine red ?_ | refine redv fun sv => ?_ | fail))) <;> refine wa_p0 14 ?_) <;> (refine wa_end ?_)) | fail)
      · exact ⟨⟨true, fun h => by cases h⟩, rfl, ent_e⟩
      · have hne : bdW (bsV bs) (uu.getD i 0) ≠ [] := fun e => by
          have hc2 : (0 : Int) < (bs.getD (-1 - uu.getD i 0).toNat default).v.length := by assumption
          rw [he, e] at hc2; simp at hc2
        have hsf : sn.getD (-1 - uu.getD i 0).toNat false = false := by assumption
        have hun := uns_set (seen := sn) (k := (-1 - uu.getD i 0).toNat) (by omega) hsf
        have hat := hB.at ⟨hui, by omega⟩ hne
        refine wq_next (sv, td ++ [Sh.mk (bs.getD (-1 - uu.getD i 0).toNat default).v], sn.set (-1 - uu.getD i 0).toNat true, i + 1) ⟨by simp only; omega, ?_, ?_, ?_, by simp only [List.length_append, List.length_cons, List.length_nil]; omega⟩ (by simp only; omega) (by kernel_rfl) ent_e
        · refine hI2.up (by simp only [List.length_set]; exact hsl2) (fun k => set_true) (fun y h1 h2 h3 => ?_) (fun s h => .inl (h.imp wts_add id))
          rcases getD_set_true h3 with h4 | h4
          · exact .inl h4
          · right
            have hy : y = uu.getD i 0 := by omega
            rw [hy]
            refine ⟨hne, .inl ?_⟩
            rw [← he]
            exact wts_new
        · refine lkd_next (fun j hj => (hL j hj).up fun k => set_true) ⟨by assumption, fun _ _ => ?_⟩
          simp only
          rw [List.getD_eq_getElem?_getD, List.getElem?_set, if_pos rfl, if_pos (by omega)]; rfl
        · intro y hy
          rcases List.mem_append.1 hy with h | h
          · exact hV2 y h
          · rw [List.mem_singleton] at h
            rw [h]
            simp only
            rw [he]; exact hat.1
      · have hz2 : bdW (bsV bs) (uu.getD i 0) = [] := by
          rw [← he]
          exact List.length_eq_zero_iff.1 (by omega)
        exact wq_next (tw, td, sn, i + 1) ⟨by simp only; omega, hI2, lkd_next hL ⟨by assumption, fun _ h => absurd hz2 h⟩, hV2, hM⟩ (by simp only; omega) (by kernel_rfl) ent_e
      · exact wq_next (tw, td, sn, i + 1) ⟨by simp only; omega, hI2, lkd_next hL ⟨by assumption, fun _ _ => by assumption⟩, hV2, hM⟩ (by simp only; omega) (by kernel_rfl) ent_e
      · exact wq_next (tw, td, sn, i + 1) ⟨by simp only; omega, hI2, lkd_next hL ⟨by assumption, fun h => by omega⟩, hV2, hM⟩ (by simp only; omega) (by kernel_rfl) ent_e
    · have hall : ∀ z ∈ uu, Lkd (bsV bs) x sn z := fun z hz => by
        obtain ⟨j, hj, rfl⟩ := List.getElem_of_mem hz
        have := hL j (by omega)
        rw [List.getD_eq_getElem?_getD, List.getElem?_eq_getElem hj] at this
        exact this
      have hI3 : OcI (bsV bs) x t sn (WtS td) := hI2.up hsl2 (fun _ h => h) (fun y _ _ h => .inl h) (fun s h => h.imp id fun e => by rw [e]; exact hall)
      repeat' (first | refine red ?_ | (refine redi (fun hc => ?_) (fun hc => ?_) <;> try first | (exfalso; omega) | with_reducible first | exact absurd rfl hc | exact absurd hc Bool.false_ne_true | exact absurd hc Bool.false_ne_true.symm) | fail)
      exact wq_next (tw, td, sn) ⟨hI3, hV2, by simp only; omega⟩ (by simp only; omega) (by kernel_rfl) ent_e
instance l11Occurs_ctr {Γ Δ : List Atom} {bb : Nat} {so vt : Value} {bs : List (Sh (List Int))} {t : List Int} {x : Int} [hb : HasBk Γ bb [so]] [h3 : PullOw (List (Sh (List Int))) repList Γ [so] bs Δ] [hb1 : HasBk Δ bb [so]] [h2 : HasIm (List Int) repList Δ [vt] t] :
    CtrC Try.prog 80 [.pointer (some ⟨bb, 0, none⟩), .int .i64 x, vt] Γ (OcC bs x t) (OcT bs x t) (fun q : OcT bs x t => .bool q.1) (fun q => .ow [so] bs :: Δ) := ⟨fun s w0 => l11Occurs_spec s⟩

end Go.Proofs.Ytjblieilblcdnaa
