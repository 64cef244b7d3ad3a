/- The rules of the walk: an element of an owned list, shared or changed in place; answers that are only read. -/
import Derived.Test.YtbbdjjlnachnlaaGreatDoorEngX
import Derived.Test.YtbbdjjlnachnlaaGreatDoorDraw6
import Derived.Test.YtbbdjjlnachnlaaGreatDoorEngQ
import Derived.Test.YtbbdjjlnachnlaaGreatDoorL06
namespace Go.Eng
open Go Go.RowKit
set_option linter.unusedVariables false
set_option linter.unusedSimpArgs false
set_option synthInstance.maxHeartbeats 400000
/-- An element that is shared: where its parts lie. -/
instance unoSh {α : Type} [Rep α] [un : Un α] : UnO (Sh α) := ⟨un.Pr, fun p x => un.cells p x.v, fun p x => .rd (un.cells p x.v) x.v :: un.atoms p x.v, fun x => un.fact x.v, fun {ok w F cs x} h => by
  obtain ⟨rfl, hr⟩ := (show F = [] ∧ Rep.rd ok w cs x.v from h)
  obtain ⟨p, rfl, hs, hf⟩ := un.law hr
  exact ⟨p, rfl, ⟨[], [], rfl, ⟨rfl, hr⟩, hs⟩, hf⟩⟩
section
variable {P : Program} {ops : Array Oper} {Q : Exit → Act → World → Prop} {w0 : World} {rest : List Oper} {l l' : List Value} {Γ Γb Δ Ε : List Atom} {ty : TypeId} {v : Value} {pos : String} {after : Array Edge} {d : Nat}
/-- append closes the list first. -/
instance (priority := 1300) {α : Type} {iα : Rep α} {T U : TypeId} {x y : Operand} {sv : Value} {xs : List α} {i : Nat} {ec : List Value} {e : α} {S : Prop} {G : Value → Prop} [hx : Ev l x sv] [hp : PullOw (Hole α) repHole Γ [sv] (Hole.mk xs i ec) Δ] [ho : OwnC α Δ ec e Ε True]
    [hr : RedV (WL P ops Q w0 (⟨some d, .call { callee := .builtin .append, args := #[x, y], argTypes := #[T, U] }, ty, pos, after, none⟩ :: rest) l (.ow [sv] (xs.set i e) :: Ε)) S G] :
    RedV (WL P ops Q w0 (⟨some d, .call { callee := .builtin .append, args := #[x, y], argTypes := #[T, U] }, ty, pos, after, none⟩ :: rest) l Γ) S G := ⟨fun s h => wl_unfocus (hp := hp) sv e (ho.run trivial) (hr.run s h)⟩
/-- What an owned or shared value reads as, once it may be shared. -/
class ToRd (α : Type) (i : Rep α) (Γ : List Atom) (c : Value) (x : outParam α) (Δ : outParam (List Atom)) (S : outParam Prop) : Prop where
  ent : S → ∀ w0, Ent w0 Γ (@Atom.rd α i [c] x :: Δ)
instance (priority := 1000) {α : Type} {i : Rep α} {c : Value} {x : α} [hp : PullOw α i Γ [c] x Δ] : ToRd α i Γ c x Δ True := ⟨fun _ w0 w hs => (hs.perm hp.perm).share⟩
instance (priority := 500) {α : Type} {i : Rep α} {c : Value} {x : α} [hp : HasIm α i Γ [c] x] : ToRd α i Γ c x Γ True := ⟨fun _ w0 w hs => hs.addrd (fun F h => hp.get h)⟩
instance (priority := 900) {α : Type} {iα : Rep α} {c : Value} {xs : List (Sh α)} [hp : PullOw (List (Sh α)) repList Γ [c] xs Δ] : ToRd (List α) repList Γ c (xs.map Sh.v) Δ True := ⟨fun _ w0 w hs => by
  have e : (xs.map Sh.v).map Sh.mk = xs := by rw [List.map_map]; exact List.map_id _
  haveI : PullOw (List (Sh α)) repList Γ [c] ((xs.map Sh.v).map Sh.mk) Δ := ⟨by rw [e]; exact hp.perm⟩
  exact ent_unsh (ys := xs.map Sh.v) c (fun w h => h) w hs⟩
instance (priority := 900) {α : Type} {iα : Rep α} {c : Value} {xs : List α} {i : Nat} {ec : List Value} {e : α} {S : Prop} [hp : PullOw (Hole α) repHole Γ [c] (Hole.mk xs i ec) Δ] [ho : OwnC α Δ ec e Ε S] : ToRd (List α) repList Γ c (xs.set i e) Ε S := ⟨fun s w0 w hs => by
  have h1 := sat_unfocus (hp := hp) (ho.run s) hs
  exact h1.share⟩
end
/-- The atoms but those of a cursor, and of owned lists of numbers. -/
class KeepI (Γ : List Atom) (Δ : outParam (List Atom)) : Prop where
  sub : Sub Γ Δ
instance : KeepI [] [] := ⟨Sub.nil⟩
instance (priority := 2000) {Γ Δ : List Atom} {code : List UInt8} {b : Nat} {vb : Value} {p : CurS code} [h : KeepI Γ Δ] : KeepI (.bk b (cur vb p) :: Γ) Δ := ⟨sub_skip h.sub⟩
instance (priority := 2000) {Γ Δ : List Atom} {cs : List Value} {xs : List Int} [h : KeepI Γ Δ] : KeepI (.ow cs xs :: Γ) Δ := ⟨sub_skip h.sub⟩
instance (priority := 500) {Γ Δ : List Atom} {A : Atom} [h : KeepI Γ Δ] : KeepI (A :: Γ) (A :: Δ) := ⟨sub_keep h.sub⟩
instance (priority := 50) {Γ : List Atom} : KeepI Γ Γ := ⟨Sub.refl⟩
end Go.Eng
namespace Go.Proofs.YtbbdjjlnachnlaaGreatDoor
open Go Go.Eng
set_option linter.unusedVariables false
set_option linter.unusedSimpArgs false
set_option synthInstance.maxHeartbeats 400000
set_option synthInstance.maxSize 1000
set_option maxHeartbeats 4000000
set_option maxRecDepth 20000

theorem l23DrawGround_spec {w0 : World} {Γ Δ : List Atom} {bc : Nat} {vb va : Value} {code : List UInt8} {p : CurS code} {a : List Int} [hb : PullBk Γ bc (cur vb p) Δ] [hv : HasRd (List UInt8) repList Δ [vb] code] [ha : HasRd (List Int) repList Δ [va] a] :
    CJ Tryz.prog 76 [.pointer (some ⟨bc, 0, none⟩), .agg #[va]] w0 Γ (fun q : Value × List Int × CurS code => q.1) (fun q => .rd [q.1] q.2.1 :: .bk bc (cur vb q.2.2) :: Δ) := by
  refine cj_perm hb.perm ?_
  refine cj_len va fun hla => ?_
  refine cj_enter Tryz.func76 Tryz.ntmps76 ?_
  repeat' (first | refine red ?_ | (refine redc fun r => ?_; try have hr := Subtype.property r) | refine redn fun b => ?_ | (refine redi (fun hc => ?_) (fun hc => ?_) <;> try first | (exfalso; omega) | exact absurd rfl hc) | ((refine wa_beginc 3 [false, false, false, false, false, false, false] [] ?_ <;> refine wa_p 0 ?_ <;> refine wa_p 1 ?_ <;> refine wa_p 2 ?_ <;> (refine wa_do 3 ?_ <;> (repeat' (first | refine red ?_ | (refine redc fun r => ?_; try have hr := Subtype.property r) | fail))) <;> (first | refine wa_p 4 ?_ | fail) <;> (refine wa_do 5 ?_ <;> (repeat' (first | refine red ?_ | (refine redc fun r => ?_; try have hr := Subtype.property r) | fail))) <;> refine wa_p 6 ?_) <;> (refine wa_end ?_)) | fail)
  · exact ⟨(r.1.1, r.1.2.1, r.1.2.2), rfl, ent_e⟩
  · exact ⟨(r.1.1, r.1.2.1, r.1.2.2), rfl, ent_e⟩
  · exact ⟨(r.1.1, r.1.2.1, r.1.2.2), rfl, ent_e⟩
  · exact ⟨(r.1.1, r.1.2.1, r.1.2.2), rfl, ent_rd r.1.1 ent_e⟩
instance l23DrawGround_ctr {Γ Δ : List Atom} {bc : Nat} {vb va : Value} {code : List UInt8} {p : CurS code} {a : List Int} [hb : PullBk Γ bc (cur vb p) Δ] [hv : HasRd (List UInt8) repList Δ [vb] code] [ha : HasRd (List Int) repList Δ [va] a] :
    CtrC Tryz.prog 76 [.pointer (some ⟨bc, 0, none⟩), .agg #[va]] Γ (True) (Value × List Int × CurS code) (fun q : Value × List Int × CurS code => q.1) (fun q => .rd [q.1] q.2.1 :: .bk bc (cur vb q.2.2) :: Δ) := ⟨fun s w0 => l23DrawGround_spec⟩

end Go.Proofs.YtbbdjjlnachnlaaGreatDoor
namespace Go.Proofs.YtbbdjjlnachnlaaGreatDoor
open Go Go.Eng
set_option linter.unusedVariables false
set_option linter.unusedSimpArgs false

theorem idx_cons_ne {x n : Int} {xs : List Int} (h : x ≠ n) : (x :: xs).idxOf n = xs.idxOf n + 1 := by
  rw [List.idxOf_cons, show (x == n) = false from by simpa using h]; rfl
theorem idx_at {n : Int} : ∀ {xs : List Int} {k : Nat}, n ∉ xs.take k → k < xs.length → xs.getD k 0 = n → xs.idxOf n = k
  | [], k, _, h, _ => by simp at h
  | x :: xs, 0, _, _, h => by
    have h : x = n := h
    rw [h, List.idxOf_cons_self]
  | x :: xs, k + 1, h1, h2, h3 => by
    simp only [List.take_succ_cons, List.mem_cons, not_or] at h1
    rw [idx_cons_ne (fun e => h1.1 e.symm), idx_at h1.2 (by simpa using h2) h3]
theorem idx_app {n : Int} {xs ys : List Int} (h : n ∈ xs) : (xs ++ ys).idxOf n = xs.idxOf n := by
  induction xs with
  | nil => simp at h
  | cons x xs ih =>
    by_cases he : x = n
    · subst he; simp
    · rw [List.cons_append, idx_cons_ne he, idx_cons_ne he, ih (by rcases List.mem_cons.1 h with h | h; exact absurd h.symm he; exact h)]
theorem idx_new {n : Int} {xs : List Int} (h : n ∉ xs) : (xs ++ [n]).idxOf n = xs.length := by
  induction xs with
  | nil => simp
  | cons x xs ih =>
    rw [List.cons_append, idx_cons_ne (fun e => h (by simp [e])), ih (fun hm => h (by simp [hm]))]; rfl
theorem IndexX {w0 : World} {Γ : List Atom} {sv : Value} {xs : List Int} {n : Int} [h : HasRd (List Int) repList Γ [sv] xs] : CJ Tryz.prog 172 [sv, .int .i64 n] w0 Γ (fun _ : Unit => .int .i64 (if n ∈ xs then (xs.idxOf n : Int) else -1)) (fun _ => Γ) := by
  refine cj_len sv fun hlx => ?_
  refine cj_enter Tryz.func172 Tryz.ntmps172 ?_
  repeat' (first | refine red ?_ | fail)
  refine wc_loop_c [8] [9, 10, 5, 11, 12, 13, 14, 15, 16, 17, 4, 18] (ι := Nat) (fun k => [.int .i64 k]) (fun k => k ≤ xs.length ∧ n ∉ xs.take k) (fun k => xs.length - k) 0 (by kernel_rfl) ⟨Nat.zero_le _, by simp⟩ ?_
  intro k u l' hl' ⟨hk, hkk⟩
  simp only [patch, List.map_cons, List.map_nil, List.set_cons_zero, List.set_cons_succ] at hl'
  subst hl'
  repeat' (first | refine red ?_ | refine redf fun hbi => ?_ | refine reds ?_ | (refine redi (fun hc => ?_) (fun hc => ?_) <;> try first | (exfalso; omega) | exact absurd rfl hc) | fail)
  · have hm := (mem_take_succ (xs := xs) (k := k) (v := n) (by omega)).2 (.inr hc)
    refine ⟨(), ret_int ?_, ent_e⟩
    rw [if_pos (List.mem_of_mem_take hm), idx_at hkk (by omega) hc.symm]
  · exact wq_next (k + 1) ⟨by omega, fun hm => by rcases (mem_take_succ (by omega)).1 hm with h | h; exact hkk h; exact hc h⟩ (by omega) (by kernel_rfl) ent_e
  · refine ⟨(), ret_int ?_, ent_e⟩
    rw [List.take_of_length_le (by omega)] at hkk
    rw [if_neg hkk]

/-- The variables of the first k numbers, in the order in which they come first. -/
def ordTo (t : List Int) : Nat → List Int
  | 0 => []
  | k + 1 => if t.getD k 0 < 0 ∧ t.getD k 0 ∉ ordTo t k then ordTo t k ++ [t.getD k 0] else ordTo t k
theorem ordTo_new {t : List Int} {k : Nat} (h : t.getD k 0 < 0) (h' : t.getD k 0 ∉ ordTo t k) : ordTo t (k + 1) = ordTo t k ++ [t.getD k 0] := if_pos ⟨h, h'⟩
theorem ordTo_old {t : List Int} {k : Nat} (h : ¬ (t.getD k 0 < 0 ∧ t.getD k 0 ∉ ordTo t k)) : ordTo t (k + 1) = ordTo t k := if_neg h
theorem ordTo_len (t : List Int) : ∀ k, (ordTo t k).length ≤ k
  | 0 => Nat.le_refl _
  | k + 1 => by
    have := ordTo_len t k
    unfold ordTo
    split
    · simp only [List.length_append, List.length_cons, List.length_nil]; omega
    · omega
theorem ordTo_nodup (t : List Int) : ∀ k, (ordTo t k).Nodup
  | 0 => List.nodup_nil
  | k + 1 => by
    have := ordTo_nodup t k
    unfold ordTo
    split
    · rename_i h
      rw [List.nodup_append]
      exact ⟨this, by simp, fun a ha b hb e => by rw [List.mem_singleton.1 hb] at e; exact h.2 (e ▸ ha)⟩
    · exact this
theorem ordTo_pre (t : List Int) (k : Nat) : ∀ j, ∃ s, ordTo t (k + j) = ordTo t k ++ s
  | 0 => ⟨[], by simp⟩
  | j + 1 => by
    obtain ⟨s, hs⟩ := ordTo_pre t k j
    rw [show k + (j + 1) = (k + j) + 1 by omega]
    by_cases h : t.getD (k + j) 0 < 0 ∧ t.getD (k + j) 0 ∉ ordTo t (k + j)
    · exact ⟨s ++ [t.getD (k + j) 0], by rw [ordTo_new h.1 h.2, hs, List.append_assoc]⟩
    · exact ⟨s, by rw [ordTo_old h, hs]⟩
theorem ordTo_mem {t : List Int} {k : Nat} (h : t.getD k 0 < 0) : t.getD k 0 ∈ ordTo t (k + 1) := by
  by_cases h' : t.getD k 0 ∈ ordTo t k
  · rw [ordTo_old (fun hh => hh.2 h')]; exact h'
  · rw [ordTo_new h h']; simp
/-- A number as a place in an order of variables says. -/
def rn (o : List Int) (n : Int) : Int := if n < 0 ∧ n ∈ o then -1 - (o.idxOf n : Int) else n
theorem rn_pre {t : List Int} {k m : Nat} (hkm : k < m) : rn (ordTo t m) (t.getD k 0) = rn (ordTo t (k + 1)) (t.getD k 0) := by
  obtain ⟨s, hs⟩ := ordTo_pre t (k + 1) (m - (k + 1))
  rw [show k + 1 + (m - (k + 1)) = m by omega] at hs
  unfold rn
  by_cases hn : t.getD k 0 < 0
  · have hm := ordTo_mem hn
    rw [if_pos ⟨hn, by rw [hs]; exact List.mem_append_left _ hm⟩, if_pos ⟨hn, hm⟩, hs, idx_app hm]
  · rw [if_neg (fun h => hn h.1), if_neg (fun h => hn h.1)]
def renOf (t : List Int) : List Int := t.map (rn (ordTo t t.length))
theorem map_take {f : Int → Int} {t : List Int} {k : Nat} (h : k < t.length) : (t.take (k + 1)).map f = (t.take k).map f ++ [f (t.getD k 0)] := by
  rw [List.take_succ_eq_append_getElem h, List.map_append, List.getD_eq_getElem?_getD, List.getElem?_eq_getElem h]; rfl

theorem l2Order_spec {w0 : World} {Γ : List Atom} {v : Value} {t : List Int} [h : HasRd (List Int) repList Γ [v] t] (hl : t.length ≤ 1048576) : CJ Tryz.prog 142 [v] w0 Γ (fun q : Value => q) (fun q => .ow [q] (ordTo t t.length) :: Γ) := by
  refine cj_lift (R := [.rd [v] t]) (A := fun q : Value => [.ow [q] (ordTo t t.length)]) (fun w1 => ?_) (reads_cons h (inferInstance)) (fun _ => inferInstance)
  simp only [List.cons_append, List.nil_append]
  refine cj_enter Tryz.func142 Tryz.ntmps142 ?_
  repeat' (first | refine red ?_ | refine redv fun sv => ?_ | fail)
  refine wc_loop_p [3, 4] [6, 7, 8, 9, 12, 13, 14, 15, 16, 17, 18, 19, 20, 21, 22, 23, 24, 25, 26, 27, 28, 29, 30, 31, 32, 10, 11] (ι := Nat × Value) (fun k => [k.2, .int .i64 k.1]) (fun k => [.ow [k.2] (ordTo t k.1)]) (fun k => k.1 ≤ t.length) (fun k => t.length - k.1) (0, sv) [.ow [sv] ([] : List Int)] (by kernel_rfl) (Nat.zero_le _) rfl ?_
  intro ⟨k, sw⟩ u l' hl' hk
  simp only [patch, List.map_cons, List.map_nil, List.set_cons_zero, List.set_cons_succ] at hl'
  subst hl'
  simp only [List.cons_append, List.nil_append] at hk ⊢
  have hol := ordTo_len t k
  repeat' (first | refine red ?_ | refine redf fun hbi => ?_ | refine reds ?_ | refine redc fun r => ?_ | refine redv fun sv => ?_ | (refine redi (fun hc => ?_) (fun hc => ?_) <;> try first | (exfalso; omega) | exact absurd rfl hc) | fail)
  · rw [← ordTo_new ‹t.getD k 0 < 0› hc]
    exact wq_next (k + 1, sv) (by simp only; omega) (by simp only; omega) (by kernel_rfl) ent_e
  · exact wq_next (k + 1, sw) (by simp only; omega) (by simp only; omega) (by kernel_rfl) (by simp only [ordTo_old (fun h => h.2 hc)]; exact ent_e)
  · exact wq_next (k + 1, sw) (by simp only; omega) (by simp only; omega) (by kernel_rfl) (by simp only [ordTo_old (t := t) (k := k) (fun h => by omega)]; exact ent_e)
  · rw [show t.length = k by omega]
    exact ⟨_, rfl, ent_e⟩
instance l2Order_ctr {Γ : List Atom} {v : Value} {t : List Int} [h : HasRd (List Int) repList Γ [v] t] :
    CtrC Tryz.prog 142 [v] Γ (t.length ≤ 1048576) (Value) (fun q : Value => q) (fun q => .ow [q] (ordTo t t.length) :: Γ) := ⟨fun s w0 => l2Order_spec s⟩

def rnT (o : List Int) (n : Int) (j : Nat) : Int := if n < 0 ∧ n ∈ o.take j then -1 - (o.idxOf n : Int) else n
theorem rnT_zero (o : List Int) (n : Int) : rnT o n 0 = n := by simp [rnT]
theorem nodup_take {o : List Int} {j : Nat} (hn : o.Nodup) (hj : j < o.length) : o.getD j 0 ∉ o.take j := by
  intro hm
  rw [List.getD_eq_getElem?_getD, List.getElem?_eq_getElem hj, Option.getD_some] at hm
  have h2 : (o.take j ++ o.drop j).Nodup := by rw [List.take_append_drop]; exact hn
  rw [List.nodup_append] at h2
  exact h2.2.2 _ hm _ (by rw [List.drop_eq_getElem_cons hj]; exact List.Mem.head _) rfl
theorem rnT_hit {o : List Int} {n : Int} {j : Nat} (hn : o.Nodup) (hj : j < o.length) (h : o.getD j 0 = n) (hneg : n < 0) : rnT o n (j + 1) = -1 - (j : Int) := by
  have h1 : n ∉ o.take j := h ▸ nodup_take hn hj
  unfold rnT
  rw [if_pos ⟨hneg, (mem_take_succ hj).2 (.inr h.symm)⟩, idx_at h1 hj h]
theorem rnT_miss {o : List Int} {n : Int} {j : Nat} (hj : j < o.length) (h : ¬ o.getD j 0 = n) : rnT o n (j + 1) = rnT o n j := by
  unfold rnT
  have e : n ∈ o.take (j + 1) ↔ n ∈ o.take j := by
    rw [mem_take_succ hj]
    exact ⟨fun h' => h'.elim id (fun h' => absurd h'.symm h), .inl⟩
  simp only [e]
theorem rnT_all {o : List Int} {n : Int} {j : Nat} (h : o.length ≤ j ∨ 0 ≤ n) : rnT o n j = rn o n := by
  unfold rnT rn
  rcases h with h | h
  · rw [List.take_of_length_le h]
  · rw [if_neg (by omega), if_neg (by omega)]
theorem rnT_b {o : List Int} {n : Int} {j : Nat} (ho : o.length ≤ 1048576) (h : -9223372036854775808 ≤ n ∧ n ≤ 9223372036854775807) : -9223372036854775808 ≤ rnT o n j ∧ rnT o n j ≤ 9223372036854775807 := by
  unfold rnT
  split
  · have := List.idxOf_le_length (a := n) (l := o)
    omega
  · exact h
theorem l2By_spec {w0 : World} {Γ : List Atom} {v vo : Value} {t o : List Int} [h : HasRd (List Int) repList Γ [v] t] [h1 : HasRd (List Int) repList Γ [vo] o] (hl : t.length ≤ 1048576) (hol : o.length ≤ 1048576) (hn : o.Nodup) : CJ Tryz.prog 141 [vo, v] w0 Γ (fun q : Value => q) (fun q => .ow [q] (t.map (rn o)) :: Γ) := by
  refine cj_lift (R := [.rd [v] t, .rd [vo] o]) (A := fun q : Value => [.ow [q] (t.map (rn o))]) (fun w1 => ?_) (reads_cons h (reads_cons h1 (inferInstance))) (fun _ => inferInstance)
  simp only [List.cons_append, List.nil_append]
  refine cj_enter Tryz.func141 Tryz.ntmps141 ?_
  repeat' (first | refine red ?_ | refine redv fun sv => ?_ | fail)
  refine wc_loop_p [5, 6] [10, 11, 12, 13, 16, 17, 18, 19, 7, 8, 20, 21, 22, 23, 24, 25, 26, 27, 28, 29, 30, 33, 34, 35, 36, 37, 38, 39, 40, 41, 42, 43, 31, 32, 44, 45, 46, 47, 14, 15] (ι := Nat × Value) (fun k => [k.2, .int .i64 k.1]) (fun k => [.ow [k.2] ((t.take k.1).map (rn o))]) (fun k => k.1 ≤ t.length) (fun k => t.length - k.1) (0, sv) [.ow [sv] ([] : List Int)] (by kernel_rfl) (Nat.zero_le _) rfl ?_
  intro ⟨k, sw⟩ u l' hl' hk
  simp only [patch, List.map_cons, List.map_nil, List.set_cons_zero, List.set_cons_succ] at hl'
  subst hl'
  simp only [List.cons_append, List.nil_append] at hk ⊢
  repeat' (first | refine red ?_ | refine redf fun hbi => ?_ | refine reds ?_ | (refine redi (fun hc => ?_) (fun hc => ?_) <;> try first | (exfalso; omega) | exact absurd rfl hc) | fail)
  · have hcb : -9223372036854775808 ≤ t.getD k 0 ∧ t.getD k 0 ≤ 9223372036854775807 := by assumption
    have hrb := fun j => rnT_b (j := j) hol hcb
    have hlm : ((t.take k).map (rn o)).length = k := by rw [List.length_map, List.length_take]; omega
    refine wc_loop_p [7, 8] [20, 21, 22, 23, 24, 25, 26, 27, 28, 29, 30, 33, 34, 35, 36, 37, 38, 39, 40, 41, 42, 43, 31, 32] (ι := Nat) (fun j => [.int .i64 (rnT o (t.getD k 0) j), .int .i64 j]) (fun j => []) (fun j => j ≤ o.length) (fun j => o.length - j) 0 [] (by rw [rnT_zero]; kernel_rfl) (Nat.zero_le _) rfl ?_
    intro j u l' hl' hj
    simp only [patch, List.map_cons, List.map_nil, List.set_cons_zero, List.set_cons_succ] at hl'
    subst hl'
    simp only [List.cons_append, List.nil_append] at hj ⊢
    have hrj := hrb j
    repeat' (first | refine red ?_ | refine redf fun hbi => ?_ | refine reds ?_ | refine redv fun sv => ?_ | (refine redi (fun hc => ?_) (fun hc => ?_) <;> try first | (exfalso; omega) | exact absurd rfl hc) | ((refine wa_begin 9 [false, false, false, false, false, false, false, false, false] [] ?_ <;> refine wa_p 0 ?_ <;> refine wa_p 1 ?_ <;> refine wa_p 2 ?_ <;> (first | refine wa_f 3 fun hbi => ?_ | fail) <;> refine wa_p 4 ?_ <;> refine wa_p 5 ?_ <;> refine wa_p 6 ?_ <;> (first | refine wa_f 7 fun hbi => ?_ | fail) <;> (first | refine wa_p 8 ?_ | fail)) <;> (refine wa_end ?_)) | fail)
    · exact wq_next (j + 1) (by omega) (by omega) (by rw [rnT_hit hn (by omega) hc ‹t.getD k 0 < 0›]; kernel_rfl) ent_e
    · exact wq_next (j + 1) (by omega) (by omega) (by rw [rnT_miss (by omega) hc]; kernel_rfl) ent_e
    · rw [rnT_all (.inr hc), ← map_take (by omega)]
      exact wq_next (k + 1, sv) (by simp only; omega) (by simp only; omega) (by kernel_rfl) ent_e
    · rw [rnT_all (.inl (by omega)), ← map_take (by omega)]
      exact wq_next (k + 1, sv) (by simp only; omega) (by simp only; omega) (by kernel_rfl) ent_e
  · rw [List.take_of_length_le (by omega)]
    exact ⟨_, rfl, ent_e⟩
instance l2By_ctr {Γ : List Atom} {v vo : Value} {t o : List Int} [h : HasRd (List Int) repList Γ [v] t] [h1 : HasRd (List Int) repList Γ [vo] o] :
    CtrC Tryz.prog 141 [vo, v] Γ ((t.length ≤ 1048576) ∧ (o.length ≤ 1048576) ∧ (o.Nodup)) (Value) (fun q : Value => q) (fun q => .ow [q] (t.map (rn o)) :: Γ) := ⟨fun s w0 => l2By_spec s.1 s.2.1 s.2.2⟩

/-- The first j numbers renamed. -/
def ownJ (t : List Int) (j : Nat) : List Int := (t.take j).map (rn (ordTo t t.length)) ++ t.drop j
theorem ownJ_zero (t : List Int) : ownJ t 0 = t := by simp [ownJ]
theorem ownJ_all (t : List Int) : ownJ t t.length = renOf t := by simp [ownJ, renOf]
theorem ownJ_len {t : List Int} {j : Nat} (h : j ≤ t.length) : (ownJ t j).length = t.length := by
  unfold ownJ
  rw [List.length_append, List.length_map, List.length_take, List.length_drop]; omega
theorem ownJ_get {t : List Int} {j : Nat} (h : j < t.length) : (ownJ t j).getD j 0 = t.getD j 0 := by
  have hl : ((t.take j).map (rn (ordTo t t.length))).length = j := by rw [List.length_map, List.length_take]; omega
  unfold ownJ
  rw [List.getD_eq_getElem?_getD, List.getElem?_append_right (by omega), hl, Nat.sub_self, List.getElem?_drop, Nat.add_zero, List.getD_eq_getElem?_getD]
theorem ownJ_set {t : List Int} {j : Nat} (h : j < t.length) : (ownJ t j).set j (rn (ordTo t t.length) (t.getD j 0)) = ownJ t (j + 1) := by
  have hl : ((t.take j).map (rn (ordTo t t.length))).length = j := by rw [List.length_map, List.length_take]; omega
  unfold ownJ
  rw [map_take h, List.set_append, if_neg (by omega), hl, Nat.sub_self, drop_get h, List.set_cons_zero, List.append_assoc]
  rfl
theorem ownJ_keep {t : List Int} {j : Nat} (h : j < t.length) (h0 : 0 ≤ t.getD j 0) : ownJ t (j + 1) = ownJ t j := by
  unfold ownJ
  rw [map_take h, drop_get h, List.append_assoc, show rn (ordTo t t.length) (t.getD j 0) = t.getD j 0 from if_neg (fun h => by omega)]
  rfl
theorem rn_new {t : List Int} {j : Nat} (h : j < t.length) (h1 : t.getD j 0 < 0) (h2 : t.getD j 0 ∉ ordTo t j) : rn (ordTo t t.length) (t.getD j 0) = -1 - ((ordTo t j).length : Int) := by
  rw [rn_pre h]
  unfold rn
  rw [if_pos ⟨h1, ordTo_mem h1⟩, ordTo_new h1 h2, idx_new h2]
theorem rn_old {t : List Int} {j : Nat} (h : j < t.length) (h1 : t.getD j 0 < 0) (h2 : t.getD j 0 ∈ ordTo t j) : rn (ordTo t t.length) (t.getD j 0) = -1 - ((ordTo t j).idxOf (t.getD j 0) : Int) := by
  rw [rn_pre h]
  unfold rn
  rw [if_pos ⟨h1, ordTo_mem h1⟩, ordTo_old (fun hh => hh.2 h2)]
theorem renumber_spec {w0 : World} {Γ : List Atom} {v : Value} {t : List Int} [h : HasRd (List (List Int)) repList Γ [v] [t]] (hl : t.length ≤ 1048576) : CJ Tryz.prog 161 [v] w0 Γ (fun q : Value => q) (fun q => .ow [q] [renOf t] :: Γ) := by
  refine cj_lift (R := [.rd [v] [t]]) (A := fun q : Value => [.ow [q] [renOf t]]) (fun w1 => ?_) (reads_cons h (inferInstance)) (fun _ => inferInstance)
  simp only [List.cons_append, List.nil_append]
  have hX : ∀ (Δ : List Atom) (sv : Value) (xs : List Int) (n : Int) [HasRd (List Int) repList Δ [sv] xs], CtrC Tryz.prog 172 [sv, .int .i64 n] Δ True Unit (fun _ => .int .i64 (if n ∈ xs then (xs.idxOf n : Int) else -1)) (fun _ => Δ) := fun Δ sv xs n _ => ⟨fun _ w0 => IndexX⟩
  refine cj_enter Tryz.func161 Tryz.ntmps161 ?_
  repeat' (first | refine red ?_ | fail)
  refine wc_loop_p [3, 4, 13] [14, 15, 16, 6, 17, 18, 7, 19, 20, 21, 22, 23, 24, 25, 8, 9, 26, 27, 28, 29, 30, 10, 31, 32, 33, 34, 35, 36, 37, 38, 39, 40, 41, 42, 43, 44, 45, 46, 47, 48, 49] (ι := Nat × Value × Value) (fun k => [k.2.1, k.2.2, .int .i64 k.1]) (fun k => [.ow [k.2.1] (if k.1 = 0 then [] else ordTo t t.length), .ow [k.2.2] (if k.1 = 0 then [] else [renOf t])]) (fun k => k.1 ≤ 1) (fun k => 1 - k.1) (0, .slice none 0 0, .slice none 0 0) [.ow [.slice none 0 0] ([] : List Int), .ow [.slice none 0 0] ([] : List (List Int))] (by kernel_rfl) (Nat.zero_le _) rfl ?_
  intro ⟨k, sw, sx⟩ u l' hl' hk
  simp only [patch, List.map_cons, List.map_nil, List.set_cons_zero, List.set_cons_succ] at hl'
  subst hl'
  simp only [List.cons_append, List.nil_append] at hk ⊢
  have h01 : k = 0 ∨ k = 1 := by omega
  rcases h01 with rfl | rfl
  · simp only [if_pos]
    repeat' (first | refine red ?_ | refine redc fun r => ?_ | (refine redd fun p cs as_ hcs has hf => ?_; simp only [Un.cells, Un.atoms, Un.fact, List.cons_append, List.nil_append] at hcs has hf; subst hcs has) | (refine redi (fun hc => ?_) (fun hc => ?_) <;> try first | (exfalso; omega) | exact absurd rfl hc) | fail)
    · simp only [List.getD_cons_zero] at hf ⊢
      refine wc_loop_p [3, 21] [22, 23, 24, 25, 8, 9, 26, 27, 28, 29, 30, 10, 31, 32, 33, 34, 35, 36, 37, 38, 39, 40, 41, 42, 43, 44] (ι := Nat × Value) (fun j => [j.2, .int .i64 j.1]) (fun j => [.ow [j.2] (ordTo t j.1), .ow [r] (ownJ t j.1)]) (fun j => j.1 ≤ t.length) (fun j => t.length - j.1) (0, sw) [.ow [sw] ([] : List Int), .ow [r] t] (by kernel_rfl) (Nat.zero_le _) (by simp only [ordTo, ownJ_zero]) ?_
      intro ⟨j, sy⟩ u l' hl' hj
      simp only [patch, List.map_cons, List.map_nil, List.set_cons_zero, List.set_cons_succ] at hl'
      subst hl'
      simp only [List.cons_append, List.nil_append] at hj ⊢
      have hol := ordTo_len t j
      have hwl := ownJ_len hj
      have hix := List.idxOf_le_length (a := t.getD j 0) (l := ordTo t j)
      have hib : -1 ≤ (if t.getD j 0 ∈ ordTo t j then ((ordTo t j).idxOf (t.getD j 0) : Int) else -1) ∧ (if t.getD j 0 ∈ ordTo t j then ((ordTo t j).idxOf (t.getD j 0) : Int) else -1) ≤ 1048576 := by split <;> omega
      by_cases hlt : j < t.length
      · have hge := ownJ_get hlt
        rw [← hge] at hib
        repeat' (first | refine red ?_ | refine redf fun hbi => ?_ | refine reds ?_ | refine redc fun r => ?_ | refine redv fun sv => ?_ | (refine redi (fun hc => ?_) (fun hc => ?_) <;> try first | (exfalso; omega) | exact absurd rfl hc) | fail)
        all_goals rw [hge] at *
        all_goals first
          | (have hneg : t.getD j 0 < 0 := by assumption
             have hnm : t.getD j 0 ∉ ordTo t j := fun hm => by rw [if_pos hm] at hc; omega
             rw [← rn_new hlt hneg hnm, ownJ_set hlt, ← ordTo_new hneg hnm]
             exact wq_next (j + 1, sv) (by simp only; omega) (by simp only; omega) (by kernel_rfl) ent_e)
          | (have hneg : t.getD j 0 < 0 := by assumption
             have hm : t.getD j 0 ∈ ordTo t j := by
               by_cases hm : t.getD j 0 ∈ ordTo t j
               · exact hm
               · rw [if_neg hm] at hc; omega
             rw [if_pos hm, ← rn_old hlt hneg hm, ownJ_set hlt]
             exact wq_next (j + 1, sy) (by simp only; omega) (by simp only; omega) (by kernel_rfl) (by simp only [ordTo_old (fun h => h.2 hm)]; exact ent_e))
          | (have h0 : 0 ≤ t.getD j 0 := by assumption
             exact wq_next (j + 1, sy) (by simp only; omega) (by simp only; omega) (by kernel_rfl) (by simp only [ordTo_old (t := t) (k := j) (fun h => by omega), ownJ_keep hlt h0]; exact ent_e))
          | trace_state
      · repeat' (first | refine red ?_ | refine reds ?_ | refine redv fun sv => ?_ | (refine redi (fun hc => ?_) (fun hc => ?_) <;> try first | (exfalso; omega) | exact absurd rfl hc) | fail)
        rw [show j = t.length by omega, ownJ_all]
        exact wq_next (1, sy, sv) (by simp only; omega) (by simp only; omega) (by kernel_rfl) (by simp only [Nat.one_ne_zero, if_false]; exact ent_e)
    · exfalso; simp at hc
  · simp only [Nat.one_ne_zero, if_false]
    repeat' (first | refine red ?_ | (refine redd fun p cs as_ hcs has hf => ?_; simp only [Un.cells, Un.atoms, Un.fact, List.cons_append, List.nil_append] at hcs has hf; subst hcs has) | (refine redi (fun hc => ?_) (fun hc => ?_) <;> try first | (exfalso; omega) | exact absurd rfl hc) | fail)
    · exfalso; simp at hc
    · exact ⟨_, rfl, ent_e⟩
instance renumber_ctr {Γ : List Atom} {v : Value} {t : List Int} [h : HasRd (List (List Int)) repList Γ [v] [t]] :
    CtrC Tryz.prog 161 [v] Γ (t.length ≤ 1048576) (Value) (fun q : Value => q) (fun q => .ow [q] [renOf t] :: Γ) := ⟨fun s w0 => renumber_spec s⟩

theorem renamed_spec {w0 : World} {Γ : List Atom} {v : Value} {t : List Int} [h : HasIm (List Int) repList Γ [v] t] (hl : t.length ≤ 1048576) : CJ Tryz.prog 131 [v] w0 Γ (fun q : Value => q) (fun q => .rd [q] (renOf t) :: Γ) := by
  refine cj_enter Tryz.func131 Tryz.ntmps131 ?_
  repeat' (first | refine red ?_ | refine reds ?_ | refine redc fun r => ?_ | refine redv fun sv => ?_ | fail)
  refine wl_share r ?_
  refine wl_peek r ((0 : Nat) : Int) (by simp) fun p hf => ?_
  have hsz1 : Rep.sz (List Int) = 1 := rfl
  simp only [Un.cells, Un.atoms, Un.fact, List.cons_append, List.nil_append, Int.toNat_natCast, hsz1, List.getD_cons_zero] at hf ⊢
  repeat' (first | refine red ?_ | fail)
  exact ⟨_, rfl, ent_e⟩
instance renamed_ctr {Γ : List Atom} {v : Value} {t : List Int} [h : HasIm (List Int) repList Γ [v] t] :
    CtrC Tryz.prog 131 [v] Γ (t.length ≤ 1048576) (Value) (fun q : Value => q) (fun q => .rd [q] (renOf t) :: Γ) := ⟨fun s w0 => renamed_spec s⟩

theorem l2Renamed_spec {w0 : World} {Γ : List Atom} {v : Value} {t : List Int} [h : HasRd (List Int) repList Γ [v] t] (hl : t.length ≤ 1048576) : CJ Tryz.prog 91 [v] w0 Γ (fun q : Value => q) (fun q => .ow [q] (renOf t) :: Γ) := by
  refine cj_lift (R := [.rd [v] t]) (A := fun q : Value => [.ow [q] (renOf t)]) (fun w1 => ?_) (reads_cons h (inferInstance)) (fun _ => inferInstance)
  simp only [List.cons_append, List.nil_append]
  have hol := ordTo_len t t.length
  have hnd := ordTo_nodup t t.length
  unfold renOf
  refine cj_enter Tryz.func91 Tryz.ntmps91 ?_
  repeat' (first | refine red ?_ | refine redc fun r => ?_ | fail)
  exact ⟨_, rfl, ent_e⟩
instance l2Renamed_ctr {Γ : List Atom} {v : Value} {t : List Int} [h : HasRd (List Int) repList Γ [v] t] :
    CtrC Tryz.prog 91 [v] Γ (t.length ≤ 1048576) (Value) (fun q : Value => q) (fun q => .ow [q] (renOf t) :: Γ) := ⟨fun s w0 => l2Renamed_spec s⟩

end Go.Proofs.YtbbdjjlnachnlaaGreatDoor
