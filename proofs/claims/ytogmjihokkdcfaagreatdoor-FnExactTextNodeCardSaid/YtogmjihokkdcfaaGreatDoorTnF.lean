/- A text is a node's just when its parts are read and the node is well formed. -/
import Derived.Test.YtogmjihokkdcfaaGreatDoorTnM
import Derived.Test.YtogmjihokkdcfaaGreatDoorNumT
import Derived.LaidSub
import Derived.MakeChecks
import Derived.Test.YtogmjihokkdcfaaGreatDoorTnC
import Derived.Test.YtogmjihokkdcfaaGreatDoorAug3
namespace Go.Proofs.YtogmjihokkdcfaaGreatDoor
open Go Go.Eng
set_option linter.unusedVariables false
set_option linter.unusedSimpArgs false
theorem jnB_snoc (c : UInt8) (w : List UInt8) : ∀ ws : List (List UInt8), jnB c (ws ++ [w]) = jnB c ws ++ ((if ws.length = 0 then [] else [c]) ++ w)
  | [] => rfl
  | [x] => rfl
  | x :: y :: t => by
    have ih := jnB_snoc c w (y :: t)
    rw [List.cons_append, List.cons_append, jnB, ← List.cons_append, ih, jnB, if_neg (by simp), if_neg (by simp), List.append_assoc]
    rfl
theorem jnT_jnB (c : UInt8) (ss : List ByteArray) : ∀ k, k ≤ ss.length → jnT c ss k = jnB c ((ss.take k).map fun b => b.data.toList)
  | 0, _ => rfl
  | k + 1, h => by
    rw [jnT, jnT_jnB c ss k (by omega), List.take_succ_eq_append_getElem (by omega), List.map_append, List.map_cons, List.map_nil, jnB_snoc]
    congr 2
    · rw [List.length_map, List.length_take, Nat.min_eq_left (by omega)]
    · rw [List.getD_eq_getElem?_getD, List.getElem?_eq_getElem (by omega), Option.getD_some]
theorem jnT_all (c : UInt8) (ss : List ByteArray) : jnT c ss ss.length = jnB c (ss.map fun b => b.data.toList) := by
  rw [jnT_jnB c ss _ (Nat.le_refl _), List.take_length]
theorem allW_all {p : List UInt8 → Prop} {ws : List (List UInt8)} (h : AllW p ws ws.length) : ∀ w ∈ ws, p w := fun w hw => by
  obtain ⟨i, hi, rfl⟩ := List.getElem_of_mem hw
  have := h i hi
  rwa [List.getD_eq_getElem?_getD, List.getElem?_eq_getElem hi] at this
theorem map_id_of {ws : List (List UInt8)} {f : List UInt8 → List UInt8} (h : ∀ w ∈ ws, f w = w) : ws.map f = ws := by
  rw [List.map_congr_left h]
  exact List.map_id _
/-- A list that is read is written back. -/
theorem rdL_lsT {s : ByteArray} {p : List Int} (h : rdL s = some p) : lsT p = s := by
  unfold rdL at h
  split at h
  · rename_i hs
    injection h with h
    rw [← h, hs]; rfl
  · split at h
    · rename_i hs ha
      injection h with h
      have hall := allW_all (decQ_iff.1 ha)
      have hl : p.length ≠ 0 := by
        rw [← h, List.length_map]
        have := spB_ne 44 s.data.toList
        cases hx : spB 44 s.data.toList with
        | nil => exact absurd hx this
        | cons _ _ => simp
      rw [lsT, if_neg hl, show p.length = (nT p).length from (nT_len p).symm, jnT_all]
      have hm : ((nT p).map fun b => b.data.toList) = spB 44 s.data.toList := by
        rw [← h, nT, List.map_map, List.map_map]
        exact map_id_of fun w hw => (okI_val (hall w hw)).2
      rw [hm, jn_sp]
      rfl
    · cases h
/-- Terms that are read are written back. -/
theorem rdT_trT {a : List Int} {s : ByteArray} {q : List (List Int)} (h : rdT a s = some q) : trT a q = s ∧ TsOk a q q.length := by
  unfold rdT at h
  split at h
  · rename_i hs
    injection h with h
    rw [← h, hs]
    exact ⟨rfl, fun i hi => by simp at hi⟩
  · split at h
    · rename_i hs ha
      injection h with h
      have hall := allW_all (decQ_iff.1 ha)
      have hl : q.length ≠ 0 := by
        rw [← h, List.length_map]
        have := spB_ne 59 s.data.toList
        cases hx : spB 59 s.data.toList with
        | nil => exact absurd hx this
        | cons _ _ => simp
      refine ⟨?_, fun i hi => ?_⟩
      · rw [trT, if_neg hl, show q.length = (tT a q).length from (tT_len a q).symm, jnT_all]
        have hm : ((tT a q).map fun b => b.data.toList) = spB 59 s.data.toList := by
          rw [← h, tT, List.map_map, List.map_map]
          exact map_id_of fun w hw => (okT_val (hall w hw)).2.1
        rw [hm, jn_sp]
        rfl
      · rw [List.getD_eq_getElem?_getD, List.getElem?_eq_getElem hi, Option.getD_some]
        have key : ∀ t ∈ q, termOk a t = true := fun t ht => by
          rw [← h] at ht
          obtain ⟨w, hw, he⟩ := List.mem_map.1 ht
          rw [← he]
          exact (okT_val (hall w hw)).1
        exact key _ (List.getElem_mem hi)
    · cases h
theorem tn_law {a : List Int} {s : ByteArray} {x y z u : List UInt8} {p : List Int} {q : List (List Int)} {r : List Int} (h4 : spB 32 s.data.toList = [x, y, z, u]) (hp : rdL (S y) = some p) (hq : rdT a (S z) = some q) (hr : rdL (S u) = some r) :
    ndT a (nkd (S x), p, q, r) = s ↔ sigOk a = true ∧ nodeOk (nkd (S x), p, q, r) 64 = true := by
  constructor
  · intro h
    by_cases hn : NdP a (nkd (S x), p, q, r)
    · exact ⟨hn.1, hn.2.1⟩
    · rw [ndT, if_neg hn] at h
      rw [← h] at h4
      have : spB 32 ByteArray.empty.data.toList = [[]] := rfl
      rw [this] at h4
      cases h4
  · rintro ⟨h1, h2⟩
    obtain ⟨ht, hts⟩ := rdT_trT hq
    have hnp : NodeP (nkd (S x), p, q, r) 64 := of_decide_eq_true h2
    rw [ndT, if_pos ⟨h1, h2, hts⟩]
    simp only
    rw [knT_nkd hnp.1.2.1, rdL_lsT hp, ht, rdL_lsT hr]
    apply ByteArray.ext
    apply Array.ext'
    have hj := jn_sp 32 s.data.toList
    rw [h4] at hj
    rw [← hj]
    simp [jnB, S, ByteArray.data_append]
end Go.Proofs.YtogmjihokkdcfaaGreatDoor
namespace Go.Proofs.YtogmjihokkdcfaaGreatDoor
open Go Go.Eng
set_option linter.unusedVariables false
set_option linter.unusedSimpArgs false
set_option maxRecDepth 20000
/-- The table stands in memory where the row lists it. -/
theorem tab_rd {W : World} {l : List (String × DataW Unit)} (h : laidMetH Tryz.prog l W) (hl : (l.filter fun x => x.1 == "internal/strconv.uint64pow10") = [("internal/strconv.uint64pow10", Lib.tabData .u64 Lib.pow10Tab)]) :
    @Rep.rd Tab repTab (fun _ => True) W [tabV] (Tab.mk Lib.pow10Tab) := by
  have h1 := h.filter fun x => x.1 == "internal/strconv.uint64pow10"
  rw [hl, MakeChecks.laidMetH_plain _ _ _ (by kernel_rfl)] at h1
  have h2 := Lib.tabIs_of_head (P := Tryz.prog) (W := W) (name := "internal/strconv.uint64pow10") (k := .u64) (zs := Lib.pow10Tab) (rest := []) (g := 5) tab_named (t := 139) (e := 102) (n := 20) (by kernel_rfl) (by kernel_rfl) (by kernel_rfl) (by kernel_rfl) (by kernel_rfl) h1
  unfold Lib.TabIs World.var? at h2
  rw [tab_named] at h2
  simp only [Option.bind_some] at h2
  split at h2
  · rename_i cs e fz he
    exact ⟨5, e, fz, rfl, trivial, by rw [he]; simp only [Option.some.injEq] at h2; rw [h2]⟩
  · exact absurd h2 (by simp)
end Go.Proofs.YtogmjihokkdcfaaGreatDoor
namespace Go.Proofs.YtogmjihokkdcfaaGreatDoor
open Go Go.Eng Go.RowKit
set_option linter.unusedVariables false
set_option linter.unusedSimpArgs false
set_option synthInstance.maxHeartbeats 400000
set_option synthInstance.maxSize 1000
set_option maxHeartbeats 2000000
set_option maxRecDepth 20000


/-- The parts of a text. -/
noncomputable def tnP (a : List Int) (x y z u : List UInt8) : Option SNode :=
  match rdL (S y), rdT a (S z), rdL (S u) with
  | some p, some q, some r => if sigOk a = true ∧ nodeOk (nkd (S x), p, q, r) 64 = true then some (nkd (S x), p, q, r) else none
  | _, _, _ => none
/-- The node of a text. -/
noncomputable def tnO (a : List Int) (s : ByteArray) : Option SNode :=
  if s.size ≤ 6000 then (match spB 32 s.data.toList with | [x, y, z, u] => tnP a x y z u | _ => none) else none
noncomputable abbrev tnV (a : List Int) (s : ByteArray) : SNode := (tnO a s).getD (0, [], [], [])
theorem tnP_yes {a : List Int} {x y z u : List UInt8} (h1 : (rdL (S y)).isSome = true) (h2 : (rdT a (S z)).isSome = true) (h3 : (rdL (S u)).isSome = true) (h4 : sigOk a = true ∧ nodeOk (nkd (S x), (rdL (S y)).getD [], (rdT a (S z)).getD [], (rdL (S u)).getD []) 64 = true) :
    tnP a x y z u = some (nkd (S x), (rdL (S y)).getD [], (rdT a (S z)).getD [], (rdL (S u)).getD []) := by
  obtain ⟨p, hp⟩ := Option.isSome_iff_exists.1 h1
  obtain ⟨q, hq⟩ := Option.isSome_iff_exists.1 h2
  obtain ⟨r, hr⟩ := Option.isSome_iff_exists.1 h3
  rw [hp, hq, hr] at h4
  simp only [Option.getD_some] at h4
  rw [tnP, hp, hq, hr]
  simp only [Option.getD_some]
  exact if_pos h4
theorem tnP_no {a : List Int} {x y z u : List UInt8} (h : ¬ ((rdL (S y)).isSome = true ∧ (rdT a (S z)).isSome = true ∧ (rdL (S u)).isSome = true ∧ sigOk a = true ∧ nodeOk (nkd (S x), (rdL (S y)).getD [], (rdT a (S z)).getD [], (rdL (S u)).getD []) 64 = true)) :
    tnP a x y z u = none := by
  rw [tnP]
  split
  · rename_i p q r hp hq hr
    rw [hp, hq, hr] at h
    simp only [Option.isSome_some, Option.getD_some, true_and] at h
    exact if_neg h
  · rfl
theorem words4 {ws : List (List UInt8)} (h : ws.length = 4) : ∃ x y z u, ws = [x, y, z, u] := by
  match ws, h with
  | [x, y, z, u], _ => exact ⟨x, y, z, u, rfl⟩
theorem tnO_no {a : List Int} {s : ByteArray} (h : ¬ (s.size ≤ 6000 ∧ (spB 32 s.data.toList).length = 4)) : tnO a s = none := by
  unfold tnO
  split
  · rename_i h1
    split
    · rename_i x y z u he
      exact absurd ⟨h1, by rw [he]; rfl⟩ h
    · rfl
  · rfl
theorem tnO_4 {a : List Int} {s : ByteArray} {x y z u : List UInt8} (h : s.size ≤ 6000) (he : spB 32 s.data.toList = [x, y, z, u]) : tnO a s = tnP a x y z u := by
  unfold tnO
  rw [if_pos h, he]
theorem spec_NodeTextP_spec {w0 : World} {Γ : List Atom} {v va vb vc : Value} {a p r : List Int} {q : List (List Int)} {k : Int} [h : HasRd (List Int) repList Γ [v] a] [ha : HasRd (List Int) repList Γ [va] p] [hb : HasRd (List (List Int)) repList Γ [vb] q] [hc' : HasRd (List Int) repList Γ [vc] r] (hk : -9223372036854775808 ≤ k ∧ k ≤ 9223372036854775807) :
    CJ Tryz.prog 18 [.agg #[v], .agg #[.int .i64 k, va, vb, vc]] w0 Γ (fun _ : Unit => .string (ndT a (k, p, q, r))) (fun _ => Γ) := by
  exact spec_NodeText_spec (n := (k, p, q, r)) hk
instance spec_NodeTextP_ctr {Γ : List Atom} {v va vb vc : Value} {a p r : List Int} {q : List (List Int)} {k : Int} [h : HasRd (List Int) repList Γ [v] a] [ha : HasRd (List Int) repList Γ [va] p] [hb : HasRd (List (List Int)) repList Γ [vb] q] [hc' : HasRd (List Int) repList Γ [vc] r] :
    CtrC Tryz.prog 18 [.agg #[v], .agg #[.int .i64 k, va, vb, vc]] Γ (-9223372036854775808 ≤ k ∧ k ≤ 9223372036854775807) (Unit) (fun _ : Unit => .string (ndT a (k, p, q, r))) (fun _ => Γ) := ⟨fun s w0 => spec_NodeTextP_spec s⟩

theorem impl_NodeOkP_spec {w0 : World} {Γ : List Atom} {va vb vc : Value} {p r : List Int} {q : List (List Int)} {k m : Int} [ha : HasRd (List Int) repList Γ [va] p] [hb : HasRd (List (List Int)) repList Γ [vb] q] [hc' : HasRd (List Int) repList Γ [vc] r] :
    CJ Tryz.prog 25 [.agg #[.int .i64 k, va, vb, vc], .int .i64 m] w0 Γ (fun _ : Unit => .bool (nodeOk (k, p, q, r) m)) (fun _ => Γ) := by
  exact impl_NodeOk_spec (n := (k, p, q, r))
instance impl_NodeOkP_ctr {Γ : List Atom} {va vb vc : Value} {p r : List Int} {q : List (List Int)} {k m : Int} [ha : HasRd (List Int) repList Γ [va] p] [hb : HasRd (List (List Int)) repList Γ [vb] q] [hc' : HasRd (List Int) repList Γ [vc] r] :
    CtrC Tryz.prog 25 [.agg #[.int .i64 k, va, vb, vc], .int .i64 m] Γ (True) (Unit) (fun _ : Unit => .bool (nodeOk (k, p, q, r) m)) (fun _ => Γ) := ⟨fun s w0 => impl_NodeOkP_spec⟩

theorem tn_eq {a : List Int} {s : ByteArray} {x y z u : List UInt8} (h4 : spB 32 s.data.toList = [x, y, z, u]) (h1 : (rdL (S y)).isSome = true) (h2 : (rdT a (S z)).isSome = true) (h3 : (rdL (S u)).isSome = true) :
    ndT a (nkd (S x), (rdL (S y)).getD [], (rdT a (S z)).getD [], (rdL (S u)).getD []) = s ↔ sigOk a = true ∧ nodeOk (nkd (S x), (rdL (S y)).getD [], (rdT a (S z)).getD [], (rdL (S u)).getD []) 64 = true := by
  obtain ⟨p, hp⟩ := Option.isSome_iff_exists.1 h1
  obtain ⟨q, hq⟩ := Option.isSome_iff_exists.1 h2
  obtain ⟨r, hr⟩ := Option.isSome_iff_exists.1 h3
  have := tn_law h4 hp hq hr
  rw [hp, hq, hr]
  exact this
theorem spec_TextNode_spec {w0 : World} {Γ : List Atom} {v : Value} {a : List Int} {s : ByteArray} [h : HasRd (List Int) repList Γ [v] a] (hs : s.size ≤ 1048576) :
    CJ Tryz.prog 5 [.agg #[v], .string s] w0 Γ (fun q : Value × Value × Value => .tuple #[.agg #[.int .i64 (tnV a s).1, q.1, q.2.1, q.2.2], .bool (tnO a s).isSome]) (fun q => .ow [q.1] (tnV a s).2.1 :: .ow [q.2.1] (tnV a s).2.2.1 :: .ow [q.2.2] (tnV a s).2.2.2 :: Γ) := by
  have hll : s.data.toList.length = s.size := Array.length_toList
  obtain ⟨hwl1, hwl2⟩ := spB_len 32 s.data.toList
  refine cj_lift (R := [.rd [v] a]) (A := fun q : Value × Value × Value => [.ow [q.1] (tnV a s).2.1, .ow [q.2.1] (tnV a s).2.2.1, .ow [q.2.2] (tnV a s).2.2.2]) (fun w1 => ?_) (reads_cons h (inferInstance)) (fun _ => inferInstance)
  simp only [List.cons_append, List.nil_append]
  refine cj_enter Tryz.func5 Tryz.ntmps5 ?_
  by_cases hok : s.size ≤ 6000 ∧ (spB 32 s.data.toList).length = 4
  · obtain ⟨hsz, h4l⟩ := hok
    obtain ⟨x, y, z, u, h4⟩ := words4 h4l
    have e0 : (List.map S (spB (UInt8.ofNat (Int.toNat 32)) s.data.toList)).getD ((0 : Nat) : Int).toNat ByteArray.empty = S x := by rw [show (UInt8.ofNat (Int.toNat 32)) = (32 : UInt8) from rfl, h4]; rfl
    have e1 : (List.map S (spB (UInt8.ofNat (Int.toNat 32)) s.data.toList)).getD ((1 : Nat) : Int).toNat ByteArray.empty = S y := by rw [show (UInt8.ofNat (Int.toNat 32)) = (32 : UInt8) from rfl, h4]; rfl
    have e2 : (List.map S (spB (UInt8.ofNat (Int.toNat 32)) s.data.toList)).getD ((2 : Nat) : Int).toNat ByteArray.empty = S z := by rw [show (UInt8.ofNat (Int.toNat 32)) = (32 : UInt8) from rfl, h4]; rfl
    have e5 : (List.map S (spB (UInt8.ofNat (Int.toNat 32)) s.data.toList)).getD 2 ByteArray.empty = S z := by rw [show (UInt8.ofNat (Int.toNat 32)) = (32 : UInt8) from rfl, h4]; rfl
    have e3 : (List.map S (spB (UInt8.ofNat (Int.toNat 32)) s.data.toList)).getD ((3 : Nat) : Int).toNat ByteArray.empty = S u := by rw [show (UInt8.ofNat (Int.toNat 32)) = (32 : UInt8) from rfl, h4]; rfl
    have z1 : ((List.map S (spB (UInt8.ofNat (Int.toNat 32)) s.data.toList)).getD ((1 : Nat) : Int).toNat ByteArray.empty).size ≤ 1000000 := by
      rw [e1, S_size]; have := hwl2 y (by rw [h4]; simp); omega
    have z2 : ((List.map S (spB (UInt8.ofNat (Int.toNat 32)) s.data.toList)).getD ((2 : Nat) : Int).toNat ByteArray.empty).size ≤ 1000000 := by
      rw [e2, S_size]; have := hwl2 z (by rw [h4]; simp); omega
    have z3 : ((List.map S (spB (UInt8.ofNat (Int.toNat 32)) s.data.toList)).getD ((3 : Nat) : Int).toNat ByteArray.empty).size ≤ 1000000 := by
      rw [e3, S_size]; have := hwl2 u (by rw [h4]; simp); omega
    have hnk := nkd_range ((List.map S (spB (UInt8.ofNat (Int.toNat 32)) s.data.toList)).getD ((0 : Nat) : Int).toNat ByteArray.empty)
    have hl4 : (List.map S (spB (UInt8.ofNat (Int.toNat 32)) s.data.toList)).length = 4 := by rw [List.length_map]; exact h4l
    have htn := tnO_4 (a := a) hsz h4
    repeat' (first | refine red ?_ | refine redf fun hbi => ?_ | refine reds ?_ | (refine redc fun r => ?_; try have hr := Subtype.property r) | refine redp (fun r => ?_) (fun r => ?_) | refine redv fun sv => ?_ | refine redn fun b => ?_ | refine redz fun zs => ?_ | refine redq (fun hc => ?_) (fun hc => ?_) | with_reducible refine wq_blk_o rfl ?_ | (refine redd fun p cs as_ hcs has hf => ?_; simp only [Un.cells, Un.atoms, Un.fact, List.cons_append, List.nil_append] at hcs has hf; subst hcs has) | (refine redi (fun hc => ?_) (fun hc => ?_) <;> try first | (exfalso; omega) | with_reducible first | exact absurd rfl hc | exact absurd hc Bool.false_ne_true | exact absurd hc Bool.false_ne_true.symm) | ((refine wa_begin 7 [false, false, false, false, false, false, false, false, false, false] [] ?_ <;> refine wa_p 0 ?_ <;> (first | refine wa_p 1 ?_ | refine wa_p0 1 ?_) <;> (first | refine wa_p 2 ?_ | (refine wa_deep 2 fun p cs as_ asb_ hcs has hasb hf => ?_; simp only [Un.cells, Un.atoms, Un.fact, List.cons_append, List.nil_append] at hcs has hasb hf; subst hcs has hasb) | fail) <;> (first | refine wa_f 3 fun hbi => ?_ | refine wa_p 3 ?_ | (refine wa_do 3 ?_ <;> (repeat' (first | refine red ?_ | (refine redc fun r => ?_; try have hr := Subtype.property r) | refine redv fun sv => ?_ | refine redf fun hbi => ?_ | refine redn fun b => ?_ | refine reds ?_ | refine redi (fun hc => ?_) (fun hc => ?_) | refine redq (fun hc => ?_) (fun hc => ?_) | refine redp (fun r => ?_) (fun r => ?_) | fail))) | fail) <;> (refine wa_do 4 ?_ <;> (repeat' (first | refine red ?_ | (refine redc fun r => ?_; try have hr := Subtype.property r) | refine redv fun sv => ?_ | refine redf fun hbi => ?_ | refine redn fun b => ?_ | refine reds ?_ | refine redi (fun hc => ?_) (fun hc => ?_) | refine redq (fun hc => ?_) (fun hc => ?_) | refine redp (fun r => ?_) (fun r => ?_) | fail))) <;> (first | refine wa_p 5 ?_ | refine wa_p0 5 ?_) <;> (first | refine wa_p 6 ?_ | refine wa_p0 6 ?_) <;> (first | refine wa_p 7 ?_ | refine wa_p0 7 ?_) <;> (first | refine wa_p 8 ?_ | refine wa_p0 8 ?_) <;> (first | refine wa_p 9 ?_ | refine wa_p0 9 ?_)) <;> (first | refine wa_end ?_ | with_reducible refine wq_keep ?_)) | fail)
    all_goals simp only [e0, e1, e2, e5, e3] at *
    all_goals first
      | (have hn : tnO a s = none := by
           rw [htn]
           refine tnP_no (fun ⟨g1, g2, g3, g4, g5⟩ => ?_)
           first
           | (rw [g1] at hc; cases hc)
           | (rw [g2] at hc; cases hc)
           | (rw [g3] at hc; cases hc)
           | (rw [g4] at hc; cases hc)
           | exact hc (of_decide_eq_true g5)
           | exact hc ((tn_eq h4 g1 g2 g3).2 ⟨g4, g5⟩)
         simp only [tnV, hn, Option.getD_none, Option.isSome_none]
         exact ⟨(_, _, _), rfl, ent_e⟩)
      | (have g1 : (rdL (S y)).isSome = true := by assumption
         have g2 : (rdT a (S z)).isSome = true := by assumption
         have g3 : (rdL (S u)).isSome = true := by assumption
         have g45 : sigOk a = true ∧ nodeOk (nkd (S x), (rdL (S y)).getD [], (rdT a (S z)).getD [], (rdL (S u)).getD []) 64 = true := by
           first
           | exact (tn_eq h4 g1 g2 g3).1 hc
           | exact ⟨by assumption, decide_eq_true hc⟩
         have hn := htn.trans (tnP_yes g1 g2 g3 g45)
         simp only [tnV, hn, Option.getD_some, Option.isSome_some]
         exact ⟨(_, _, _), rfl, ent_e⟩)
  · have hml : (List.map S (spB (UInt8.ofNat (Int.toNat 32)) s.data.toList)).length = (spB 32 s.data.toList).length := List.length_map _
    rw [show (tnV a s) = (0, [], [], []) by unfold tnV; rw [tnO_no hok]; rfl, tnO_no hok]
    repeat' (first | refine red ?_ | refine redf fun hbi => ?_ | refine reds ?_ | (refine redc fun r => ?_; try have hr := Subtype.property r) | refine redp (fun r => ?_) (fun r => ?_) | refine redv fun sv => ?_ | refine redn fun b => ?_ | refine redz fun zs => ?_ | refine redq (fun hc => ?_) (fun hc => ?_) | with_reducible refine wq_blk_o rfl ?_ | (refine redd fun p cs as_ hcs has hf => ?_; simp only [Un.cells, Un.atoms, Un.fact, List.cons_append, List.nil_append] at hcs has hf; subst hcs has) | (refine redi (fun hc => ?_) (fun hc => ?_) <;> try first | (exfalso; omega) | with_reducible first | exact absurd rfl hc | exact absurd hc Bool.false_ne_true | exact absurd hc Bool.false_ne_true.symm) | ((refine wa_begin 7 [false, false, false, false, false, false, false, false, false, false] [] ?_ <;> refine wa_p 0 ?_ <;> (first | refine wa_p 1 ?_ | refine wa_p0 1 ?_) <;> (first | refine wa_p 2 ?_ | (refine wa_deep 2 fun p cs as_ asb_ hcs has hasb hf => ?_; simp only [Un.cells, Un.atoms, Un.fact, List.cons_append, List.nil_append] at hcs has hasb hf; subst hcs has hasb) | fail) <;> (first | refine wa_f 3 fun hbi => ?_ | refine wa_p 3 ?_ | (refine wa_do 3 ?_ <;> (repeat' (first | refine red ?_ | (refine redc fun r => ?_; try have hr := Subtype.property r) | refine redv fun sv => ?_ | refine redf fun hbi => ?_ | refine redn fun b => ?_ | refine reds ?_ | refine redi (fun hc => ?_) (fun hc => ?_) | refine redq (fun hc => ?_) (fun hc => ?_) | refine redp (fun r => ?_) (fun r => ?_) | fail))) | fail) <;> (refine wa_do 4 ?_ <;> (repeat' (first | refine red ?_ | (refine redc fun r => ?_; try have hr := Subtype.property r) | refine redv fun sv => ?_ | refine redf fun hbi => ?_ | refine redn fun b => ?_ | refine reds ?_ | refine redi (fun hc => ?_) (fun hc => ?_) | refine redq (fun hc => ?_) (fun hc => ?_) | refine redp (fun r => ?_) (fun r => ?_) | fail))) <;> (first | refine wa_p 5 ?_ | refine wa_p0 5 ?_) <;> (first | refine wa_p 6 ?_ | refine wa_p0 6 ?_) <;> (first | refine wa_p 7 ?_ | refine wa_p0 7 ?_) <;> (first | refine wa_p 8 ?_ | refine wa_p0 8 ?_) <;> (first | refine wa_p 9 ?_ | refine wa_p0 9 ?_)) <;> (first | refine wa_end ?_ | with_reducible refine wq_keep ?_)) | fail)
    all_goals exact ⟨(_, _, _), rfl, ent_e⟩
instance spec_TextNode_ctr {Γ : List Atom} {v : Value} {a : List Int} {s : ByteArray} [h : HasRd (List Int) repList Γ [v] a] :
    CtrC Tryz.prog 5 [.agg #[v], .string s] Γ (s.size ≤ 1048576) (Value × Value × Value) (fun q : Value × Value × Value => .tuple #[.agg #[.int .i64 (tnV a s).1, q.1, q.2.1, q.2.2], .bool (tnO a s).isSome]) (fun q => .ow [q.1] (tnV a s).2.1 :: .ow [q.2.1] (tnV a s).2.2.1 :: .ow [q.2.2] (tnV a s).2.2.2 :: Γ) := ⟨fun s w0 => spec_TextNode_spec s⟩

theorem impl_TextNode_spec {w0 : World} {Γ : List Atom} {v : Value} {a : List Int} {s : ByteArray} {m : Int} {e1 e2 : GE} [h : HasRd (List Int) repList Γ [v] a] [hm : HasRd (GI) repGI Γ [mxV] (GI.mk m)] [hx : HasRd (GE) repGE Γ [esV] e1] [hy : HasRd (GE) repGE Γ [erV] e2] [ht : HasRd (Tab) repTab Γ [tabV] (Tab.mk Lib.pow10Tab)] (hs : s.size ≤ 1048576) :
    CJ Tryz.prog 7 [.agg #[v], .string s] w0 Γ (fun q : Value × Value × Value => .tuple #[.agg #[.int .i64 (tnV a s).1, q.1, q.2.1, q.2.2], .bool (tnO a s).isSome]) (fun q => .ow [q.1] (tnV a s).2.1 :: .ow [q.2.1] (tnV a s).2.2.1 :: .ow [q.2.2] (tnV a s).2.2.2 :: Γ) := by
  have hll : s.data.toList.length = s.size := Array.length_toList
  obtain ⟨hwl1, hwl2⟩ := spB_len 32 s.data.toList
  refine cj_lift (R := [.rd [v] a, .rd [mxV] (GI.mk m), .rd [esV] e1, .rd [erV] e2, .rd [tabV] (Tab.mk Lib.pow10Tab)]) (A := fun q : Value × Value × Value => [.ow [q.1] (tnV a s).2.1, .ow [q.2.1] (tnV a s).2.2.1, .ow [q.2.2] (tnV a s).2.2.2]) (fun w1 => ?_) (reads_cons h (reads_cons hm (reads_cons hx (reads_cons hy (reads_cons ht (inferInstance)))))) (fun _ => inferInstance)
  simp only [List.cons_append, List.nil_append]
  refine cj_enter Tryz.func7 Tryz.ntmps7 ?_
  by_cases hok : s.size ≤ 6000 ∧ (spB 32 s.data.toList).length = 4
  · obtain ⟨hsz, h4l⟩ := hok
    obtain ⟨x, y, z, u, h4⟩ := words4 h4l
    have e0 : (List.map S (spB 32 s.data.toList)).getD ((0 : Nat) : Int).toNat ByteArray.empty = S x := by rw [show 32 = (32 : UInt8) from rfl, h4]; rfl
    have e1 : (List.map S (spB 32 s.data.toList)).getD ((1 : Nat) : Int).toNat ByteArray.empty = S y := by rw [show 32 = (32 : UInt8) from rfl, h4]; rfl
    have e2 : (List.map S (spB 32 s.data.toList)).getD ((2 : Nat) : Int).toNat ByteArray.empty = S z := by rw [show 32 = (32 : UInt8) from rfl, h4]; rfl
    have e5 : (List.map S (spB 32 s.data.toList)).getD 2 ByteArray.empty = S z := by rw [show 32 = (32 : UInt8) from rfl, h4]; rfl
    have e3 : (List.map S (spB 32 s.data.toList)).getD ((3 : Nat) : Int).toNat ByteArray.empty = S u := by rw [show 32 = (32 : UInt8) from rfl, h4]; rfl
    have z1 : ((List.map S (spB 32 s.data.toList)).getD ((1 : Nat) : Int).toNat ByteArray.empty).size ≤ 1000000 := by
      rw [e1, S_size]; have := hwl2 y (by rw [h4]; simp); omega
    have z2 : ((List.map S (spB 32 s.data.toList)).getD ((2 : Nat) : Int).toNat ByteArray.empty).size ≤ 1000000 := by
      rw [e2, S_size]; have := hwl2 z (by rw [h4]; simp); omega
    have z3 : ((List.map S (spB 32 s.data.toList)).getD ((3 : Nat) : Int).toNat ByteArray.empty).size ≤ 1000000 := by
      rw [e3, S_size]; have := hwl2 u (by rw [h4]; simp); omega
    have hnk := nkd_range ((List.map S (spB 32 s.data.toList)).getD ((0 : Nat) : Int).toNat ByteArray.empty)
    have hl4 : (List.map S (spB 32 s.data.toList)).length = 4 := by rw [List.length_map]; exact h4l
    have htn := tnO_4 (a := a) hsz h4
    repeat' (first | refine red ?_ | refine redf fun hbi => ?_ | refine reds ?_ | (refine redc fun r => ?_; try have hr := Subtype.property r) | refine redp (fun r => ?_) (fun r => ?_) | refine redv fun sv => ?_ | refine redn fun b => ?_ | refine redz fun zs => ?_ | refine redq (fun hc => ?_) (fun hc => ?_) | with_reducible refine wq_blk_o rfl ?_ | (refine redd fun p cs as_ hcs has hf => ?_; simp only [Un.cells, Un.atoms, Un.fact, List.cons_append, List.nil_append] at hcs has hf; subst hcs has) | (refine redi (fun hc => ?_) (fun hc => ?_) <;> try first | (exfalso; omega) | with_reducible first | exact absurd rfl hc | exact absurd hc Bool.false_ne_true | exact absurd hc Bool.false_ne_true.symm) | ((refine wa_begin 7 [false, false, false, false, false, false, false, false, false, false, false] [9] ?_ <;> refine wa_p 0 ?_ <;> (first | refine wa_p 1 ?_ | refine wa_p0 1 ?_) <;> (first | refine wa_p 2 ?_ | (refine wa_deep 2 fun p cs as_ asb_ hcs has hasb hf => ?_; simp only [Un.cells, Un.atoms, Un.fact, List.cons_append, List.nil_append] at hcs has hasb hf; subst hcs has hasb) | fail) <;> (first | refine wa_f 3 fun hbi => ?_ | refine wa_p 3 ?_ | (refine wa_do 3 ?_ <;> (repeat' (first | refine red ?_ | (refine redc fun r => ?_; try have hr := Subtype.property r) | refine redv fun sv => ?_ | refine redf fun hbi => ?_ | refine redn fun b => ?_ | refine reds ?_ | refine redi (fun hc => ?_) (fun hc => ?_) | refine redq (fun hc => ?_) (fun hc => ?_) | refine redp (fun r => ?_) (fun r => ?_) | fail))) | fail) <;> (refine wa_do 4 ?_ <;> (repeat' (first | refine red ?_ | (refine redc fun r => ?_; try have hr := Subtype.property r) | refine redv fun sv => ?_ | refine redf fun hbi => ?_ | refine redn fun b => ?_ | refine reds ?_ | refine redi (fun hc => ?_) (fun hc => ?_) | refine redq (fun hc => ?_) (fun hc => ?_) | refine redp (fun r => ?_) (fun r => ?_) | fail))) <;> (first | refine wa_p 5 ?_ | refine wa_p0 5 ?_) <;> (first | refine wa_p 6 ?_ | refine wa_p0 6 ?_) <;> (first | refine wa_p 7 ?_ | refine wa_p0 7 ?_) <;> (first | refine wa_p 8 ?_ | refine wa_p0 8 ?_ | (refine wa_do 8 ?_ <;> (repeat' (first | refine red ?_ | (refine redc fun r => ?_; try have hr := Subtype.property r) | refine redv fun sv => ?_ | refine redf fun hbi => ?_ | refine redn fun b => ?_ | refine reds ?_ | refine redi (fun hc => ?_) (fun hc => ?_) | refine redq (fun hc => ?_) (fun hc => ?_) | refine redp (fun r => ?_) (fun r => ?_) | fail))) | fail) <;> (refine wa_do 9 ?_ <;> (repeat' (first | refine red ?_ | (refine redc fun r => ?_; try have hr := Subtype.property r) | refine redv fun sv => ?_ | refine redf fun hbi => ?_ | refine redn fun b => ?_ | refine reds ?_ | refine redi (fun hc => ?_) (fun hc => ?_) | refine redq (fun hc => ?_) (fun hc => ?_) | refine redp (fun r => ?_) (fun r => ?_) | fail))) <;> (first | refine wa_p 10 ?_ | refine wa_p0 10 ?_)) <;> (first | refine wa_end ?_ | with_reducible refine wq_keep ?_)) | fail)
    all_goals simp only [e0, e1, e2, e5, e3] at *
    all_goals first
      | (have hn : tnO a s = none := by
           rw [htn]
           refine tnP_no (fun ⟨g1, g2, g3, g4, g5⟩ => ?_)
           first
           | (rw [g1] at hc; cases hc)
           | (rw [g2] at hc; cases hc)
           | (rw [g3] at hc; cases hc)
           | (rw [g4] at hc; cases hc)
           | exact hc (of_decide_eq_true g5)
           | exact hc ((tn_eq h4 g1 g2 g3).2 ⟨g4, g5⟩)
         simp only [tnV, hn, Option.getD_none, Option.isSome_none]
         exact ⟨(_, _, _), rfl, ent_e⟩)
      | (have g1 : (rdL (S y)).isSome = true := by assumption
         have g2 : (rdT a (S z)).isSome = true := by assumption
         have g3 : (rdL (S u)).isSome = true := by assumption
         have g45 : sigOk a = true ∧ nodeOk (nkd (S x), (rdL (S y)).getD [], (rdT a (S z)).getD [], (rdL (S u)).getD []) 64 = true := by
           first
           | exact (tn_eq h4 g1 g2 g3).1 hc
           | exact ⟨by assumption, decide_eq_true hc⟩
         have hn := htn.trans (tnP_yes g1 g2 g3 g45)
         simp only [tnV, hn, Option.getD_some, Option.isSome_some]
         exact ⟨(_, _, _), rfl, ent_e⟩)
  · have hml : (List.map S (spB 32 s.data.toList)).length = (spB 32 s.data.toList).length := List.length_map _
    rw [show (tnV a s) = (0, [], [], []) by unfold tnV; rw [tnO_no hok]; rfl, tnO_no hok]
    repeat' (first | refine red ?_ | refine redf fun hbi => ?_ | refine reds ?_ | (refine redc fun r => ?_; try have hr := Subtype.property r) | refine redp (fun r => ?_) (fun r => ?_) | refine redv fun sv => ?_ | refine redn fun b => ?_ | refine redz fun zs => ?_ | refine redq (fun hc => ?_) (fun hc => ?_) | with_reducible refine wq_blk_o rfl ?_ | (refine redd fun p cs as_ hcs has hf => ?_; simp only [Un.cells, Un.atoms, Un.fact, List.cons_append, List.nil_append] at hcs has hf; subst hcs has) | (refine redi (fun hc => ?_) (fun hc => ?_) <;> try first | (exfalso; omega) | with_reducible first | exact absurd rfl hc | exact absurd hc Bool.false_ne_true | exact absurd hc Bool.false_ne_true.symm) | ((refine wa_begin 7 [false, false, false, false, false, false, false, false, false, false, false] [9] ?_ <;> refine wa_p 0 ?_ <;> (first | refine wa_p 1 ?_ | refine wa_p0 1 ?_) <;> (first | refine wa_p 2 ?_ | (refine wa_deep 2 fun p cs as_ asb_ hcs has hasb hf => ?_; simp only [Un.cells, Un.atoms, Un.fact, List.cons_append, List.nil_append] at hcs has hasb hf; subst hcs has hasb) | fail) <;> (first | refine wa_f 3 fun hbi => ?_ | refine wa_p 3 ?_ | (refine wa_do 3 ?_ <;> (repeat' (first | refine red ?_ | (refine redc fun r => ?_; try have hr := Subtype.property r) | refine redv fun sv => ?_ | refine redf fun hbi => ?_ | refine redn fun b => ?_ | refine reds ?_ | refine redi (fun hc => ?_) (fun hc => ?_) | refine redq (fun hc => ?_) (fun hc => ?_) | refine redp (fun r => ?_) (fun r => ?_) | fail))) | fail) <;> (refine wa_do 4 ?_ <;> (repeat' (first | refine red ?_ | (refine redc fun r => ?_; try have hr := Subtype.property r) | refine redv fun sv => ?_ | refine redf fun hbi => ?_ | refine redn fun b => ?_ | refine reds ?_ | refine redi (fun hc => ?_) (fun hc => ?_) | refine redq (fun hc => ?_) (fun hc => ?_) | refine redp (fun r => ?_) (fun r => ?_) | fail))) <;> (first | refine wa_p 5 ?_ | refine wa_p0 5 ?_) <;> (first | refine wa_p 6 ?_ | refine wa_p0 6 ?_) <;> (first | refine wa_p 7 ?_ | refine wa_p0 7 ?_) <;> (first | refine wa_p 8 ?_ | refine wa_p0 8 ?_ | (refine wa_do 8 ?_ <;> (repeat' (first | refine red ?_ | (refine redc fun r => ?_; try have hr := Subtype.property r) | refine redv fun sv => ?_ | refine redf fun hbi => ?_ | refine redn fun b => ?_ | refine reds ?_ | refine redi (fun hc => ?_) (fun hc => ?_) | refine redq (fun hc => ?_) (fun hc => ?_) | refine redp (fun r => ?_) (fun r => ?_) | fail))) | fail) <;> (refine wa_do 9 ?_ <;> (repeat' (first | refine red ?_ | (refine redc fun r => ?_; try have hr := Subtype.property r) | refine redv fun sv => ?_ | refine redf fun hbi => ?_ | refine redn fun b => ?_ | refine reds ?_ | refine redi (fun hc => ?_) (fun hc => ?_) | refine redq (fun hc => ?_) (fun hc => ?_) | refine redp (fun r => ?_) (fun r => ?_) | fail))) <;> (first | refine wa_p 10 ?_ | refine wa_p0 10 ?_)) <;> (first | refine wa_end ?_ | with_reducible refine wq_keep ?_)) | fail)
    all_goals exact ⟨(_, _, _), rfl, ent_e⟩
instance impl_TextNode_ctr {Γ : List Atom} {v : Value} {a : List Int} {s : ByteArray} {m : Int} {e1 e2 : GE} [h : HasRd (List Int) repList Γ [v] a] [hm : HasRd (GI) repGI Γ [mxV] (GI.mk m)] [hx : HasRd (GE) repGE Γ [esV] e1] [hy : HasRd (GE) repGE Γ [erV] e2] [ht : HasRd (Tab) repTab Γ [tabV] (Tab.mk Lib.pow10Tab)] :
    CtrC Tryz.prog 7 [.agg #[v], .string s] Γ (s.size ≤ 1048576) (Value × Value × Value) (fun q : Value × Value × Value => .tuple #[.agg #[.int .i64 (tnV a s).1, q.1, q.2.1, q.2.2], .bool (tnO a s).isSome]) (fun q => .ow [q.1] (tnV a s).2.1 :: .ow [q.2.1] (tnV a s).2.2.1 :: .ow [q.2.2] (tnV a s).2.2.2 :: Γ) := ⟨fun s w0 => impl_TextNode_spec s⟩

end Go.Proofs.YtogmjihokkdcfaaGreatDoor
