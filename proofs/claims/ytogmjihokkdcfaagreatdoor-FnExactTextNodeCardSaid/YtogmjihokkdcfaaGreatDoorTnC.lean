/- What is read through the library: words, numbers. -/
import Derived.Test.YtogmjihokkdcfaaGreatDoorTnM
import Derived.Test.YtogmjihokkdcfaaGreatDoorShelf
import Derived.Test.YtogmjihokkdcfaaGreatDoorRfux
import Derived.Lib.SmallJoins
import Derived.Shelf.Vars
import Derived.Stop.LaidErr
import Derived.LaidSub
import Derived.MakeChecks
namespace Go.Proofs.YtogmjihokkdcfaaGreatDoor
open Go Go.Eng Go.RowKit
set_option linter.unusedVariables false
set_option linter.unusedSimpArgs false
set_option synthInstance.maxHeartbeats 400000
set_option synthInstance.maxSize 1000
set_option maxHeartbeats 2000000
set_option maxRecDepth 20000


/-! ### Kinds -/
theorem Index_str_spec {w0 : World} {Γ : List Atom} {lv : Value} {s : ByteArray} {ss : List ByteArray} [h : HasRd (List ByteArray) repList Γ [lv] ss] :
    CJ Tryz.prog 43 [lv, .string s] w0 Γ (fun _ : Unit => .int .i64 (idxOf s ss)) (fun _ => Γ) := by
  refine cj_len lv fun hl => ?_
  refine cj_lift (R := [.rd [lv] ss]) (A := fun _ => []) (fun w1 => ?_) (reads_cons h (inferInstance)) (fun _ => inferInstance)
  simp only [List.cons_append, List.nil_append]
  refine cj_enter Tryz.func43 Tryz.ntmps43 ?_
  repeat' (first | refine red ?_ | refine redf fun hbi => ?_ | refine reds ?_ | (refine redc fun r => ?_; try have hr := Subtype.property r) | refine redp (fun r => ?_) (fun r => ?_) | refine redv fun sv => ?_ | refine redn fun b => ?_ | refine redz fun zs => ?_ | refine redq (fun hc => ?_) (fun hc => ?_) | with_reducible refine wq_blk_o rfl ?_ | (refine redd fun p cs as_ hcs has hf => ?_; simp only [Un.cells, Un.atoms, Un.fact, List.cons_append, List.nil_append] at hcs has hf; subst hcs has) | (refine redi (fun hc => ?_) (fun hc => ?_) <;> try first | (exfalso; omega) | with_reducible first | exact absurd rfl hc | exact absurd hc Bool.false_ne_true | exact absurd hc Bool.false_ne_true.symm) | fail)
  refine wc_loop_c [8] [9, 10, 5, 11, 12, 13, 14, 15, 16, 17, 4, 18] (ι := Nat) (fun k => [.int .i64 k]) (fun k => k ≤ ss.length ∧ idxOf s ss = idxFrom s k (ss.drop k)) (fun k => ss.length - k) 0 (by kernel_rfl) ⟨Nat.zero_le _, rfl⟩ ?_
  intro k u l' hl' ⟨hk, hkk⟩
  simp only [patch, List.map_cons, List.map_nil, List.set_cons_zero, List.set_cons_succ] at hl'
  subst hl'
  repeat' (first | refine red ?_ | refine redf fun hbi => ?_ | refine reds ?_ | (refine redc fun r => ?_; try have hr := Subtype.property r) | refine redp (fun r => ?_) (fun r => ?_) | refine redv fun sv => ?_ | refine redn fun b => ?_ | refine redz fun zs => ?_ | refine redq (fun hc => ?_) (fun hc => ?_) | with_reducible refine wq_blk_o rfl ?_ | (refine redd fun p cs as_ hcs has hf => ?_; simp only [Un.cells, Un.atoms, Un.fact, List.cons_append, List.nil_append] at hcs has hf; subst hcs has) | (refine redi (fun hc => ?_) (fun hc => ?_) <;> try first | (exfalso; omega) | with_reducible first | exact absurd rfl hc | exact absurd hc Bool.false_ne_true | exact absurd hc Bool.false_ne_true.symm) | fail)
  · refine ⟨(), ?_, ent_e⟩
    rw [hkk, idxFrom_drop (by omega), if_pos (by simpa using hc.symm)]
  · exact wq_next (k + 1) ⟨by omega, by rw [hkk, idxFrom_drop (by omega), if_neg (by intro h; exact hc (by simpa using h.symm))]⟩ (by omega) (by kernel_rfl) ent_e
  · refine ⟨(), ?_, ent_e⟩
    rw [hkk, List.drop_of_length_le (by omega)]; rfl
instance Index_str_ctr {Γ : List Atom} {lv : Value} {s : ByteArray} {ss : List ByteArray} [h : HasRd (List ByteArray) repList Γ [lv] ss] :
    CtrC Tryz.prog 43 [lv, .string s] Γ (True) (Unit) (fun _ : Unit => .int .i64 (idxOf s ss)) (fun _ => Γ) := ⟨fun s w0 => Index_str_spec⟩

theorem impl_NameKind_spec {w0 : World} {Γ : List Atom} {s : ByteArray} : CJ Tryz.prog 22 [.string s] w0 Γ (fun _ : Unit => .int .i64 (nkd s)) (fun _ => Γ) := by
  have hr := idxFrom_range (s := s) kindNames 0
  have hl : kindNames.length = 12 := rfl
  have hr' : -1 ≤ idxOf s kindNames ∧ idxOf s kindNames < 12 := by rw [hl] at hr; exact hr
  refine cj_enter Tryz.func22 Tryz.ntmps22 ?_
  repeat' (first | refine red ?_ | refine redf fun hbi => ?_ | refine reds ?_ | (refine redc fun r => ?_; try have hr := Subtype.property r) | refine redp (fun r => ?_) (fun r => ?_) | refine redv fun sv => ?_ | refine redn fun b => ?_ | refine redz fun zs => ?_ | refine redq (fun hc => ?_) (fun hc => ?_) | with_reducible refine wq_blk_o rfl ?_ | (refine redi (fun hc => ?_) (fun hc => ?_) <;> try first | (exfalso; omega) | with_reducible first | exact absurd rfl hc | exact absurd hc Bool.false_ne_true | exact absurd hc Bool.false_ne_true.symm) | fail)
  exact ⟨(), rfl, ent_e⟩
instance impl_NameKind_ctr {Γ : List Atom} {s : ByteArray} :
    CtrC Tryz.prog 22 [.string s] Γ (True) (Unit) (fun _ : Unit => .int .i64 (nkd s)) (fun _ => Γ) := ⟨fun s w0 => impl_NameKind_spec⟩

/-! ### Words -/
theorem splitK_sp (c : UInt8) : ∀ l : List UInt8, Lib.splitK [c] 0 (Lib.count l [c]) l = spB c l
  | [] => by rw [Lib.count_miss (by simp [Lib.index])]; rfl
  | b :: l => by
    have ih := splitK_sp c l
    by_cases h : b = c
    · subst h
      have hix : Lib.index (b :: l) [b] = 0 := by rw [Lib.index]; simp [List.isPrefixOf]
      rw [Lib.count_cons_eq, Nat.add_comm, Lib.splitK, hix, if_neg (by decide), spB, if_pos rfl, ← ih]
      rfl
    · have hp : ([c] : List UInt8).isPrefixOf (b :: l) = false := by simp [List.isPrefixOf, Ne.symm h]
      have hix : Lib.index (b :: l) [c] = if Lib.index l [c] == -1 then -1 else Lib.index l [c] + 1 := by rw [Lib.index, hp]; simp
      have hge := Lib.index_ge l [c]
      rw [Lib.count_cons_ne b c l h, spB, if_neg h, ← ih]
      cases hk : Lib.count l [c] with
      | zero => rfl
      | succ k =>
        by_cases hm : Lib.index l [c] = -1
        · rw [Lib.splitK, Lib.splitK, hix, hm]; rfl
        · have hm2 : ¬ (Lib.index l [c] == -1) = true := fun e => hm (beq_iff_eq.1 e)
          have hm3 : ¬ (Lib.index l [c] + 1 == -1) = true := fun e => by have := beq_iff_eq.1 e; omega
          rw [Lib.splitK, Lib.splitK, hix, if_neg hm2, if_neg hm2, if_neg hm3]
          obtain ⟨j, hj⟩ : ∃ j : Nat, Lib.index l [c] = (j : Int) := ⟨(Lib.index l [c]).toNat, by omega⟩
          rw [hj]
          simp only [Nat.add_zero, Int.toNat_natCast, show ((j : Int) + 1).toNat = j + 1 by omega, List.take_succ_cons, consH]
          rw [show j + 1 + [c].length = (j + [c].length) + 1 from rfl, List.drop_succ_cons]
theorem S_toList (b : ByteArray) : S b.data.toList = b := rfl
theorem splitB_sp (c : UInt8) (s : ByteArray) : Lib.splitB { data := #[c] } 0 (Lib.countB s { data := #[c] }) s = (spB c s.data.toList).map S := by
  rw [← splitK_sp c s.data.toList, show Lib.splitK [c] 0 (Lib.count s.data.toList [c]) s.data.toList = _ from (Lib.splitB_data { data := #[c] } 0 _ s).symm, List.map_map]
  exact (List.map_id _).symm
theorem owl_str {ok : Nat → Prop} {w : World} : ∀ xs : List ByteArray, (∀ x ∈ xs, x.size ≤ 9223372036854775807) → OwL ok w [] (xs.map Value.string) xs
  | [], _ => ⟨rfl, rfl⟩
  | x :: xs, h => ⟨[], [], [.string x], xs.map Value.string, rfl, rfl, ⟨rfl, rfl, h x List.mem_cons_self⟩, owl_str xs fun y hy => h y (List.mem_cons_of_mem _ hy)⟩
/-- A variable of the library's that holds some number. -/
structure GI where
  m : Int
instance repGI : Rep GI where
  sz := 1
  rd ok w cells x := ∃ g cs e fz, cells = [.pointer (some ⟨g, 0, none⟩)] ∧ ok g ∧ w.heap[g]? = some (.cells cs e fz) ∧ w.cell? ⟨g, 0, none⟩ = some (.int .i64 x.m)
  ow ok w F cells x := F = [] ∧ ∃ g cs e fz, cells = [.pointer (some ⟨g, 0, none⟩)] ∧ ok g ∧ w.heap[g]? = some (.cells cs e fz) ∧ w.cell? ⟨g, 0, none⟩ = some (.int .i64 x.m)
  pos := by decide
  rd_len := by rintro _ _ _ _ ⟨g, cs, e, fz, rfl, _⟩; rfl
  rd_one := by rintro _ _ _ _ ⟨g, cs, e, fz, rfl, _⟩ x hx; simp at hx; subst hx; rfl
  rd_mono := by
    rintro _ _ _ _ _ _ ⟨g, cs, e, fz, h1, h2, h3, h4⟩ hm
    have := hm g h2 (Array.getElem?_eq_some_iff.1 h3).1
    exact ⟨g, cs, e, fz, h1, this.1, this.2.trans h3, (cell_same (a := ⟨g, 0, none⟩) this.2).trans h4⟩
  ow_mono := by
    rintro _ _ _ _ _ _ _ ⟨hF, g, cs, e, fz, h1, h2, h3, h4⟩ _ hm
    have := hm g h2 (Array.getElem?_eq_some_iff.1 h3).1
    exact ⟨hF, g, cs, e, fz, h1, this.1, this.2.trans h3, (cell_same (a := ⟨g, 0, none⟩) this.2).trans h4⟩
  ow_rd := by
    rintro _ _ _ _ _ _ ⟨hF, g, cs, e, fz, h1, h2, h3, h4⟩ ho _
    exact ⟨g, cs, e, fz, h1, ho g h2, h3, h4⟩
  ow_lt := by rintro _ _ _ _ _ ⟨rfl, _⟩ b hb; cases hb
abbrev mxV : Value := .pointer (some ⟨0, 0, none⟩)
theorem mx_rd {W : World} (h : W.ShapedOpen Tryz.prog) : ∃ m, @Rep.rd GI repGI (fun _ => True) W [mxV] (GI.mk m) := by
  obtain ⟨m, hm⟩ := cell_of_shapedOpen_int (P := Tryz.prog) (g := 0) (k := .i64) (zero := #[.int .i64 0]) h (of_decide_eq_true (by kernel_rfl)) (by kernel_rfl) (by kernel_rfl) (by kernel_rfl) (by kernel_rfl) (Tryz.underlying3)
  refine ⟨m, ?_⟩
  have h2 := hm
  unfold World.cell? at h2
  split at h2
  · rename_i cs e fz he
    exact ⟨0, cs, e, fz, rfl, trivial, he, hm⟩
  · cases h2
/-- A variable of the library's that holds an error. -/
structure GE where
  t : TypeId
  p : Value
instance repGE : Rep GE where
  sz := 1
  rd ok w cells x := ∃ g cs e fz, cells = [.pointer (some ⟨g, 0, none⟩)] ∧ ok g ∧ w.heap[g]? = some (.cells cs e fz) ∧ w.cell? ⟨g, 0, none⟩ = some (.iface x.t x.p)
  ow ok w F cells x := F = [] ∧ ∃ g cs e fz, cells = [.pointer (some ⟨g, 0, none⟩)] ∧ ok g ∧ w.heap[g]? = some (.cells cs e fz) ∧ w.cell? ⟨g, 0, none⟩ = some (.iface x.t x.p)
  pos := by decide
  rd_len := by rintro _ _ _ _ ⟨g, cs, e, fz, rfl, _⟩; rfl
  rd_one := by rintro _ _ _ _ ⟨g, cs, e, fz, rfl, _⟩ x hx; simp at hx; subst hx; rfl
  rd_mono := by
    rintro _ _ _ _ _ _ ⟨g, cs, e, fz, h1, h2, h3, h4⟩ hm
    have := hm g h2 (Array.getElem?_eq_some_iff.1 h3).1
    exact ⟨g, cs, e, fz, h1, this.1, this.2.trans h3, (cell_same (a := ⟨g, 0, none⟩) this.2).trans h4⟩
  ow_mono := by
    rintro _ _ _ _ _ _ _ ⟨hF, g, cs, e, fz, h1, h2, h3, h4⟩ _ hm
    have := hm g h2 (Array.getElem?_eq_some_iff.1 h3).1
    exact ⟨hF, g, cs, e, fz, h1, this.1, this.2.trans h3, (cell_same (a := ⟨g, 0, none⟩) this.2).trans h4⟩
  ow_rd := by
    rintro _ _ _ _ _ _ ⟨hF, g, cs, e, fz, h1, h2, h3, h4⟩ ho _
    exact ⟨g, cs, e, fz, h1, ho g h2, h3, h4⟩
  ow_lt := by rintro _ _ _ _ _ ⟨rfl, _⟩ b hb; cases hb
abbrev esV : Value := .pointer (some ⟨3, 0, none⟩)
abbrev erV : Value := .pointer (some ⟨4, 0, none⟩)
theorem ge_rd {W : World} {g : Nat} {t : TypeId} {p : Value} (h : W.cell? ⟨g, 0, none⟩ = some (.iface t p)) : @Rep.rd GE repGE (fun _ => True) W [.pointer (some ⟨g, 0, none⟩)] (GE.mk t p) := by
  have h2 := h
  unfold World.cell? at h2
  split at h2
  · rename_i cs e fz he
    exact ⟨g, cs, e, fz, rfl, trivial, he, h⟩
  · cases h2
theorem err_row (u : TypeId) (h : Tryz.prog.typeName? 3 u = some "*errors.errorString") : u = 135 :=
  typeName_ptr_named (nm := "errors.errorString") (by rw [show "*" ++ "errors.errorString" = "*errors.errorString" by decide]; kernel_rfl) (by kernel_rfl) (by decide) u (by rw [show "*" ++ "errors.errorString" = "*errors.errorString" by decide]; exact h)
theorem es_rd {W : World} {l : List (String × DataW Unit)} (h : laidMetH Tryz.prog l W) {text : List UInt8} (hl : (l.filter fun x => x.1 == "strconv.ErrSyntax") = [("strconv.ErrSyntax", .iface "*errors.errorString" (.ptr (.agg [.lit (.string text)])))]) : ∃ x, @Rep.rd GE repGE (fun _ => True) W [esV] x := by
  have h1 := h.filter fun x => x.1 == "strconv.ErrSyntax"
  rw [hl, MakeChecks.laidMetH_plain _ _ _ rfl] at h1
  obtain ⟨a0, s0, hv0, -, -, -⟩ := laid_sentinel (g := 3) (ti := 78) (tp := 135) (te := 137) (ts := 9) h1 (by kernel_rfl) (by kernel_rfl) Tryz.underlying78 err_row Tryz.underlying135 Tryz.underlying137 rfl rfl Tryz.underlying9 (by kernel_rfl) (by kernel_rfl)
  have h2 := World.var?_cell (g := 3) (by kernel_rfl) hv0 0
  exact ⟨_, ge_rd (by simpa using h2)⟩
theorem er_rd {W : World} {l : List (String × DataW Unit)} (h : laidMetH Tryz.prog l W) {text : List UInt8} (hl : (l.filter fun x => x.1 == "strconv.ErrRange") = [("strconv.ErrRange", .iface "*errors.errorString" (.ptr (.agg [.lit (.string text)])))]) : ∃ x, @Rep.rd GE repGE (fun _ => True) W [erV] x := by
  have h1 := h.filter fun x => x.1 == "strconv.ErrRange"
  rw [hl, MakeChecks.laidMetH_plain _ _ _ rfl] at h1
  obtain ⟨a0, s0, hv0, -, -, -⟩ := laid_sentinel (g := 4) (ti := 78) (tp := 135) (te := 137) (ts := 9) h1 (by kernel_rfl) (by kernel_rfl) Tryz.underlying78 err_row Tryz.underlying135 Tryz.underlying137 rfl rfl Tryz.underlying9 (by kernel_rfl) (by kernel_rfl)
  have h2 := World.var?_cell (g := 4) (by kernel_rfl) hv0 0
  exact ⟨_, ge_rd (by simpa using h2)⟩
theorem Split_spec {w0 : World} {Γ : List Atom} {s : ByteArray} {c : UInt8} {m : Int} [h : HasRd (GI) repGI Γ [mxV] (GI.mk m)] (hs : s.size ≤ 1048576) :
    CJ Tryz.prog 20 [.string s, .string { data := #[c] }] w0 Γ (fun q : Value => q) (fun q => .ow [q] ((spB c s.data.toList).map S) :: Γ) := by
  exact fun w hs' => by
    obtain ⟨g, cs, e, fz, h1, _, _, h4⟩ := hs'.rd (hr := h)
    simp only [List.cons.injEq, Value.pointer.injEq, Option.some.injEq, Addr.mk.injEq, and_true] at h1
    subst h1
    have hc1 : (1 : Nat) ≤ ({ data := #[c] } : ByteArray).size := Nat.le_refl _
    have hcb := Lib.countB_le { data := #[c] } hc1 s.size s (Nat.le_refl _)
    have hsp := splitB_sp c s
    have hlen := Lib.splitB_all { data := #[c] } hc1 0 _ s rfl
    rw [hsp] at hlen
    have hwl := spB_len c s.data.toList
    have hll : s.data.toList.length = s.size := Array.length_toList
    refine (Tryz.strings_Split s { data := #[c] } m w (by omega) h4 hc1).mono fun e w' ⟨he, hw⟩ => ⟨_, he, ?_⟩
    rw [hsp] at hw
    rw [hw]
    refine Sat.step (Δ := []) (Δ' := [.ow _ _]) hs' ⟨rfl, rfl, rfl, by simp⟩ (fun f ok hf hnd _ => ⟨fun b hb _ => Below.heap_alloc _ _ _ hb, [w.heap.size], by simp, fun b hb => .inr (by simp at hb; omega), fun ok' _ => ?_⟩)
    refine ⟨[w.heap.size], [], rfl, ?_, rfl⟩
    show Rep.ow _ _ _ _ _
    rw [ow_list]
    refine .inr ⟨w.heap.size, Lib.countB s { data := #[c] } + 1, _, 9, [], ((spB c s.data.toList).map S).map Value.string, by rw [hlen], rfl, heap_alloc_new w _, by omega, by simp [maxLen]; omega, by omega, ?_, ?_, owl_str _ ?_⟩
    · show _ * 1 ≤ _
      simp only [List.size_toArray, List.length_map]
      rw [List.length_map] at hlen
      omega
    · show List.take (_ * 1) _ = _
      rw [Nat.mul_one]
      exact List.take_of_length_le (by simp)
    · intro x hx
      obtain ⟨y, hy, rfl⟩ := List.mem_map.1 hx
      have := hwl.2 y hy
      rw [S_size]; omega
instance Split_ctr {Γ : List Atom} {s : ByteArray} {c : UInt8} {m : Int} [h : HasRd (GI) repGI Γ [mxV] (GI.mk m)] :
    CtrC Tryz.prog 20 [.string s, .string { data := #[c] }] Γ (s.size ≤ 1048576) (Value) (fun q : Value => q) (fun q => .ow [q] ((spB c s.data.toList).map S) :: Γ) := ⟨fun s w0 => Split_spec s⟩

theorem Index1_spec {w0 : World} {Γ : List Atom} {s : ByteArray} {c : UInt8} :
    CJ Tryz.prog 59 [.string s, .string { data := #[c] }] w0 Γ (fun _ : Unit => .int .i64 (Lib.indexByte s.data.toList c)) (fun _ => Γ) := by
  exact fun w hs' => (Tryz.strings_Index_one s c w).mono fun e w' ⟨he, hw⟩ => ⟨(), he, by rw [hw]; exact hs'⟩
instance Index1_ctr {Γ : List Atom} {s : ByteArray} {c : UInt8} :
    CtrC Tryz.prog 59 [.string s, .string { data := #[c] }] Γ (True) (Unit) (fun _ : Unit => .int .i64 (Lib.indexByte s.data.toList c)) (fun _ => Γ) := ⟨fun s w0 => Index1_spec⟩

/-! ### Numbers -/
theorem intSat_in (l : List UInt8) : -9223372036854775808 ≤ Lib.intSat 64 l ∧ Lib.intSat 64 l ≤ 9223372036854775807 := by
  have h63 : (2 : Nat) ^ (64 - 1) = 9223372036854775808 := by decide
  unfold Lib.intSat
  rw [h63]
  split <;> decide
theorem parse_in {l : List UInt8} {v : Int} (h : Lib.parseIntB 64 l = .ok v) : In6 v := by
  have h63 : (2 : Nat) ^ (64 - 1) = 9223372036854775808 := by decide
  unfold Lib.parseIntB at h
  split at h
  · cases h
  · simp only [h63] at h
    split at h
    · cases h
    · cases h
    · split at h
      · cases h
      · split at h
        · cases h
        · injection h with h
          unfold In6
          split at h <;> omega
theorem parse_no {l : List UInt8} (h : ∀ v, Lib.parseIntB 64 l ≠ .ok v) : ¬ okI l := fun ⟨n, h1, h2⟩ => h n (by rw [← h2]; exact parse_itoa h1)
/-- What ParseInt answers. -/
def PI (l : List UInt8) (q : Int × Value) : Prop := (-9223372036854775808 ≤ q.1 ∧ q.1 ≤ 9223372036854775807) ∧ ((q.2 = .nilIface ∧ Lib.parseIntB 64 l = .ok q.1) ∨ (∃ N : Nat, q.2 = .iface 105 (.pointer (some ⟨N, 0, none⟩))) ∧ ¬ okI l)
theorem ParseInt_spec {w0 : World} {Γ : List Atom} {s : ByteArray} {x y : GE} [hx : HasRd (GE) repGE Γ [esV] x] [hy : HasRd (GE) repGE Γ [erV] y] (hs : s.size ≤ 1048576) :
    CJ Tryz.prog 61 [.string s, .int .i64 10, .int .i64 64] w0 Γ (fun q : { q : Int × Value // PI s.data.toList q } => .tuple #[.int .i64 q.1.1, q.1.2]) (fun _ => Γ) := by
  exact fun w hs' => by
    obtain ⟨g, cs, e, fz, h1, _, _, h4⟩ := hs'.rd (hr := hx)
    obtain ⟨g2, cs2, e2, fz2, h12, _, _, h42⟩ := hs'.rd (hr := hy)
    simp only [List.cons.injEq, Value.pointer.injEq, Option.some.injEq, Addr.mk.injEq, and_true] at h1 h12
    subst h1 h12
    rcases h : Lib.parseIntB 64 s.data.toList with v | _ | _
    · refine (Tryz.strconv_ParseInt_10_at64_ok s (by omega) v h w).mono fun e w' ⟨he, hw⟩ => ⟨⟨(v, .nilIface), parse_in h, .inl ⟨rfl, h⟩⟩, he, ?_⟩
      rcases hw with rfl | ⟨t, rfl⟩
      · exact hs'
      · exact hs'.ext (Joins.below_bytesWorld _ _ _ _ (Nat.le_refl _))
    · exact (Tryz.strconv_ParseInt_10_at64_syntax s (by omega) h _ w h4 (.inr ⟨_, _, rfl⟩)).mono fun e w' ⟨N, he, _, _, hw⟩ => ⟨⟨(0, _), by simp, .inr ⟨⟨N, rfl⟩, parse_no (fun v hv => by rw [h] at hv; cases hv)⟩⟩, he, hs'.ext hw⟩
    · exact (Tryz.strconv_ParseInt_10_at64_range s (by omega) h _ w h42 (.inr ⟨_, _, rfl⟩)).mono fun e w' ⟨N, he, _, _, hw⟩ => ⟨⟨(_, _), intSat_in _, .inr ⟨⟨N, rfl⟩, parse_no (fun v hv => by rw [h] at hv; cases hv)⟩⟩, he, hs'.ext hw⟩
instance ParseInt_ctr {Γ : List Atom} {s : ByteArray} {x y : GE} [hx : HasRd (GE) repGE Γ [esV] x] [hy : HasRd (GE) repGE Γ [erV] y] :
    CtrC Tryz.prog 61 [.string s, .int .i64 10, .int .i64 64] Γ (s.size ≤ 1048576) ({ q : Int × Value // PI s.data.toList q }) (fun q : { q : Int × Value // PI s.data.toList q } => .tuple #[.int .i64 q.1.1, q.1.2]) (fun _ => Γ) := ⟨fun s w0 => ParseInt_spec s⟩

end Go.Proofs.YtogmjihokkdcfaaGreatDoor
namespace Go.Proofs.YtogmjihokkdcfaaGreatDoor
open Go Go.Eng Go.RowKit
set_option linter.unusedVariables false
set_option linter.unusedSimpArgs false
set_option synthInstance.maxHeartbeats 400000
set_option synthInstance.maxSize 1000
set_option maxHeartbeats 2000000
set_option maxRecDepth 20000


theorem err_methods : Tryz.prog.underlying 78 = some (.interface (Tryz.prog.methodsAt 78)) := by unfold Program.methodsAt; rw [Tryz.underlying78]
instance eqNilT {l : List Value} {Γ : List Atom} {ty U : TypeId} {a : Operand} [hx : Ev l a .nilIface] : PuC Tryz.prog l Γ (.binOp .eql 78 a (.const .nilIface) U) ty (.bool true) := ⟨fun w0 => pu_bin (fun w => by unfold eqGuard; cases a <;> rfl) (fun w => run_eql_nil_nil w _ err_methods)⟩
instance eqNilF {l : List Value} {Γ : List Atom} {ty U t : TypeId} {p : Value} {a : Operand} [hx : Ev l a (.iface t p)] : PuC Tryz.prog l Γ (.binOp .eql 78 a (.const .nilIface) U) ty (.bool false) := ⟨fun w0 => pu_bin (fun w => by unfold eqGuard; rfl) (fun w => run_eql_held_nil w _ _ _ err_methods)⟩
theorem parseSigned_spec {w0 : World} {Γ : List Atom} {s : ByteArray} {x y : GE} [hx : HasRd (GE) repGE Γ [esV] x] [hy : HasRd (GE) repGE Γ [erV] y] [ht : HasRd (Tab) repTab Γ [tabV] (Tab.mk Lib.pow10Tab)] (hs : s.size ≤ 1000000) :
    CJ Tryz.prog 46 [.string s] w0 Γ (fun q : { q : Int // (-9223372036854775808 ≤ q ∧ q ≤ 9223372036854775807) ∧ (okI s.data.toList → q = valI s.data.toList) } => .tuple #[.int .i64 q.1, .bool (decide (okI s.data.toList))]) (fun _ => Γ) := by
  refine cj_lift (R := [.rd [esV] x, .rd [erV] y, .rd [tabV] (Tab.mk Lib.pow10Tab)]) (A := fun _ => []) (fun w1 => ?_) (reads_cons hx (reads_cons hy (reads_cons ht (inferInstance)))) (fun _ => inferInstance)
  simp only [List.cons_append, List.nil_append]
  refine cj_enter Tryz.func46 Tryz.ntmps46 ?_
  repeat' (first | refine red ?_ | refine redf fun hbi => ?_ | refine reds ?_ | (refine redc fun r => ?_; try have hr := Subtype.property r) | refine redp (fun r => ?_) (fun r => ?_) | refine redv fun sv => ?_ | refine redn fun b => ?_ | refine redz fun zs => ?_ | refine redq (fun hc => ?_) (fun hc => ?_) | with_reducible refine wq_blk_o rfl ?_ | (refine redi (fun hc => ?_) (fun hc => ?_) <;> try first | (exfalso; omega) | with_reducible first | exact absurd rfl hc | exact absurd hc Bool.false_ne_true | exact absurd hc Bool.false_ne_true.symm) | fail)
  obtain ⟨⟨v, e⟩, hin, hq⟩ := r
  simp only at hin hq ⊢
  rcases hq with ⟨rfl, hp⟩ | ⟨⟨N, rfl⟩, hn⟩
  · have hvv : okI s.data.toList → valI s.data.toList = v := fun _ => by unfold valI; rw [hp]
    repeat' (first | refine red ?_ | refine redf fun hbi => ?_ | refine reds ?_ | (refine redc fun r => ?_; try have hr := Subtype.property r) | refine redp (fun r => ?_) (fun r => ?_) | refine redv fun sv => ?_ | refine redn fun b => ?_ | refine redz fun zs => ?_ | refine redq (fun hc => ?_) (fun hc => ?_) | with_reducible refine wq_blk_o rfl ?_ | (refine redi (fun hc => ?_) (fun hc => ?_) <;> try first | (exfalso; omega) | with_reducible first | exact absurd rfl hc | exact absurd hc Bool.false_ne_true | exact absurd hc Bool.false_ne_true.symm) | fail)
    exact ⟨⟨v, hin, fun h => (hvv h).symm⟩, by rw [okI_fin hin hvv], ent_e⟩
  · repeat' (first | refine red ?_ | refine redf fun hbi => ?_ | refine reds ?_ | (refine redc fun r => ?_; try have hr := Subtype.property r) | refine redp (fun r => ?_) (fun r => ?_) | refine redv fun sv => ?_ | refine redn fun b => ?_ | refine redz fun zs => ?_ | refine redq (fun hc => ?_) (fun hc => ?_) | with_reducible refine wq_blk_o rfl ?_ | (refine redi (fun hc => ?_) (fun hc => ?_) <;> try first | (exfalso; omega) | with_reducible first | exact absurd rfl hc | exact absurd hc Bool.false_ne_true | exact absurd hc Bool.false_ne_true.symm) | fail)
    exact ⟨⟨v, hin, fun h => absurd h hn⟩, by rw [decide_eq_false hn], ent_e⟩
instance parseSigned_ctr {Γ : List Atom} {s : ByteArray} {x y : GE} [hx : HasRd (GE) repGE Γ [esV] x] [hy : HasRd (GE) repGE Γ [erV] y] [ht : HasRd (Tab) repTab Γ [tabV] (Tab.mk Lib.pow10Tab)] :
    CtrC Tryz.prog 46 [.string s] Γ (s.size ≤ 1000000) ({ q : Int // (-9223372036854775808 ≤ q ∧ q ≤ 9223372036854775807) ∧ (okI s.data.toList → q = valI s.data.toList) }) (fun q : { q : Int // (-9223372036854775808 ≤ q ∧ q ≤ 9223372036854775807) ∧ (okI s.data.toList → q = valI s.data.toList) } => .tuple #[.int .i64 q.1, .bool (decide (okI s.data.toList))]) (fun _ => Γ) := ⟨fun s w0 => parseSigned_spec s⟩

section
variable {P : Program} {w0 : World} {l : List Value} {Γ : List Atom} {ty T : TypeId} {x : Operand} {a : ByteArray}
theorem pu_cut_hi {j : Operand} {n : Int} {k : IntKind} [hT : IsStr P T] [hx : Ev l x (.string a)] [hj : Ev l j (.int k n)] (h : 0 ≤ n ∧ n ≤ a.size) : Pu P w0 l Γ (.slice T x none (some j) none) ty (.string (a.extract 0 n.toNat)) := by
  obtain ⟨N, rfl⟩ : ∃ M : Nat, n = M := ⟨n.toNat, by omega⟩
  have h2 : N ≤ a.size := by omega
  exact pu_of (s := Instr.sliceAt T (.string a) none (some (.int k N)) none) (fun o ho _ => by unfold execOp; rw [ho]; simp only [hx.eq, hj.eq, Option.map]) (fun w _ => by
    simp [Instr.sliceAt, Instr.slice, run_underlying hT.eq, Instr.sliceBounds, Instr.sliceBound, asIntOf, Sem.run_bind, h2])
theorem pu_cut_lo {i : Operand} {m : Int} {k : IntKind} [hT : IsStr P T] [hx : Ev l x (.string a)] [hi : Ev l i (.int k m)] (h : 0 ≤ m ∧ m ≤ a.size) : Pu P w0 l Γ (.slice T x (some i) none none) ty (.string (a.extract m.toNat a.size)) := by
  obtain ⟨M, rfl⟩ : ∃ M : Nat, m = M := ⟨m.toNat, by omega⟩
  have h2 : M ≤ a.size := by omega
  exact pu_of (s := Instr.sliceAt T (.string a) (some (.int k M)) none none) (fun o ho _ => by unfold execOp; rw [ho]; simp only [hx.eq, hi.eq, Option.map]) (fun w _ => by
    simp [Instr.sliceAt, Instr.slice, run_underlying hT.eq, Instr.sliceBounds, Instr.sliceBound, asIntOf, Sem.run_bind, h2])
instance cutHi {j : Operand} {n : Int} {k : IntKind} [hT : IsStr P T] [hx : Ev l x (.string a)] [hj : Ev l j (.int k n)] : PuS P l Γ (.slice T x none (some j) none) ty (.string (a.extract 0 n.toNat)) (0 ≤ n ∧ n ≤ a.size) := ⟨fun h _ => pu_cut_hi h⟩
instance cutLo {i : Operand} {m : Int} {k : IntKind} [hT : IsStr P T] [hx : Ev l x (.string a)] [hi : Ev l i (.int k m)] : PuS P l Γ (.slice T x (some i) none none) ty (.string (a.extract m.toNat a.size)) (0 ≤ m ∧ m ≤ a.size) := ⟨fun h _ => pu_cut_lo h⟩
end
/-! ### Words are ranged over -/
theorem splitSeq_spec {w0 : World} {Γ : List Atom} {s sep : ByteArray} {n : Int} : CJ Tryz.prog 60 [.string s, .string sep, .int .i64 n] w0 Γ (fun b : Nat × Nat × Nat => .func (.func 76) #[] #[.pointer (some ⟨b.1, 0, none⟩), .pointer (some ⟨b.2.1, 0, none⟩), .pointer (some ⟨b.2.2, 0, none⟩)]) (fun b => .bk b.1 [.string sep] :: .bk b.2.1 [.string s] :: .bk b.2.2 [.int .i64 n] :: Γ) := by
  refine cj_enter Tryz.func60 Tryz.ntmps60 ?_
  repeat' (first | refine red ?_ | refine redf fun hbi => ?_ | refine reds ?_ | (refine redc fun r => ?_; try have hr := Subtype.property r) | refine redp (fun r => ?_) (fun r => ?_) | refine redv fun sv => ?_ | refine redn fun b => ?_ | refine redz fun zs => ?_ | refine redq (fun hc => ?_) (fun hc => ?_) | with_reducible refine wq_blk_o rfl ?_ | (refine redi (fun hc => ?_) (fun hc => ?_) <;> try first | (exfalso; omega) | with_reducible first | exact absurd rfl hc | exact absurd hc Bool.false_ne_true | exact absurd hc Bool.false_ne_true.symm) | fail)
  rename_i bs bc
  exact ⟨(bc, bs, b), rfl, ent_e⟩
instance splitSeq_ctr {Γ : List Atom} {s sep : ByteArray} {n : Int} :
    CtrC Tryz.prog 60 [.string s, .string sep, .int .i64 n] Γ (True) (Nat × Nat × Nat) (fun b : Nat × Nat × Nat => .func (.func 76) #[] #[.pointer (some ⟨b.1, 0, none⟩), .pointer (some ⟨b.2.1, 0, none⟩), .pointer (some ⟨b.2.2, 0, none⟩)]) (fun b => .bk b.1 [.string sep] :: .bk b.2.1 [.string s] :: .bk b.2.2 [.int .i64 n] :: Γ) := ⟨fun s w0 => splitSeq_spec⟩

theorem SplitSeq_spec {w0 : World} {Γ : List Atom} {s sep : ByteArray} : CJ Tryz.prog 45 [.string s, .string sep] w0 Γ (fun b : Nat × Nat × Nat => .func (.func 76) #[] #[.pointer (some ⟨b.1, 0, none⟩), .pointer (some ⟨b.2.1, 0, none⟩), .pointer (some ⟨b.2.2, 0, none⟩)]) (fun b => .bk b.1 [.string sep] :: .bk b.2.1 [.string s] :: .bk b.2.2 [.int .i64 0] :: Γ) := by
  refine cj_enter Tryz.func45 Tryz.ntmps45 ?_
  repeat' (first | refine red ?_ | refine redf fun hbi => ?_ | refine reds ?_ | (refine redc fun r => ?_; try have hr := Subtype.property r) | refine redp (fun r => ?_) (fun r => ?_) | refine redv fun sv => ?_ | refine redn fun b => ?_ | refine redz fun zs => ?_ | refine redq (fun hc => ?_) (fun hc => ?_) | with_reducible refine wq_blk_o rfl ?_ | (refine redi (fun hc => ?_) (fun hc => ?_) <;> try first | (exfalso; omega) | with_reducible first | exact absurd rfl hc | exact absurd hc Bool.false_ne_true | exact absurd hc Bool.false_ne_true.symm) | fail)
  exact ⟨r, rfl, ent_e⟩
instance SplitSeq_ctr {Γ : List Atom} {s sep : ByteArray} :
    CtrC Tryz.prog 45 [.string s, .string sep] Γ (True) (Nat × Nat × Nat) (fun b : Nat × Nat × Nat => .func (.func 76) #[] #[.pointer (some ⟨b.1, 0, none⟩), .pointer (some ⟨b.2.1, 0, none⟩), .pointer (some ⟨b.2.2, 0, none⟩)]) (fun b => .bk b.1 [.string sep] :: .bk b.2.1 [.string s] :: .bk b.2.2 [.int .i64 0] :: Γ) := ⟨fun s w0 => SplitSeq_spec⟩

/-- A word is yielded. -/
def encW (w : List UInt8) : List Value := [.string (S w)]
abbrev okW (all : List (List UInt8)) (ys : List (List UInt8)) (d : List UInt8) : Prop := ys ++ [d] <+: all
abbrev sqA (b1 b2 b3 : Nat) (c : UInt8) (rest : ByteArray) : List Atom := [.bk b1 [.string { data := #[c] }], .bk b2 [.string rest], .bk b3 [.int .i64 0]]
theorem split_it {w0 : World} {ι : Type} {L b1 b2 b3 : Nat} {c : UInt8} {s : ByteArray} {Gt Gx : ι → List Atom} {Inv Ix : List (List UInt8) → ι → Prop} {i0 : ι} (hY : YieldX Tryz.prog L w0 encW (okW (spB c s.data.toList)) (sqA b1 b2 b3 c) Gt Gx Inv Ix)
    (hs : s.size ≤ 1000000) (hi0 : Inv [] i0) :
    CJ Tryz.prog 76 [.func (.yield L) #[] #[], .pointer (some ⟨b1, 0, none⟩), .pointer (some ⟨b2, 0, none⟩), .pointer (some ⟨b3, 0, none⟩)] w0 (sqA b1 b2 b3 c s ++ Gt i0) (fun _ : { q : Bool × ι × ByteArray // (q.1 = true ∧ Inv (spB c s.data.toList) q.2.1) ∨ (q.1 = false ∧ ∃ pre, pre <+: spB c s.data.toList ∧ Ix pre q.2.1) } => .tuple #[]) (fun q => sqA b1 b2 b3 c q.1.2.2 ++ (if q.1.1 = true then Gt q.1.2.1 else Gx q.1.2.1)) := by
  simp only [sqA, List.cons_append, List.nil_append]
  have hc1 : ({ data := #[c] } : ByteArray).size = 1 := rfl
  refine cj_enter Tryz.func76 Tryz.ntmps76 ?_
  repeat' (first | refine red ?_ | refine redf fun hbi => ?_ | refine reds ?_ | (refine redc fun r => ?_; try have hr := Subtype.property r) | refine redp (fun r => ?_) (fun r => ?_) | refine redv fun sv => ?_ | refine redn fun b => ?_ | refine redz fun zs => ?_ | refine redq (fun hc => ?_) (fun hc => ?_) | with_reducible refine wq_blk_o rfl ?_ | (refine redi (fun hc => ?_) (fun hc => ?_) <;> try first | (exfalso; omega) | with_reducible first | exact absurd rfl hc | exact absurd hc Bool.false_ne_true | exact absurd hc Bool.false_ne_true.symm) | fail)
  refine wc_loop [] [29, 30, 31, 7, 32, 33, 34, 35, 36, 37, 38, 8, 39, 40, 41, 42, 43, 44, 45, 46, 47, 48] (ι := List (List UInt8) × ByteArray × ι) (fun s => []) (fun k => .bk b1 [.string { data := #[c] }] :: .bk b2 [.string k.2.1] :: .bk b3 [.int .i64 0] :: Gt k.2.2) (fun k => k.2.1.size ≤ 1000000 ∧ spB c s.data.toList = k.1 ++ spB c k.2.1.data.toList ∧ Inv k.1 k.2.2) (fun k => k.2.1.size) ([], s, i0) (by kernel_rfl) ⟨hs, rfl, hi0⟩ (fun _ h => h) ?_
  intro ⟨ys, rest, i⟩ u l' hl' ⟨hr1, hr2, hik⟩
  simp only [patch, List.map_cons, List.map_nil, List.set_cons_zero, List.set_cons_succ] at hl'
  subst hl'
  simp only at hr1 hr2 hik ⊢
  have hll : rest.data.toList.length = rest.size := Array.length_toList
  haveI hy8 : ∀ (Q : Exit → Act → World → Prop) (l : List Value) (Γ : List Atom) (ol : List Oper), Red (WC Tryz.prog Q w0 (.region 8 ol.toArray false) l Γ) (WL Tryz.prog ol.toArray (YQ Tryz.prog ol.toArray Q (ol.drop 2)) w0 (ol.take 2) l Γ) := fun _ _ _ _ => ⟨fun h => wc_yield 2 h⟩
  haveI hy10 : ∀ (Q : Exit → Act → World → Prop) (l : List Value) (Γ : List Atom) (ol : List Oper), Red (WC Tryz.prog Q w0 (.region 10 ol.toArray false) l Γ) (WL Tryz.prog ol.toArray (YQ Tryz.prog ol.toArray Q (ol.drop 2)) w0 (ol.take 2) l Γ) := fun _ _ _ _ => ⟨fun h => wc_yield 2 h⟩
  by_cases hj : Lib.indexByte rest.data.toList c = -1
  · have hsp := sp_index hj
    repeat' (first | refine red ?_ | refine redf fun hbi => ?_ | refine reds ?_ | (refine redc fun r => ?_; try have hr := Subtype.property r) | refine redp (fun r => ?_) (fun r => ?_) | refine redv fun sv => ?_ | refine redn fun b => ?_ | refine redz fun zs => ?_ | refine redq (fun hc => ?_) (fun hc => ?_) | with_reducible refine wq_blk_o rfl ?_ | (refine redi (fun hc => ?_) (fun hc => ?_) <;> try first | (exfalso; omega) | with_reducible first | exact absurd rfl hc | exact absurd hc Bool.false_ne_true | exact absurd hc Bool.false_ne_true.symm) | fail)
    refine wqx_yield hY (ys := ys) (dd := rest.data.toList) (i := i) (s := rest) (by rw [hsp] at hr2; rw [hr2]; exact List.prefix_refl _) hik rfl (fun _ h => h) (fun i' hi' => ?_) (fun i' hi' => ?_)
    · simp only [sqA, List.cons_append, List.nil_append]
      repeat' (first | refine red ?_ | refine redf fun hbi => ?_ | refine reds ?_ | (refine redc fun r => ?_; try have hr := Subtype.property r) | refine redp (fun r => ?_) (fun r => ?_) | refine redv fun sv => ?_ | refine redn fun b => ?_ | refine redz fun zs => ?_ | refine redq (fun hc => ?_) (fun hc => ?_) | with_reducible refine wq_blk_o rfl ?_ | (refine redi (fun hc => ?_) (fun hc => ?_) <;> try first | (exfalso; omega) | with_reducible first | exact absurd rfl hc | exact absurd hc Bool.false_ne_true | exact absurd hc Bool.false_ne_true.symm) | fail)
      exact ⟨⟨(true, i', rest), .inl ⟨rfl, by rw [hr2, hsp]; exact hi'⟩⟩, rfl, fun _ h => h⟩
    · simp only [sqA, List.cons_append, List.nil_append]
      repeat' (first | refine red ?_ | refine redf fun hbi => ?_ | refine reds ?_ | (refine redc fun r => ?_; try have hr := Subtype.property r) | refine redp (fun r => ?_) (fun r => ?_) | refine redv fun sv => ?_ | refine redn fun b => ?_ | refine redz fun zs => ?_ | refine redq (fun hc => ?_) (fun hc => ?_) | with_reducible refine wq_blk_o rfl ?_ | (refine redi (fun hc => ?_) (fun hc => ?_) <;> try first | (exfalso; omega) | with_reducible first | exact absurd rfl hc | exact absurd hc Bool.false_ne_true | exact absurd hc Bool.false_ne_true.symm) | fail)
      exact ⟨⟨(false, i', rest), .inr ⟨rfl, ys ++ [rest.data.toList], by rw [hr2, hsp]; exact List.prefix_refl _, hi'⟩⟩, rfl, fun _ h => h⟩
  · have hge := Lib.indexByte_ge rest.data.toList c
    obtain ⟨j, hj2⟩ : ∃ j : Nat, Lib.indexByte rest.data.toList c = (j : Int) := ⟨(Lib.indexByte rest.data.toList c).toNat, by omega⟩
    obtain ⟨hjl, hsp⟩ := sp_index_at hj2
    rw [hsp] at hr2
    have hx1 : (rest.extract 0 (Lib.indexByte rest.data.toList c + 0).toNat) = S (rest.data.toList.take j) := by
      apply ByteArray.ext
      apply Array.ext'
      rw [hj2, ByteArray.data_extract, Array.toList_extract, show ((j : Int) + 0).toNat = j by omega]
      simp
      rfl
    have hx2 : (rest.extract (Lib.indexByte rest.data.toList c + ((({ data := #[c] } : ByteArray).size : Nat) : Int)).toNat rest.size) = S (rest.data.toList.drop (j + 1)) := by
      apply ByteArray.ext
      apply Array.ext'
      rw [hj2, hc1, ByteArray.data_extract, Array.toList_extract, show ((j : Int) + (1 : Nat)).toNat = j + 1 by omega]
      show (rest.data.toList.drop (j + 1)).take (rest.size - (j + 1)) = _
      rw [List.take_of_length_le (by rw [List.length_drop]; omega)]
      rfl
    repeat' (first | refine red ?_ | refine redf fun hbi => ?_ | refine reds ?_ | (refine redc fun r => ?_; try have hr := Subtype.property r) | refine redp (fun r => ?_) (fun r => ?_) | refine redv fun sv => ?_ | refine redn fun b => ?_ | refine redz fun zs => ?_ | refine redq (fun hc => ?_) (fun hc => ?_) | with_reducible refine wq_blk_o rfl ?_ | (refine redi (fun hc => ?_) (fun hc => ?_) <;> try first | (exfalso; omega) | with_reducible first | exact absurd rfl hc | exact absurd hc Bool.false_ne_true | exact absurd hc Bool.false_ne_true.symm) | fail)
    refine wqx_yield hY (ys := ys) (dd := rest.data.toList.take j) (i := i) (s := rest) (by rw [hr2]; exact ⟨_, by rw [List.append_assoc]; rfl⟩) hik (by rw [hx1]; rfl) (fun _ h => h) (fun i' hi' => ?_) (fun i' hi' => ?_)
    · simp only [sqA, List.cons_append, List.nil_append]
      repeat' (first | refine red ?_ | refine redf fun hbi => ?_ | refine reds ?_ | (refine redc fun r => ?_; try have hr := Subtype.property r) | refine redp (fun r => ?_) (fun r => ?_) | refine redv fun sv => ?_ | refine redn fun b => ?_ | refine redz fun zs => ?_ | refine redq (fun hc => ?_) (fun hc => ?_) | with_reducible refine wq_blk_o rfl ?_ | (refine redi (fun hc => ?_) (fun hc => ?_) <;> try first | (exfalso; omega) | with_reducible first | exact absurd rfl hc | exact absurd hc Bool.false_ne_true | exact absurd hc Bool.false_ne_true.symm) | fail)
      rw [hx2]
      exact wq_next (ys ++ [rest.data.toList.take j], S (rest.data.toList.drop (j + 1)), i') ⟨by simp only [S_size, List.length_drop]; omega, by rw [hr2, List.append_assoc]; rfl, hi'⟩ (by simp only [S_size, List.length_drop]; omega) (by kernel_rfl) ent_e
    · simp only [sqA, List.cons_append, List.nil_append]
      repeat' (first | refine red ?_ | refine redf fun hbi => ?_ | refine reds ?_ | (refine redc fun r => ?_; try have hr := Subtype.property r) | refine redp (fun r => ?_) (fun r => ?_) | refine redv fun sv => ?_ | refine redn fun b => ?_ | refine redz fun zs => ?_ | refine redq (fun hc => ?_) (fun hc => ?_) | with_reducible refine wq_blk_o rfl ?_ | (refine redi (fun hc => ?_) (fun hc => ?_) <;> try first | (exfalso; omega) | with_reducible first | exact absurd rfl hc | exact absurd hc Bool.false_ne_true | exact absurd hc Bool.false_ne_true.symm) | fail)
      exact ⟨⟨(false, i', rest), .inr ⟨rfl, ys ++ [rest.data.toList.take j], by rw [hr2]; exact ⟨_, by rw [List.append_assoc]; rfl⟩, hi'⟩⟩, rfl, fun _ h => h⟩
theorem split_hit {w0 : World} {ι : Type} {L b1 b2 b3 : Nat} {rr : Loop} {c : UInt8} {s : ByteArray} {Gt : ι → List Atom} {Inv Ix : List (List UInt8) → ι → Prop} {i0 : ι} (hY : YieldX Tryz.prog L w0 encW (okW (spB c s.data.toList)) (sqA b1 b2 b3 c) (GtR Gt L rr) (GtR Gt L (lLeft rr)) Inv Ix)
    (hs : s.size ≤ 1000000) (hi0 : Inv [] i0) :
    CJ Tryz.prog 76 [.func (.yield L) #[] #[], .pointer (some ⟨b1, 0, none⟩), .pointer (some ⟨b2, 0, none⟩), .pointer (some ⟨b3, 0, none⟩)] w0 (sqA b1 b2 b3 c s ++ GtR Gt L rr i0) (fun _ : { q : Bool × ι × ByteArray // (q.1 = true ∧ Inv (spB c s.data.toList) q.2.1) ∨ (q.1 = false ∧ ∃ pre, pre <+: spB c s.data.toList ∧ Ix pre q.2.1) } => .tuple #[]) (fun q => sqA b1 b2 b3 c q.1.2.2 ++ GtR Gt L (if q.1.1 = true then rr else lLeft rr) q.1.2.1) := fun w hw =>
  (split_it hY hs hi0 w hw).mono fun e w' ⟨q, he, hs'⟩ => ⟨q, he, by
    rcases q with ⟨⟨bb, i, st⟩, h⟩
    cases bb <;> exact hs'⟩
end Go.Proofs.YtogmjihokkdcfaaGreatDoor
namespace Go.Proofs.YtogmjihokkdcfaaGreatDoor
open Go Go.Eng Go.RowKit
set_option linter.unusedVariables false
set_option linter.unusedSimpArgs false
set_option synthInstance.maxHeartbeats 400000
set_option synthInstance.maxSize 1000
set_option maxHeartbeats 2000000
set_option maxRecDepth 20000


theorem parseList_spec {w0 : World} {Γ : List Atom} {s : ByteArray} {x y : GE} [hx : HasRd (GE) repGE Γ [esV] x] [hy : HasRd (GE) repGE Γ [erV] y] [ht : HasRd (Tab) repTab Γ [tabV] (Tab.mk Lib.pow10Tab)] (hs : s.size ≤ 1000000) :
    CJ Tryz.prog 23 [.string s] w0 Γ (fun q : Value => .tuple #[q, .bool (rdL s).isSome]) (fun q => .ow [q] ((rdL s).getD []) :: Γ) := by
  have hll : s.data.toList.length = s.size := Array.length_toList
  obtain ⟨hwl1, hwl2⟩ := spB_len 44 s.data.toList
  refine cj_lift (R := [.rd [esV] x, .rd [erV] y, .rd [tabV] (Tab.mk Lib.pow10Tab)]) (A := fun q : Value => [.ow [q] ((rdL s).getD [])]) (fun w1 => ?_) (reads_cons hx (reads_cons hy (reads_cons ht (inferInstance)))) (fun _ => inferInstance)
  simp only [List.cons_append, List.nil_append]
  refine cj_enter_m Tryz.func23 Tryz.ntmps23 ?_
  -- $enter
  repeat' (first | refine red ?_ | refine redf fun hbi => ?_ | refine reds ?_ | (refine redc fun r => ?_; try have hr := Subtype.property r) | refine redp (fun r => ?_) (fun r => ?_) | refine redv fun sv => ?_ | refine redn fun b => ?_ | refine redz fun zs => ?_ | refine redq (fun hc => ?_) (fun hc => ?_) | with_reducible refine wq_blk_o rfl ?_ | (refine redd fun p cs as_ hcs has hf => ?_; simp only [Un.cells, Un.atoms, Un.fact, List.cons_append, List.nil_append] at hcs has hf; subst hcs has) | (refine redi (fun hc => ?_) (fun hc => ?_) <;> try first | (exfalso; omega) | with_reducible first | exact absurd rfl hc | exact absurd hc Bool.false_ne_true | exact absurd hc Bool.false_ne_true.symm) | fail)
  · rw [show rdL s = some [] from if_pos hc]
    simp only [Option.getD_some, Option.isSome_some]
    exact ⟨_, rfl, ent_e⟩
  rename_i bv bo
  have hne := hc
  obtain ⟨b1, b2, b3⟩ := r
  simp only
  generalize hall : spB 44 s.data.toList = all at *
  refine wcx_rangeFunc encW (okW all) (fun ys (i : Value × List Int) => i.2 = ys.map valI ∧ ∀ w ∈ ys, okI w) (fun ys (i : Value × List Int) => ∃ w ∈ ys, ¬ okI w) all (sqA b1 b2 b3 44) (fun i => [.bk b [i.1], .ow [i.1] i.2, .bk bo [.bool false], .bk bv [.slice none 0 0], .rd [esV] x, .rd [erV] y, .rd [tabV] (Tab.mk Lib.pow10Tab)]) (.slice none 0 0, []) s (.tuple #[]) (fun _ => rfl) ⟨rfl, fun w hw => by cases hw⟩ ?_ ?_ ?_ ?_ ?_
  · simp only [sqA, List.cons_append, List.nil_append]
    exact ent_e
  · intro L rr hY
    rw [← hall] at hY ⊢
    exact split_hit hY hs ⟨rfl, fun w hw => by cases hw⟩
  · intro L rr R ys d ⟨sv, acc⟩ rest hst hok ⟨hinv, hyok⟩ hR hL
    have hdm : d ∈ all := hok.subset (by simp)
    have hdl := hwl2 d hdm
    have hyl : ys.length ≤ all.length := by
      have := hok.length_le
      simp only [List.length_append, List.length_singleton] at this
      omega
    have hds : (S d).size ≤ 1000000 := by rw [S_size]; omega
    simp only at hinv hyok
    have hal : acc.length ≤ 1000001 := by rw [hinv, List.length_map]; omega
    simp only [sqA, encW, lrOf, GtR, List.zip_cons_cons, List.zip_nil_right, List.foldl_cons, List.foldl_nil, List.set_cons_succ, List.set_cons_zero, List.cons_append, List.nil_append] at hR hL ⊢
    repeat' (first | refine red ?_ | refine redf fun hbi => ?_ | refine reds ?_ | (refine redc fun r => ?_; try have hr := Subtype.property r) | refine redp (fun r => ?_) (fun r => ?_) | refine redv fun sv => ?_ | refine redn fun b => ?_ | refine redz fun zs => ?_ | refine redq (fun hc => ?_) (fun hc => ?_) | with_reducible refine wq_blk_o rfl ?_ | (refine redd fun p cs as_ hcs has hf => ?_; simp only [Un.cells, Un.atoms, Un.fact, List.cons_append, List.nil_append] at hcs has hf; subst hcs has) | (refine redi (fun hc => ?_) (fun hc => ?_) <;> try first | (exfalso; omega) | with_reducible first | exact absurd rfl hc | exact absurd hc Bool.false_ne_true | exact absurd hc Bool.false_ne_true.symm) | fail)
    refine wq_begin hst ?_
    rw [hst] at hR
    repeat' (first | refine red ?_ | refine redf fun hbi => ?_ | refine reds ?_ | (refine redc fun r => ?_; try have hr := Subtype.property r) | refine redp (fun r => ?_) (fun r => ?_) | refine redv fun sv => ?_ | refine redn fun b => ?_ | refine redz fun zs => ?_ | refine redq (fun hc => ?_) (fun hc => ?_) | with_reducible refine wq_blk_o rfl ?_ | (refine redd fun p cs as_ hcs has hf => ?_; simp only [Un.cells, Un.atoms, Un.fact, List.cons_append, List.nil_append] at hcs has hf; subst hcs has) | (refine redi (fun hc => ?_) (fun hc => ?_) <;> try first | (exfalso; omega) | with_reducible first | exact absurd rfl hc | exact absurd hc Bool.false_ne_true | exact absurd hc Bool.false_ne_true.symm) | fail)
    · exact wq_left fun w hw => hL (sv, acc) ⟨d, by simp, hc⟩ w ((ent_e : Ent w1 _ _) w hw)
    · have hrv := hr.2 hc
      refine wq_round fun w hw => hR (sv, acc ++ [r.1]) ⟨by simp only [hinv, List.map_append, List.map_cons, List.map_nil]; rw [hrv]; rfl, fun w hw => by
        rcases List.mem_append.1 hw with hw | hw
        · exact hyok w hw
        · rw [List.mem_singleton] at hw; rw [hw]; exact hc⟩ w ((ent_e : Ent w1 _ _) w hw)
  · intro db ⟨sv, acc⟩ rest ⟨hinv, hyok⟩
    simp only [sqA, List.cons_append, List.nil_append] at hinv hyok ⊢
    rw [rdL_yes hne (fun j hj => hyok _ (hall ▸ getD_memB hj)), hall, ← hinv]
    simp only [Option.getD_some, Option.isSome_some]
    repeat' (first | refine red ?_ | refine redf fun hbi => ?_ | refine reds ?_ | (refine redc fun r => ?_; try have hr := Subtype.property r) | refine redp (fun r => ?_) (fun r => ?_) | refine redv fun sv => ?_ | refine redn fun b => ?_ | refine redz fun zs => ?_ | refine redq (fun hc => ?_) (fun hc => ?_) | with_reducible refine wq_blk_o rfl ?_ | (refine redd fun p cs as_ hcs has hf => ?_; simp only [Un.cells, Un.atoms, Un.fact, List.cons_append, List.nil_append] at hcs has hf; subst hcs has) | (refine redi (fun hc => ?_) (fun hc => ?_) <;> try first | (exfalso; omega) | with_reducible first | exact absurd rfl hc | exact absurd hc Bool.false_ne_true | exact absurd hc Bool.false_ne_true.symm) | fail)
    exact ⟨_, rfl, ent_e⟩
  · intro db pre ⟨sv, acc⟩ rest hpre hx
    simp only [sqA, List.cons_append, List.nil_append] at hx ⊢
    obtain ⟨u, hu1, hu2⟩ := hx
    obtain ⟨k, hk, rfl⟩ : ∃ k, k < all.length ∧ all.getD k [] = u := by
      obtain ⟨k, hk, he⟩ := List.getElem_of_mem (hpre.subset hu1)
      exact ⟨k, hk, by rw [List.getD_eq_getElem?_getD, List.getElem?_eq_getElem hk]; exact he⟩
    rw [rdL_no hne (k := k) (by rw [hall]; exact hk) (by rw [hall]; exact hu2)]
    simp only [Option.getD_none, Option.isSome_none]
    repeat' (first | refine red ?_ | refine redf fun hbi => ?_ | refine reds ?_ | (refine redc fun r => ?_; try have hr := Subtype.property r) | refine redp (fun r => ?_) (fun r => ?_) | refine redv fun sv => ?_ | refine redn fun b => ?_ | refine redz fun zs => ?_ | refine redq (fun hc => ?_) (fun hc => ?_) | with_reducible refine wq_blk_o rfl ?_ | (refine redd fun p cs as_ hcs has hf => ?_; simp only [Un.cells, Un.atoms, Un.fact, List.cons_append, List.nil_append] at hcs has hf; subst hcs has) | (refine redi (fun hc => ?_) (fun hc => ?_) <;> try first | (exfalso; omega) | with_reducible first | exact absurd rfl hc | exact absurd hc Bool.false_ne_true | exact absurd hc Bool.false_ne_true.symm) | fail)
    exact ⟨_, rfl, ent_e⟩
instance parseList_ctr {Γ : List Atom} {s : ByteArray} {x y : GE} [hx : HasRd (GE) repGE Γ [esV] x] [hy : HasRd (GE) repGE Γ [erV] y] [ht : HasRd (Tab) repTab Γ [tabV] (Tab.mk Lib.pow10Tab)] :
    CtrC Tryz.prog 23 [.string s] Γ (s.size ≤ 1000000) (Value) (fun q : Value => .tuple #[q, .bool (rdL s).isSome]) (fun q => .ow [q] ((rdL s).getD []) :: Γ) := ⟨fun s w0 => parseList_spec s⟩

theorem parseTerms_spec {w0 : World} {Γ : List Atom} {v : Value} {a : List Int} {s : ByteArray} [h : HasRd (List Int) repList Γ [v] a] (hs : s.size ≤ 1000000) :
    CJ Tryz.prog 24 [.agg #[v], .string s] w0 Γ (fun q : Value => .tuple #[q, .bool (rdT a s).isSome]) (fun q => .ow [q] ((rdT a s).getD []) :: Γ) := by
  have hll : s.data.toList.length = s.size := Array.length_toList
  obtain ⟨hwl1, hwl2⟩ := spB_len 59 s.data.toList
  refine cj_lift (R := [.rd [v] a]) (A := fun q : Value => [.ow [q] ((rdT a s).getD [])]) (fun w1 => ?_) (reads_cons h (inferInstance)) (fun _ => inferInstance)
  simp only [List.cons_append, List.nil_append]
  refine cj_enter_m Tryz.func24 Tryz.ntmps24 ?_
  repeat' (first | refine red ?_ | refine redf fun hbi => ?_ | refine reds ?_ | (refine redc fun r => ?_; try have hr := Subtype.property r) | refine redp (fun r => ?_) (fun r => ?_) | refine redv fun sv => ?_ | refine redn fun b => ?_ | refine redz fun zs => ?_ | refine redq (fun hc => ?_) (fun hc => ?_) | with_reducible refine wq_blk_o rfl ?_ | (refine redd fun p cs as_ hcs has hf => ?_; simp only [Un.cells, Un.atoms, Un.fact, List.cons_append, List.nil_append] at hcs has hf; subst hcs has) | (refine redi (fun hc => ?_) (fun hc => ?_) <;> try first | (exfalso; omega) | with_reducible first | exact absurd rfl hc | exact absurd hc Bool.false_ne_true | exact absurd hc Bool.false_ne_true.symm) | fail)
  · rw [show rdT a s = some [] from if_pos hc]
    simp only [Option.getD_some, Option.isSome_some]
    exact ⟨_, rfl, ent_e⟩
  rename_i bg bv bo
  have hne := hc
  obtain ⟨b1, b2, b3⟩ := r
  simp only
  generalize hall : spB 59 s.data.toList = all at *
  refine wcx_rangeFunc encW (okW all) (fun ys (i : Value × List (List Int)) => i.2 = ys.map ptL ∧ ∀ w ∈ ys, okT a w) (fun ys (i : Value × List (List Int)) => ∃ w ∈ ys, ¬ okT a w) all (sqA b1 b2 b3 59) (fun i => [.bk b [i.1], .ow [i.1] i.2, .bk bo [.bool false], .bk bv [.slice none 0 0], .bk bg [v], .rd [v] a]) (.slice none 0 0, []) s (.tuple #[]) (fun _ => rfl) ⟨rfl, fun w hw => by cases hw⟩ ?_ ?_ ?_ ?_ ?_
  · simp only [sqA, List.cons_append, List.nil_append]
    exact ent_e
  · intro L rr hY
    rw [← hall] at hY ⊢
    exact split_hit hY hs ⟨rfl, fun w hw => by cases hw⟩
  · intro L rr R ys d ⟨sv, acc⟩ rest hst hok ⟨hinv, hyok⟩ hR hL
    have hdm : d ∈ all := hok.subset (by simp)
    have hdl := hwl2 d hdm
    have hyl : ys.length ≤ all.length := by
      have := hok.length_le
      simp only [List.length_append, List.length_singleton] at this
      omega
    have hds : (S d).size ≤ 1000000 := by rw [S_size]; omega
    simp only at hinv hyok
    have hal : acc.length ≤ 1000001 := by rw [hinv, List.length_map]; omega
    simp only [sqA, encW, lrOf, GtR, List.zip_cons_cons, List.zip_nil_right, List.foldl_cons, List.foldl_nil, List.set_cons_succ, List.set_cons_zero, List.cons_append, List.nil_append] at hR hL ⊢
    repeat' (first | refine red ?_ | refine redf fun hbi => ?_ | refine reds ?_ | (refine redc fun r => ?_; try have hr := Subtype.property r) | refine redp (fun r => ?_) (fun r => ?_) | refine redv fun sv => ?_ | refine redn fun b => ?_ | refine redz fun zs => ?_ | refine redq (fun hc => ?_) (fun hc => ?_) | with_reducible refine wq_blk_o rfl ?_ | (refine redd fun p cs as_ hcs has hf => ?_; simp only [Un.cells, Un.atoms, Un.fact, List.cons_append, List.nil_append] at hcs has hf; subst hcs has) | (refine redi (fun hc => ?_) (fun hc => ?_) <;> try first | (exfalso; omega) | with_reducible first | exact absurd rfl hc | exact absurd hc Bool.false_ne_true | exact absurd hc Bool.false_ne_true.symm) | fail)
    refine wq_begin hst ?_
    rw [hst] at hR
    repeat' (first | refine red ?_ | refine redf fun hbi => ?_ | refine reds ?_ | (refine redc fun r => ?_; try have hr := Subtype.property r) | refine redp (fun r => ?_) (fun r => ?_) | refine redv fun sv => ?_ | refine redn fun b => ?_ | refine redz fun zs => ?_ | refine redq (fun hc => ?_) (fun hc => ?_) | with_reducible refine wq_blk_o rfl ?_ | (refine redd fun p cs as_ hcs has hf => ?_; simp only [Un.cells, Un.atoms, Un.fact, List.cons_append, List.nil_append] at hcs has hf; subst hcs has) | (refine redi (fun hc => ?_) (fun hc => ?_) <;> try first | (exfalso; omega) | with_reducible first | exact absurd rfl hc | exact absurd hc Bool.false_ne_true | exact absurd hc Bool.false_ne_true.symm) | fail)
    · exact wq_left fun w hw => hL (sv, acc) ⟨d, by simp, fun h => hc (ptB_iff.2 h)⟩ w ((ent_e : Ent w1 _ _) w hw)
    · refine wq_round fun w hw => hR (sv, acc ++ [ptL (S d).data.toList]) ⟨by simp only [hinv, List.map_append, List.map_cons, List.map_nil]; rfl, fun w hw => by
        rcases List.mem_append.1 hw with hw | hw
        · exact hyok w hw
        · rw [List.mem_singleton] at hw; rw [hw]; exact ptB_iff.1 hc⟩ w ((ent_e : Ent w1 _ _) w hw)
  · intro db ⟨sv, acc⟩ rest ⟨hinv, hyok⟩
    simp only [sqA, List.cons_append, List.nil_append] at hinv hyok ⊢
    rw [rdT_yes hne (fun j hj => hyok _ (hall ▸ getD_memB hj)), hall, ← hinv]
    simp only [Option.getD_some, Option.isSome_some]
    repeat' (first | refine red ?_ | refine redf fun hbi => ?_ | refine reds ?_ | (refine redc fun r => ?_; try have hr := Subtype.property r) | refine redp (fun r => ?_) (fun r => ?_) | refine redv fun sv => ?_ | refine redn fun b => ?_ | refine redz fun zs => ?_ | refine redq (fun hc => ?_) (fun hc => ?_) | with_reducible refine wq_blk_o rfl ?_ | (refine redd fun p cs as_ hcs has hf => ?_; simp only [Un.cells, Un.atoms, Un.fact, List.cons_append, List.nil_append] at hcs has hf; subst hcs has) | (refine redi (fun hc => ?_) (fun hc => ?_) <;> try first | (exfalso; omega) | with_reducible first | exact absurd rfl hc | exact absurd hc Bool.false_ne_true | exact absurd hc Bool.false_ne_true.symm) | fail)
    exact ⟨_, rfl, ent_e⟩
  · intro db pre ⟨sv, acc⟩ rest hpre hx
    simp only [sqA, List.cons_append, List.nil_append] at hx ⊢
    obtain ⟨u, hu1, hu2⟩ := hx
    obtain ⟨k, hk, rfl⟩ : ∃ k, k < all.length ∧ all.getD k [] = u := by
      obtain ⟨k, hk, he⟩ := List.getElem_of_mem (hpre.subset hu1)
      exact ⟨k, hk, by rw [List.getD_eq_getElem?_getD, List.getElem?_eq_getElem hk]; exact he⟩
    rw [rdT_no hne (k := k) (by rw [hall]; exact hk) (by rw [hall]; exact hu2)]
    simp only [Option.getD_none, Option.isSome_none]
    repeat' (first | refine red ?_ | refine redf fun hbi => ?_ | refine reds ?_ | (refine redc fun r => ?_; try have hr := Subtype.property r) | refine redp (fun r => ?_) (fun r => ?_) | refine redv fun sv => ?_ | refine redn fun b => ?_ | refine redz fun zs => ?_ | refine redq (fun hc => ?_) (fun hc => ?_) | with_reducible refine wq_blk_o rfl ?_ | (refine redd fun p cs as_ hcs has hf => ?_; simp only [Un.cells, Un.atoms, Un.fact, List.cons_append, List.nil_append] at hcs has hf; subst hcs has) | (refine redi (fun hc => ?_) (fun hc => ?_) <;> try first | (exfalso; omega) | with_reducible first | exact absurd rfl hc | exact absurd hc Bool.false_ne_true | exact absurd hc Bool.false_ne_true.symm) | fail)
    exact ⟨_, rfl, ent_e⟩
instance parseTerms_ctr {Γ : List Atom} {v : Value} {a : List Int} {s : ByteArray} [h : HasRd (List Int) repList Γ [v] a] :
    CtrC Tryz.prog 24 [.agg #[v], .string s] Γ (s.size ≤ 1000000) (Value) (fun q : Value => .tuple #[q, .bool (rdT a s).isSome]) (fun q => .ow [q] ((rdT a s).getD []) :: Γ) := ⟨fun s w0 => parseTerms_spec s⟩

end Go.Proofs.YtogmjihokkdcfaaGreatDoor
