/- Contracts of the library at this program, as the shelf of the kit lays them. -/
import Derived.Shelf.SlSortCmp.NoneTotal
import Derived.Test.YtbbdjjlnachnlaaGreatDoorProg
import Derived.Test.YtbbdjjlnachnlaaGreatDoorAuto2
import Derived.Test.YtbbdjjlnachnlaaGreatDoorSortG
namespace Go.Proofs
open Go.Shelf
def Tryz.laysSlF6_f136_ren : Go.Shelf.Ren := ⟨fun | 6 => 136 | 15 => 164 | 14 => 163 | 28 => 184 | 29 => 185 | 20 => 176 | 21 => 177 | 22 => 178 | 23 => 179 | 24 => 180 | 25 => 181 | 26 => 182 | 27 => 183 | 46 => 191 | 47 => 192 | 48 => 193 | 49 => 194 | 50 => 195 | 57 => 199 | n => n, fun | 22 => 61 | 24 => 24 | 25 => 153 | 3 => 3 | 39 => 122 | 0 => 0 | 53 => 67 | 55 => 198 | 4 => 4 | 46 => 191 | 45 => 190 | 50 => 177 | 5 => 5 | 9 => 9 | 66 => 205 | 70 => 209 | 76 => 216 | 77 => 217 | n => n, fun | n => n⟩
theorem Tryz.laysSlF6_f136 : Go.Proofs.SlLaysF.n6 Tryz.prog Tryz.laysSlF6_f136_ren := {
  mixed := by kernel_rfl
  f6 := ⟨Tryz.f136.name, by decide, Tryz.func136.trans (congrArg some (by kernel_rfl))⟩
  f14 := ⟨Tryz.f163.name, by decide, Tryz.func163.trans (congrArg some (by kernel_rfl))⟩
  f15 := Tryz.func164.trans (congrArg some (by kernel_rfl))
  f20 := ⟨Tryz.f176.name, by decide, Tryz.func176.trans (congrArg some (by kernel_rfl))⟩
  f21 := ⟨Tryz.f177.name, by decide, Tryz.func177.trans (congrArg some (by kernel_rfl))⟩
  f22 := ⟨Tryz.f178.name, by decide, Tryz.func178.trans (congrArg some (by kernel_rfl))⟩
  f23 := ⟨Tryz.f179.name, by decide, Tryz.func179.trans (congrArg some (by kernel_rfl))⟩
  f24 := ⟨Tryz.f180.name, by decide, Tryz.func180.trans (congrArg some (by kernel_rfl))⟩
  f25 := ⟨Tryz.f181.name, by decide, Tryz.func181.trans (congrArg some (by kernel_rfl))⟩
  f26 := ⟨Tryz.f182.name, by decide, Tryz.func182.trans (congrArg some (by kernel_rfl))⟩
  f27 := ⟨Tryz.f183.name, by decide, Tryz.func183.trans (congrArg some (by kernel_rfl))⟩
  f28 := Tryz.func184.trans (congrArg some (by kernel_rfl))
  f29 := Tryz.func185.trans (congrArg some (by kernel_rfl))
  f46 := ⟨Tryz.f191.name, by decide, Tryz.func191.trans (congrArg some (by kernel_rfl))⟩
  f47 := Tryz.func192.trans (congrArg some (by kernel_rfl))
  f48 := Tryz.func193.trans (congrArg some (by kernel_rfl))
  f49 := ⟨Tryz.f194.name, by decide, Tryz.func194.trans (congrArg some (by kernel_rfl))⟩
  f50 := ⟨Tryz.f195.name, by decide, Tryz.func195.trans (congrArg some (by kernel_rfl))⟩
  f57 := ⟨Tryz.f199.name, by decide, Tryz.func199.trans (congrArg some (by kernel_rfl))⟩
  t0 := Tryz.underlying0
  a0 := Tryz.isAgg0
  z0 := Tryz.sizeOf0
  v0 := Tryz.zeroValue0
  t3 := Tryz.underlying3
  a3 := Tryz.isAgg3
  z3 := Tryz.sizeOf3
  v3 := Tryz.zeroValue3
  t4 := Tryz.underlying4
  a4 := Tryz.isAgg4
  z4 := Tryz.sizeOf4
  v4 := Tryz.zeroValue4
  t5 := Tryz.underlying5
  a5 := Tryz.isAgg5
  z5 := Tryz.sizeOf5
  v5 := Tryz.zeroValue5
  t9 := Tryz.underlying9
  a9 := Tryz.isAgg9
  z9 := Tryz.sizeOf9
  v9 := Tryz.zeroValue9
  t22 := Tryz.underlying61
  a22 := Tryz.isAgg61
  z22 := Tryz.sizeOf61
  v22 := Tryz.zeroValue61
  a24 := Tryz.isAgg24
  z24 := Tryz.sizeOf24
  t25 := Tryz.underlying153
  a25 := Tryz.isAgg153
  z25 := Tryz.sizeOf153
  v25 := Tryz.zeroValue153
  t39 := Tryz.underlying122
  a39 := Tryz.isAgg122
  z39 := Tryz.sizeOf122
  v39 := Tryz.zeroValue122
  t45 := Tryz.underlying190
  a45 := Tryz.isAgg190
  z45 := Tryz.sizeOf190
  v45 := Tryz.zeroValue190
  t46 := Tryz.underlying191
  a46 := Tryz.isAgg191
  z46 := Tryz.sizeOf191
  v46 := Tryz.zeroValue191
  t50 := Tryz.underlying177
  a50 := Tryz.isAgg177
  z50 := Tryz.sizeOf177
  v50 := Tryz.zeroValue177
  t53 := Tryz.underlying67
  a53 := Tryz.isAgg67
  z53 := Tryz.sizeOf67
  v53 := Tryz.zeroValue67
  t55 := Tryz.underlying198
  a55 := Tryz.isAgg198
  z55 := Tryz.sizeOf198
  v55 := Tryz.zeroValue198
  t66 := Tryz.underlying205
  a66 := Tryz.isAgg205
  z66 := Tryz.sizeOf205
  v66 := Tryz.zeroValue205
  t70 := Tryz.underlying209
  a70 := Tryz.isAgg209
  z70 := Tryz.sizeOf209
  v70 := Tryz.zeroValue209
  t76 := Tryz.underlying216
  a76 := Tryz.isAgg216
  z76 := Tryz.sizeOf216
  v76 := Tryz.zeroValue216
  t77 := Tryz.underlying217
  a77 := Tryz.isAgg217
  z77 := Tryz.sizeOf217
  v77 := Tryz.zeroValue217 }
end Go.Proofs
namespace Go.Proofs.YtbbdjjlnachnlaaGreatDoor
open Go Go.Eng
set_option linter.unusedVariables false
set_option linter.unusedSimpArgs false
set_option synthInstance.maxHeartbeats 400000
set_option synthInstance.maxSize 1000
set_option maxRecDepth 20000

/-! ### Lists, compared -/
def cmpL : List Int → List Int → Int
  | [], [] => 0
  | [], _ :: _ => -1
  | _ :: _, [] => 1
  | x :: xs, y :: ys => if x < y then -1 else if y < x then 1 else cmpL xs ys
def cmpI (x y : Int) : Int := if x < y then -1 else if y < x then 1 else 0
theorem cmpI_bd (x y : Int) : -1 ≤ cmpI x y ∧ cmpI x y ≤ 1 := by
  unfold cmpI
  split
  · decide
  · split <;> decide
theorem cmpL_hd {x y : Int} {xs ys : List Int} (h : ¬ cmpI x y = 0) : cmpL (x :: xs) (y :: ys) = cmpI x y := by
  unfold cmpI at *
  rw [cmpL]
  split
  · rfl
  · rename_i h1
    rw [if_neg h1] at h
    split
    · rfl
    · rename_i h2
      rw [if_neg h2] at h
      exact absurd rfl h
theorem cmpL_tl {x y : Int} {xs ys : List Int} (h : cmpI x y = 0) : cmpL (x :: xs) (y :: ys) = cmpL xs ys := by
  unfold cmpI at h
  rw [cmpL]
  split
  · rename_i h1
    rw [if_pos h1] at h
    exact absurd h (by decide)
  · rename_i h1
    rw [if_neg h1] at h
    split
    · rename_i h2
      rw [if_pos h2] at h
      exact absurd h (by decide)
    · rfl
theorem cmpL_refl : ∀ x, cmpL x x = 0
  | [] => rfl
  | x :: xs => by rw [cmpL, if_neg (by omega), if_neg (by omega), cmpL_refl xs]
theorem cmpL_eq : ∀ {x y : List Int}, cmpL x y = 0 → x = y
  | [], [], _ => rfl
  | [], _ :: _, h => by simp [cmpL] at h
  | _ :: _, [], h => by simp [cmpL] at h
  | x :: xs, y :: ys, h => by
    rw [cmpL] at h
    split at h
    · omega
    · split at h
      · omega
      · rw [cmpL_eq h, show x = y by omega]
theorem cmpL_neg : ∀ x y : List Int, cmpL y x = - cmpL x y
  | [], [] => rfl
  | [], _ :: _ => rfl
  | _ :: _, [] => rfl
  | x :: xs, y :: ys => by
    rw [cmpL, cmpL]
    by_cases h1 : x < y
    · rw [if_neg (by omega), if_pos h1, if_pos h1]; rfl
    · by_cases h2 : y < x
      · rw [if_pos h2, if_neg h1, if_pos h2]
      · rw [if_neg h2, if_neg h1, if_neg h1, if_neg h2, cmpL_neg xs ys]
theorem cmpL_bd : ∀ x y : List Int, -1 ≤ cmpL x y ∧ cmpL x y ≤ 1
  | [], [] => by simp [cmpL]
  | [], _ :: _ => by simp [cmpL]
  | _ :: _, [] => by simp [cmpL]
  | x :: xs, y :: ys => by
    have := cmpL_bd xs ys
    rw [cmpL]
    split
    · omega
    · split <;> omega
abbrev leL (x y : List Int) : Prop := cmpL x y ≤ 0
theorem leL_trans : ∀ {x y z : List Int}, leL x y → leL y z → leL x z
  | [], [], _, _, h => h
  | [], _ :: _, [], _, h => by simp [leL, cmpL] at h
  | [], _ :: _, _ :: _, _, _ => by simp [leL, cmpL]
  | _ :: _, [], _, h, _ => by simp [leL, cmpL] at h
  | _ :: _, _ :: _, [], _, h => by simp [leL, cmpL] at h
  | x :: xs, y :: ys, z :: zs, h1, h2 => by
    unfold leL at *
    rw [cmpL] at h1 h2 ⊢
    by_cases a : x < y
    · by_cases b : y < z
      · rw [if_pos (by omega)]; omega
      · rw [if_neg b] at h2
        split at h2
        · omega
        · rw [if_pos (by omega)]; omega
    · rw [if_neg a] at h1
      split at h1
      · omega
      · by_cases b : y < z
        · rw [if_pos (by omega)]; omega
        · rw [if_neg b] at h2
          split at h2
          · omega
          · rw [if_neg (by omega), if_neg (by omega)]
            exact leL_trans h1 h2
theorem cmpC_spec {w0 : World} {Γ : List Atom} {x y : Int} : CJ Tryz.prog 174 [.int .i64 x, .int .i64 y] w0 Γ (fun _ : Unit => .int .i64 (cmpI x y)) (fun _ => Γ) := by
  refine cj_enter Tryz.func174 Tryz.ntmps174 ?_
  repeat' (first | refine red ?_ | (refine redc fun r => ?_; try have hr := Subtype.property r) | (refine redi (fun hc => ?_) (fun hc => ?_) <;> try first | (exfalso; omega) | exact absurd rfl hc) | fail)
  · exact ⟨(), by rw [cmpI, if_pos (by omega)], ent_e⟩
  · exact ⟨(), by rw [cmpI, if_neg (by omega), if_pos (by omega)], ent_e⟩
  · exact ⟨(), by rw [cmpI, if_neg (by omega), if_neg (by omega)], ent_e⟩
instance cmpC_ctr {Γ : List Atom} {x y : Int} :
    CtrC Tryz.prog 174 [.int .i64 x, .int .i64 y] Γ (True) (Unit) (fun _ : Unit => .int .i64 (cmpI x y)) (fun _ => Γ) := ⟨fun s w0 => cmpC_spec⟩

theorem cmpX_spec {w0 : World} {Γ : List Atom} {v v1 : Value} {xs ys : List Int} [h : HasRd (List Int) repList Γ [v] xs] [h1 : HasRd (List Int) repList Γ [v1] ys] : CJ Tryz.prog 157 [v, v1] w0 Γ (fun q : { c : Int // c = cmpL xs ys ∧ -1 ≤ c ∧ c ≤ 1 } => .int .i64 q.1) (fun _ => Γ) := by
  have hbd := cmpL_bd xs ys
  refine cj_lift (R := [.rd [v] xs, .rd [v1] ys]) (A := fun _ => []) (fun w1 => ?_) (reads_cons h (reads_cons h1 (inferInstance))) (fun _ => inferInstance)
  simp only [List.cons_append, List.nil_append]
  refine cj_len v fun hlx => ?_
  refine cj_len v1 fun hly => ?_
  refine cj_enter Tryz.func157 Tryz.ntmps157 ?_
  repeat' (first | refine red ?_ | fail)
  refine wc_loop_c [11] [12, 13, 14, 15, 5, 6, 16, 17, 18, 19, 4, 20, 21, 22, 23, 7, 24, 25, 26, 8, 27, 28, 29, 30] (ι := Nat) (fun k => [.int .i64 k]) (fun k => k ≤ xs.length ∧ k ≤ ys.length ∧ cmpL xs ys = cmpL (xs.drop k) (ys.drop k)) (fun k => xs.length - k) 0 (by kernel_rfl) ⟨Nat.zero_le _, Nat.zero_le _, rfl⟩ ?_
  intro k u l' hl' ⟨hk, hk2, hkk⟩
  simp only [patch, List.map_cons, List.map_nil, List.set_cons_zero, List.set_cons_succ] at hl'
  subst hl'
  have hx : k < xs.length → xs.drop k = xs.getD k 0 :: xs.drop (k + 1) := fun h => by
    rw [List.drop_eq_getElem_cons h, List.getD_eq_getElem?_getD, List.getElem?_eq_getElem h]; rfl
  have hy : k < ys.length → ys.drop k = ys.getD k 0 :: ys.drop (k + 1) := fun h => by
    rw [List.drop_eq_getElem_cons h, List.getD_eq_getElem?_getD, List.getElem?_eq_getElem h]; rfl
  repeat' (first | refine red ?_ | refine redf fun hbi => ?_ | refine reds ?_ | (refine redc fun r => ?_; try have hr := Subtype.property r) | (refine redi (fun hc => ?_) (fun hc => ?_) <;> try first | (exfalso; omega) | exact absurd rfl hc) | fail)
  · refine ⟨⟨1, ?_, by decide, by decide⟩, rfl, ent_e⟩
    rw [hkk, hx (by omega), show ys.drop k = [] from List.drop_of_length_le (by omega)]; rfl
  · exact ⟨⟨_, by rw [hkk, hx (by omega), hy (by omega), cmpL_hd hc], cmpI_bd _ _⟩, rfl, ent_e⟩
  · exact wq_next (k + 1) ⟨by omega, by omega, by rw [hkk, hx (by omega), hy (by omega), cmpL_tl hc]⟩ (by omega) (by kernel_rfl) ent_e
  · refine ⟨⟨-1, ?_, by decide, by decide⟩, rfl, ent_e⟩
    rw [hkk, hy (by omega), show xs.drop k = [] from List.drop_of_length_le (by omega)]; rfl
  · refine ⟨⟨0, ?_, by decide, by decide⟩, rfl, ent_e⟩
    rw [hkk, show ys.drop k = [] from List.drop_of_length_le (by omega), show xs.drop k = [] from List.drop_of_length_le (by omega)]; rfl
instance cmpX_ctr {Γ : List Atom} {v v1 : Value} {xs ys : List Int} [h : HasRd (List Int) repList Γ [v] xs] [h1 : HasRd (List Int) repList Γ [v1] ys] :
    CtrC Tryz.prog 157 [v, v1] Γ (True) ({ c : Int // c = cmpL xs ys ∧ -1 ≤ c ∧ c ≤ 1 }) (fun q : { c : Int // c = cmpL xs ys ∧ -1 ≤ c ∧ c ≤ 1 } => .int .i64 q.1) (fun _ => Γ) := ⟨fun s w0 => cmpX_spec⟩

theorem cmpI_swap (x y : Int) : cmpI y x = - cmpI x y := by
  unfold cmpI
  split <;> split <;> omega
theorem compareIntsX_spec {w0 : World} {Γ : List Atom} {x y : Int} : CJ Tryz.prog 156 [.int .i64 x, .int .i64 y] w0 Γ (fun _ : Unit => .int .i64 (cmpI x y)) (fun _ => Γ) := by
  refine cj_enter Tryz.func156 Tryz.ntmps156 ?_
  repeat' (first | refine red ?_ | (refine redi (fun hc => ?_) (fun hc => ?_) <;> try first | (exfalso; omega) | exact absurd rfl hc) | fail)
  · exact ⟨(), by rw [cmpI, if_pos (by omega)], ent_e⟩
  · exact ⟨(), by rw [cmpI, if_neg (by omega), if_pos (by omega)], ent_e⟩
  · exact ⟨(), by rw [cmpI, if_neg (by omega), if_neg (by omega)], ent_e⟩
instance compareIntsX_ctr {Γ : List Atom} {x y : Int} :
    CtrC Tryz.prog 156 [.int .i64 x, .int .i64 y] Γ (True) (Unit) (fun _ : Unit => .int .i64 (cmpI x y)) (fun _ => Γ) := ⟨fun s w0 => compareIntsX_spec⟩

/-- Transitions, compared. -/
def cmpT (a b : STrans) : Int := if a.1 ≠ b.1 then cmpI a.1 b.1 else if cmpL a.2.1 b.2.1 ≠ 0 then cmpL a.2.1 b.2.1 else cmpI a.2.2 b.2.2
theorem cmpI_zero {x y : Int} : cmpI x y = 0 ↔ x = y := by unfold cmpI; split <;> (try split) <;> omega
theorem cmpI_lt {x y : Int} : cmpI x y < 0 ↔ x < y := by unfold cmpI; split <;> (try split) <;> omega
theorem cmpI_le {x y : Int} : cmpI x y ≤ 0 ↔ x ≤ y := by unfold cmpI; split <;> (try split) <;> omega
theorem leL_anti {x y : List Int} (h : leL x y) (h' : leL y x) : x = y := cmpL_eq (by unfold leL at h h'; rw [cmpL_neg] at h'; omega)
theorem cmpT_neg (a b : STrans) : cmpT b a = - cmpT a b := by
  unfold cmpT
  rw [cmpL_neg a.2.1 b.2.1, cmpI_swap a.1 b.1, cmpI_swap a.2.2 b.2.2]
  by_cases h1 : a.1 = b.1
  · by_cases h2 : cmpL a.2.1 b.2.1 = 0
    · simp [h1, h2]
    · simp [h1, h2]
  · simp [h1, Ne.symm h1]
theorem cmpT_refl (a : STrans) : cmpT a a = 0 := by have := cmpT_neg a a; omega
theorem cmpT_le {a b : STrans} : cmpT a b ≤ 0 ↔ a.1 < b.1 ∨ a.1 = b.1 ∧ ((leL a.2.1 b.2.1 ∧ a.2.1 ≠ b.2.1) ∨ a.2.1 = b.2.1 ∧ a.2.2 ≤ b.2.2) := by
  unfold cmpT
  split
  · rename_i h
    have := @cmpI_lt a.1 b.1
    have := @cmpI_zero a.1 b.1
    omega
  · rename_i h
    have h : a.1 = b.1 := Classical.not_not.1 h
    split
    · rename_i h2
      have h3 : a.2.1 ≠ b.2.1 := fun e => h2 (by rw [e]; exact cmpL_refl _)
      constructor
      · exact fun h4 => .inr ⟨h, .inl ⟨h4, h3⟩⟩
      · rintro (h4 | ⟨_, ⟨h4, _⟩ | ⟨h4, _⟩⟩)
        · omega
        · exact h4
        · exact absurd h4 h3
    · rename_i h2
      have h3 : a.2.1 = b.2.1 := cmpL_eq (Classical.not_not.1 h2)
      rw [cmpI_le]
      constructor
      · exact fun h4 => .inr ⟨h, .inr ⟨h3, h4⟩⟩
      · rintro (h4 | ⟨_, ⟨_, h4⟩ | ⟨_, h4⟩⟩)
        · omega
        · exact absurd h3 h4
        · exact h4
theorem cmpT_trans {a b c : STrans} (h1 : cmpT a b ≤ 0) (h2 : cmpT b c ≤ 0) : cmpT a c ≤ 0 := by
  rw [cmpT_le] at *
  rcases h1 with h1 | ⟨e1, h1⟩
  · rcases h2 with h2 | ⟨e2, h2⟩
    · exact .inl (by omega)
    · exact .inl (by omega)
  · rcases h2 with h2 | ⟨e2, h2⟩
    · exact .inl (by omega)
    · refine .inr ⟨by omega, ?_⟩
      rcases h1 with ⟨l1, n1⟩ | ⟨l1, n1⟩
      · rcases h2 with ⟨l2, n2⟩ | ⟨l2, n2⟩
        · exact .inl ⟨leL_trans l1 l2, fun e => n1 (leL_anti l1 (by rw [e]; exact l2))⟩
        · exact .inl ⟨by rw [← l2]; exact l1, by rw [← l2]; exact n1⟩
      · rcases h2 with ⟨l2, n2⟩ | ⟨l2, n2⟩
        · exact .inl ⟨by rw [l1]; exact l2, by rw [l1]; exact n2⟩
        · exact .inr ⟨l1.trans l2, by omega⟩
theorem swo_of {α : Type} {cf : α → α → Int} (hn : ∀ a b, cf b a = - cf a b) (ht : ∀ a b c, cf a b ≤ 0 → cf b c ≤ 0 → cf a c ≤ 0) (hz : ∀ a b, cf a b = 0 → ∀ c, cf a c = cf b c) : Go.Sort.SWO (Go.Proofs.ltOf cf) where
  irrefl x := by unfold ltOf; have := hn x x; rw [decide_eq_false_iff_not]; omega
  trans x y z h1 h2 := by
    unfold ltOf at *
    rw [decide_eq_true_iff] at *
    have h3 := ht x y z (by omega) (by omega)
    by_cases h0 : cf x z = 0
    · have h4 := hz x z h0 y
      have := hn y z
      omega
    · omega
  ntrans x y z h1 h2 := by
    unfold ltOf at *
    rw [decide_eq_false_iff_not] at *
    have e1 := hn x y
    have e2 := hn y z
    have e3 := hn x z
    have h3 := ht z y x (by omega) (by omega)
    omega
theorem cmpT_eq {a b : STrans} (h : cmpT a b = 0) : a = b := by
  have h1 := cmpT_le.1 (show cmpT a b ≤ 0 by omega)
  have h2 := cmpT_le.1 (show cmpT b a ≤ 0 by rw [cmpT_neg]; omega)
  rcases h1 with h1 | ⟨e1, h1⟩
  · rcases h2 with h2 | ⟨e2, h2⟩ <;> omega
  · rcases h2 with h2 | ⟨e2, h2⟩
    · omega
    · rcases h1 with ⟨l1, n1⟩ | ⟨l1, n1⟩
      · rcases h2 with ⟨l2, n2⟩ | ⟨l2, n2⟩
        · exact absurd (leL_anti l1 l2) n1
        · exact absurd l2.symm n1
      · rcases h2 with ⟨l2, n2⟩ | ⟨l2, n2⟩
        · exact absurd l1.symm n2
        · exact Prod.ext e1 (Prod.ext l1 (show a.2.2 = b.2.2 by omega))
theorem cmpT_swo : Go.Sort.SWO (Go.Proofs.ltOf cmpT) := swo_of cmpT_neg (fun _ _ _ => cmpT_trans) (fun a b h c => by rw [cmpT_eq h])
attribute [local instance 2000] compareIntsX_ctr
theorem compareTransX_spec {w0 : World} {Γ : List Atom} {v v1 : Value} {ta tb : STrans} [h : HasRd (List Int) repList Γ [v] ta.2.1] [h1 : HasRd (List Int) repList Γ [v1] tb.2.1] : CJ Tryz.prog 110 [.agg #[.int .i64 ta.1, v, .int .i64 ta.2.2], .agg #[.int .i64 tb.1, v1, .int .i64 tb.2.2]] w0 Γ (fun _ : Unit => .int .i64 (cmpT ta tb)) (fun _ => Γ) := by
  refine cj_enter Tryz.func110 Tryz.ntmps110 ?_
  repeat' (first | refine red ?_ | (refine redc fun r => ?_; try have hr := Subtype.property r) | refine redn fun b => ?_ | (refine redi (fun hc => ?_) (fun hc => ?_) <;> try first | (exfalso; omega) | exact absurd rfl hc) | fail)
  · exact ⟨(), by rw [cmpT, if_pos hc], ent_e⟩
  · have h2 := hr.1
    generalize r.1 = c at h2 hc ⊢
    exact ⟨(), by rw [cmpT, if_neg (fun h => h ‹ta.1 = tb.1›), h2, if_pos (by rw [← h2]; exact hc)], ent_e⟩
  · have h2 := hr.1
    exact ⟨(), by rw [cmpT, if_neg (fun h => h ‹ta.1 = tb.1›), if_neg (fun h => h (by rw [← h2]; exact hc))], ent_e⟩
instance compareTransX_ctr {Γ : List Atom} {v v1 : Value} {ta tb : STrans} [h : HasRd (List Int) repList Γ [v] ta.2.1] [h1 : HasRd (List Int) repList Γ [v1] tb.2.1] :
    CtrC Tryz.prog 110 [.agg #[.int .i64 ta.1, v, .int .i64 ta.2.2], .agg #[.int .i64 tb.1, v1, .int .i64 tb.2.2]] Γ (True) (Unit) (fun _ : Unit => .int .i64 (cmpT ta tb)) (fun _ => Γ) := ⟨fun s w0 => compareTransX_spec⟩

/-- Terms, the shorter ones first. -/
def cmpS (a b : List Int) : Int := if a.length ≠ b.length then (a.length : Int) - b.length else cmpL a b
theorem cmpS_neg (a b : List Int) : cmpS b a = - cmpS a b := by
  unfold cmpS
  rw [cmpL_neg a b]
  split <;> split <;> omega
theorem cmpS_eq {a b : List Int} (h : cmpS a b = 0) : a = b := by
  unfold cmpS at h
  split at h
  · omega
  · exact cmpL_eq h
theorem cmpS_refl (a : List Int) : cmpS a a = 0 := by have := cmpS_neg a a; omega
theorem cmpS_trans {a b c : List Int} (h1 : cmpS a b ≤ 0) (h2 : cmpS b c ≤ 0) : cmpS a c ≤ 0 := by
  unfold cmpS at *
  split at h1 <;> split at h2 <;> split <;> first | omega | exact leL_trans h1 h2
theorem cmpS_swo : Go.Sort.SWO (Go.Proofs.ltOf cmpS) := swo_of cmpS_neg (fun _ _ _ => cmpS_trans) (fun a b h c => by rw [cmpS_eq h])
theorem compareTerms_spec {w0 : World} {Γ : List Atom} {v v1 : Value} {xs ys : List Int} [h : HasRd (List Int) repList Γ [v] xs] [h1 : HasRd (List Int) repList Γ [v1] ys] : CJ Tryz.prog 137 [v, v1] w0 Γ (fun _ : Unit => .int .i64 (cmpS xs ys)) (fun _ => Γ) := by
  refine cj_len v fun hlx => ?_
  refine cj_len v1 fun hly => ?_
  refine cj_enter Tryz.func137 Tryz.ntmps137 ?_
  repeat' (first | refine red ?_ | refine reds ?_ | (refine redc fun r => ?_; try have hr := Subtype.property r) | (refine redi (fun hc => ?_) (fun hc => ?_) <;> try first | (exfalso; omega) | exact absurd rfl hc) | fail)
  · exact ⟨(), by rw [cmpS, if_pos (by omega)], ent_e⟩
  · exact ⟨(), by rw [cmpS, if_neg (by omega), r.2.1], ent_e⟩
instance compareTerms_ctr {Γ : List Atom} {v v1 : Value} {xs ys : List Int} [h : HasRd (List Int) repList Γ [v] xs] [h1 : HasRd (List Int) repList Γ [v1] ys] :
    CtrC Tryz.prog 137 [v, v1] Γ (True) (Unit) (fun _ : Unit => .int .i64 (cmpS xs ys)) (fun _ => Γ) := ⟨fun s w0 => compareTerms_spec⟩

abbrev LeT (a b : STrans) : Prop := 0 ≤ cmpT b a
/-- The sort's comparison has its contract. -/
theorem hc_trans (w0 : World) (cx cy : List Value) (x y : STrans) : CJ Tryz.prog 110 [.agg cx.toArray, .agg cy.toArray] w0 [.rd cx x, .rd cy y] (fun _ : Unit => .int .i64 (cmpT x y)) (fun _ => []) := fun w hs => by
  obtain ⟨hb, F, hn, hl, f1, g1, rfl, ⟨rfl, hx⟩, f2, g2, rfl, ⟨rfl, hy⟩, rfl⟩ := hs
  obtain ⟨c1, d1, e1, ⟨hc1, _⟩, c2, d2, e2, hx2, hd2, _⟩ := (id hx : Rep.rd (α := STrans) _ w cx x)
  obtain ⟨c3, d3, e3, ⟨hc3, _⟩, c4, d4, e4, hy2, hd4, _⟩ := (id hy : Rep.rd (α := STrans) _ w cy y)
  obtain ⟨v, rfl, hv⟩ := rd_one_l hx2
  obtain ⟨v', rfl, hv'⟩ := rd_one_l hy2
  have ex : cx.toArray = #[.int .i64 x.1, v, .int .i64 x.2.2] := by rw [e1, hc1, e2, hd2]; rfl
  have ey : cy.toArray = #[.int .i64 y.1, v', .int .i64 y.2.2] := by rw [e3, hc3, e4, hd4]; rfl
  rw [ex, ey]
  have hs : Sat w0 w [.rd [v] x.2.1, .rd [v'] y.2.1] := ⟨hb, [], by simp, by simp, [], [], rfl, ⟨rfl, hv⟩, [], [], rfl, ⟨rfl, hv'⟩, rfl⟩
  refine (compareTransX_spec (ta := x) (tb := y) (v := v) (v1 := v') w hs).mono fun e w' ⟨p, he, hs'⟩ => ⟨p, he, ?_⟩
  exact (hs'.drop).drop
end Go.Proofs.YtbbdjjlnachnlaaGreatDoor
