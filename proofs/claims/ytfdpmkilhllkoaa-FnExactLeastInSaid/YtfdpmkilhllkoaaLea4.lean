/- The least term that an automaton takes: the program. -/
import Derived.Test.YtfdpmkilhllkoaaLea3
import Derived.Test.YtfdpmkilhllkoaaNode
namespace Go.Proofs.Ytfdpmkilhllkoaa
open Go Go.Eng
set_option linter.unusedVariables false
set_option linter.unusedSimpArgs false
set_option synthInstance.maxHeartbeats 400000
set_option synthInstance.maxSize 1000
set_option maxHeartbeats 2000000
set_option maxRecDepth 20000


/-- Shorter, or as long and no greater. -/
def leT (t s : List Int) : Prop := t.length < s.length ∨ (t.length = s.length ∧ leL t s)
def LeastT (S : List Int → Prop) (t : List Int) : Prop := (t = [] ∧ ∀ s, ¬ S s) ∨ (S t ∧ t ≠ [] ∧ ∀ s, S s → leT t s)
theorem leastT_one {S : List Int → Prop} {t u : List Int} (h : LeastT S t) (h' : LeastT S u) : t = u := by
  rcases h with ⟨h1, h2⟩ | ⟨h1, h2, h3⟩
  · rcases h' with ⟨h4, _⟩ | ⟨h4, _, _⟩
    · rw [h1, h4]
    · exact absurd h4 (h2 u)
  · rcases h' with ⟨_, h5⟩ | ⟨h4, _, h6⟩
    · exact absurd h1 (h5 t)
    · have a := h3 u h4
      have b := h6 t h1
      unfold leT leL at a b
      have := cmpL_neg t u
      exact cmpL_eq (by omega)
noncomputable def leastT (S : List Int → Prop) : List Int := @dite _ (∃ t, LeastT S t) (Classical.propDecidable _) (fun h => Classical.choose h) (fun _ => [])
theorem leastT_eq {S : List Int → Prop} {t : List Int} (h : LeastT S t) : leastT S = t := by
  unfold leastT
  have he : ∃ t, LeastT S t := ⟨t, h⟩
  rw [dif_pos he]
  exact leastT_one (Classical.choose_spec he) h
/-- What is taken. -/
def Acc (rs : List STrans) (fs : List Int) : List Int → Prop := fun w => ∃ q ∈ fs, Tms rs [q] w ∧ w.length ≤ 60
/-- The least term that is taken. -/
noncomputable def lsO (ar : List Int) (x : SAuto) : List Int := if autoOk ar x = true then leastT (Acc x.2.1 x.2.2) else []
theorem lsO_no {ar : List Int} {x : SAuto} (h : ¬ AutoP ar x) : lsO ar x = [] := by
  unfold lsO autoOk
  rw [if_neg (fun e => h (decC_iff.1 e))]
theorem lsO_yes {ar : List Int} {x : SAuto} {t : List Int} (h : AutoP ar x) (ht : LeastT (Acc x.2.1 x.2.2) t) : lsO ar x = t := by
  unfold lsO autoOk
  rw [if_pos (decC_t h)]
  exact leastT_eq ht
theorem ruOk_of {ar : List Int} {x : SAuto} (h : AutoP ar x) : RuOk x.2.1 := by
  refine ⟨fun k hk => ?_, h.2.2.1⟩
  have h1 := (h.2.2.2.2 k hk).1
  have h2 := h.2.1
  have h3 := inS_of h _ (getT hk)
  refine ⟨?_, h3.1, h3.2.1, h3.2.2⟩
  have h4 := h1.2.1
  have h5 : ar.getD (x.2.1.getD k default).1.toNat 0 ≤ 3 := by
    exact (sigOk_get h.1 (k := (x.2.1.getD k default).1.toNat) (by have := h1.1; omega)).2
  omega
theorem tms_rch {rs : List STrans} {cs w : List Int} (h : Tms rs cs w) : ∀ q ∈ cs, Rch rs q := by
  induction h with
  | nil => intro q hq; cases hq
  | @cons a cs f bs u v h1 h2 h3 ih1 ih2 =>
    intro q hq
    rcases List.mem_cons.1 hq with rfl | hq
    · exact .mk _ h1 ih1
    · exact ih2 q hq
/-- The least of some length among the first i states. -/
abbrev FinTo (rs : List STrans) (fs : List Int) (k i : Nat) : List Int → Prop := fun s => ∃ q ∈ fs.take i, Lst rs [q] k s
theorem finTo_zero {rs : List STrans} {fs : List Int} {k : Nat} : LeastOf (FinTo rs fs k 0) [] := .inl ⟨rfl, fun s ⟨q, hq, _⟩ => by simp at hq⟩
theorem finTo_succ {rs : List STrans} {fs : List Int} {k i : Nat} (hi : i < fs.length) (s : List Int) : FinTo rs fs k (i + 1) s ↔ (FinTo rs fs k i s ∨ Lst rs [fs.getD i 0] k s) := by
  unfold FinTo
  rw [List.take_succ_eq_append_getElem hi, List.getD_eq_getElem?_getD, List.getElem?_eq_getElem hi, Option.getD_some]
  constructor
  · rintro ⟨q, hq, h⟩
    rcases List.mem_append.1 hq with hq | hq
    · exact .inl ⟨q, hq, h⟩
    · rw [List.mem_singleton] at hq
      exact .inr (hq ▸ h)
  · rintro (⟨q, hq, h⟩ | h)
    · exact ⟨q, List.mem_append.2 (.inl hq), h⟩
    · exact ⟨_, List.mem_append.2 (.inr (List.mem_singleton.2 rfl)), h⟩
theorem fin_none {rs : List STrans} {fs : List Int} {k i : Nat} {t : List Int} (hi : i < fs.length) (h : LeastOf (FinTo rs fs k i) t) (he : LeastOf (Lst rs [fs.getD i 0] k) []) : LeastOf (FinTo rs fs k (i + 1)) t :=
  leastOf_iff (fun s => by
    rw [finTo_succ hi]
    exact ⟨.inl, fun h => h.elim id fun h => by
      rcases he with ⟨_, he⟩ | ⟨_, he, _⟩
      · exact absurd h (he s)
      · exact absurd rfl he⟩) h
theorem lst_least {rs : List STrans} {cs u : List Int} {k : Nat} (h : LeastOf (Lst rs cs k) u) (hu : u ≠ []) : Lst rs cs k u ∧ u ≠ [] ∧ ∀ s, Lst rs cs k s → leL u s := by
  rcases h with ⟨h, _⟩ | h
  · exact absurd h hu
  · exact h
theorem fin_new {rs : List STrans} {fs : List Int} {k i : Nat} {t u : List Int} (hi : i < fs.length) (h : LeastOf (FinTo rs fs k i) t) (he : LeastOf (Lst rs [fs.getD i 0] k) u) (hu : u ≠ []) (hlt : t = [] ∨ cmpL u t < 0) : LeastOf (FinTo rs fs k (i + 1)) u :=
  leastOf_iff (fun s => (finTo_succ hi s).symm) (leastOf_or h (lst_least he hu) hlt)
theorem fin_old {rs : List STrans} {fs : List Int} {k i : Nat} {t u : List Int} (hi : i < fs.length) (h : LeastOf (FinTo rs fs k i) t) (he : LeastOf (Lst rs [fs.getD i 0] k) u) (hu : u ≠ []) (hlt : ¬ (t = [] ∨ cmpL u t < 0)) : LeastOf (FinTo rs fs k (i + 1)) t :=
  leastOf_iff (fun s => (finTo_succ hi s).symm) (leastOf_keep h (lst_least he hu) hlt)
theorem fin_found {rs : List STrans} {fs : List Int} {k : Nat} {t : List Int} (hk : k ≤ 60) (hlo : ∀ w, Acc rs fs w → k ≤ w.length) (h : LeastOf (FinTo rs fs k fs.length) t) (ht : t ≠ []) : LeastT (Acc rs fs) t := by
  rcases h with ⟨h, _⟩ | ⟨⟨q, hq, h1, h2⟩, _, h3⟩
  · exact absurd h ht
  rw [List.take_length] at hq
  refine .inr ⟨⟨q, hq, h1, by omega⟩, ht, fun s hs => ?_⟩
  have hks := hlo s hs
  obtain ⟨q', hq', h4, h5⟩ := hs
  unfold leT
  by_cases e : s.length = k
  · exact .inr ⟨by omega, h3 s ⟨q', by rw [List.take_length]; exact hq', h4, e⟩⟩
  · exact .inl (by omega)
theorem fin_more {rs : List STrans} {fs : List Int} {k : Nat} (hlo : ∀ w, Acc rs fs w → k ≤ w.length) (h : LeastOf (FinTo rs fs k fs.length) []) : ∀ w, Acc rs fs w → k + 1 ≤ w.length := fun w hw => by
  have h1 := hlo w hw
  by_cases e : w.length = k
  · exfalso
    obtain ⟨q, hq, h2, h3⟩ := hw
    rcases h with ⟨_, h⟩ | ⟨_, h, _⟩
    · exact h w ⟨q, by rw [List.take_length]; exact hq, h2, e⟩
    · exact h rfl
  · omega
theorem fin_none_at {rs : List STrans} {fs : List Int} (hlo : ∀ w, Acc rs fs w → 61 ≤ w.length) : LeastT (Acc rs fs) [] := .inl ⟨rfl, fun s hs => by
  have := hlo s hs
  obtain ⟨_, _, _, h⟩ := hs
  omega⟩
section
variable {P : Program} {w0 : World} {l : List Value} {Γ : List Atom} {ty : TypeId} {T U : TypeId} {x y : Operand} {a b : Nat}
theorem pu_and32 [hx : Ev l x (.int .u32 (a : Int))] [hy : Ev l y (.int .u32 (b : Int))] (h : a < 4294967296 ∧ b < 4294967296) : Pu P w0 l Γ (.binOp .and T x y U) ty (.int .u32 ((a &&& b : Nat) : Int)) :=
  pu_bin eqGuard_int (fun w => by
    rw [binOp_and, intBits_and, u32_and_nat a b h.1 h.2, Sem.run_pure])
instance and32 [hx : Ev l x (.int .u32 (a : Int))] [hy : Ev l y (.int .u32 (b : Int))] : PuS P l Γ (.binOp .and T x y U) ty (.int .u32 ((a &&& b : Nat) : Int)) (a < 4294967296 ∧ b < 4294967296) := ⟨fun h _ => pu_and32 h⟩
end
theorem finI_in {ar : List Int} {x : SAuto} (h : AutoP ar x) : ∀ q ∈ x.2.2, 0 ≤ q ∧ q < 16 := fun q hq => by
  obtain ⟨i, hi, rfl⟩ := List.getElem_of_mem hq
  have h1 := (h.2.2.2.1 i hi).1
  have h2 := h.2.1.2
  rw [List.getD_eq_getElem?_getD, List.getElem?_eq_getElem hi] at h1
  simp only [Option.getD_some] at h1
  omega
instance (priority := 1500) SubE.mlnil {Γ Δ : List Atom} {g : K4 → List Int} [h : SubE Γ Δ] : SubE Γ (.rd [.bool false] (Ml.mk (fun _ => none) g) :: Δ) := ⟨fun hs => by
  obtain ⟨G, H, hGH, hD⟩ := h.get hs
  exact ⟨G, H, hGH, [], G, rfl, ⟨rfl, rfl, fun q v hq => by cases hq⟩, hD⟩⟩
structure TN where
  b : Nat
  cs : List Value
  mv : Value
theorem newSmallest_spec {w0 : World} {Γ : List Atom} : CJ Try.prog 63 [] w0 Γ (fun q : TN => .pointer (some ⟨q.b, 0, none⟩)) (fun q => .bk q.b (q.cs ++ [q.mv]) :: .rd q.cs (Ar.mk (List.replicate 976 ⟨[]⟩) : Ar 976 (NE Int)) :: @Atom.ow MpK repMp [q.mv] (Mp.mk 0 (fun _ => none)) :: .rd [.bool false] (Ml.mk (fun _ => none) (fun _ => [])) :: Γ) := by
  refine cj_enter Try.func63 Try.ntmps63 ?_
  repeat' (first | refine red ?_ | refine redf fun hbi => ?_ | refine reds ?_ | (refine redc fun r => ?_; try have hr := Subtype.property r) | refine redp (fun r => ?_) (fun r => ?_) | refine redv fun sv => ?_ | refine redn fun b => ?_ | refine redz fun zs => ?_ | refine redq (fun hc => ?_) (fun hc => ?_) | with_reducible refine wq_blk_o rfl ?_ | (refine redi (fun hc => ?_) (fun hc => ?_) <;> try first | (exfalso; omega) | with_reducible first | exact absurd rfl hc | exact absurd hc Bool.false_ne_true | exact absurd hc Bool.false_ne_true.symm) | fail)
  exact ⟨⟨b, zs, sv⟩, rfl, ent_e⟩
instance newSmallest_ctr {Γ : List Atom} :
    CtrC Try.prog 63 [] Γ (True) (TN) (fun q : TN => .pointer (some ⟨q.b, 0, none⟩)) (fun q => .bk q.b (q.cs ++ [q.mv]) :: .rd q.cs (Ar.mk (List.replicate 976 ⟨[]⟩) : Ar 976 (NE Int)) :: @Atom.ow MpK repMp [q.mv] (Mp.mk 0 (fun _ => none)) :: .rd [.bool false] (Ml.mk (fun _ => none) (fun _ => [])) :: Γ) := ⟨fun s w0 => newSmallest_spec⟩

theorem mok_nil {rs : List STrans} {l : K4 → List Int} : MOk rs (fun _ => none) l := fun _ _ _ _ _ h => by cases h
theorem tbl_zero (rs : List STrans) : Tbl rs (List.replicate 976 ⟨[]⟩) 0 := by
  have he : ∀ q m : Nat, ent (List.replicate 976 ⟨[]⟩) q m = [] := fun q m => by
    unfold ent
    rw [List.getD_eq_getElem?_getD, List.getElem?_replicate]
    split <;> rfl
  exact ⟨fun q m hq hm => by
    obtain rfl : m = 0 := by omega
    rw [he]
    exact lst_zero, fun q m _ _ _ => he q m, List.length_replicate⟩
theorem impl_LeastIn_spec {w0 : World} {Γ : List Atom} {v v0 v1 : Value} {ar : List Int} {x : SAuto} [h : HasRd (List Int) repList Γ [v] ar] [h0 : HasRd (List STrans) repList Γ [v0] x.2.1] [h1 : HasRd (List Int) repList Γ [v1] x.2.2] :
    CJ Try.prog 14 [.agg #[v], .agg #[.int .i64 x.1, v0, v1]] w0 Γ (fun q : Value => .tuple #[q, .bool (decide (lsO ar x ≠ []))]) (fun q => .ow [q] (lsO ar x) :: Γ) := by
  haveI hI1 : ∀ (Γ : List Atom) (v0 v1 : Value) [HasRd (List STrans) repList Γ [v0] x.2.1] [HasRd (List Int) repList Γ [v1] x.2.2], CtrC Try.prog 61 [.agg #[.int .i64 x.1, v0, v1]] Γ (AutoP ar x) { s : Nat // s < 65536 ∧ ∀ i : Nat, i < 16 → (s.testBit i = true ↔ Rch x.2.1 (i : Int)) } (fun q => .int .u32 (q.1 : Int)) (fun _ => Γ) := fun Γ v0 v1 _ _ => ⟨fun s w0 => reached_spec (inS_of s)⟩
  haveI hI2 : ∀ (Γ : List Atom) (v : Value) [HasRd (List Int) repList Γ [v] x.2.2], CtrC Try.prog 62 [v] Γ (AutoP ar x) { s : Nat // s < 65536 ∧ ∀ i : Nat, s.testBit i = true ↔ (i : Int) ∈ x.2.2 } (fun q => .int .u32 (q.1 : Int)) (fun _ => Γ) := fun Γ v _ => ⟨fun s w0 => setOf_spec (finI_in s)⟩
  refine cj_lift (R := [.rd [v] ar, .rd [v0] x.2.1, .rd [v1] x.2.2]) (A := fun q : Value => [.ow [q] (lsO ar x)]) (fun w1 => ?_) (reads_cons h (reads_cons h0 (reads_cons h1 (inferInstance)))) (fun _ => inferInstance)
  simp only [List.cons_append, List.nil_append]
  refine cj_enter Try.func14 Try.ntmps14 ?_
  repeat' (first | refine red ?_ | refine redf fun hbi => ?_ | refine reds ?_ | (refine redc fun r => ?_; try have hr := Subtype.property r) | refine redp (fun r => ?_) (fun r => ?_) | refine redv fun sv => ?_ | refine redn fun b => ?_ | refine redz fun zs => ?_ | refine redq (fun hc => ?_) (fun hc => ?_) | with_reducible refine wq_blk_o rfl ?_ | (refine redd fun p cs as_ hcs has hf => ?_; simp only [Un.cells, Un.atoms, Un.fact, List.cons_append, List.nil_append] at hcs has hf; subst hcs has) | (refine redi (fun hc => ?_) (fun hc => ?_) <;> try first | (exfalso; omega) | with_reducible first | exact absurd rfl hc | exact absurd hc Bool.false_ne_true | exact absurd hc Bool.false_ne_true.symm) | ((refine wa_begin 1 [false, false, false, false, false, false, false, false, false, false, false, false, false] [] ?_ <;> refine wa_p 0 ?_ <;> (first | refine wa_f 1 fun hbi => ?_ | refine wa_p 1 ?_ | (refine wa_do 1 ?_ <;> (repeat' (first | refine red ?_ | (refine redc fun r => ?_; try have hr := Subtype.property r) | refine redv fun sv => ?_ | refine redf fun hbi => ?_ | refine redn fun b => ?_ | refine reds ?_ | refine redi (fun hc => ?_) (fun hc => ?_) | refine redq (fun hc => ?_) (fun hc => ?_) | refine redp (fun r => ?_) (fun r => ?_) | fail))) | fail) <;> (refine wa_do 2 ?_ <;> (repeat' (first | refine red ?_ | (refine redc fun r => ?_; try have hr := Subtype.property r) | refine redv fun sv => ?_ | refine redf fun hbi => ?_ | refine redn fun b => ?_ | refine reds ?_ | refine redi (fun hc => ?_) (fun hc => ?_) | refine redq (fun hc => ?_) (fun hc => ?_) | refine redp (fun r => ?_) (fun r => ?_) | fail))) <;> (first | refine wa_p 3 ?_ | refine wa_p0 3 ?_ | (refine wa_do 3 ?_ <;> (repeat' (first | refine red ?_ | (refine redc fun r => ?_; try have hr := Subtype.property r) | refine redv fun sv => ?_ | refine redf fun hbi => ?_ | refine redn fun b => ?_ | refine reds ?_ | refine redi (fun hc => ?_) (fun hc => ?_) | refine redq (fun hc => ?_) (fun hc => ?_) | refine redp (fun r => ?_) (fun r => ?_) | fail))) | fail) <;> (first | refine wa_p 4 ?_ | refine wa_p0 4 ?_) <;> (first | refine wa_pg 5 ?_ | refine wa_no 5 ?_ | (refine wa_if 16 (fun hc => ?_) (fun hc => ?_) <;> (try first | (exfalso; omega) | with_reducible first | exact absurd rfl hc | exact absurd hc Bool.false_ne_true | exact absurd hc Bool.false_ne_true.symm) <;> first | refine wa_pg 5 ?_ | refine wa_no 5 ?_) | fail) <;> (first | refine wa_pg 7 ?_ | refine wa_no 7 ?_ | fail) <;> (first | refine wa_pg 8 ?_ | refine wa_no 8 ?_ | fail) <;> (refine wa_do 6 ?_ <;> (repeat' (first | refine red ?_ | (refine redc fun r => ?_; try have hr := Subtype.property r) | refine redv fun sv => ?_ | refine redf fun hbi => ?_ | refine redn fun b => ?_ | refine reds ?_ | refine redi (fun hc => ?_) (fun hc => ?_) | refine redq (fun hc => ?_) (fun hc => ?_) | refine redp (fun r => ?_) (fun r => ?_) | fail))) <;> (refine wa_do 9 ?_ <;> (repeat' (first | refine red ?_ | (refine redc fun r => ?_; try have hr := Subtype.property r) | refine redv fun sv => ?_ | refine redf fun hbi => ?_ | refine redn fun b => ?_ | refine reds ?_ | refine redi (fun hc => ?_) (fun hc => ?_) | refine redq (fun hc => ?_) (fun hc => ?_) | refine redp (fun r => ?_) (fun r => ?_) | fail))) <;> (first | refine wa_pg 10 ?_ | refine wa_no 10 ?_ | (refine wa_do 10 ?_ <;> (repeat' (first | refine red ?_ | (refine redc fun r => ?_; try have hr := Subtype.property r) | refine redv fun sv => ?_ | refine redf fun hbi => ?_ | refine redn fun b => ?_ | refine reds ?_ | refine redi (fun hc => ?_) (fun hc => ?_) | refine redq (fun hc => ?_) (fun hc => ?_) | refine redp (fun r => ?_) (fun r => ?_) | fail))) | fail) <;> (first | refine wa_pg 11 ?_ | refine wa_no 11 ?_ | (refine wa_do 11 ?_ <;> (repeat' (first | refine red ?_ | (refine redc fun r => ?_; try have hr := Subtype.property r) | refine redv fun sv => ?_ | refine redf fun hbi => ?_ | refine redn fun b => ?_ | refine reds ?_ | refine redi (fun hc => ?_) (fun hc => ?_) | refine redq (fun hc => ?_) (fun hc => ?_) | refine redp (fun r => ?_) (fun r => ?_) | fail))) | fail) <;> (first | refine wa_p 12 ?_ | refine wa_p0 12 ?_ | (refine wa_do 12 ?_ <;> (repeat' (first | refine red ?_ | (refine redc fun r => ?_; try have hr := Subtype.property r) | refine redv fun sv => ?_ | refine redf fun hbi => ?_ | refine redn fun b => ?_ | refine reds ?_ | refine redi (fun hc => ?_) (fun hc => ?_) | refine redq (fun hc => ?_) (fun hc => ?_) | refine redp (fun r => ?_) (fun r => ?_) | fail))) | fail)) <;> (first | refine wa_end ?_ | with_reducible refine wq_keep ?_)) | fail)
  · rw [lsO_no hc]
    exact ⟨_, rfl, ent_e⟩
  · rename_i hp r1 hr1
    have hE : lsO ar x = [] := lsO_yes hp (.inl ⟨rfl, fun s ⟨q, hq, h2, _⟩ => by
      have hq16 := finI_in hp q hq
      have hrc := tms_rch h2 q (by simp)
      have hqn : ((q.toNat : Nat) : Int) = q := Int.toNat_of_nonneg hq16.1
      have b1 := (hr1.2 q.toNat (by omega)).2 (hqn ▸ hrc)
      have b2 := (hr.2 q.toNat).2 (hqn.symm ▸ hq)
      have b3 : r1.1 &&& r.1 = 0 := by omega
      have b4 := congrArg (fun n => Nat.testBit n q.toNat) b3
      simp only [Nat.testBit_and, b1, b2, Nat.zero_testBit] at b4
      exact absurd b4 (by decide)⟩)
    rw [hE]
    exact ⟨_, rfl, ent_e⟩
  rename_i bs _ hp r1 hr1 r2
  have hru := ruOk_of hp
  have hrl := hru.len
  have hfl : x.2.2.length ≤ 16 := by
    have h1 := setP_len hp.2.2.2.1 (by have := hp.2.1; omega)
    have h2 := hp.2.1
    omega
  obtain ⟨b0, cs0, mv⟩ := r
  simp only
  refine wc_loop [7] [26, 27, 30, 31, 32, 33, 34, 8, 35, 36, 37, 38, 39, 40, 41, 10, 42, 43, 44, 45, 46, 47, 48, 49, 11, 50, 51, 52, 53, 54, 55, 56, 57, 58, 59, 60, 61, 62, 63, 64, 65, 66, 67, 4, 5, 28, 29] (ι := Nat × TG) (fun s => [.int .i64 s.1]) (fun s => [.bk b0 (s.2.cs ++ [mv]), .rd s.2.cs (Ar.mk s.2.xs : Ar 976 (NE Int)), @Atom.ow MpK repMp [mv] (Mp.mk s.2.n s.2.f), .rd [.bool false] (Ml.mk s.2.f s.2.l), .bk b [.int .i64 x.1, v0, v1], .bk bs [v], .rd [v] ar, .rd [v0] x.2.1, .rd [v1] x.2.2])
    (fun s => (1 ≤ s.1 ∧ s.1 ≤ 61) ∧ Tbl x.2.1 s.2.xs (s.1 - 1) ∧ MOk x.2.1 s.2.f s.2.l ∧ s.2.n ≤ (s.1 - 1) * 18300 ∧ ∀ w, Acc x.2.1 x.2.2 w → s.1 ≤ w.length) (fun s => 61 - s.1) (1, ⟨cs0, List.replicate 976 ⟨[]⟩, 0, fun _ => none, fun _ => []⟩) (by kernel_rfl) ⟨⟨Nat.le_refl _, by show 1 ≤ 61; decide⟩, tbl_zero _, mok_nil, Nat.zero_le _, fun w ⟨q, _, h2, _⟩ => by have := tms_len h2; simpa using this⟩ ent_e ?_
  intro ⟨k, ⟨cs', xs', n', f', l'⟩⟩ u lc hlc ⟨hk, hT, hM, hn, hlo⟩
  simp only [patch, List.map_cons, List.map_nil, List.set_cons_zero, List.set_cons_succ] at hlc
  subst hlc
  simp only at hk hT hM hn hlo ⊢
  by_cases hk60 : k ≤ 60
  · have hGA : GA x.2.1 xs' f' l' n' (k : Int) := ⟨by omega, by rw [Int.toNat_natCast]; exact hT, hM, hru, by omega⟩
    repeat' (first | refine red ?_ | refine redf fun hbi => ?_ | refine reds ?_ | (refine redc fun r => ?_; try have hr := Subtype.property r) | refine redp (fun r => ?_) (fun r => ?_) | refine redv fun sv => ?_ | refine redn fun b => ?_ | refine redz fun zs => ?_ | refine redq (fun hc => ?_) (fun hc => ?_) | with_reducible refine wq_blk_o rfl ?_ | (refine redd fun p cs as_ hcs has hf => ?_; simp only [Un.cells, Un.atoms, Un.fact, List.cons_append, List.nil_append] at hcs has hf; subst hcs has) | (refine redi (fun hc => ?_) (fun hc => ?_) <;> try first | (exfalso; omega) | with_reducible first | exact absurd rfl hc | exact absurd hc Bool.false_ne_true | exact absurd hc Bool.false_ne_true.symm) | ((refine wa_begin 1 [false, false, false, false, false, false, false, false, false, false, false, false, false] [] ?_ <;> refine wa_p 0 ?_ <;> (first | refine wa_f 1 fun hbi => ?_ | refine wa_p 1 ?_ | (refine wa_do 1 ?_ <;> (repeat' (first | refine red ?_ | (refine redc fun r => ?_; try have hr := Subtype.property r) | refine redv fun sv => ?_ | refine redf fun hbi => ?_ | refine redn fun b => ?_ | refine reds ?_ | refine redi (fun hc => ?_) (fun hc => ?_) | refine redq (fun hc => ?_) (fun hc => ?_) | refine redp (fun r => ?_) (fun r => ?_) | fail))) | fail) <;> (refine wa_do 2 ?_ <;> (repeat' (first | refine red ?_ | (refine redc fun r => ?_; try have hr := Subtype.property r) | refine redv fun sv => ?_ | refine redf fun hbi => ?_ | refine redn fun b => ?_ | refine reds ?_ | refine redi (fun hc => ?_) (fun hc => ?_) | refine redq (fun hc => ?_) (fun hc => ?_) | refine redp (fun r => ?_) (fun r => ?_) | fail))) <;> (first | refine wa_p 3 ?_ | refine wa_p0 3 ?_ | (refine wa_do 3 ?_ <;> (repeat' (first | refine red ?_ | (refine redc fun r => ?_; try have hr := Subtype.property r) | refine redv fun sv => ?_ | refine redf fun hbi => ?_ | refine redn fun b => ?_ | refine reds ?_ | refine redi (fun hc => ?_) (fun hc => ?_) | refine redq (fun hc => ?_) (fun hc => ?_) | refine redp (fun r => ?_) (fun r => ?_) | fail))) | fail) <;> (first | refine wa_p 4 ?_ | refine wa_p0 4 ?_) <;> (first | refine wa_pg 5 ?_ | refine wa_no 5 ?_ | (refine wa_if 16 (fun hc => ?_) (fun hc => ?_) <;> (try first | (exfalso; omega) | with_reducible first | exact absurd rfl hc | exact absurd hc Bool.false_ne_true | exact absurd hc Bool.false_ne_true.symm) <;> first | refine wa_pg 5 ?_ | refine wa_no 5 ?_) | fail) <;> (first | refine wa_pg 7 ?_ | refine wa_no 7 ?_ | fail) <;> (first | refine wa_pg 8 ?_ | refine wa_no 8 ?_ | fail) <;> (refine wa_do 6 ?_ <;> (repeat' (first | refine red ?_ | (refine redc fun r => ?_; try have hr := Subtype.property r) | refine redv fun sv => ?_ | refine redf fun hbi => ?_ | refine redn fun b => ?_ | refine reds ?_ | refine redi (fun hc => ?_) (fun hc => ?_) | refine redq (fun hc => ?_) (fun hc => ?_) | refine redp (fun r => ?_) (fun r => ?_) | fail))) <;> (refine wa_do 9 ?_ <;> (repeat' (first | refine red ?_ | (refine redc fun r => ?_; try have hr := Subtype.property r) | refine redv fun sv => ?_ | refine redf fun hbi => ?_ | refine redn fun b => ?_ | refine reds ?_ | refine redi (fun hc => ?_) (fun hc => ?_) | refine redq (fun hc => ?_) (fun hc => ?_) | refine redp (fun r => ?_) (fun r => ?_) | fail))) <;> (first | refine wa_pg 10 ?_ | refine wa_no 10 ?_ | (refine wa_do 10 ?_ <;> (repeat' (first | refine red ?_ | (refine redc fun r => ?_; try have hr := Subtype.property r) | refine redv fun sv => ?_ | refine redf fun hbi => ?_ | refine redn fun b => ?_ | refine reds ?_ | refine redi (fun hc => ?_) (fun hc => ?_) | refine redq (fun hc => ?_) (fun hc => ?_) | refine redp (fun r => ?_) (fun r => ?_) | fail))) | fail) <;> (first | refine wa_pg 11 ?_ | refine wa_no 11 ?_ | (refine wa_do 11 ?_ <;> (repeat' (first | refine red ?_ | (refine redc fun r => ?_; try have hr := Subtype.property r) | refine redv fun sv => ?_ | refine redf fun hbi => ?_ | refine redn fun b => ?_ | refine reds ?_ | refine redi (fun hc => ?_) (fun hc => ?_) | refine redq (fun hc => ?_) (fun hc => ?_) | refine redp (fun r => ?_) (fun r => ?_) | fail))) | fail) <;> (first | refine wa_p 12 ?_ | refine wa_p0 12 ?_ | (refine wa_do 12 ?_ <;> (repeat' (first | refine red ?_ | (refine redc fun r => ?_; try have hr := Subtype.property r) | refine redv fun sv => ?_ | refine redf fun hbi => ?_ | refine redn fun b => ?_ | refine reds ?_ | refine redi (fun hc => ?_) (fun hc => ?_) | refine redq (fun hc => ?_) (fun hc => ?_) | refine redp (fun r => ?_) (fun r => ?_) | fail))) | fail)) <;> (first | refine wa_end ?_ | with_reducible refine wq_keep ?_)) | fail)
    have hT2 := hr.T
    have hM2 := hr.M
    have hn2 := hr.hn
    obtain ⟨⟨cs2, xs2, n2, f2, l2⟩, hrr⟩ := r
    simp only at hT2 hM2 hn2 ⊢
    rw [Int.toNat_natCast] at hT2
    clear hr
    refine wc_loop [8, 38] [39, 40, 41, 10, 42, 43, 44, 45, 46, 47, 48, 49, 11, 50, 51, 52, 53, 54, 55, 56, 57, 58, 59, 60, 61, 62, 63] (ι := Nat × Value × List Int) (fun s => [s.2.1, .int .i64 s.1]) (fun s => [.rd [s.2.1] (NE.mk s.2.2 : NE Int), .rd [s.2.1] s.2.2, .bk b0 (cs2 ++ [mv]), .rd cs2 (Ar.mk xs2 : Ar 976 (NE Int)), @Atom.ow MpK repMp [mv] (Mp.mk n2 f2), .rd [.bool false] (Ml.mk f2 l2), .bk b [.int .i64 x.1, v0, v1], .bk bs [v], .rd [v] ar, .rd [v0] x.2.1, .rd [v1] x.2.2])
      (fun s => s.1 ≤ x.2.2.length ∧ LeastOf (FinTo x.2.1 x.2.2 k s.1) s.2.2) (fun s => x.2.2.length - s.1) (0, .slice none 0 0, []) (by kernel_rfl) ⟨Nat.zero_le _, finTo_zero⟩ ent_e ?_
    intro ⟨i, lv, t⟩ u2 lc2 hlc2 ⟨hi, hlt⟩
    simp only [patch, List.map_cons, List.map_nil, List.set_cons_zero, List.set_cons_succ] at hlc2
    subst hlc2
    simp only at hi hlt ⊢
    by_cases hif : i < x.2.2.length
    · have hq := finI_in hp (x.2.2.getD i 0) (by rw [List.getD_eq_getElem?_getD, List.getElem?_eq_getElem hif]; exact List.getElem_mem hif)
      have hE : LeastOf (Lst x.2.1 [x.2.2.getD i 0] k) (xs2.getD ((x.2.2.getD i 0).toNat * 61 + k) default).xs := by
        have := hT2.lo (x.2.2.getD i 0).toNat k (by omega) (Nat.le_refl _)
        rwa [Int.toNat_of_nonneg hq.1] at this
      have hE2 : LeastOf (Lst x.2.1 [x.2.2.getD i 0] k) (xs2.getD ((x.2.2.getD i 0).toNat * 61 + (k : Int).toNat) default).xs := hE
      repeat' (first | refine red ?_ | refine redf fun hbi => ?_ | refine reds ?_ | (refine redc fun r => ?_; try have hr := Subtype.property r) | refine redp (fun r => ?_) (fun r => ?_) | refine redv fun sv => ?_ | refine redn fun b => ?_ | refine redz fun zs => ?_ | refine redq (fun hc => ?_) (fun hc => ?_) | with_reducible refine wq_blk_o rfl ?_ | (refine redd fun p cs as_ hcs has hf => ?_; simp only [Un.cells, Un.atoms, Un.fact, List.cons_append, List.nil_append] at hcs has hf; subst hcs has) | (refine redi (fun hc => ?_) (fun hc => ?_) <;> try first | (exfalso; omega) | with_reducible first | exact absurd rfl hc | exact absurd hc Bool.false_ne_true | exact absurd hc Bool.false_ne_true.symm) | ((refine wa_begin 1 [false, false, false, false, false, false, false, false, false, false, false, false, false] [] ?_ <;> refine wa_p 0 ?_ <;> (first | refine wa_f 1 fun hbi => ?_ | refine wa_p 1 ?_ | (refine wa_do 1 ?_ <;> (repeat' (first | refine red ?_ | (refine redc fun r => ?_; try have hr := Subtype.property r) | refine redv fun sv => ?_ | refine redf fun hbi => ?_ | refine redn fun b => ?_ | refine reds ?_ | refine redi (fun hc => ?_) (fun hc => ?_) | refine redq (fun hc => ?_) (fun hc => ?_) | refine redp (fun r => ?_) (fun r => ?_) | fail))) | fail) <;> (refine wa_do 2 ?_ <;> (repeat' (first | refine red ?_ | (refine redc fun r => ?_; try have hr := Subtype.property r) | refine redv fun sv => ?_ | refine redf fun hbi => ?_ | refine redn fun b => ?_ | refine reds ?_ | refine redi (fun hc => ?_) (fun hc => ?_) | refine redq (fun hc => ?_) (fun hc => ?_) | refine redp (fun r => ?_) (fun r => ?_) | fail))) <;> (first | refine wa_p 3 ?_ | refine wa_p0 3 ?_ | (refine wa_do 3 ?_ <;> (repeat' (first | refine red ?_ | (refine redc fun r => ?_; try have hr := Subtype.property r) | refine redv fun sv => ?_ | refine redf fun hbi => ?_ | refine redn fun b => ?_ | refine reds ?_ | refine redi (fun hc => ?_) (fun hc => ?_) | refine redq (fun hc => ?_) (fun hc => ?_) | refine redp (fun r => ?_) (fun r => ?_) | fail))) | fail) <;> (first | refine wa_p 4 ?_ | refine wa_p0 4 ?_) <;> (first | refine wa_pg 5 ?_ | refine wa_no 5 ?_ | (refine wa_if 16 (fun hc => ?_) (fun hc => ?_) <;> (try first | (exfalso; omega) | with_reducible first | exact absurd rfl hc | exact absurd hc Bool.false_ne_true | exact absurd hc Bool.false_ne_true.symm) <;> first | refine wa_pg 5 ?_ | refine wa_no 5 ?_) | fail) <;> (first | refine wa_pg 7 ?_ | refine wa_no 7 ?_ | fail) <;> (first | refine wa_pg 8 ?_ | refine wa_no 8 ?_ | fail) <;> (refine wa_do 6 ?_ <;> (repeat' (first | refine red ?_ | (refine redc fun r => ?_; try have hr := Subtype.property r) | refine redv fun sv => ?_ | refine redf fun hbi => ?_ | refine redn fun b => ?_ | refine reds ?_ | refine redi (fun hc => ?_) (fun hc => ?_) | refine redq (fun hc => ?_) (fun hc => ?_) | refine redp (fun r => ?_) (fun r => ?_) | fail))) <;> (refine wa_do 9 ?_ <;> (repeat' (first | refine red ?_ | (refine redc fun r => ?_; try have hr := Subtype.property r) | refine redv fun sv => ?_ | refine redf fun hbi => ?_ | refine redn fun b => ?_ | refine reds ?_ | refine redi (fun hc => ?_) (fun hc => ?_) | refine redq (fun hc => ?_) (fun hc => ?_) | refine redp (fun r => ?_) (fun r => ?_) | fail))) <;> (first | refine wa_pg 10 ?_ | refine wa_no 10 ?_ | (refine wa_do 10 ?_ <;> (repeat' (first | refine red ?_ | (refine redc fun r => ?_; try have hr := Subtype.property r) | refine redv fun sv => ?_ | refine redf fun hbi => ?_ | refine redn fun b => ?_ | refine reds ?_ | refine redi (fun hc => ?_) (fun hc => ?_) | refine redq (fun hc => ?_) (fun hc => ?_) | refine redp (fun r => ?_) (fun r => ?_) | fail))) | fail) <;> (first | refine wa_pg 11 ?_ | refine wa_no 11 ?_ | (refine wa_do 11 ?_ <;> (repeat' (first | refine red ?_ | (refine redc fun r => ?_; try have hr := Subtype.property r) | refine redv fun sv => ?_ | refine redf fun hbi => ?_ | refine redn fun b => ?_ | refine reds ?_ | refine redi (fun hc => ?_) (fun hc => ?_) | refine redq (fun hc => ?_) (fun hc => ?_) | refine redp (fun r => ?_) (fun r => ?_) | fail))) | fail) <;> (first | refine wa_p 12 ?_ | refine wa_p0 12 ?_ | (refine wa_do 12 ?_ <;> (repeat' (first | refine red ?_ | (refine redc fun r => ?_; try have hr := Subtype.property r) | refine redv fun sv => ?_ | refine redf fun hbi => ?_ | refine redn fun b => ?_ | refine reds ?_ | refine redi (fun hc => ?_) (fun hc => ?_) | refine redq (fun hc => ?_) (fun hc => ?_) | refine redp (fun r => ?_) (fun r => ?_) | fail))) | fail)) <;> (first | refine wa_end ?_ | with_reducible refine wq_keep ?_)) | fail)
      · exact wq_next (i + 1, sv, _) ⟨by simp only; omega, fin_new hif hlt hE2 ‹_› (.inl hc)⟩ (by simp only; omega) (by kernel_rfl) ent_e
      · exact wq_next (i + 1, sv, _) ⟨by simp only; omega, fin_new hif hlt hE2 ‹_› (.inr (by rw [← hr.1]; exact hc))⟩ (by simp only; omega) (by kernel_rfl) ent_e
      · exact wq_next (i + 1, lv, t) ⟨by simp only; omega, fin_old hif hlt hE2 ‹_› (fun h => by
          rcases h with h | h
          · exact absurd h ‹_›
          · rw [← hr.1] at h; omega)⟩ (by simp only; omega) (by kernel_rfl) ent_e
      · rw [hc] at hE2
        exact wq_next (i + 1, lv, t) ⟨by simp only; omega, fin_none hif hlt hE2⟩ (by simp only; omega) (by kernel_rfl) ent_e
    · have hie : i = x.2.2.length := by omega
      subst hie
      have htl : t.length ≤ 60 := by
        rcases hlt with ⟨rfl, _⟩ | ⟨⟨q, _, _, h2⟩, _⟩
        · simp
        · omega
      repeat' (first | refine red ?_ | refine redf fun hbi => ?_ | refine reds ?_ | (refine redc fun r => ?_; try have hr := Subtype.property r) | refine redp (fun r => ?_) (fun r => ?_) | refine redv fun sv => ?_ | refine redn fun b => ?_ | refine redz fun zs => ?_ | refine redq (fun hc => ?_) (fun hc => ?_) | with_reducible refine wq_blk_o rfl ?_ | (refine redd fun p cs as_ hcs has hf => ?_; simp only [Un.cells, Un.atoms, Un.fact, List.cons_append, List.nil_append] at hcs has hf; subst hcs has) | (refine redi (fun hc => ?_) (fun hc => ?_) <;> try first | (exfalso; omega) | with_reducible first | exact absurd rfl hc | exact absurd hc Bool.false_ne_true | exact absurd hc Bool.false_ne_true.symm) | ((refine wa_begin 1 [false, false, false, false, false, false, false, false, false, false, false, false, false] [] ?_ <;> refine wa_p 0 ?_ <;> (first | refine wa_f 1 fun hbi => ?_ | refine wa_p 1 ?_ | (refine wa_do 1 ?_ <;> (repeat' (first | refine red ?_ | (refine redc fun r => ?_; try have hr := Subtype.property r) | refine redv fun sv => ?_ | refine redf fun hbi => ?_ | refine redn fun b => ?_ | refine reds ?_ | refine redi (fun hc => ?_) (fun hc => ?_) | refine redq (fun hc => ?_) (fun hc => ?_) | refine redp (fun r => ?_) (fun r => ?_) | fail))) | fail) <;> (refine wa_do 2 ?_ <;> (repeat' (first | refine red ?_ | (refine redc fun r => ?_; try have hr := Subtype.property r) | refine redv fun sv => ?_ | refine redf fun hbi => ?_ | refine redn fun b => ?_ | refine reds ?_ | refine redi (fun hc => ?_) (fun hc => ?_) | refine redq (fun hc => ?_) (fun hc => ?_) | refine redp (fun r => ?_) (fun r => ?_) | fail))) <;> (first | refine wa_p 3 ?_ | refine wa_p0 3 ?_ | (refine wa_do 3 ?_ <;> (repeat' (first | refine red ?_ | (refine redc fun r => ?_; try have hr := Subtype.property r) | refine redv fun sv => ?_ | refine redf fun hbi => ?_ | refine redn fun b => ?_ | refine reds ?_ | refine redi (fun hc => ?_) (fun hc => ?_) | refine redq (fun hc => ?_) (fun hc => ?_) | refine redp (fun r => ?_) (fun r => ?_) | fail))) | fail) <;> (first | refine wa_p 4 ?_ | refine wa_p0 4 ?_) <;> (first | refine wa_pg 5 ?_ | refine wa_no 5 ?_ | (refine wa_if 16 (fun hc => ?_) (fun hc => ?_) <;> (try first | (exfalso; omega) | with_reducible first | exact absurd rfl hc | exact absurd hc Bool.false_ne_true | exact absurd hc Bool.false_ne_true.symm) <;> first | refine wa_pg 5 ?_ | refine wa_no 5 ?_) | fail) <;> (first | refine wa_pg 7 ?_ | refine wa_no 7 ?_ | fail) <;> (first | refine wa_pg 8 ?_ | refine wa_no 8 ?_ | fail) <;> (refine wa_do 6 ?_ <;> (repeat' (first | refine red ?_ | (refine redc fun r => ?_; try have hr := Subtype.property r) | refine redv fun sv => ?_ | refine redf fun hbi => ?_ | refine redn fun b => ?_ | refine reds ?_ | refine redi (fun hc => ?_) (fun hc => ?_) | refine redq (fun hc => ?_) (fun hc => ?_) | refine redp (fun r => ?_) (fun r => ?_) | fail))) <;> (refine wa_do 9 ?_ <;> (repeat' (first | refine red ?_ | (refine redc fun r => ?_; try have hr := Subtype.property r) | refine redv fun sv => ?_ | refine redf fun hbi => ?_ | refine redn fun b => ?_ | refine reds ?_ | refine redi (fun hc => ?_) (fun hc => ?_) | refine redq (fun hc => ?_) (fun hc => ?_) | refine redp (fun r => ?_) (fun r => ?_) | fail))) <;> (first | refine wa_pg 10 ?_ | refine wa_no 10 ?_ | (refine wa_do 10 ?_ <;> (repeat' (first | refine red ?_ | (refine redc fun r => ?_; try have hr := Subtype.property r) | refine redv fun sv => ?_ | refine redf fun hbi => ?_ | refine redn fun b => ?_ | refine reds ?_ | refine redi (fun hc => ?_) (fun hc => ?_) | refine redq (fun hc => ?_) (fun hc => ?_) | refine redp (fun r => ?_) (fun r => ?_) | fail))) | fail) <;> (first | refine wa_pg 11 ?_ | refine wa_no 11 ?_ | (refine wa_do 11 ?_ <;> (repeat' (first | refine red ?_ | (refine redc fun r => ?_; try have hr := Subtype.property r) | refine redv fun sv => ?_ | refine redf fun hbi => ?_ | refine redn fun b => ?_ | refine reds ?_ | refine redi (fun hc => ?_) (fun hc => ?_) | refine redq (fun hc => ?_) (fun hc => ?_) | refine redp (fun r => ?_) (fun r => ?_) | fail))) | fail) <;> (first | refine wa_p 12 ?_ | refine wa_p0 12 ?_ | (refine wa_do 12 ?_ <;> (repeat' (first | refine red ?_ | (refine redc fun r => ?_; try have hr := Subtype.property r) | refine redv fun sv => ?_ | refine redf fun hbi => ?_ | refine redn fun b => ?_ | refine reds ?_ | refine redi (fun hc => ?_) (fun hc => ?_) | refine redq (fun hc => ?_) (fun hc => ?_) | refine redp (fun r => ?_) (fun r => ?_) | fail))) | fail)) <;> (first | refine wa_end ?_ | with_reducible refine wq_keep ?_)) | fail)
      · have hf := lsO_yes hp (fin_found hk60 hlo hlt hc)
        rw [hf]
        exact ⟨_, by rw [decide_eq_true hc], ent_e⟩
      · rw [show t = [] from hc] at hlt
        exact wq_next (k + 1, ⟨cs2, xs2, n2, f2, l2⟩) ⟨by simp only; omega, by simp only [Nat.add_sub_cancel]; exact hT2, hM2, by simp only [Nat.add_sub_cancel]; omega, fin_more hlo hlt⟩ (by simp only; omega) (by kernel_rfl) ent_e
  · repeat' (first | refine red ?_ | refine redf fun hbi => ?_ | refine reds ?_ | (refine redc fun r => ?_; try have hr := Subtype.property r) | refine redp (fun r => ?_) (fun r => ?_) | refine redv fun sv => ?_ | refine redn fun b => ?_ | refine redz fun zs => ?_ | refine redq (fun hc => ?_) (fun hc => ?_) | with_reducible refine wq_blk_o rfl ?_ | (refine redd fun p cs as_ hcs has hf => ?_; simp only [Un.cells, Un.atoms, Un.fact, List.cons_append, List.nil_append] at hcs has hf; subst hcs has) | (refine redi (fun hc => ?_) (fun hc => ?_) <;> try first | (exfalso; omega) | with_reducible first | exact absurd rfl hc | exact absurd hc Bool.false_ne_true | exact absurd hc Bool.false_ne_true.symm) | ((refine wa_begin 1 [false, false, false, false, false, false, false, false, false, false, false, false, false] [] ?_ <;> refine wa_p 0 ?_ <;> (first | refine wa_f 1 fun hbi => ?_ | refine wa_p 1 ?_ | (refine wa_do 1 ?_ <;> (repeat' (first | refine red ?_ | (refine redc fun r => ?_; try have hr := Subtype.property r) | refine redv fun sv => ?_ | refine redf fun hbi => ?_ | refine redn fun b => ?_ | refine reds ?_ | refine redi (fun hc => ?_) (fun hc => ?_) | refine redq (fun hc => ?_) (fun hc => ?_) | refine redp (fun r => ?_) (fun r => ?_) | fail))) | fail) <;> (refine wa_do 2 ?_ <;> (repeat' (first | refine red ?_ | (refine redc fun r => ?_; try have hr := Subtype.property r) | refine redv fun sv => ?_ | refine redf fun hbi => ?_ | refine redn fun b => ?_ | refine reds ?_ | refine redi (fun hc => ?_) (fun hc => ?_) | refine redq (fun hc => ?_) (fun hc => ?_) | refine redp (fun r => ?_) (fun r => ?_) | fail))) <;> (first | refine wa_p 3 ?_ | refine wa_p0 3 ?_ | (refine wa_do 3 ?_ <;> (repeat' (first | refine red ?_ | (refine redc fun r => ?_; try have hr := Subtype.property r) | refine redv fun sv => ?_ | refine redf fun hbi => ?_ | refine redn fun b => ?_ | refine reds ?_ | refine redi (fun hc => ?_) (fun hc => ?_) | refine redq (fun hc => ?_) (fun hc => ?_) | refine redp (fun r => ?_) (fun r => ?_) | fail))) | fail) <;> (first | refine wa_p 4 ?_ | refine wa_p0 4 ?_) <;> (first | refine wa_pg 5 ?_ | refine wa_no 5 ?_ | (refine wa_if 16 (fun hc => ?_) (fun hc => ?_) <;> (try first | (exfalso; omega) | with_reducible first | exact absurd rfl hc | exact absurd hc Bool.false_ne_true | exact absurd hc Bool.false_ne_true.symm) <;> first | refine wa_pg 5 ?_ | refine wa_no 5 ?_) | fail) <;> (first | refine wa_pg 7 ?_ | refine wa_no 7 ?_ | fail) <;> (first | refine wa_pg 8 ?_ | refine wa_no 8 ?_ | fail) <;> (refine wa_do 6 ?_ <;> (repeat' (first | refine red ?_ | (refine redc fun r => ?_; try have hr := Subtype.property r) | refine redv fun sv => ?_ | refine redf fun hbi => ?_ | refine redn fun b => ?_ | refine reds ?_ | refine redi (fun hc => ?_) (fun hc => ?_) | refine redq (fun hc => ?_) (fun hc => ?_) | refine redp (fun r => ?_) (fun r => ?_) | fail))) <;> (refine wa_do 9 ?_ <;> (repeat' (first | refine red ?_ | (refine redc fun r => ?_; try have hr := Subtype.property r) | refine redv fun sv => ?_ | refine redf fun hbi => ?_ | refine redn fun b => ?_ | refine reds ?_ | refine redi (fun hc => ?_) (fun hc => ?_) | refine redq (fun hc => ?_) (fun hc => ?_) | refine redp (fun r => ?_) (fun r => ?_) | fail))) <;> (first | refine wa_pg 10 ?_ | refine wa_no 10 ?_ | (refine wa_do 10 ?_ <;> (repeat' (first | refine red ?_ | (refine redc fun r => ?_; try have hr := Subtype.property r) | refine redv fun sv => ?_ | refine redf fun hbi => ?_ | refine redn fun b => ?_ | refine reds ?_ | refine redi (fun hc => ?_) (fun hc => ?_) | refine redq (fun hc => ?_) (fun hc => ?_) | refine redp (fun r => ?_) (fun r => ?_) | fail))) | fail) <;> (first | refine wa_pg 11 ?_ | refine wa_no 11 ?_ | (refine wa_do 11 ?_ <;> (repeat' (first | refine red ?_ | (refine redc fun r => ?_; try have hr := Subtype.property r) | refine redv fun sv => ?_ | refine redf fun hbi => ?_ | refine redn fun b => ?_ | refine reds ?_ | refine redi (fun hc => ?_) (fun hc => ?_) | refine redq (fun hc => ?_) (fun hc => ?_) | refine redp (fun r => ?_) (fun r => ?_) | fail))) | fail) <;> (first | refine wa_p 12 ?_ | refine wa_p0 12 ?_ | (refine wa_do 12 ?_ <;> (repeat' (first | refine red ?_ | (refine redc fun r => ?_; try have hr := Subtype.property r) | refine redv fun sv => ?_ | refine redf fun hbi => ?_ | refine redn fun b => ?_ | refine reds ?_ | refine redi (fun hc => ?_) (fun hc => ?_) | refine redq (fun hc => ?_) (fun hc => ?_) | refine redp (fun r => ?_) (fun r => ?_) | fail))) | fail)) <;> (first | refine wa_end ?_ | with_reducible refine wq_keep ?_)) | fail)
    have hk61 : k = 61 := by omega
    rw [lsO_yes hp (fin_none_at (hk61 ▸ hlo))]
    exact ⟨_, rfl, ent_e⟩
instance impl_LeastIn_ctr {Γ : List Atom} {v v0 v1 : Value} {ar : List Int} {x : SAuto} [h : HasRd (List Int) repList Γ [v] ar] [h0 : HasRd (List STrans) repList Γ [v0] x.2.1] [h1 : HasRd (List Int) repList Γ [v1] x.2.2] :
    CtrC Try.prog 14 [.agg #[v], .agg #[.int .i64 x.1, v0, v1]] Γ (True) (Value) (fun q : Value => .tuple #[q, .bool (decide (lsO ar x ≠ []))]) (fun q => .ow [q] (lsO ar x) :: Γ) := ⟨fun s w0 => impl_LeastIn_spec⟩

end Go.Proofs.Ytfdpmkilhllkoaa
