/- The subset construction, plain. -/
import Derived.Test.YtbbdjjlnachnlaaGreatDoorStat
import Derived.Test.YtbbdjjlnachnlaaGreatDoorEngV
import Derived.Test.YtbbdjjlnachnlaaGreatDoorL04
namespace Go.Proofs.YtbbdjjlnachnlaaGreatDoor
open Go Go.Eng
set_option linter.unusedVariables false
set_option linter.unusedSimpArgs false
/-- The digits of i to base n, k of them. -/
def dig (n : Nat) : Nat → Nat → List Int
  | 0, _ => []
  | k + 1, i => dig n k (i / n) ++ [((i % n : Nat) : Int)]
theorem dig_len (n : Nat) : ∀ k i, (dig n k i).length = k
  | 0, _ => rfl
  | k + 1, i => by unfold dig; rw [List.length_append, dig_len n k]; rfl
theorem dig_zero (n : Nat) : ∀ k, dig n k 0 = List.replicate k 0
  | 0 => rfl
  | k + 1 => by unfold dig; rw [Nat.zero_div, Nat.zero_mod, dig_zero n k, List.replicate_succ']; rfl
theorem dig_in {n : Nat} (hn : 0 < n) : ∀ k i, ∀ q ∈ dig n k i, 0 ≤ q ∧ q < n
  | 0, _, q, h => by cases h
  | k + 1, i, q, h => by
    unfold dig at h
    rcases List.mem_append.1 h with h1 | h1
    · exact dig_in hn k _ q h1
    · rw [List.mem_singleton] at h1
      have := Nat.mod_lt i hn
      omega
theorem dig_mul {n : Nat} (hn : 0 < n) (k : Nat) : ∀ j m, dig n (k + j) (m * n ^ j) = dig n k m ++ List.replicate j 0
  | 0, m => by simp
  | j + 1, m => by
    show dig n (k + j) (m * n ^ (j + 1) / n) ++ [((m * n ^ (j + 1) % n : Nat) : Int)] = _
    rw [Nat.pow_succ, ← Nat.mul_assoc, Nat.mul_div_cancel _ hn, Nat.mul_mod_left, dig_mul hn k j, List.replicate_succ', List.append_assoc]
    rfl
theorem dig_inc {n : Nat} (k m : Nat) (h : m % n + 1 < n) : dig n (k + 1) (m + 1) = dig n k (m / n) ++ [((m % n : Nat) : Int) + 1] := by
  have hn : 0 < n := by omega
  have h1 := Nat.div_add_mod m n
  have e : m + 1 = (m % n + 1) + n * (m / n) := by omega
  show dig n k ((m + 1) / n) ++ [(((m + 1) % n : Nat) : Int)] = _
  rw [e, Nat.add_mul_div_left _ _ hn, Nat.div_eq_of_lt h, Nat.zero_add, Nat.add_mul_mod_self_left, Nat.mod_eq_of_lt h]
  rfl
/-- Which states these sets lead to. -/
noncomputable def imgL (rs : List STrans) (sym : Int) (args : List (List Int)) : List Int := pL (Img rs rs.length sym (InL args) args.length)
def listed (sets : List (List Int)) (l : List Int) : List (List Int) := l.map fun i => sets.getD i.toNat default
theorem listed_len (sets : List (List Int)) (l : List Int) : (listed sets l).length = l.length := by unfold listed; simp
def addNew (out : List (List Int)) (s : List Int) : List (List Int) := if s ∈ out then out else out ++ [s]
theorem addNew_pre (out : List (List Int)) (s : List Int) : out <+: addNew out s := by
  unfold addNew; split
  · exact List.prefix_rfl
  · exact List.prefix_append _ _
/-- A symbol's number of arguments. -/
def arN (ar : List Int) (f : Nat) : Nat := (ar.getD f 0).toNat
/-- A round: the first i lists of a symbol; the first f symbols. -/
noncomputable def rowS (rs : List STrans) (ar : List Int) (sets : List (List Int)) (f : Nat) (out : List (List Int)) : Nat → List (List Int)
  | 0 => out
  | i + 1 => addNew (rowS rs ar sets f out i) (imgL rs f (listed sets (dig sets.length (arN ar f) i)))
noncomputable def symS (rs : List STrans) (ar : List Int) (sets : List (List Int)) : Nat → List (List Int)
  | 0 => sets
  | f + 1 => rowS rs ar sets f (symS rs ar sets f) (sets.length ^ arN ar f)
theorem rowS_pre (rs : List STrans) (ar : List Int) (sets : List (List Int)) (f : Nat) (out : List (List Int)) (i : Nat) : ∀ j, rowS rs ar sets f out i <+: rowS rs ar sets f out (i + j)
  | 0 => List.prefix_rfl
  | j + 1 => (rowS_pre rs ar sets f out i j).trans (addNew_pre _ _)
theorem symS_pre (rs : List STrans) (ar : List Int) (sets : List (List Int)) (f : Nat) : ∀ j, symS rs ar sets f <+: symS rs ar sets (f + j)
  | 0 => List.prefix_rfl
  | j + 1 => (symS_pre rs ar sets f j).trans (by
    have := rowS_pre rs ar sets (f + j) (symS rs ar sets (f + j)) 0 (sets.length ^ arN ar (f + j))
    rw [Nat.zero_add] at this
    exact this)
noncomputable def rndS (rs : List STrans) (ar : List Int) (sets : List (List Int)) : List (List Int) := symS rs ar sets ar.length
theorem rndS_pre (rs : List STrans) (ar : List Int) (sets : List (List Int)) : sets <+: rndS rs ar sets := by
  have := symS_pre rs ar sets 0 ar.length
  rw [Nat.zero_add] at this
  exact this
theorem row_rnd {rs : List STrans} {ar : List Int} {sets : List (List Int)} {f i : Nat} (hf : f < ar.length) (hi : i ≤ sets.length ^ arN ar f) : rowS rs ar sets f (symS rs ar sets f) i <+: rndS rs ar sets := by
  have h1 := rowS_pre rs ar sets f (symS rs ar sets f) i (sets.length ^ arN ar f - i)
  rw [show i + (sets.length ^ arN ar f - i) = sets.length ^ arN ar f by omega] at h1
  have h2 := symS_pre rs ar sets (f + 1) (ar.length - (f + 1))
  rw [show f + 1 + (ar.length - (f + 1)) = ar.length by omega] at h2
  exact h1.trans h2
theorem rowS_sh (rs : List STrans) (ar : List Int) (sets : List (List Int)) (f : Nat) (out : List (List Int)) (i : Nat) : rowS rs ar sets f out (i + 1) = addNew (rowS rs ar sets f out i) (imgL rs f (listed sets (dig sets.length (arN ar f) i))) := rfl
/-- The rounds, as long as something new comes up and it is not too much. -/
noncomputable def fixS (rs : List STrans) (ar : List Int) : Nat → List (List Int) → Option (List (List Int))
  | 0, _ => none
  | k + 1, s => if 16 < (rndS rs ar s).length then none else if (rndS rs ar s).length = s.length then (if s = [] then none else some s) else fixS rs ar k (rndS rs ar s)
/-- The transitions. -/
noncomputable def placeOf (sets : List (List Int)) (s : List Int) : Int := if s ∈ sets then ((sets.idxOf s : Nat) : Int) else -1
noncomputable def toOf (rs : List STrans) (ar : List Int) (sets : List (List Int)) (f i : Nat) : Int := placeOf sets (imgL rs f (listed sets (dig sets.length (arN ar f) i)))
noncomputable def trR (rs : List STrans) (ar : List Int) (sets : List (List Int)) (f : Nat) (out : List STrans) : Nat → List STrans
  | 0 => out
  | i + 1 => trR rs ar sets f out i ++ [((f : Int), dig sets.length (arN ar f) i, toOf rs ar sets f i)]
noncomputable def trS (rs : List STrans) (ar : List Int) (sets : List (List Int)) : Nat → List STrans
  | 0 => []
  | f + 1 => trR rs ar sets f (trS rs ar sets f) (sets.length ^ arN ar f)
theorem trR_len (rs : List STrans) (ar : List Int) (sets : List (List Int)) (f : Nat) (out : List STrans) : ∀ i, (trR rs ar sets f out i).length = out.length + i
  | 0 => rfl
  | i + 1 => by unfold trR; rw [List.length_append, trR_len rs ar sets f out i]; rfl
theorem trS_mono (rs : List STrans) (ar : List Int) (sets : List (List Int)) (f : Nat) : ∀ j, (trS rs ar sets f).length ≤ (trS rs ar sets (f + j)).length
  | 0 => Nat.le_refl _
  | j + 1 => Nat.le_trans (trS_mono rs ar sets f j) (by
    show _ ≤ (trR rs ar sets (f + j) (trS rs ar sets (f + j)) (sets.length ^ arN ar (f + j))).length
    rw [trR_len]; omega)
noncomputable def allT (rs : List STrans) (ar : List Int) (sets : List (List Int)) : List STrans := trS rs ar sets ar.length
theorem row_all {rs : List STrans} {ar : List Int} {sets : List (List Int)} {f i : Nat} (hf : f < ar.length) (hi : i ≤ sets.length ^ arN ar f) : (trS rs ar sets f).length + i ≤ (allT rs ar sets).length := by
  have h2 := trS_mono rs ar sets (f + 1) (ar.length - (f + 1))
  rw [show f + 1 + (ar.length - (f + 1)) = ar.length by omega] at h2
  have h3 : (trS rs ar sets (f + 1)).length = (trS rs ar sets f).length + sets.length ^ arN ar f := trR_len _ _ _ _ _ _
  unfold allT
  omega
def meets (a b : List Int) : Bool := a.any fun q => decide (q ∈ b)
/-- The states that hold one of these. -/
def finN (sets : List (List Int)) (fs : List Int) : Nat → List Int
  | 0 => []
  | i + 1 => finN sets fs i ++ (if meets (sets.getD i default) fs = true then [(i : Int)] else [])
theorem finN_len (sets : List (List Int)) (fs : List Int) : ∀ i, (finN sets fs i).length ≤ i
  | 0 => Nat.le_refl _
  | i + 1 => by
    have := finN_len sets fs i
    unfold finN
    rw [List.length_append]
    split <;> simp <;> omega
/-- The sure automaton. -/
noncomputable def sureOf (ar : List Int) (x : SAuto) : Option SAuto :=
  if decC (AutoP ar x) = true then
    match fixS x.2.1 ar 17 [] with
    | none => none
    | some sets => if (allT x.2.1 ar sets).length ≤ 300 then some ((sets.length : Int), allT x.2.1 ar sets, finN sets x.2.2 sets.length) else none
  else none
theorem sure_no {ar : List Int} {x : SAuto} (h : ¬ AutoP ar x) : sureOf ar x = none := by
  unfold sureOf; rw [if_neg (by rw [decC_f h]; decide)]
theorem sure_none {ar : List Int} {x : SAuto} (h : fixS x.2.1 ar 17 [] = none) : sureOf ar x = none := by
  unfold sureOf; rw [h]; simp
theorem sure_many {ar : List Int} {x : SAuto} {sets : List (List Int)} (h : fixS x.2.1 ar 17 [] = some sets) (hm : 300 < (allT x.2.1 ar sets).length) : sureOf ar x = none := by
  unfold sureOf; rw [h]; simp only; rw [if_neg (Nat.not_le.2 hm)]; simp
theorem sure_some {ar : List Int} {x : SAuto} {sets : List (List Int)} (ha : AutoP ar x) (h : fixS x.2.1 ar 17 [] = some sets) (hm : (allT x.2.1 ar sets).length ≤ 300) : sureOf ar x = some ((sets.length : Int), allT x.2.1 ar sets, finN sets x.2.2 sets.length) := by
  unfold sureOf; rw [h]; simp only; rw [if_pos hm, if_pos (decC_t ha)]
theorem fixS_len {rs : List STrans} {ar : List Int} : ∀ (k : Nat) (s : List (List Int)), s.length ≤ 16 → ∀ t, fixS rs ar k s = some t → 1 ≤ t.length ∧ t.length ≤ 16
  | 0, s, hs, t, h => by cases h
  | k + 1, s, hs, t, h => by
    unfold fixS at h
    split at h
    · cases h
    · split at h
      · split at h
        · cases h
        · injection h with h
          subst h
          exact ⟨List.length_pos_iff.2 ‹_›, hs⟩
      · exact fixS_len k _ (by omega) t h
end Go.Proofs.YtbbdjjlnachnlaaGreatDoor
namespace Go.Eng
open Go
set_option linter.unusedVariables false
set_option linter.unusedSimpArgs false
theorem OwL.unsh {β : Type} [Rep β] {ok : Nat → Prop} {w : World} : ∀ {G : List Nat} {cells : List Value} {xs : List (Sh β)}, OwL ok w G cells xs → RdL ok w cells (xs.map Sh.v)
  | _, _, [], h => h.2
  | _, _, x :: xs, ⟨f, g, c, d, _, e', h, h'⟩ => ⟨c, d, e', h.2, OwL.unsh h'⟩
section
variable {P : Program} {ops : Array Oper} {Q : Exit → Act → World → Prop} {w0 : World} {rest : List Oper} {l l' : List Value} {Γ Δ : List Atom} {ty : TypeId} {pos : String} {after : Array Edge} {d : Nat}
theorem wl_load_sh {T : TypeId} {x : Operand} {sv : Value} {n : Int} {m : Nat} {xs : List (Sh (List Int))} [h : Ev l x (.pointer (some (elemA sv n 1)))] [hm : ToN n m] [hT : Sc P T] [hp : PullOw (List (Sh (List Int))) repList Γ [sv] xs Δ] [hr : HasRd (List (Sh (List Int))) repList Γ [sv] xs] (hi : 0 ≤ n ∧ n < xs.length)
    (g : ∀ p, WL P ops Q w0 rest (l.set d p) (.rd [p] (xs.getD m default).v :: Γ)) : WL P ops Q w0 (⟨some d, .load T x, ty, pos, after, none⟩ :: rest) l Γ := by
  intro w hs
  have hn : n.toNat = m := by have := hm.eq; omega
  obtain ⟨a, cap, b, off, p, c, s, rfl, _, _, hca, hp1, he, hrd⟩ := elem_cells (hs.rd (hr := hr)) hi.1 hi.2
  have hs2 := hs.perm hp.perm
  obtain ⟨hb, F, hnd, hl, f, g2, rfl, hf, hrest⟩ := hs2
  have hf := ow_list.1 hf
  rcases hf with ⟨h1, h2, _⟩ | ⟨g0, cap', cur, e, G, cells, h1, h2, h3, h4, h5, h6, h7, h8, h9⟩
  · subst h2; simp at hi; omega
  · obtain ⟨p1, c1, s1, e1, e2, e3⟩ := RdL.get h9.unsh m (by rw [List.length_map]; omega)
    simp only [List.cons.injEq, and_true, Value.slice.injEq, Option.some.injEq, Addr.mk.injEq] at h1
    obtain ⟨⟨rfl, rfl, _⟩, _, _⟩ := h1
    have hsz : Rep.sz (Sh (List Int)) = 1 := rfl
    have hsz2 : Rep.sz (List Int) = 1 := rfl
    obtain ⟨v1, rfl⟩ := List.length_eq_one_iff.1 (show c1.length = 1 from (Rep.rd_len e3).trans hsz2)
    obtain ⟨v2, rfl⟩ := List.length_eq_one_iff.1 (show c.length = 1 from (Rep.rd_len hrd).trans hsz)
    have hcell : w.cell? ⟨b, 0 + p.length, none⟩ = some v2 := by
      have := hca.part 0 (by simp)
      simpa using this
    have hcur : w.cell? ⟨b, 0 + p.length, none⟩ = some v1 := by
      rw [hsz] at hp1
      rw [hsz2] at e2
      have h10 : cur.toList[m]? = some v1 := by
        have : cells[m]? = some v1 := by
          rw [e1, List.append_assoc, List.getElem?_append_right (by omega), e2]; simp
        rw [← h8] at this
        rw [List.getElem?_take] at this
        split at this
        · exact this
        · cases this
      rw [show 0 + p.length = m by omega]
      simp [World.cell?, h3] at h10 ⊢
      exact h10
    rw [hcell] at hcur
    injection hcur with hcur
    subst hcur
    have he' : elemA (.slice (some ⟨b, 0, none⟩) xs.length cap) n 1 = ⟨b, 0 + p.length, none⟩ := he
    have hrun : (execOp (E l).eval (⟨some d, .load T x, ty, pos, after, none⟩ : Oper)).run P w = .ok (.value v2) w := by
      simp only [execOp, h.eq]
      rw [he']
      have hcell' : w.cell? ⟨b, p.length, none⟩ = some v2 := by simpa using hcell
      simp [hcell', Result.andThen, Instr.loadAt, Instr.sureAddr, loadVar, Sem.run_bind, hT.agg, load, Sem.run, hcell]
    refine wl_op rfl hrun ?_
    rw [E_put]
    have e4 : Rep.rd (fun b => b ∉ f ++ g2) w [v2] (xs.getD m default).v := by
      rw [List.getD_eq_getElem?_getD, List.getElem?_eq_getElem (by omega), Option.getD_some]
      rw [List.getElem_map] at e3
      exact e3
    have hsat : Sat w0 w (@Atom.rd (List Int) repList [v2] (xs.getD m default).v :: @Atom.ow (List (Sh (List Int))) repList [.slice (some ⟨b, 0, none⟩) xs.length cap] xs :: Δ) := ⟨hb, f ++ g2, hnd, hl, [], f ++ g2, rfl, ⟨rfl, e4⟩, f, g2, rfl, hf, hrest⟩
    exact g v2 w (hsat.perm (hp.perm.symm.cons _))
instance {T : TypeId} {x : Operand} {sv : Value} {n : Int} {m : Nat} {xs : List (Sh (List Int))} [h : Ev l x (.pointer (some (elemA sv n 1)))] [hm : ToN n m] [hT : Sc P T] [hp : PullOw (List (Sh (List Int))) repList Γ [sv] xs Δ] [hr : HasRd (List (Sh (List Int))) repList Γ [sv] xs] :
    RedV (WL P ops Q w0 (⟨some d, .load T x, ty, pos, after, none⟩ :: rest) l Γ) (0 ≤ n ∧ n < xs.length) (fun p => WL P ops Q w0 rest (l.set d p) (.rd [p] (xs.getD m default).v :: Γ)) := ⟨fun s g => wl_load_sh s g⟩
end
end Go.Eng
namespace Go.Proofs.YtbbdjjlnachnlaaGreatDoor
open Go Go.Eng
set_option linter.unusedVariables false
set_option linter.unusedSimpArgs false
set_option synthInstance.maxHeartbeats 400000
set_option synthInstance.maxSize 1000
theorem mem_takeL {xs : List (List Int)} {k : Nat} {v : List Int} (h : k < xs.length) : v ∈ xs.take (k + 1) ↔ v = xs.getD k default ∨ v ∈ xs.take k := by
  rw [List.take_add_one, List.getElem?_eq_getElem h, List.mem_append, List.getD_eq_getElem?_getD, List.getElem?_eq_getElem h]
  simp [or_comm]
theorem idx_atL : ∀ {xs : List (List Int)} {k : Nat} {v : List Int}, k < xs.length → v ∉ xs.take k → xs.getD k default = v → xs.idxOf v = k
  | [], k, v, h, _, _ => by simp at h
  | x :: xs, 0, v, _, _, h => by
    have : x = v := h
    rw [this, List.idxOf_cons_self]
  | x :: xs, k + 1, v, hk, hn, h => by
    rw [List.take_succ_cons, List.mem_cons] at hn
    rw [List.idxOf_cons, idx_atL (xs := xs) (by simpa using hk) (fun hm => hn (.inr hm)) h, show (x == v) = false from beq_false_of_ne (fun e => hn (.inl e.symm))]; rfl
theorem l1TermPlace_spec {w0 : World} {Γ : List Atom} {v v1 : Value} {xs : List (List Int)} {t : List Int} [h : HasRd (List (List Int)) repList Γ [v] xs] [h1 : HasRd (List Int) repList Γ [v1] t] :
    CJ Tryz.prog 89 [v, v1] w0 Γ (fun _ : Unit => .int .i64 (placeOf xs t)) (fun _ => Γ) := by
  refine cj_lift (R := [.rd [v] xs, .rd [v1] t]) (A := fun _ => []) (fun w1 => ?_) (reads_cons h (reads_cons h1 (inferInstance))) (fun _ => inferInstance)
  simp only [List.cons_append, List.nil_append]
  refine cj_len v fun hlx => ?_
  refine cj_enter Tryz.func89 Tryz.ntmps89 ?_
  repeat' (first | refine red ?_ | fail)
  refine wc_loop_c [5] [6, 7, 8, 9, 12, 13, 14, 15, 16, 17, 18, 4, 10, 11] (ι := Nat) (fun k => [.int .i64 k]) (fun k => k ≤ xs.length ∧ t ∉ xs.take k) (fun k => xs.length - k) 0 (by kernel_rfl) ⟨Nat.zero_le _, by simp⟩ ?_
  intro k u l' hl' ⟨hk, hkk⟩
  simp only [patch, List.map_cons, List.map_nil, List.set_cons_zero, List.set_cons_succ] at hl'
  subst hl'
  repeat' (first | refine red ?_ | refine reds ?_ | refine redc fun r => ?_ | (refine redd fun p cs as_ hcs has hf => ?_; simp only [Un.cells, Un.atoms, Un.fact, List.cons_append, List.nil_append] at hcs has hf; subst hcs has) | (refine redi (fun hc => ?_) (fun hc => ?_) <;> try first | (exfalso; omega) | exact absurd rfl hc) | fail)
  · refine ⟨(), ?_, ent_e⟩
    have hm : t ∈ xs := List.mem_of_mem_take ((mem_takeL (k := k) (by omega)).2 (.inl hc.symm))
    unfold placeOf
    rw [if_pos hm, idx_atL (by omega) hkk hc]
  · exact wq_next (k + 1) ⟨by omega, fun hm => by rcases (mem_takeL (by omega)).1 hm with h | h; exact hc h.symm; exact hkk h⟩ (by omega) (by kernel_rfl) ent_e
  · refine ⟨(), ?_, ent_e⟩
    unfold placeOf
    rw [if_neg (by rw [List.take_of_length_le (by omega)] at hkk; exact hkk)]
instance l1TermPlace_ctr {Γ : List Atom} {v v1 : Value} {xs : List (List Int)} {t : List Int} [h : HasRd (List (List Int)) repList Γ [v] xs] [h1 : HasRd (List Int) repList Γ [v1] t] :
    CtrC Tryz.prog 89 [v, v1] Γ (True) (Unit) (fun _ : Unit => .int .i64 (placeOf xs t)) (fun _ => Γ) := ⟨fun s w0 => l1TermPlace_spec⟩

theorem l1TermPlaceSh_spec {w0 : World} {Γ : List Atom} {v v1 : Value} {ys : List (Sh (List Int))} {t : List Int} [h : HasRd (List (Sh (List Int))) repList Γ [v] ys] [h1 : HasRd (List Int) repList Γ [v1] t] :
    CJ Tryz.prog 89 [v, v1] w0 Γ (fun _ : Unit => .int .i64 (placeOf (ys.map Sh.v) t)) (fun _ => Γ) := by
  haveI : HasRd (List (List Int)) repList Γ [v] (ys.map Sh.v) := ⟨fun hs => rd_unsh (by
    have := h.get hs
    rw [List.map_map, show (Sh.mk ∘ Sh.v : Sh (List Int) → Sh (List Int)) = id from rfl, List.map_id]
    exact this)⟩
  exact l1TermPlace_spec
instance l1TermPlaceSh_ctr {Γ : List Atom} {v v1 : Value} {ys : List (Sh (List Int))} {t : List Int} [h : HasRd (List (Sh (List Int))) repList Γ [v] ys] [h1 : HasRd (List Int) repList Γ [v1] t] :
    CtrC Tryz.prog 89 [v, v1] Γ (True) (Unit) (fun _ : Unit => .int .i64 (placeOf (ys.map Sh.v) t)) (fun _ => Γ) := ⟨fun s w0 => l1TermPlaceSh_spec⟩

theorem getD_ltI {l : List Int} {i : Nat} (h : i < l.length) : l.getD i 0 = l[i] := by rw [List.getD_eq_getElem?_getD, List.getElem?_eq_getElem h]; rfl
theorem listed_succ (sets : List (List Int)) {l : List Int} {k : Nat} (hk : k < l.length) : listed sets (l.take (k + 1)) = listed sets (l.take k) ++ [sets.getD (l.getD k 0).toNat default] := by
  unfold listed
  rw [List.take_add_one, List.getElem?_eq_getElem hk, List.map_append, getD_ltI hk]
  rfl
theorem l23Listed_spec {w0 : World} {Γ : List Atom} {v v1 : Value} {sets : List (List Int)} {list : List Int} [h : HasIm (List (List Int)) repList Γ [v] sets] [h1 : HasRd (List Int) repList Γ [v1] list] (hin : list.length ≤ 10 ∧ ∀ q ∈ list, 0 ≤ q ∧ q < sets.length) :
    CJ Tryz.prog 86 [v, v1] w0 Γ (fun q : Value => q) (fun q => .rd [q] (listed sets list) :: Γ) := by
  obtain ⟨hll, hin⟩ := hin
  refine cj_len v fun hlx => ?_
  refine cj_enter Tryz.func86 Tryz.ntmps86 ?_
  repeat' (first | refine red ?_ | refine redv fun sv => ?_ | fail)
  refine wc_ow0 (α := List Int) (β := Sh (List Int)) sv rfl ?_
  refine wc_loop_p [5, 6] [8, 9, 10, 11, 14, 15, 16, 17, 18, 19, 20, 21, 22, 23, 12, 13] (ι := Value × Nat) (fun k => [k.1, .int .i64 k.2]) (fun k => [.ow [k.1] ((listed sets (list.take k.2)).map Sh.mk)]) (fun k => k.2 ≤ list.length) (fun k => list.length - k.2) (sv, 0) [.ow [sv] ([] : List (Sh (List Int)))] (by kernel_rfl) (Nat.zero_le _) rfl ?_
  intro ⟨so, k⟩ u l' hl' hk
  simp only [patch, List.map_cons, List.map_nil, List.set_cons_zero, List.set_cons_succ] at hl'
  subst hl'
  simp only [List.cons_append, List.nil_append] at hk ⊢
  have hle : ((listed sets (list.take k)).map Sh.mk).length = k := by rw [List.length_map, listed_len, List.length_take]; omega
  by_cases hkl : k < list.length
  · have hq := hin _ (getK hkl)
    repeat' (first | refine red ?_ | refine redf fun hbi => ?_ | refine reds ?_ | refine redv fun sv => ?_ | (refine redd fun p cs as_ hcs has hf => ?_; simp only [Un.cells, Un.atoms, Un.fact, List.cons_append, List.nil_append] at hcs has hf; subst hcs has) | (refine redi (fun hc => ?_) (fun hc => ?_) <;> try first | (exfalso; omega) | exact absurd rfl hc) | fail)
    rw [← List.map_append, ← listed_succ sets hkl]
    exact wq_next (sv, k + 1) (by simp only; omega) (by simp only; omega) (by kernel_rfl) ent_e
  · repeat' (first | refine red ?_ | (refine redi (fun hc => ?_) (fun hc => ?_) <;> try first | (exfalso; omega) | exact absurd rfl hc) | fail)
    rw [show list.take k = list from List.take_of_length_le (by omega)]
    exact ⟨so, rfl, ent_unsh (ys := listed sets list) so ent_e⟩
instance l23Listed_ctr {Γ : List Atom} {v v1 : Value} {sets : List (List Int)} {list : List Int} [h : HasIm (List (List Int)) repList Γ [v] sets] [h1 : HasRd (List Int) repList Γ [v1] list] :
    CtrC Tryz.prog 86 [v, v1] Γ (list.length ≤ 10 ∧ ∀ q ∈ list, 0 ≤ q ∧ q < sets.length) (Value) (fun q : Value => q) (fun q => .rd [q] (listed sets list) :: Γ) := ⟨fun s w0 => l23Listed_spec s⟩

/-- The list behind one. -/
structure NxL (m k i : Nat) : Prop where
  hn : m ≤ 1000
  hm : 1 ≤ m ∨ k = 0
  hk : k ≤ 10
  hi : i < m ^ k
theorem l23NextList_spec {w0 : World} {Γ : List Atom} {v : Value} {m k i : Nat} [h : HasRd (List Int) repList Γ [v] (dig m k i)] (hs : NxL m k i) :
    CJ Tryz.prog 85 [v, .int .i64 (m : Int)] w0 Γ (fun q : Value => .tuple #[q, .bool (decide (i + 1 < m ^ k))]) (fun q => .ow [q] (if i + 1 < m ^ k then dig m k (i + 1) else List.replicate k 0) :: Γ) := by
  refine cj_lift (R := [.rd [v] (dig m k i)]) (A := fun q : Value => [.ow [q] (if i + 1 < m ^ k then dig m k (i + 1) else List.replicate k 0)]) (fun w1 => ?_) (reads_cons h (inferInstance)) (fun _ => inferInstance)
  simp only [List.cons_append, List.nil_append]
  obtain ⟨hm2, hm1, hk, hi⟩ := hs
  have hxl := dig_len m k i
  refine cj_enter Tryz.func85 Tryz.ntmps85 ?_
  repeat' (first | refine red ?_ | refine reds ?_ | refine redc fun r => ?_ | fail)
  refine wc_loop_p [7] [13, 14, 17, 18, 19, 20, 21, 22, 23, 24, 25, 26, 27, 28, 29, 30, 31, 4, 5, 32, 33, 34, 15, 16] (ι := Nat × Nat × Int) (fun j => [.int .i64 j.2.2]) (fun j => [.ow [r] (dig m (k - j.1) j.2.1 ++ List.replicate j.1 0)]) (fun j => j.1 ≤ k ∧ i + 1 = (j.2.1 + 1) * m ^ j.1 ∧ j.2.1 < m ^ (k - j.1) ∧ j.2.2 = (k : Int) - 1 - (j.1 : Int)) (fun j => k - j.1) (0, i, ((dig m k i).length : Int) - 1) [.ow [r] (dig m k i)] (by kernel_rfl) ⟨Nat.zero_le _, by simp, by simpa using hi, by simp only [hxl]; omega⟩ (by simp) ?_
  intro ⟨j, c, z⟩ u l' hl' ⟨hj, he, hcm, hz⟩
  simp only [patch, List.map_cons, List.map_nil, List.set_cons_zero, List.set_cons_succ] at hl'
  subst hl'
  simp only [List.cons_append, List.nil_append] at hj he hcm hz ⊢
  have hyl : (dig m (k - j) c ++ List.replicate j 0).length = k := by rw [List.length_append, dig_len, List.length_replicate]; omega
  by_cases hjk : j < k
  · obtain ⟨p, hp⟩ : ∃ p, k - j = p + 1 := ⟨k - j - 1, by omega⟩
    have hm0 : 0 < m := by omega
    have hgd : (dig m (k - j) c ++ List.replicate j 0).getD (k - 1 - j) 0 = ((c % m : Nat) : Int) := by
      rw [hp, show k - 1 - j = p by omega]
      unfold dig
      rw [List.getD_eq_getElem?_getD, List.append_assoc, List.getElem?_append_right (by rw [dig_len]; omega), dig_len, Nat.sub_self]
      rfl
    have hst : ∀ z : Int, (dig m (k - j) c ++ List.replicate j 0).set (k - 1 - j) z = dig m p (c / m) ++ z :: List.replicate j 0 := fun z => by
      rw [hp, show k - 1 - j = p by omega]
      conv => lhs; unfold dig
      rw [List.append_assoc, List.set_append_right _ _ (by rw [dig_len]; omega), dig_len, Nat.sub_self]
      rfl
    have hst2 : ∀ z y : Int, (dig m p (c / m) ++ z :: List.replicate j 0).set (k - 1 - j) y = dig m p (c / m) ++ y :: List.replicate j 0 := fun z y => by
      rw [List.set_append_right _ _ (by rw [dig_len]; omega), dig_len, show k - 1 - j - p = 0 by omega]
      rfl
    have hgd2 : ∀ z : Int, (dig m p (c / m) ++ z :: List.replicate j 0).getD (k - 1 - j) 0 = z := fun z => by
      rw [List.getD_eq_getElem?_getD, List.getElem?_append_right (by rw [dig_len]; omega), dig_len, show k - 1 - j - p = 0 by omega]
      rfl
    have hyl2 : ∀ z : Int, (dig m p (c / m) ++ z :: List.replicate j 0).length = k := fun z => by rw [← hst z, List.length_set, hyl]
    have hlt := Nat.mod_lt c hm0
    have hdm := Nat.div_add_mod c m
    haveI : ToN z (k - 1 - j) := ⟨by omega⟩
    have hyl3 : ((dig m (k - j) c ++ List.replicate j 0).set (k - 1 - j) ((dig m (k - j) c ++ List.replicate j 0).getD (k - 1 - j) 0 + 1)).length = k := by rw [List.length_set, hyl]
    have hpw : m ^ (k - j) = m ^ p * m := by rw [hp, Nat.pow_succ]
    have hpk : m ^ k = m ^ (k - j) * m ^ j := by rw [← Nat.pow_add]; congr 1; omega
    have hg5 : ((dig m (k - j) c ++ List.replicate j 0).set (k - 1 - j) ((dig m (k - j) c ++ List.replicate j 0).getD (k - 1 - j) 0 + 1)).getD (k - 1 - j) 0 = ((c % m : Nat) : Int) + 1 := by rw [hgd, hst, hgd2]
    repeat' (first | refine red ?_ | refine redf fun hbi => ?_ | refine reds ?_ | (refine redi (fun hc => ?_) (fun hc => ?_) <;> try first | (exfalso; omega) | exact absurd rfl hc) | fail)
    · have hlt1 : c % m + 1 < m := by rw [hg5] at hc; omega
      have hinc := dig_inc p c hlt1
      have hc1 : c + 1 < m ^ (k - j) := by
        have h1 : c / m < m ^ p := Nat.div_lt_of_lt_mul (by rw [Nat.mul_comm, ← hpw]; exact hcm)
        have h2 := Nat.mul_le_mul_left m (show c / m + 1 ≤ m ^ p by omega)
        rw [Nat.mul_add, Nat.mul_one, Nat.mul_comm m (m ^ p), ← hpw] at h2
        omega
      have hlt2 : i + 1 < m ^ k := by
        rw [he, hpk]
        exact Nat.mul_lt_mul_of_pos_right hc1 (Nat.pow_pos hm0)
      rw [if_pos hlt2, decide_eq_true hlt2, hgd, hst, show dig m p (c / m) ++ ((c % m : Nat) + 1 : Int) :: List.replicate j 0 = dig m k (i + 1) by
        rw [he, show k = (p + 1) + j by omega, dig_mul hm0, hinc, List.append_assoc]; rfl]
      exact ⟨r, rfl, ent_e⟩
    · have hlt1 : c % m + 1 = m := by rw [hg5] at hc; omega
      rw [hgd, hst, hst2]
      refine wq_next (j + 1, c / m, z - 1) ⟨by simp only; omega, ?_, ?_, by simp only; omega⟩ (by simp only; omega) (by kernel_rfl) (by
        simp only
        rw [show k - (j + 1) = p by omega, show (List.replicate (j + 1) 0 : List Int) = 0 :: List.replicate j 0 from rfl]
        exact ent_e)
      · simp only
        rw [he, Nat.pow_succ, Nat.mul_comm (m ^ j) m, ← Nat.mul_assoc]
        congr 1
        rw [Nat.add_mul, Nat.one_mul, Nat.mul_comm (c / m) m]
        omega
      · simp only
        rw [show k - (j + 1) = p by omega]
        exact Nat.div_lt_of_lt_mul (by rw [Nat.mul_comm, ← hpw]; exact hcm)
  · obtain rfl : j = k := by omega
    rw [Nat.sub_self, Nat.pow_zero] at hcm
    obtain rfl : c = 0 := by omega
    have hno : ¬ (i + 1 < m ^ j) := by omega
    rw [if_neg hno, decide_eq_false hno, Nat.sub_self, show dig m 0 0 = [] from rfl, List.nil_append]
    repeat' (first | refine red ?_ | (refine redi (fun hc => ?_) (fun hc => ?_) <;> try first | (exfalso; omega) | exact absurd rfl hc) | fail)
    exact ⟨r, rfl, ent_e⟩
instance l23NextList_ctr {Γ : List Atom} {v : Value} {m k i : Nat} [h : HasRd (List Int) repList Γ [v] (dig m k i)] :
    CtrC Tryz.prog 85 [v, .int .i64 (m : Int)] Γ (NxL m k i) (Value) (fun q : Value => .tuple #[q, .bool (decide (i + 1 < m ^ k))]) (fun q => .ow [q] (if i + 1 < m ^ k then dig m k (i + 1) else List.replicate k 0) :: Γ) := ⟨fun s w0 => l23NextList_spec s⟩

theorem place_neg {xs : List (List Int)} {t : List Int} : placeOf xs t < 0 ↔ t ∉ xs := by
  unfold placeOf
  split
  · rename_i h; exact ⟨fun h' => by omega, fun h' => absurd h h'⟩
  · rename_i h; exact ⟨fun _ => h, fun _ => by omega⟩
theorem unSh (xs : List (List Int)) : (xs.map Sh.mk).map Sh.v = xs := by rw [List.map_map]; exact List.map_id _
theorem sig_el {a : List Int} (h : sigOk a = true) {f : Nat} (hf : f < a.length) : 0 ≤ a.getD f 0 ∧ a.getD f 0 ≤ 3 := by
  unfold sigOk at h
  rw [Bool.and_eq_true, List.all_eq_true] at h
  have := h.2 _ (getK hf)
  rw [decide_eq_true_iff] at this
  exact this
theorem dig_pow {n k i : Nat} (hk : i < n ^ k) : 1 ≤ n ∨ k = 0 := by
  by_cases h : n = 0
  · right
    cases k with
    | zero => rfl
    | succ k => rw [h, Nat.zero_pow (by omega)] at hk; omega
  · left; omega
theorem dig_el {n k i : Nat} (hk : i < n ^ k) : ∀ q ∈ dig n k i, 0 ≤ q ∧ q < n := by
  rcases dig_pow hk with h | h
  · exact dig_in h k i
  · rw [h]; intro q hq; cases hq
structure ARi (ar : List Int) (x : SAuto) (f : Nat) : Prop where
  au : AutoP ar x
  hf : f < ar.length
theorem ARi.img {ar : List Int} {x : SAuto} {f : Nat} (h : ARi ar x f) {sets : List (List Int)} {l : List Int} (hl : l.length = arN ar f) : InS x.2.1 ∧ ∀ j, j < x.2.1.length → (x.2.1.getD j default).1 = (f : Int) → (x.2.1.getD j default).2.1.length = (listed sets l).length := by
  refine ⟨inS_of h.au, fun j hj e => ?_⟩
  have t1 := (h.au.2.2.2.2 j hj).1.2.1
  rw [e] at t1
  rw [listed_len, hl]
  unfold arN
  rw [Int.toNat_natCast] at t1
  omega
end Go.Proofs.YtbbdjjlnachnlaaGreatDoor
namespace Go.Proofs.YtbbdjjlnachnlaaGreatDoor
open Go Go.Eng
set_option linter.unusedVariables false
set_option linter.unusedSimpArgs false
set_option synthInstance.maxHeartbeats 400000
set_option synthInstance.maxSize 1000
set_option maxRecDepth 20000
theorem place_bd (xs : List (List Int)) (t : List Int) : -1 ≤ placeOf xs t ∧ placeOf xs t < xs.length := by
  unfold placeOf
  split
  · rename_i h
    have := List.idxOf_lt_length_of_mem h
    omega
  · omega
noncomputable def sureD (ar : List Int) (x : SAuto) : SAuto := (sureOf ar x).getD (0, [], [])
theorem sureD_none {ar : List Int} {x : SAuto} (h : sureOf ar x = none) : sureD ar x = (0, [], []) := by unfold sureD; rw [h]; rfl
theorem sureD_some {ar : List Int} {x y : SAuto} (h : sureOf ar x = some y) : sureD ar x = y := by unfold sureD; rw [h]; rfl
end Go.Proofs.YtbbdjjlnachnlaaGreatDoor
namespace Go.Proofs.YtbbdjjlnachnlaaGreatDoor
open Go Go.Eng
set_option linter.unusedVariables false
set_option linter.unusedSimpArgs false
set_option synthInstance.maxHeartbeats 400000
set_option synthInstance.maxSize 1000
set_option maxHeartbeats 4000000
set_option maxRecDepth 20000

structure SgD (a : List Int) : Prop where
  len : 1 ≤ a.length ∧ a.length ≤ 4
  el : ∀ q ∈ a, 0 ≤ q ∧ q ≤ 2
theorem SgD.ok {a : List Int} (h : SgD a) : sigOk a = true := by
  unfold sigOk
  rw [Bool.and_eq_true, decide_eq_true_iff, List.all_eq_true]
  exact ⟨by have := h.len; omega, fun q hq => by have := h.el q hq; rw [decide_eq_true_iff]; omega⟩
theorem SgD.snoc {a : List Int} {n : Int} (h : SgD a) (hl : a.length ≤ 3) (hn : 0 ≤ n ∧ n ≤ 2) : SgD (a ++ [n]) := ⟨by rw [List.length_append, List.length_singleton]; have := h.len; omega, fun q hq => by
  rcases List.mem_append.1 hq with h1 | h1
  · exact h.el q h1
  · rw [List.mem_singleton] at h1; omega⟩
theorem l1DrawSigD_spec {w0 : World} {Γ Δ : List Atom} {bc : Nat} {vb : Value} {code : List UInt8} {p : CurS code} [hb : PullBk Γ bc (cur vb p) Δ] [hv : HasRd (List UInt8) repList Δ [vb] code] :
    CJ Tryz.prog 119 [.pointer (some ⟨bc, 0, none⟩)] w0 Γ (fun q : { q : Value × List Int × CurS code // SgD q.2.1 } => .agg #[q.1.1]) (fun q => .ow [q.1.1] q.1.2.1 :: .bk bc (cur vb q.1.2.2) :: Δ) := by
  refine cj_perm hb.perm ?_
  refine cj_enter Tryz.func119 Tryz.ntmps119 ?_
  repeat' (first | refine red ?_ | (refine redc fun r => ?_; try have hr := Subtype.property r) | refine redv fun sv => ?_ | refine redn fun b => ?_ | (refine redi (fun hc => ?_) (fun hc => ?_) <;> try first | (exfalso; omega) | exact absurd rfl hc) | fail)
  · refine wc_loop_p [4] [13, 14, 17, 18, 19, 20, 21, 22, 23, 15, 16] (ι := Int × Value × List Int × CurS code) (fun k => [.int .i64 k.1]) (fun k => [.bk b [k.2.1], .ow [k.2.1] k.2.2.1, .bk bc (cur vb k.2.2.2)]) (fun k => k.1 + k.2.2.1.length ≤ 4 ∧ SgD k.2.2.1) (fun k => k.1.toNat) (r.1.1, sv, [0], r.1.2) [.bk b [sv], .ow [sv] ([0] : List Int), .bk bc (cur vb r.1.2)] (by kernel_rfl) ⟨by simp only [List.length_cons, List.length_nil]; omega, ⟨by simp, fun q hq => by rw [List.mem_singleton] at hq; omega⟩⟩ rfl ?_
    intro ⟨n, sw, a, p0⟩ u l' hl' ⟨hk, hk2⟩
    simp only [patch, List.map_cons, List.map_nil, List.set_cons_zero, List.set_cons_succ] at hl'
    subst hl'
    simp only [List.cons_append, List.nil_append] at hk hk2 ⊢
    have hk3 := hk2.len
    repeat' (first | refine red ?_ | refine reds ?_ | (refine redi (fun hc => ?_) (fun hc => ?_) <;> try first | (exfalso; omega) | exact absurd rfl hc) | ((refine wa_beginc 7 [false, false, false, false, false, false, false, false] [5, 7] ?_ <;> (first | refine wa_p 0 ?_ | fail) <;> (first | refine wa_p 1 ?_ | fail) <;> refine wa_p 2 ?_ <;> (refine wa_do 3 ?_ <;> (repeat' (first | refine red ?_ | (refine redc fun r => ?_; try have hr := Subtype.property r) | fail))) <;> (refine wa_do 4 ?_ <;> (repeat' (first | refine red ?_ | refine redv fun sv => ?_ | fail))) <;> (refine wa_do 5 ?_ <;> (repeat' (first | refine red ?_ | refine redv fun sv => ?_ | fail))) <;> (first | refine wa_p0 6 ?_ | fail) <;> (refine wa_do 7 ?_ <;> (repeat' (first | refine red ?_ | fail)))) <;> (refine wa_end ?_)) | fail)
    · exact wq_next (n - 1, sv, a ++ [r.1.1], r.1.2) ⟨by simp only [List.length_append, List.length_cons, List.length_nil]; omega, hk2.snoc (by omega) (by omega)⟩ (by simp only; omega) (by kernel_rfl) ent_e
    · exact ⟨⟨(sw, a, p0), hk2⟩, rfl, ent_e⟩
  · exact ⟨⟨(sv, [2, 1, 0], r.2), ⟨by simp, by simp⟩⟩, rfl, ent_e⟩
instance l1DrawSigD_ctr {Γ Δ : List Atom} {bc : Nat} {vb : Value} {code : List UInt8} {p : CurS code} [hb : PullBk Γ bc (cur vb p) Δ] [hv : HasRd (List UInt8) repList Δ [vb] code] :
    CtrC Tryz.prog 119 [.pointer (some ⟨bc, 0, none⟩)] Γ (True) ({ q : Value × List Int × CurS code // SgD q.2.1 }) (fun q : { q : Value × List Int × CurS code // SgD q.2.1 } => .agg #[q.1.1]) (fun q => .ow [q.1.1] q.1.2.1 :: .bk bc (cur vb q.1.2.2) :: Δ) := ⟨fun s w0 => l1DrawSigD_spec⟩

end Go.Proofs.YtbbdjjlnachnlaaGreatDoor
