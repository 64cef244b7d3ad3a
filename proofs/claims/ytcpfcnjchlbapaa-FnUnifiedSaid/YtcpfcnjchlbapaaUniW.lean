/- Unification: a clash is recovered. -/
import Derived.Test.YtcpfcnjchlbapaaUniE
import Derived.Tactics
import Derived.Tactics2
import Derived.Defers
import Derived.Recover
import Derived.Laws.Pointers
namespace Go.Proofs.Ytcpfcnjchlbapaa
open Go Go.Eng
set_option linter.unusedVariables false
set_option linter.unusedSimpArgs false

theorem catch_idle (p : Addr) (w : World) :
    CallsD Try.prog 171 #[.pointer (some p)] .returning w fun e u' w' => e = .returned (.tuple #[]) ∧ u' = .returning ∧ w' = w := by
  refine callsD_of_wpS Try.func171 rfl fun c₀ cs hu => ?_
  apply wpS_seq
  apply wpS_region
  simp [wpOpsS, go_sem, recoverD, hu, Try.ntmps171, Exit.thenS]
  apply wpS_seq
  apply wpS_region
  simp [wpOpsS, go_sem, recoverD, hu, Try.ntmps171, Exit.thenS]
  refine wpS_cond (t := false) (by simp [Act.eval, Array.replicate]) ?_
  simp only [Bool.false_eq_true, if_false]
  refine wpS_of_wp (wp_skip ?_)
  cases c₀
  simp_all [bodyPostS, results, Try.results171]
theorem catch_clash (p : Addr) (x : Bool) (w : World) (hc : (w.alloc (.cells #[] 174)).cell? p = some (.bool x)) (hz : (w.alloc (.cells #[] 174)).frozen? p = false) :
    CallsD Try.prog 171 #[.pointer (some p)] (.panicking [{ v := .iface 174 (.agg #[]), recovered := false }]) w fun e u' w' =>
      e = .returned (.tuple #[]) ∧ u' = .panicking [{ v := .iface 174 (.agg #[]), recovered := true }] ∧ w' = (w.alloc (.cells #[] 174)).setCell p (.bool false) := by
  have hta : ∀ T w, (Instr.typeAssert (.iface 174 (.agg #[])) T 174 true).run Try.prog w = .ok (.tuple #[.agg #[], .bool true]) w := fun T w => by simp [Instr.typeAssert, run_underlying Try.underlying174, Sem.run_bind]
  refine callsD_of_wpS Try.func171 rfl fun c₀ cs hu => ?_
  apply wpS_seq
  apply wpS_region
  simp [wpOpsS, go_sem, recoverD, hu, Try.ntmps171, Exit.thenS]
  apply wpS_seq
  apply wpS_region
  simp [wpOpsS, go_sem, recoverD, hu, Try.ntmps171, Exit.thenS]
  refine wpS_cond (t := true) (by simp [Act.eval, Array.replicate]) ?_
  simp only [if_true]
  apply wpS_seq
  apply wpS_seq
  apply wpS_region
  simp [wpOpsS, go_sem, recoverD, hu, hta, Try.ntmps171, Exit.thenS]
  apply wpS_seq
  apply wpS_region
  simp [wpOpsS, go_sem, recoverD, hu, Try.ntmps171, Exit.thenS]
  refine wpS_cond (t := false) (by simp [Act.eval, Array.replicate]) ?_
  simp only [Bool.false_eq_true, if_false]
  refine wpS_of_wp (wp_skip ?_)
  show Code.wpS _ _ _ _ _ _
  apply wpS_region
  simp [wpOpsS, go_sem, recoverD, hu, hc, hz, Try.ntmps171, Exit.thenS, bodyPostS, results, Try.results171]
theorem run_call3 {P : Program} {f : FuncId} [hf : IsFn P f] {a : Act} {x y z : Operand} {u v q : Value} (hx : a.eval x = u) (hy : a.eval y = v) (hz : a.eval z = q) {ts : Array TypeId} {ty : TypeId} {pos : String} {after : Array Edge} {dst : Option Tmp} (w : World) :
    (execOp a.eval ⟨dst, .call { callee := .value (.func f), args := #[x, y, z], argTypes := ts }, ty, pos, after, none⟩).run P w = .ok (.enter f #[u, v, q]) w := by
  have := hf.run #[u, v, q] w
  simp only [execOp, resolve, Sem.run_bind]
  show (Sem.run P (Deferred.ofValue (.func (.func f) #[] #[]) _) w).andThen _ = _
  have he : Array.map a.eval #[x, y, z] = #[u, v, q] := by simp [hx, hy, hz]
  rw [he]
  simpa [Deferred.ofValue, invoke] using this
abbrev SolT (a : List Int) (bs : List (List Int)) (s t : List Int) : Type := { q : Bool × List Value × List (NE Int) // (q.1 = true → TriE a (bsO q.2.2) ∧ ∀ τ, Sb a τ → (Resp (bsO q.2.2) τ ↔ Resp bs τ ∧ fm τ s = fm τ t)) ∧ (q.1 = false → ∀ τ, Sb a τ → Resp bs τ → fm τ s ≠ fm τ t) }
theorem solve_spec {w0 : World} {Γ Δ : List Atom} {b : Nat} {vs va vb : Value} {cs : List Value} {xs : List (NE Int)} {a s t : List Int} [hb : PullBk Γ b (vs :: cs) Δ] [hv : HasIm (List Int) repList Δ [vs] a] [hr : HasIm (Ar 48 (NE Int)) repAr Δ cs (Ar.mk xs)] [h1 : HasIm (List Int) repList Δ [va] s] [h2 : HasIm (List Int) repList Δ [vb] t] (ht : EqP a (bsO xs) s t) :
    CJ Try.prog 137 [.pointer (some ⟨b, 0, none⟩), va, vb] w0 Γ (fun p : SolT a (bsO xs) s t => .bool p.1.1) (fun p => eqS b vs Δ p.1.2) := by
  refine cj_perm hb.perm ?_
  intro w hs
  have hmf : ∀ (fn : Fn) (first cap : Array Value) (w : World), (Instr.makeFunc fn first cap).run Try.prog w = .ok (.func fn first cap) w := fun _ _ _ _ => rfl
  refine calls_of_wp_defers Try.func137 rfl ?_
  apply wp_seq
  refine wp_region_lit ?_
  refine wpList_plain rfl fun K hK => ?_
  unfold Oper.wp
  simp [go_sem, Try.ntmps137]
  refine hK _ _ (wpList_nil ?_)
  clear hK K
  show Code.wp _ _ _ _ _
  apply wp_seq
  refine wp_region_lit ?_
  refine wpList_plain rfl fun K hK => ?_
  unfold Oper.wp
  simp [go_sem, hmf]
  refine hK _ _ ?_
  clear hK K
  refine wpList_plain rfl fun K hK => ?_
  unfold Oper.wp
  simp [go_sem]
  refine hK _ _ (wpList_nil ?_)
  clear hK K
  show Code.wp _ _ _ _ _
  apply wp_seq
  refine wp_region_lit ?_
  refine wpList_plain rfl fun K hK => ?_
  unfold Oper.wp
  simp [go_sem]
  refine hK _ _ ?_
  clear hK K
  refine wpList_plain rfl fun K hK => ?_
  unfold Oper.wp
  simp [go_sem]
  refine hK _ _ ?_
  clear hK K
  refine wpList_plain rfl fun K hK => ?_
  unfold Oper.wp
  simp [go_sem]
  refine hK _ _ ?_
  clear hK K
  refine wpList_plain rfl fun K hK => ?_
  unfold Oper.wp
  rw [run_call3 (u := .pointer (some ⟨b, 0, none⟩)) (v := va) (q := vb) (by simp [Act.eval, Array.replicate]) (by simp [Act.eval, Array.replicate]) (by simp [Act.eval, Array.replicate]), Oper.upon_enter]
  have hs1 : Sat w0 (w.alloc (.cells #[.bool false] 4)) (.bk w.heap.size [.bool false] :: .bk b (vs :: cs) :: Δ) := hs.alloc [.bool false] 4
  refine (equate_rec _ _ (vs := vs) (cs := cs) (xs := xs) (a := a) (s := s) (t := t) ⟨ht, rfl, rfl⟩ _ hs1).mono ?_
  rintro e w' ⟨p, rfl, hs'⟩
  cases p with
  | inl p =>
    refine hK _ _ (wpList_nil ?_)
    clear hK K
    have hs2 : Sat w0 w' (.bk w.heap.size [.bool false] :: eqS b vs Δ p.1) := by
      have h3 : Ent w0 (eqS b vs (.bk w.heap.size [.bool false] :: Δ) p.1) (.bk w.heap.size [.bool false] :: .bk b (vs :: p.1.1) :: .rd p.1.1 (Ar.mk p.1.2 : Ar 48 (NE Int)) :: Δ) := ent_e
      exact h3 _ hs'
    obtain ⟨ee, he⟩ := hs2.bk (hr := HasBk.here)
    have hc : w'.cell? ⟨w.heap.size, 0, none⟩ = some (.bool false) := by simp [World.cell?, he]
    have hz : w'.frozen? ⟨w.heap.size, 0, none⟩ = false := by simp [World.frozen?, he]
    show Code.wp _ _ _ _ _
    apply wp_seq
    refine wp_region_lit ?_
    refine wpList_plain rfl fun K hK => ?_
    unfold Oper.wp
    simp [go_sem, hc, hz]
    refine hK _ _ (wpList_nil ?_)
    clear hK K
    show Code.wp _ _ _ _ _
    refine wp_ret ?_
    show Leaves _ _ _ _ _ _ _
    refine leaves_cons (f := 171) (args := #[.pointer (some ⟨w.heap.size, 0, none⟩)]) (by simp) (by simp [go_sem]) ?_
    refine (catch_idle ⟨w.heap.size, 0, none⟩ _).mono ?_
    rintro e u' w'' ⟨rfl, rfl, rfl⟩
    have hs3 := hs2.store 0 (.bool true)
    have hfin : Sat w0 (w'.setCell ⟨w.heap.size, 0, none⟩ (.bool true)) (eqS b vs Δ p.1) := by
      have h3 : Ent w0 (.bk w.heap.size [.bool true] :: .bk b (vs :: p.1.1) :: .rd p.1.1 (Ar.mk p.1.2 : Ar 48 (NE Int)) :: Δ) (.bk b (vs :: p.1.1) :: .rd p.1.1 (Ar.mk p.1.2 : Ar 48 (NE Int)) :: Δ) := ent_e
      exact h3 _ hs3
    obtain ⟨ee2, he2⟩ := hs3.bk (hr := HasBk.here)
    have hc2 : (w'.setCell ⟨w.heap.size, 0, none⟩ (.bool true)).cell? ⟨w.heap.size, 0, none⟩ = some (.bool true) := by simp [World.cell?, he2]
    show ∃ v, _ ∧ _
    refine ⟨.bool true, ?_, ⟨⟨(true, p.1), fun _ => ⟨p.2.1, p.2.2.1⟩, fun h => by cases h⟩, rfl, hfin⟩⟩
    simp [results, Try.results137, go_sem, hc2]
  | inr q =>
    have hs2 : Sat w0 w' (.bk w.heap.size [.bool false] :: eqS b vs Δ q.1) := by
      have h3 : Ent w0 (eqS b vs (.bk w.heap.size [.bool false] :: Δ) q.1) (.bk w.heap.size [.bool false] :: .bk b (vs :: q.1.1) :: .rd q.1.1 (Ar.mk q.1.2 : Ar 48 (NE Int)) :: Δ) := ent_e
      exact h3 _ hs'
    have hs2' : Sat w0 (w'.alloc (.cells #[] 174)) (.bk w.heap.size [.bool false] :: .bk b (vs :: q.1.1) :: .rd q.1.1 (Ar.mk q.1.2 : Ar 48 (NE Int)) :: Δ) := by
      have h3 : Ent w0 (.bk w'.heap.size [] :: .bk w.heap.size [.bool false] :: .bk b (vs :: q.1.1) :: .rd q.1.1 (Ar.mk q.1.2 : Ar 48 (NE Int)) :: Δ) (.bk w.heap.size [.bool false] :: .bk b (vs :: q.1.1) :: .rd q.1.1 (Ar.mk q.1.2 : Ar 48 (NE Int)) :: Δ) := ent_e
      exact h3 _ (hs2.alloc [] 174)
    obtain ⟨ee, he⟩ := hs2'.bk (hr := HasBk.here)
    have hc : (w'.alloc (.cells #[] 174)).cell? ⟨w.heap.size, 0, none⟩ = some (.bool false) := by simp [World.cell?, he]
    have hz : (w'.alloc (.cells #[] 174)).frozen? ⟨w.heap.size, 0, none⟩ = false := by simp [World.frozen?, he]
    show Leaves _ _ _ _ _ _ _
    refine leaves_cons (f := 171) (args := #[.pointer (some ⟨w.heap.size, 0, none⟩)]) (by simp) (by simp [go_sem]) ?_
    refine (catch_clash ⟨w.heap.size, 0, none⟩ false _ hc hz).mono ?_
    rintro e u' w'' ⟨rfl, rfl, rfl⟩
    have hs3 := hs2'.store 0 (.bool false)
    have hfin : Sat w0 ((w'.alloc (.cells #[] 174)).setCell ⟨w.heap.size, 0, none⟩ (.bool false)) (eqS b vs Δ q.1) := by
      have h3 : Ent w0 (.bk w.heap.size [.bool false] :: .bk b (vs :: q.1.1) :: .rd q.1.1 (Ar.mk q.1.2 : Ar 48 (NE Int)) :: Δ) (.bk b (vs :: q.1.1) :: .rd q.1.1 (Ar.mk q.1.2 : Ar 48 (NE Int)) :: Δ) := ent_e
      exact h3 _ hs3
    obtain ⟨ee2, he2⟩ := hs3.bk (hr := HasBk.here)
    have hc2 : ((w'.alloc (.cells #[] 174)).setCell ⟨w.heap.size, 0, none⟩ (.bool false)).cell? ⟨w.heap.size, 0, none⟩ = some (.bool false) := by simp [World.cell?, he2]
    show ∃ v, _ ∧ _
    refine ⟨.bool false, ?_, ⟨⟨(false, q.1), fun h => (by cases h), fun _ => q.2⟩, rfl, hfin⟩⟩
    simp [results, Try.results137, go_sem, hc2]
instance solve_ctr {Γ Δ : List Atom} {b : Nat} {vs va vb : Value} {cs : List Value} {xs : List (NE Int)} {a s t : List Int} [hb : PullBk Γ b (vs :: cs) Δ] [hv : HasIm (List Int) repList Δ [vs] a] [hr : HasIm (Ar 48 (NE Int)) repAr Δ cs (Ar.mk xs)] [h1 : HasIm (List Int) repList Δ [va] s] [h2 : HasIm (List Int) repList Δ [vb] t] :
    CtrC Try.prog 137 [.pointer (some ⟨b, 0, none⟩), va, vb] Γ (EqP a (bsO xs) s t) (SolT a (bsO xs) s t) (fun p : SolT a (bsO xs) s t => .bool p.1.1) (fun p => eqS b vs Δ p.1.2) := ⟨fun s w0 => solve_spec s⟩

end Go.Proofs.Ytcpfcnjchlbapaa
namespace Go.Proofs.Ytcpfcnjchlbapaa
open Go Go.Eng
set_option linter.unusedVariables false
set_option linter.unusedSimpArgs false
set_option synthInstance.maxHeartbeats 400000
set_option synthInstance.maxSize 1000

theorem uni_iom_none {a s t : List Int} {σ : Int → List Int} (hs : Tm a s) (h : IOM a s t σ) (hl : ¬ LenOk σ s) : uniOf a s t = none := by
  refine uni_none (fun τ hτ hle => hl ?_)
  have e := iom_unique h hτ
  refine ⟨?_, fun n h1 h2 => by rw [e n h1 h2]; exact hle.2 n h1 h2⟩
  rw [fm_congr (g := τ) (fun n hn => ?_)]
  · exact hle.1
  · by_cases h0 : 0 ≤ n
    · rw [h.1.sb.pos n h0, hτ.1.sb.pos n h0]
    · exact e n (tm_mem hs hn).1 (by omega)
def bs0 : List (NE Int) := List.replicate 48 ⟨[]⟩
theorem bs0_o : bsO bs0 = List.replicate 48 [] := by unfold bsO bs0; rw [List.map_replicate]
theorem wc_nils {P : Program} {Q : Exit → Act → World → Prop} {w0 : World} {c : Code} {l : List Value} {Γ : List Atom} (cs : List Value) (hc : cs = List.replicate 48 (.slice none 0 0)) (h : WC P Q w0 c l (.rd cs (Ar.mk bs0 : Ar 48 (NE Int)) :: Γ)) : WC P Q w0 c l Γ := fun w hs => by
  obtain ⟨hbel, F, hnd, hl, hsep⟩ := hs
  refine h w ⟨hbel, F, hnd, hl, [], F, rfl, ⟨rfl, by simp [bs0], ?_⟩, hsep⟩
  subst hc
  have : ∀ k, RdL (· ∉ F) w (List.replicate k (.slice none 0 0)) (List.replicate k (⟨[]⟩ : NE Int)) := fun k => by
    induction k with
    | zero => rfl
    | succ k ih => exact ⟨[.slice none 0 0], List.replicate k (.slice none 0 0), rfl, .inl ⟨rfl, rfl⟩, ih⟩
  exact this 48
/-- The terms that are written so far. -/
noncomputable def resTo (bs : List (List Int)) (σ : Int → List Int) (i : Nat) : List (List Int) := (List.range 24).map fun k => if k < i ∧ bs.getD k [] ≠ [] then σ (-1 - (k : Int)) else []
theorem resTo_len (bs : List (List Int)) (σ : Int → List Int) (i : Nat) : (resTo bs σ i).length = 24 := by simp [resTo]
theorem resTo_zero (bs : List (List Int)) (σ : Int → List Int) : resTo bs σ 0 = List.replicate 24 [] := by
  unfold resTo
  have : ((List.range 24).map fun k => if k < 0 ∧ bs.getD k [] ≠ [] then σ (-1 - (k : Int)) else []) = (List.range 24).map fun _ => [] := List.map_congr_left fun k _ => if_neg (fun h => absurd h.1 (Nat.not_lt_zero _))
  rw [this]; rfl
theorem resTo_get {bs : List (List Int)} {σ : Int → List Int} {i k : Nat} (h : k < 24) : (resTo bs σ i).getD k [] = if k < i ∧ bs.getD k [] ≠ [] then σ (-1 - (k : Int)) else [] := by
  unfold resTo; simp [List.getD_eq_getElem?_getD, h]
theorem resTo_skip {bs : List (List Int)} {σ : Int → List Int} {i : Nat} (h : bs.getD i [] = []) : resTo bs σ (i + 1) = resTo bs σ i := by
  unfold resTo
  refine List.map_congr_left fun k _ => ?_
  by_cases e : k = i
  · rw [if_neg (fun h' => h'.2 (e ▸ h)), if_neg (fun h' => h'.2 (e ▸ h))]
  · by_cases h2 : k < i ∧ bs.getD k [] ≠ []
    · rw [if_pos h2, if_pos ⟨by omega, h2.2⟩]
    · rw [if_neg h2, if_neg (fun h' => h2 ⟨by omega, h'.2⟩)]
theorem resTo_set {bs : List (List Int)} {σ : Int → List Int} {i : Nat} (hi : i < 24) (h : bs.getD i [] ≠ []) : (resTo bs σ i).set i (σ (-1 - (i : Int))) = resTo bs σ (i + 1) := by
  apply List.ext_getElem?
  intro k
  rw [List.getElem?_set]
  by_cases hk : k < 24
  · have e1 := resTo_get (bs := bs) (σ := σ) (i := i + 1) hk
    have e2 := resTo_get (bs := bs) (σ := σ) (i := i) hk
    rw [List.getD_eq_getElem?_getD, List.getElem?_eq_getElem (by rw [resTo_len]; exact hk)] at e1 e2
    rw [List.getElem?_eq_getElem (l := resTo bs σ (i + 1)) (by rw [resTo_len]; exact hk)]
    simp only [Option.getD_some] at e1 e2
    rw [e1]
    by_cases e : i = k
    · subst e
      rw [if_pos rfl, if_pos (by rw [resTo_len]; exact hi), if_pos ⟨by omega, h⟩]
    · rw [if_neg e, List.getElem?_eq_getElem (by rw [resTo_len]; exact hk), e2]
      congr 1
      by_cases h2 : k < i ∧ bs.getD k [] ≠ []
      · rw [if_pos h2, if_pos ⟨by omega, h2.2⟩]
      · rw [if_neg h2, if_neg (fun h' => h2 ⟨by omega, h'.2⟩)]
  · rw [List.getElem?_eq_none (by rw [resTo_len]; omega), if_neg (by omega), List.getElem?_eq_none (by rw [resTo_len]; omega)]
theorem resTo_mem {bs : List (List Int)} {σ : Int → List Int} {i : Nat} (h : ∀ k : Nat, k < i → k < 24 → (σ (-1 - (k : Int))).length ≤ 60) : ∀ x ∈ resTo bs σ i, x.length ≤ 60 := by
  intro x hx
  obtain ⟨k, hk, rfl⟩ := List.mem_map.1 hx
  have := List.mem_range.1 hk
  split
  · rename_i h2
    exact h k h2.1 this
  · simp
theorem unify_spec {w0 : World} {Γ : List Atom} {v va vb : Value} {a s t : List Int} [h : HasRd (List Int) repList Γ [v] a] [h1 : HasRd (List Int) repList Γ [va] s] [h2 : HasRd (List Int) repList Γ [vb] t] (hs : termOk a s = true ∧ termOk a t = true) :
    CJ Try.prog 91 [.agg #[v], va, vb] w0 Γ (fun q : Value => .tuple #[.agg #[q], .bool (uniOf a s t).isSome]) (fun q => .ow [q] ((uniOf a s t).getD []) :: Γ) := by
  refine cj_lift (R := [.rd [v] a, .rd [va] s, .rd [vb] t]) (A := fun q => [.ow [q] ((uniOf a s t).getD [])]) (fun w1 => ?_) (reads_cons h (reads_cons h1 (reads_cons h2 (inferInstance)))) (fun _ => inferInstance)
  simp only [List.cons_append, List.nil_append]
  obtain ⟨hso, hto⟩ := hs
  have hsl := termOk_len hso
  have htl := termOk_len hto
  have hEq : EqP a (bsO bs0) s t := by rw [bs0_o]; exact ⟨⟨_, tri_zero a⟩, hso, hto⟩
  refine cj_enter Try.func91 Try.ntmps91 ?_
  repeat' (first | refine red ?_ | refine redf fun hbi => ?_ | refine reds ?_ | refine redc fun r => ?_ | refine redp (fun r => ?_) (fun r => ?_) | refine redv fun sv => ?_ | refine redn fun b => ?_ | refine redz fun zs => ?_ | refine redq (fun hc => ?_) (fun hc => ?_) | with_reducible refine wq_blk_o rfl ?_ | (refine redd fun p cs as_ hcs has hf => ?_; simp only [Un.cells, Un.atoms, Un.fact, List.cons_append, List.nil_append] at hcs has hf; subst hcs has) | (refine redi (fun hc => ?_) (fun hc => ?_) <;> try first | (exfalso; omega) | exact absurd rfl hc) | fail)
  refine wl_nils (α := Int) (iα := repInt) (n := 48) [Value.slice none 0 0, Value.slice none 0 0, Value.slice none 0 0, Value.slice none 0 0, Value.slice none 0 0, Value.slice none 0 0, Value.slice none 0 0, Value.slice none 0 0, Value.slice none 0 0, Value.slice none 0 0, Value.slice none 0 0, Value.slice none 0 0, Value.slice none 0 0, Value.slice none 0 0, Value.slice none 0 0, Value.slice none 0 0, Value.slice none 0 0, Value.slice none 0 0, Value.slice none 0 0, Value.slice none 0 0, Value.slice none 0 0, Value.slice none 0 0, Value.slice none 0 0, Value.slice none 0 0, Value.slice none 0 0, Value.slice none 0 0, Value.slice none 0 0, Value.slice none 0 0, Value.slice none 0 0, Value.slice none 0 0, Value.slice none 0 0, Value.slice none 0 0, Value.slice none 0 0, Value.slice none 0 0, Value.slice none 0 0, Value.slice none 0 0, Value.slice none 0 0, Value.slice none 0 0, Value.slice none 0 0, Value.slice none 0 0, Value.slice none 0 0, Value.slice none 0 0, Value.slice none 0 0, Value.slice none 0 0, Value.slice none 0 0, Value.slice none 0 0, Value.slice none 0 0, Value.slice none 0 0] rfl ?_
  generalize [Value.slice none 0 0, Value.slice none 0 0, Value.slice none 0 0, Value.slice none 0 0, Value.slice none 0 0, Value.slice none 0 0, Value.slice none 0 0, Value.slice none 0 0, Value.slice none 0 0, Value.slice none 0 0, Value.slice none 0 0, Value.slice none 0 0, Value.slice none 0 0, Value.slice none 0 0, Value.slice none 0 0, Value.slice none 0 0, Value.slice none 0 0, Value.slice none 0 0, Value.slice none 0 0, Value.slice none 0 0, Value.slice none 0 0, Value.slice none 0 0, Value.slice none 0 0, Value.slice none 0 0, Value.slice none 0 0, Value.slice none 0 0, Value.slice none 0 0, Value.slice none 0 0, Value.slice none 0 0, Value.slice none 0 0, Value.slice none 0 0, Value.slice none 0 0, Value.slice none 0 0, Value.slice none 0 0, Value.slice none 0 0, Value.slice none 0 0, Value.slice none 0 0, Value.slice none 0 0, Value.slice none 0 0, Value.slice none 0 0, Value.slice none 0 0, Value.slice none 0 0, Value.slice none 0 0, Value.slice none 0 0, Value.slice none 0 0, Value.slice none 0 0, Value.slice none 0 0, Value.slice none 0 0] = cs
  rw [show List.replicate 48 (⟨[]⟩ : NE Int) = bs0 from rfl]
  repeat' (first | refine red ?_ | refine redf fun hbi => ?_ | refine reds ?_ | refine redc fun r => ?_ | refine redp (fun r => ?_) (fun r => ?_) | refine redv fun sv => ?_ | refine redn fun b => ?_ | refine redz fun zs => ?_ | refine redq (fun hc => ?_) (fun hc => ?_) | with_reducible refine wq_blk_o rfl ?_ | (refine redd fun p cs as_ hcs has hf => ?_; simp only [Un.cells, Un.atoms, Un.fact, List.cons_append, List.nil_append] at hcs has hf; subst hcs has) | (refine redi (fun hc => ?_) (fun hc => ?_) <;> try first | (exfalso; omega) | exact absurd rfl hc) | fail)
  · have e : uniOf a s t = none := uni_clash fun τ hτ => r.2.2 hc τ hτ (by rw [bs0_o]; exact resp_zero τ)
    rw [e]
    simp only [Option.getD_none, Option.isSome_none]
    exact ⟨_, rfl, ent_e⟩
  obtain ⟨⟨ok, es, xs⟩, hr1, hr2⟩ := r
  unfold eqS
  simp only at hc hr1 ⊢
  subst hc
  obtain ⟨hT, hR⟩ := hr1 rfl
  clear hr1 hr2
  have hT2 := tri_sg hT
  have hiom : IOM a s t (sg a (bsO xs)) := tri_iom hT2 fun τ hτ => by
    rw [hR τ hτ]
    exact ⟨fun h => h.2, fun h => ⟨by rw [bs0_o]; exact resp_zero τ, h⟩⟩
  have hres : ResP a (bsO xs) s := ⟨hT, hso⟩
  have hxl : xs.length = 48 := by have := hT2.len; unfold bsO at this; rwa [List.length_map] at this
  repeat' (first | refine red ?_ | refine redf fun hbi => ?_ | refine reds ?_ | refine redc fun r => ?_ | refine redp (fun r => ?_) (fun r => ?_) | refine redv fun sv => ?_ | refine redn fun b => ?_ | refine redz fun zs => ?_ | refine redq (fun hc => ?_) (fun hc => ?_) | with_reducible refine wq_blk_o rfl ?_ | (refine redd fun p cs as_ hcs has hf => ?_; simp only [Un.cells, Un.atoms, Un.fact, List.cons_append, List.nil_append] at hcs has hf; subst hcs has) | (refine redi (fun hc => ?_) (fun hc => ?_) <;> try first | (exfalso; omega) | exact absurd rfl hc) | fail)
  · have e : uniOf a s t = none := uni_iom_none (tm_ok hso) hiom fun hle => by
      unfold resOk at hc
      rw [decide_eq_false_iff_not] at hc
      have := hle.1
      simp at hc
      omega
    rw [e]
    simp only [Option.getD_none, Option.isSome_none]
    exact ⟨_, rfl, ent_e⟩
  have hsok : (fm (sg a (bsO xs)) s).length ≤ 60 := by
    unfold resOk at hc
    rw [decide_eq_true_iff] at hc
    simp at hc
    omega
  rw [← resTo_zero (bsO xs) (sg a (bsO xs))]
  refine wc_loop_p [41] [42, 43, 44, 45, 12, 13, 46, 47, 49, 50, 51, 48, 52, 53, 14, 15, 54, 55, 56, 7, 57, 58, 59, 60, 61, 62] (ι := Nat) (fun k => [.int .i64 k]) (fun k => [.ow [sv] (resTo (bsO xs) (sg a (bsO xs)) k)]) (fun k => k ≤ 24 ∧ ∀ j : Nat, j < k → (sg a (bsO xs) (-1 - (j : Int))).length ≤ 60) (fun k => 24 - k) 0 [.ow [sv] (resTo (bsO xs) (sg a (bsO xs)) 0)] (by kernel_rfl) ⟨by decide, fun j hj => absurd hj (Nat.not_lt_zero _)⟩ rfl ?_
  intro k u l' hl' ⟨hk, hkk⟩
  simp only [patch, List.map_cons, List.map_nil, List.set_cons_zero, List.set_cons_succ] at hl'
  subst hl'
  simp only [List.cons_append, List.nil_append]
  have hrl := resTo_len (bsO xs) (sg a (bsO xs)) k
  by_cases hk24 : k < 24
  · have hbd : bdF (bsO xs) (-1 - (k : Int)) = (xs.getD k default).xs := by rw [bd_ne, show (-1 - (-1 - (k : Int))).toNat = k by omega]
    have hgd : (bsO xs).getD k [] = (xs.getD k default).xs := ne_getD'
    have hbo : (xs.getD k default).xs ≠ [] → ResP a (bsO xs) (xs.getD k default).xs ∧ sg a (bsO xs) (-1 - (k : Int)) = fm (sg a (bsO xs)) (xs.getD k default).xs := fun h => by
      have := hT2.bo (-1 - (k : Int)) (by omega) (by omega) (by rw [hbd]; exact h)
      rw [hbd] at this
      exact ⟨⟨hT, this.1⟩, this.2.1⟩
    by_cases hnil : (xs.getD k default).xs = []
    · have hun := hT2.un (-1 - (k : Int)) (by omega) (by omega) (by rw [hbd]; exact hnil)
      repeat' (first | refine red ?_ | refine redf fun hbi => ?_ | refine reds ?_ | refine redc fun r => ?_ | refine redp (fun r => ?_) (fun r => ?_) | refine redv fun sv => ?_ | refine redn fun b => ?_ | refine redz fun zs => ?_ | refine redq (fun hc => ?_) (fun hc => ?_) | with_reducible refine wq_blk_o rfl ?_ | (refine redd fun p cs as_ hcs has hf => ?_; simp only [Un.cells, Un.atoms, Un.fact, List.cons_append, List.nil_append] at hcs has hf; subst hcs has) | (refine redi (fun hc => ?_) (fun hc => ?_) <;> try first | (exfalso; omega) | exact absurd rfl hc) | fail)
      · rw [← resTo_skip (by rw [hgd]; exact hnil)]
        refine wq_next (k + 1) ⟨by omega, fun j hj => ?_⟩ (by omega) (by kernel_rfl) ent_e
        by_cases e : j = k
        · rw [e, hun]; simp
        · exact hkk j (by omega)
      · exact absurd hnil (by assumption)
    · obtain ⟨hrp, hsg⟩ := hbo hnil
      have hcase : resOk a (bsO xs) [] (xs.getD k default).xs = true → (sg a (bsO xs) (-1 - (k : Int))).length ≤ 60 ∧ resL a (bsO xs) [] (xs.getD k default).xs = sg a (bsO xs) (-1 - (k : Int)) := fun h => by
        have h2 := h
        unfold resOk at h
        rw [decide_eq_true_iff] at h
        unfold resL
        rw [if_pos h2, hsg]
        simp at h
        exact ⟨h, rfl⟩
      repeat' (first | refine red ?_ | refine redf fun hbi => ?_ | refine reds ?_ | refine redc fun r => ?_ | refine redp (fun r => ?_) (fun r => ?_) | refine redv fun sv => ?_ | refine redn fun b => ?_ | refine redz fun zs => ?_ | refine redq (fun hc => ?_) (fun hc => ?_) | with_reducible refine wq_blk_o rfl ?_ | (refine redd fun p cs as_ hcs has hf => ?_; simp only [Un.cells, Un.atoms, Un.fact, List.cons_append, List.nil_append] at hcs has hf; subst hcs has) | (refine redi (fun hc => ?_) (fun hc => ?_) <;> try first | (exfalso; omega) | exact absurd rfl hc) | fail)
      · exact absurd (by assumption) hnil
      · have e : uniOf a s t = none := uni_iom_none (tm_ok hso) hiom fun hle => by
          unfold resOk at hc
          rw [decide_eq_false_iff_not, ← hsg] at hc
          have := hle.2 (-1 - (k : Int)) (by omega) (by omega)
          simp at hc
          omega
        rw [e]
        simp only [Option.getD_none, Option.isSome_none]
        exact ⟨_, rfl, ent_e⟩
      · obtain ⟨h5, h6⟩ := hcase hc
        rw [h6, resTo_set hk24 (by rw [hgd]; exact hnil)]
        refine wq_next (k + 1) ⟨by omega, fun j hj => ?_⟩ (by omega) (by kernel_rfl) ent_e
        by_cases e : j = k
        · rw [e]; exact h5
        · exact hkk j (by omega)
  · obtain rfl : k = 24 := by omega
    have hmem : ∀ x ∈ resTo (bsO xs) (sg a (bsO xs)) 24, x.length ≤ 60 := resTo_mem fun j hj _ => hkk j hj
    have hpl : plainOf (resTo (bsO xs) (sg a (bsO xs)) 24) = plainOf (tabOf (sg a (bsO xs))) := tri_plain hT2 hrl fun j hj => by
      rw [resTo_get hj]
      by_cases e : (bsO xs).getD j [] = []
      · rw [if_pos e, if_neg (fun h => h.2 e)]
      · rw [if_neg e, if_pos ⟨hj, e⟩]
    have hend : uniOf a s t = some (plainOf (resTo (bsO xs) (sg a (bsO xs)) 24)) := by
      rw [hpl]
      refine uni_some hiom ⟨hsok, fun n h1 h2 => ?_⟩
      have := hkk (-1 - n).toNat (by omega)
      rwa [show -1 - (((-1 - n).toNat : Nat) : Int) = n by omega] at this
    rw [hend]
    repeat' (first | refine red ?_ | refine redf fun hbi => ?_ | refine reds ?_ | refine redc fun r => ?_ | refine redp (fun r => ?_) (fun r => ?_) | refine redv fun sv => ?_ | refine redn fun b => ?_ | refine redz fun zs => ?_ | refine redq (fun hc => ?_) (fun hc => ?_) | with_reducible refine wq_blk_o rfl ?_ | (refine redd fun p cs as_ hcs has hf => ?_; simp only [Un.cells, Un.atoms, Un.fact, List.cons_append, List.nil_append] at hcs has hf; subst hcs has) | (refine redi (fun hc => ?_) (fun hc => ?_) <;> try first | (exfalso; omega) | exact absurd rfl hc) | fail)
    simp only [Option.getD_some, Option.isSome_some]
    exact ⟨_, rfl, ent_e⟩
instance unify_ctr {Γ : List Atom} {v va vb : Value} {a s t : List Int} [h : HasRd (List Int) repList Γ [v] a] [h1 : HasRd (List Int) repList Γ [va] s] [h2 : HasRd (List Int) repList Γ [vb] t] :
    CtrC Try.prog 91 [.agg #[v], va, vb] Γ (termOk a s = true ∧ termOk a t = true) (Value) (fun q : Value => .tuple #[.agg #[q], .bool (uniOf a s t).isSome]) (fun q => .ow [q] ((uniOf a s t).getD []) :: Γ) := ⟨fun s w0 => unify_spec s⟩

theorem impl_Unified_spec {w0 : World} {Γ : List Atom} {v vs vt : Value} {a s t : List Int} [h : HasRd (List Int) repList Γ [v] a] [h1 : HasRd (List Int) repList Γ [vs] s] [h2 : HasRd (List Int) repList Γ [vt] t] :
    CJ Try.prog 37 [.agg #[v], vs, vt] w0 Γ (fun q : Value => .tuple #[.agg #[q], .bool (unified a s t).isSome]) (fun q => .ow [q] ((unified a s t).getD []) :: Γ) := by
  refine cj_lift (R := [.rd [v] a, .rd [vs] s, .rd [vt] t]) (A := fun q => [.ow [q] ((unified a s t).getD [])]) (fun w1 => ?_) (reads_cons h (reads_cons h1 (reads_cons h2 (inferInstance)))) (fun _ => inferInstance)
  simp only [List.cons_append, List.nil_append]
  refine cj_enter Try.func37 Try.ntmps37 ?_
  repeat' (first | refine red ?_ | refine redf fun hbi => ?_ | refine reds ?_ | refine redc fun r => ?_ | refine redp (fun r => ?_) (fun r => ?_) | refine redv fun sv => ?_ | refine redn fun b => ?_ | refine redz fun zs => ?_ | refine redq (fun hc => ?_) (fun hc => ?_) | with_reducible refine wq_blk_o rfl ?_ | (refine redi (fun hc => ?_) (fun hc => ?_) <;> try first | (exfalso; omega) | exact absurd rfl hc) | fail)
  · rw [un_no1 hc]
    simp only [Option.getD_none, Option.isSome_none]
    exact ⟨_, rfl, ent_e⟩
  · rw [un_no2 hc]
    simp only [Option.getD_none, Option.isSome_none]
    exact ⟨_, rfl, ent_e⟩
  · skip
    rw [un_yes (by assumption) hc]
    exact ⟨_, rfl, ent_e⟩
instance impl_Unified_ctr {Γ : List Atom} {v vs vt : Value} {a s t : List Int} [h : HasRd (List Int) repList Γ [v] a] [h1 : HasRd (List Int) repList Γ [vs] s] [h2 : HasRd (List Int) repList Γ [vt] t] :
    CtrC Try.prog 37 [.agg #[v], vs, vt] Γ (True) (Value) (fun q : Value => .tuple #[.agg #[q], .bool (unified a s t).isSome]) (fun q => .ow [q] ((unified a s t).getD []) :: Γ) := ⟨fun s w0 => impl_Unified_spec⟩

theorem impl_UnifiesIn_spec {w0 : World} {Γ : List Atom} {v vs vt : Value} {a s t : List Int} [h : HasRd (List Int) repList Γ [v] a] [h1 : HasRd (List Int) repList Γ [vs] s] [h2 : HasRd (List Int) repList Γ [vt] t] :
    CJ Try.prog 40 [.agg #[v], vs, vt] w0 Γ (fun _ : Unit => .bool (unified a s t).isSome) (fun _ => Γ) := by
  refine cj_lift (R := [.rd [v] a, .rd [vs] s, .rd [vt] t]) (A := fun _ => []) (fun w1 => ?_) (reads_cons h (reads_cons h1 (reads_cons h2 (inferInstance)))) (fun _ => inferInstance)
  simp only [List.cons_append, List.nil_append]
  refine cj_enter Try.func40 Try.ntmps40 ?_
  repeat' (first | refine red ?_ | refine redf fun hbi => ?_ | refine reds ?_ | refine redc fun r => ?_ | refine redp (fun r => ?_) (fun r => ?_) | refine redv fun sv => ?_ | refine redn fun b => ?_ | refine redz fun zs => ?_ | refine redq (fun hc => ?_) (fun hc => ?_) | with_reducible refine wq_blk_o rfl ?_ | (refine redi (fun hc => ?_) (fun hc => ?_) <;> try first | (exfalso; omega) | exact absurd rfl hc) | fail)
  exact ⟨(), rfl, ent_e⟩
instance impl_UnifiesIn_ctr {Γ : List Atom} {v vs vt : Value} {a s t : List Int} [h : HasRd (List Int) repList Γ [v] a] [h1 : HasRd (List Int) repList Γ [vs] s] [h2 : HasRd (List Int) repList Γ [vt] t] :
    CtrC Try.prog 40 [.agg #[v], vs, vt] Γ (True) (Unit) (fun _ : Unit => .bool (unified a s t).isSome) (fun _ => Γ) := ⟨fun s w0 => impl_UnifiesIn_spec⟩

end Go.Proofs.Ytcpfcnjchlbapaa
