/- Unification: a clash is recovered. -/
import Derived.Test.YtimniaojfchoiaaUniE
import Derived.Tactics
import Derived.Tactics2
import Derived.Defers
import Derived.Recover
import Derived.Laws.Pointers
namespace Go.Proofs.Ytimniaojfchoiaa
open Go Go.Eng
set_option linter.unusedVariables false
set_option linter.unusedSimpArgs false

theorem catch_idle (p : Addr) (w : World) :
    CallsD Try.prog 153 #[.pointer (some p)] .returning w fun e u' w' => e = .returned (.tuple #[]) ∧ u' = .returning ∧ w' = w := by
  refine callsD_of_wpS Try.func153 rfl fun c₀ cs hu => ?_
  apply wpS_seq
  apply wpS_region
  simp [wpOpsS, go_sem, recoverD, hu, Try.ntmps153, Exit.thenS]
  apply wpS_seq
  apply wpS_region
  simp [wpOpsS, go_sem, recoverD, hu, Try.ntmps153, Exit.thenS]
  refine wpS_cond (t := false) (by simp [Act.eval, Array.replicate]) ?_
  simp only [Bool.false_eq_true, if_false]
  refine wpS_of_wp (wp_skip ?_)
  cases c₀
  simp_all [bodyPostS, results, Try.results153]
theorem catch_clash (p : Addr) (x : Bool) (w : World) (hc : (w.alloc (.cells #[] 159)).cell? p = some (.bool x)) (hz : (w.alloc (.cells #[] 159)).frozen? p = false) :
    CallsD Try.prog 153 #[.pointer (some p)] (.panicking [{ v := .iface 159 (.agg #[]), recovered := false }]) w fun e u' w' =>
      e = .returned (.tuple #[]) ∧ u' = .panicking [{ v := .iface 159 (.agg #[]), recovered := true }] ∧ w' = (w.alloc (.cells #[] 159)).setCell p (.bool false) := by
  have hta : ∀ T w, (Instr.typeAssert (.iface 159 (.agg #[])) T 159 true).run Try.prog w = .ok (.tuple #[.agg #[], .bool true]) w := fun T w => by simp [Instr.typeAssert, run_underlying Try.underlying159, Sem.run_bind]
  refine callsD_of_wpS Try.func153 rfl fun c₀ cs hu => ?_
  apply wpS_seq
  apply wpS_region
  simp [wpOpsS, go_sem, recoverD, hu, Try.ntmps153, Exit.thenS]
  apply wpS_seq
  apply wpS_region
  simp [wpOpsS, go_sem, recoverD, hu, Try.ntmps153, Exit.thenS]
  refine wpS_cond (t := true) (by simp [Act.eval, Array.replicate]) ?_
  simp only [if_true]
  apply wpS_seq
  apply wpS_seq
  apply wpS_region
  simp [wpOpsS, go_sem, recoverD, hu, hta, Try.ntmps153, Exit.thenS]
  apply wpS_seq
  apply wpS_region
  simp [wpOpsS, go_sem, recoverD, hu, Try.ntmps153, Exit.thenS]
  refine wpS_cond (t := false) (by simp [Act.eval, Array.replicate]) ?_
  simp only [Bool.false_eq_true, if_false]
  refine wpS_of_wp (wp_skip ?_)
  show Code.wpS _ _ _ _ _ _
  apply wpS_region
  simp [wpOpsS, go_sem, recoverD, hu, hc, hz, Try.ntmps153, Exit.thenS, bodyPostS, results, Try.results153]
theorem run_call3 {P : Program} {f : FuncId} [hf : IsFn P f] {a : Act} {x y z : Operand} {u v q : Value} (hx : a.eval x = u) (hy : a.eval y = v) (hz : a.eval z = q) {ts : Array TypeId} {ty : TypeId} {pos : String} {after : Array Edge} {dst : Option Tmp} (w : World) :
    (execOp a.eval ⟨dst, .call { callee := .value (.func f), args := #[x, y, z], argTypes := ts }, ty, pos, after, none⟩).run P w = .ok (.enter f #[u, v, q]) w := by
  have := hf.run #[u, v, q] w
  simp only [execOp, resolve, Sem.run_bind]
  show (Sem.run P (Deferred.ofValue (.func (.func f) #[] #[]) _) w).andThen _ = _
  have he : Array.map a.eval #[x, y, z] = #[u, v, q] := by simp [hx, hy, hz]
  rw [he]
  simpa [Deferred.ofValue, invoke] using this
abbrev SolT (a : List Int) (bs : List (List Int)) (s t : List Int) : Type := { q : Bool × List Value × List (NE Int) // (q.1 = true → TriE a (bsO q.2.2) ∧ ∀ τ, Sb a τ → (Resp (bsO q.2.2) τ ↔ Resp bs τ ∧ fm τ s = fm τ t)) ∧ (q.1 = false → ∀ τ, Sb a τ → Resp bs τ → fm τ s ≠ fm τ t) }
theorem solve_spec {w0 : World} {Γ Δ : List Atom} {b : Nat} {vs va vb : Value} {cs : List Value} {xs : List (NE Int)} {a s t : List Int} [hb : PullBk Γ b (vs :: cs) Δ] [hv : HasIm (List Int) repList Δ [vs] a] [hr : HasIm (Ar 48 (NE Int)) repAr Δ cs (Ar.mk xs)] [h1 : HasIm (List Int) repList Δ [va] s] [h2 : HasIm (List Int) repList Δ [vb] t] (ht : EqP a (bsO xs) s t) :
    CJ Try.prog 110 [.pointer (some ⟨b, 0, none⟩), va, vb] w0 Γ (fun p : SolT a (bsO xs) s t => .bool p.1.1) (fun p => eqS b vs Δ p.1.2) := by
  refine cj_perm hb.perm ?_
  intro w hs
  have hmf : ∀ (fn : Fn) (first cap : Array Value) (w : World), (Instr.makeFunc fn first cap).run Try.prog w = .ok (.func fn first cap) w := fun _ _ _ _ => rfl
  refine calls_of_wp_defers Try.func110 rfl ?_
  apply wp_seq
  refine wp_region_lit ?_
  refine wpList_plain rfl fun K hK => ?_
  unfold Oper.wp
  simp [go_sem, Try.ntmps110]
  refine hK _ _ (wpList_nil ?_)
  clear hK K
  show Code.wp _ _ _ _ _
  apply wp_seq
  refine wp_region_lit ?_
  refine wpList_plain rfl fun K hK => ?_
  unfold Oper.wp
  simp [go_sem, hmf]
  refine hK _ _ ?_
  clear hK K
  refine wpList_plain rfl fun K hK => ?_
  unfold Oper.wp
  simp [go_sem]
  refine hK _ _ (wpList_nil ?_)
  clear hK K
  show Code.wp _ _ _ _ _
  apply wp_seq
  refine wp_region_lit ?_
  refine wpList_plain rfl fun K hK => ?_
  unfold Oper.wp
  simp [go_sem]
  refine hK _ _ ?_
  clear hK K
  refine wpList_plain rfl fun K hK => ?_
  unfold Oper.wp
  simp [go_sem]
  refine hK _ _ ?_
  clear hK K
  refine wpList_plain rfl fun K hK => ?_
  unfold Oper.wp
  simp [go_sem]
  refine hK _ _ ?_
  clear hK K
  refine wpList_plain rfl fun K hK => ?_
  unfold Oper.wp
  rw [run_call3 (u := .pointer (some ⟨b, 0, none⟩)) (v := va) (q := vb) (by simp [Act.eval, Array.replicate]) (by simp [Act.eval, Array.replicate]) (by simp [Act.eval, Array.replicate]), Oper.upon_enter]
  have hs1 : Sat w0 (w.alloc (.cells #[.bool false] 4)) (.bk w.heap.size [.bool false] :: .bk b (vs :: cs) :: Δ) := hs.alloc [.bool false] 4
  refine (equate_rec _ _ (vs := vs) (cs := cs) (xs := xs) (a := a) (s := s) (t := t) ⟨ht, rfl, rfl⟩ _ hs1).mono ?_
  rintro e w' ⟨p, rfl, hs'⟩
  cases p with
  | inl p =>
    refine hK _ _ (wpList_nil ?_)
    clear hK K
    have hs2 : Sat w0 w' (.bk w.heap.size [.bool false] :: eqS b vs Δ p.1) := by
      have h3 : Ent w0 (eqS b vs (.bk w.heap.size [.bool false] :: Δ) p.1) (.bk w.heap.size [.bool false] :: .bk b (vs :: p.1.1) :: .rd p.1.1 (Ar.mk p.1.2 : Ar 48 (NE Int)) :: Δ) := ent_e
      exact h3 _ hs'
    obtain ⟨ee, he⟩ := hs2.bk (hr := HasBk.here)
    have hc : w'.cell? ⟨w.heap.size, 0, none⟩ = some (.bool false) := by simp [World.cell?, he]
    have hz : w'.frozen? ⟨w.heap.size, 0, none⟩ = false := by simp [World.frozen?, he]
    show Code.wp _ _ _ _ _
    apply wp_seq
    refine wp_region_lit ?_
    refine wpList_plain rfl fun K hK => ?_
    unfold Oper.wp
    simp [go_sem, hc, hz]
    refine hK _ _ (wpList_nil ?_)
    clear hK K
    show Code.wp _ _ _ _ _
    refine wp_ret ?_
    show Leaves _ _ _ _ _ _ _
    refine leaves_cons (f := 153) (args := #[.pointer (some ⟨w.heap.size, 0, none⟩)]) (by simp) (by simp [go_sem]) ?_
    refine (catch_idle ⟨w.heap.size, 0, none⟩ _).mono ?_
    rintro e u' w'' ⟨rfl, rfl, rfl⟩
    have hs3 := hs2.store 0 (.bool true)
    have hfin : Sat w0 (w'.setCell ⟨w.heap.size, 0, none⟩ (.bool true)) (eqS b vs Δ p.1) := by
      have h3 : Ent w0 (.bk w.heap.size [.bool true] :: .bk b (vs :: p.1.1) :: .rd p.1.1 (Ar.mk p.1.2 : Ar 48 (NE Int)) :: Δ) (.bk b (vs :: p.1.1) :: .rd p.1.1 (Ar.mk p.1.2 : Ar 48 (NE Int)) :: Δ) := ent_e
      exact h3 _ hs3
    obtain ⟨ee2, he2⟩ := hs3.bk (hr := HasBk.here)
    have hc2 : (w'.setCell ⟨w.heap.size, 0, none⟩ (.bool true)).cell? ⟨w.heap.size, 0, none⟩ = some (.bool true) := by simp [World.cell?, he2]
    show ∃ v, _ ∧ _
    refine ⟨.bool true, ?_, ⟨⟨(true, p.1), fun _ => ⟨p.2.1, p.2.2.1⟩, fun h => by cases h⟩, rfl, hfin⟩⟩
    simp [results, Try.results110, go_sem, hc2]
  | inr q =>
    have hs2 : Sat w0 w' (.bk w.heap.size [.bool false] :: eqS b vs Δ q.1) := by
      have h3 : Ent w0 (eqS b vs (.bk w.heap.size [.bool false] :: Δ) q.1) (.bk w.heap.size [.bool false] :: .bk b (vs :: q.1.1) :: .rd q.1.1 (Ar.mk q.1.2 : Ar 48 (NE Int)) :: Δ) := ent_e
      exact h3 _ hs'
    have hs2' : Sat w0 (w'.alloc (.cells #[] 159)) (.bk w.heap.size [.bool false] :: .bk b (vs :: q.1.1) :: .rd q.1.1 (Ar.mk q.1.2 : Ar 48 (NE Int)) :: Δ) := by
      have h3 : Ent w0 (.bk w'.heap.size [] :: .bk w.heap.size [.bool false] :: .bk b (vs :: q.1.1) :: .rd q.1.1 (Ar.mk q.1.2 : Ar 48 (NE Int)) :: Δ) (.bk w.heap.size [.bool false] :: .bk b (vs :: q.1.1) :: .rd q.1.1 (Ar.mk q.1.2 : Ar 48 (NE Int)) :: Δ) := ent_e
      exact h3 _ (hs2.alloc [] 159)
    obtain ⟨ee, he⟩ := hs2'.bk (hr := HasBk.here)
    have hc : (w'.alloc (.cells #[] 159)).cell? ⟨w.heap.size, 0, none⟩ = some (.bool false) := by simp [World.cell?, he]
    have hz : (w'.alloc (.cells #[] 159)).frozen? ⟨w.heap.size, 0, none⟩ = false := by simp [World.frozen?, he]
    show Leaves _ _ _ _ _ _ _
    refine leaves_cons (f := 153) (args := #[.pointer (some ⟨w.heap.size, 0, none⟩)]) (by simp) (by simp [go_sem]) ?_
    refine (catch_clash ⟨w.heap.size, 0, none⟩ false _ hc hz).mono ?_
    rintro e u' w'' ⟨rfl, rfl, rfl⟩
    have hs3 := hs2'.store 0 (.bool false)
    have hfin : Sat w0 ((w'.alloc (.cells #[] 159)).setCell ⟨w.heap.size, 0, none⟩ (.bool false)) (eqS b vs Δ q.1) := by
      have h3 : Ent w0 (.bk w.heap.size [.bool false] :: .bk b (vs :: q.1.1) :: .rd q.1.1 (Ar.mk q.1.2 : Ar 48 (NE Int)) :: Δ) (.bk b (vs :: q.1.1) :: .rd q.1.1 (Ar.mk q.1.2 : Ar 48 (NE Int)) :: Δ) := ent_e
      exact h3 _ hs3
    obtain ⟨ee2, he2⟩ := hs3.bk (hr := HasBk.here)
    have hc2 : ((w'.alloc (.cells #[] 159)).setCell ⟨w.heap.size, 0, none⟩ (.bool false)).cell? ⟨w.heap.size, 0, none⟩ = some (.bool false) := by simp [World.cell?, he2]
    show ∃ v, _ ∧ _
    refine ⟨.bool false, ?_, ⟨⟨(false, q.1), fun h => (by cases h), fun _ => q.2⟩, rfl, hfin⟩⟩
    simp [results, Try.results110, go_sem, hc2]
instance solve_ctr {Γ Δ : List Atom} {b : Nat} {vs va vb : Value} {cs : List Value} {xs : List (NE Int)} {a s t : List Int} [hb : PullBk Γ b (vs :: cs) Δ] [hv : HasIm (List Int) repList Δ [vs] a] [hr : HasIm (Ar 48 (NE Int)) repAr Δ cs (Ar.mk xs)] [h1 : HasIm (List Int) repList Δ [va] s] [h2 : HasIm (List Int) repList Δ [vb] t] :
    CtrC Try.prog 110 [.pointer (some ⟨b, 0, none⟩), va, vb] Γ (EqP a (bsO xs) s t) (SolT a (bsO xs) s t) (fun p : SolT a (bsO xs) s t => .bool p.1.1) (fun p => eqS b vs Δ p.1.2) := ⟨fun s w0 => solve_spec s⟩

end Go.Proofs.Ytimniaojfchoiaa
