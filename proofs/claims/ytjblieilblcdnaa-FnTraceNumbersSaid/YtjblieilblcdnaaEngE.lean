/- The rules of the walk: new blocks, stores, slices of the call's own, calls, loops, the end. -/
import Derived.Test.YtjblieilblcdnaaEngD
namespace Go.Eng
open Go Go.RowKit
set_option linter.unusedVariables false
set_option linter.unusedSimpArgs false

/-- The value is of one cell. -/
class OneC (Γ : List Atom) (v : Value) : Prop where
  one : ∀ {ok w F}, Sep ok w Γ F → v.oneCell' = true
instance {Γ : List Atom} {b : Bool} : OneC Γ (.bool b) := ⟨fun _ => rfl⟩
instance {Γ : List Atom} {k : IntKind} {n : Int} : OneC Γ (.int k n) := ⟨fun _ => rfl⟩
instance {Γ : List Atom} {s : ByteArray} : OneC Γ (.string s) := ⟨fun _ => rfl⟩
instance {Γ : List Atom} {a : Option Addr} : OneC Γ (.pointer a) := ⟨fun _ => rfl⟩
instance {Γ : List Atom} {a : Option Addr} {n c : Nat} : OneC Γ (.slice a n c) := ⟨fun _ => rfl⟩
instance {Γ : List Atom} {f : Fn} {a b : Array Value} : OneC Γ (.func f a b) := ⟨fun _ => rfl⟩
instance {Γ : List Atom} : OneC Γ .nilFunc := ⟨fun _ => rfl⟩
instance {Γ : List Atom} : OneC Γ .nilIface := ⟨fun _ => rfl⟩
instance {Γ : List Atom} {t : TypeId} {v : Value} : OneC Γ (.iface t v) := ⟨fun _ => rfl⟩
instance (priority := 500) {α : Type} {i : Rep α} {Γ : List Atom} {v : Value} {x : α} [h : HasRd α i Γ [v] x] : OneC Γ v := ⟨fun hs => Rep.rd_one (h.get hs) v (by simp)⟩
class OneCs (Γ : List Atom) (vs : List Value) : Prop where
  one : ∀ {ok w F}, Sep ok w Γ F → ∀ v ∈ vs, v.oneCell' = true
instance {Γ : List Atom} : OneCs Γ [] := ⟨fun _ _ h => by cases h⟩
instance {Γ : List Atom} {v : Value} {vs : List Value} [h : OneC Γ v] [h' : OneCs Γ vs] : OneCs Γ (v :: vs) := ⟨fun hs u hu => by
  rcases List.mem_cons.1 hu with rfl | hu
  · exact h.one hs
  · exact h'.one hs u hu⟩

/-- The value's cells. -/
class Cs (Γ : List Atom) (v : Value) (cs : outParam (List Value)) : Prop where
  eq : ∀ {ok w F}, Sep ok w Γ F → v.cells = cs.toArray ∧ ∀ c ∈ cs, c.oneCell' = true
theorem cells_one {v : Value} (h : v.oneCell' = true) : v.cells = #[v] := by cases v <;> simp_all [Value.cells, Value.oneCell']
instance {Γ : List Atom} {cs : List Value} [h : OneCs Γ cs] : Cs Γ (.agg cs.toArray) cs := ⟨fun hs => ⟨rfl, h.one hs⟩⟩
instance (priority := 500) {Γ : List Atom} {v : Value} [h : OneC Γ v] : Cs Γ v [v] := ⟨fun hs => ⟨cells_one (h.one hs), by simpa using h.one hs⟩⟩

theorem Sat.cs {w0 w : World} {Γ : List Atom} {v : Value} {cs : List Value} (h : Sat w0 w Γ) [hc : Cs Γ v cs] : v.cells = cs.toArray ∧ ∀ c ∈ cs, c.oneCell' = true := by
  obtain ⟨_, F, _, _, hs⟩ := h
  exact hc.eq hs

/-- What one list of atoms says of the world, the other says, too. -/
def Ent (w0 : World) (Γ Δ : List Atom) : Prop := ∀ w, Sat w0 w Γ → Sat w0 w Δ
section ops
variable {P : Program} {ops : Array Oper} {Q : Exit → Act → World → Prop} {w0 : World} {rest : List Oper} {l l' : List Value} {Γ Δ : List Atom} {ty : TypeId} {v : Value} {pos : String} {after : Array Edge} {d : Nat}

/-- An operation that leaves v and another world. -/
theorem wl_op {o : Oper} (hg : o.guard = none) {w w' : World} (hr : (execOp (E l).eval o).run P w = .ok (.value v) w') (h : wpList P ops Q rest ((E l).put o.dst v) w') : wpList P ops Q (o :: rest) (E l) w := by
  refine wpList_plain hg fun K hK => ?_
  unfold Oper.wp
  rw [hr, Oper.upon_value]
  exact hK _ _ h

theorem wl_alloc {T : TypeId} {zs : List Value} [hz : Zr P T zs] (h : ∀ b, WL P ops Q w0 rest (l.set d (.pointer (some ⟨b, 0, none⟩))) (.bk b zs :: Γ)) :
    WL P ops Q w0 (⟨some d, .alloc T, ty, pos, after, none⟩ :: rest) l Γ := by
  intro w hs
  obtain ⟨z, hz, hc⟩ := hz.zero
  refine wl_op (v := .pointer (some ⟨w.heap.size, 0, none⟩)) (w' := w.alloc (.cells zs.toArray T)) rfl ?_ ?_
  · refine run_value (f := Next.value) (s := Instr.alloc T true (.tuple #[])) ?_
    simp only [Instr.alloc, newVar, newRow, newObj, Sem.run_bind, hz, Result.andThen_ok, hc]
    rfl
  · rw [E_put]; exact h _ _ (hs.alloc zs T)

theorem wl_box {T : TypeId} {x : Operand} {cs : List Value} [hx : Ev l x v] [hc : Cs Γ v cs] (h : ∀ b, WL P ops Q w0 rest (l.set d (.pointer (some ⟨b, 0, none⟩))) (.bk b cs :: Γ)) :
    WL P ops Q w0 (⟨some d, .box T x, ty, pos, after, none⟩ :: rest) l Γ := by
  intro w hs
  refine wl_op (v := .pointer (some ⟨w.heap.size, 0, none⟩)) (w' := w.alloc (.cells cs.toArray T)) rfl ?_ ?_
  · refine run_value (f := Next.value) (s := Instr.box T ((E l).eval x)) ?_
    simp [Instr.box, hx.eq, newVar, newRow, newObj, Sem.run, (hs.cs (hc := hc)).1, Bind.bind, Pure.pure, Sem.bind]
  · rw [E_put]; exact h _ _ (hs.alloc cs T)

theorem run_storeCells {b : Nat} : ∀ {new : List Value} {cs : List Value} {off : Nat} {w : World} {Γ : List Atom}, Sat w0 w (.bk b cs :: Γ) → (∀ c ∈ new, c.oneCell' = true) → off + new.length ≤ cs.length →
    ∀ i base, base + i = off → ∃ w', (storeCells ⟨b, base, none⟩ new i).run P w = .ok () w' ∧ Sat w0 w' (.bk b (cs.take off ++ new ++ cs.drop (off + new.length)) :: Γ)
  | [], cs, off, w, Γ, hs, _, hl, i, base, hb => ⟨w, rfl, by simpa using hs⟩
  | c :: new, cs, off, w, Γ, hs, h1, hl, i, base, hb => by
    have hl' : off + new.length + 1 ≤ cs.length := by simpa [Nat.add_assoc] using hl
    obtain ⟨e, he⟩ := hs.bk (hr := HasBk.here)
    obtain ⟨w', hr, hs'⟩ := run_storeCells (new := new) (off := off + 1) (hs.store off c) (fun u hu => h1 u (by simp [hu])) (by rw [List.length_set]; omega) (i + 1) base (by omega)
    refine ⟨w', ?_, ?_⟩
    · have hc1 : c.oneCell' = true := h1 c (by simp)
      have hcell : w.cell? ⟨b, off, none⟩ = some (cs[off]'(by omega)) := by simp [World.cell?, he, List.getElem?_eq_getElem (show off < cs.length by omega)]
      have hfr : w.frozen? ⟨b, off, none⟩ = false := by simp [World.frozen?, he]
      have hst : (store ((⟨b, base, none⟩ : Addr).add i)  c).run P w = .ok () (w.setCell ⟨b, off, none⟩ c) := by
        rw [add_lit, hb]
        cases c <;> simp_all [store, Sem.run, Value.oneCell']
      simp only [storeCells, Sem.run_bind, hst, Result.andThen_ok, hr]
    · have e1 : (cs.set off c).take (off + 1) = cs.take off ++ [c] := by
        rw [List.take_succ_eq_append_getElem (by rw [List.length_set]; omega)]
        simp [List.take_set_of_le]
      have e2 : (cs.set off c).drop (off + 1 + new.length) = cs.drop (off + (c :: new).length) := by
        rw [List.drop_set_of_lt (by omega)]
        congr 1
        simp; omega
      rw [e1, e2] at hs'
      simpa using hs'

theorem wl_store {T : TypeId} {x y : Operand} {b off k : Nat} {cs vc cs' : List Value} [hx : Ev l x (.pointer (some ⟨b, off, none⟩))] [hy : Ev l y v] [hc : Cs Γ v vc] [hT : Sz P T k] [hb : PullBk Γ b cs Δ] (hk : vc.length = k) [hsp : Sp cs off vc cs']
    (h : WL P ops Q w0 rest l (.bk b cs' :: Δ)) : WL P ops Q w0 (⟨none, .store T x y, ty, pos, after, none⟩ :: rest) l Γ := by
  intro w hs
  obtain ⟨h1, h2⟩ := hs.cs (hc := hc)
  obtain ⟨e, hle⟩ := hsp.eq
  obtain ⟨w', hr, hs'⟩ := run_storeCells (P := P) (hs.perm hb.perm) h2 hle 0 off (by omega)
  refine wpList_plain rfl fun K hK => ?_
  unfold Oper.wp
  have : (execOp (E l).eval ⟨none, .store T x y, ty, pos, after, none⟩).run P w = .ok .skip w' := by
    show (do Instr.storeAt T ((E l).eval x) ((E l).eval y); pure Next.skip : Sem Next).run P w = _
    simp only [hx.eq, hy.eq, Sem.run_bind, Instr.storeAt, Instr.sureAddr, Sem.run_pure, Result.andThen_ok, storeVar, hT.size, h1]
    simp only [List.size_toArray, hk, ne_eq, not_true_eq_false, if_false, Sem.run_pure, Result.andThen_ok, Sem.run_bind]
    simp only [hr, Result.andThen_ok]
  rw [this, Oper.upon_skip, E_put_none]
  exact hK _ _ (h w' (e ▸ hs'))
/-! ### Calls -/
/-- From Γ, function f called with vs returns r p, and leaves Γ' p. -/
def CJ (P : Program) (f : FuncId) (vs : List Value) (w0 : World) (Γ : List Atom) {ρ : Type} (r : ρ → Value) (Γ' : ρ → List Atom) : Prop :=
  ∀ w, Sat w0 w Γ → Calls P f vs.toArray w (fun e w' => ∃ p, e = .returned (r p) ∧ Sat w0 w' (Γ' p))

theorem cj_mono {f : FuncId} {vs : List Value} {ρ ρ' : Type} {r : ρ → Value} {r' : ρ' → Value} {Γ' : ρ → List Atom} {Γ'' : ρ' → List Atom} (h : CJ P f vs w0 Γ r Γ') (hm : ∀ p, ∃ p', r' p' = r p ∧ ∀ w, Sat w0 w (Γ' p) → Sat w0 w (Γ'' p')) : CJ P f vs w0 Γ r' Γ'' :=
  fun w hs => (h w hs).mono fun e w' ⟨p, he, hs'⟩ => let ⟨p', hp, hq⟩ := hm p; ⟨p', by rw [he, hp], hq w' hs'⟩

theorem run_call {xs : List Operand} {vs : List Value} {f : FuncId} {ts : Array TypeId} {dst : Option Tmp} {g : Option (Nat × Bool)} [hx : EvL l xs vs] [hf : IsFn P f] (w : World) :
    (execOp (E l).eval ⟨dst, .call { callee := .value (.func f), args := xs.toArray, argTypes := ts }, ty, pos, after, g⟩).run P w = .ok (.enter f vs.toArray) w := by
  have := hf.run vs.toArray w
  simp only [execOp, resolve, Sem.run_bind]
  show (Sem.run P (Deferred.ofValue (.func (.func f) #[] #[]) _) w).andThen _ = _
  have he : Array.map (E l).eval xs.toArray = vs.toArray := by simp [hx.eq]
  rw [he]
  simpa [Deferred.ofValue, invoke] using this

theorem wl_call {f : FuncId} {xs : List Operand} {vs : List Value} {ts : Array TypeId} {ρ : Type} {r : ρ → Value} {Γ' : ρ → List Atom} [hx : EvL l xs vs] [hf : IsFn P f] (hc : CJ P f vs w0 Γ r Γ')
    (h : ∀ p, WL P ops Q w0 rest (l.set d (r p)) (Γ' p)) : WL P ops Q w0 (⟨some d, .call { callee := .value (.func f), args := xs.toArray, argTypes := ts }, ty, pos, after, none⟩ :: rest) l Γ := by
  intro w hs
  refine wpList_plain rfl fun K hK => ?_
  unfold Oper.wp
  rw [run_call w, Oper.upon_enter]
  refine (hc w hs).mono ?_
  rintro e w' ⟨p, rfl, hs'⟩
  show K ((E l).put (some d) (r p)) w'
  rw [E_put]
  exact hK _ _ (h p w' hs')
/-- A call whose result nobody takes. -/
theorem wl_call0 {f : FuncId} {xs : List Operand} {vs : List Value} {ts : Array TypeId} {ρ : Type} {r : ρ → Value} {Γ' : ρ → List Atom} [hx : EvL l xs vs] [hf : IsFn P f] (hc : CJ P f vs w0 Γ r Γ')
    (h : ∀ p, WL P ops Q w0 rest l (Γ' p)) : WL P ops Q w0 (⟨none, .call { callee := .value (.func f), args := xs.toArray, argTypes := ts }, ty, pos, after, none⟩ :: rest) l Γ := by
  intro w hs
  refine wpList_plain rfl fun K hK => ?_
  unfold Oper.wp
  rw [run_call w, Oper.upon_enter]
  refine (hc w hs).mono ?_
  rintro e w' ⟨p, rfl, hs'⟩
  show K ((E l).put none (r p)) w'
  rw [E_put_none]
  exact hK _ _ (h p w' hs')

/-! ### The function's frame -/
def RetP (w0 : World) {ρ : Type} (r : ρ → Value) (Γ' : ρ → List Atom) : Ending → World → Prop := fun e w' => ∃ p, e = .returned (r p) ∧ Sat w0 w' (Γ' p)

theorem cj_intro {f : FuncId} {fn : Func} {c : Code} {vs : List Value} {n : Nat} {ρ : Type} {r : ρ → Value} {Γ' : ρ → List Atom} (hf : P.funcs[f]? = some fn) (hb : fn.body = some c) (hn : fn.ntmps = n)
    (hl : vs ++ List.replicate (n - vs.length) undef = l) (h : WC P (bodyPost P fn (RetP w0 r Γ')) w0 c l Γ) : CJ P f vs w0 Γ r Γ' := by
  intro w hs
  refine calls_of_wp hf hb ?_
  have := h w hs
  rw [← hl, ← hn] at this
  have he : vs.toArray ++ Array.replicate (fn.ntmps - vs.toArray.size) undef = (vs ++ List.replicate (fn.ntmps - vs.length) undef).toArray := by simp
  rw [he]
  exact this

/-- What the result variables hold. -/
def resOf (tmps : Array Value) : ResultVar → Sem Value
  | .tmp t => pure (tmps.getD t undef)
  | .cell a t => do loadVar t (← asAddr (tmps.getD a undef))

theorem results_eq (fn : Func) (tmps : Array Value) : results fn tmps = (do let vs ← fn.results.mapM (resOf tmps); pure (if h : vs.size = 1 then vs[0] else .tuple vs)) := by
  unfold results
  congr 1

class Rs (P : Program) (Γ : List Atom) (l : List Value) (rs : List ResultVar) (vs : outParam (List Value)) : Prop where
  run : ∀ {w0 w : World}, Sat w0 w Γ → (rs.mapM (resOf (E l).tmps)).run P w = .ok vs w
instance : Rs P Γ l [] [] := ⟨fun _ => by simp⟩
theorem E_getD {t : Nat} [h : Ge l t v] : (E l).tmps.getD t undef = v := by simp [E, h.eq]
theorem rs_cons {r : ResultVar} {rs : List ResultVar} {vs : List Value} (h : ∀ {w0 w : World}, Sat w0 w Γ → (resOf (E l).tmps r).run P w = .ok v w) (h' : Rs P Γ l rs vs) : Rs P Γ l (r :: rs) (v :: vs) := ⟨fun hs => by
  simp only [List.mapM_cons, Sem.run_bind, h hs, Result.andThen_ok, h'.run hs, Sem.run_pure]⟩
instance {t : Nat} {rs : List ResultVar} {vs : List Value} [h : Ge l t v] [h' : Rs P Γ l rs vs] : Rs P Γ l (.tmp t :: rs) (v :: vs) :=
  rs_cons (fun _ => by simp only [resOf, E_getD (h := h), Sem.run_pure]) h'
instance {t T b : Nat} {cs : List Value} {rs : List ResultVar} {vs : List Value} [h : Ge l t (.pointer (some ⟨b, 0, none⟩))] [hT : Sc P T] [hb : HasBk Γ b cs] [hv : Ge cs 0 v] [h' : Rs P Γ l rs vs] : Rs P Γ l (.cell t T :: rs) (v :: vs) :=
  rs_cons (fun {w0 w} hs => by
    obtain ⟨e, he⟩ := hs.bk (hr := hb)
    have hc : w.cell? ⟨b, 0, none⟩ = some v := by simp only [World.cell?, he]; simpa using hv.eq
    simp [resOf, E_getD (h := h), asAddr, loadVar, Sem.run_bind, hT.agg, load, Sem.run, hc]) h'
instance {t T b k : Nat} {cs : List Value} {rs : List ResultVar} {vs out : List Value} [h : Ge l t (.pointer (some ⟨b, 0, none⟩))] [hT : Ag P T k] [hb : HasBk Γ b cs] [hv : Tk cs 0 k out] [h' : Rs P Γ l rs vs] : Rs P Γ l (.cell t T :: rs) (.agg out.toArray :: vs) :=
  rs_cons (fun {w0 w} hs => by
    obtain ⟨e, he⟩ := hs.bk (hr := hb)
    obtain ⟨h1, h2⟩ := hv.eq
    have hk : out.length = k := by rw [← h1]; simp; omega
    have hc := run_loadCells (P := P) (w := w) (p := ⟨b, 0, none⟩) (cs := out) 0 #[] (fun j hj => by
      rw [add_lit, Nat.zero_add, Nat.zero_add]
      have : out[j]? = cs[j]? := by rw [← h1, List.getElem?_take, if_pos (by omega), List.getElem?_drop, Nat.zero_add]
      simp only [World.cell?, he, this]; simp)
    rw [hk] at hc
    simp only [resOf, E_getD (h := h), asAddr, loadVar, Sem.run_bind, Sem.run_pure, Result.andThen_ok, hT.agg, if_true, hT.size, loadCells, hc]
    simp) h'

/-- One result, several, none. -/
def tupOf : List Value → Value
  | [v] => v
  | vs => .tuple vs.toArray

theorem run_results {fn : Func} {rs : List ResultVar} {vs : List Value} {w : World} (hf : fn.results = rs.toArray) [hr : Rs P Γ l rs vs] (hs : Sat w0 w Γ) : (results fn (E l).tmps).run P w = .ok (tupOf vs) w := by
  rw [results_eq, hf, Array.mapM_eq_mapM_toList]
  simp only [Sem.run_bind, map_eq_pure_bind, hr.run hs, Result.andThen_ok, Sem.run_pure]
  match vs with
  | [] => simp [tupOf]
  | [v] => simp [tupOf]
  | a :: b :: vs => simp [tupOf]

theorem wq_ret {fn : Func} {rs : List ResultVar} {vs : List Value} {ρ : Type} {r : ρ → Value} {Γ' : ρ → List Atom} (hf : fn.results = rs.toArray) [hr : Rs P Γ l rs vs] (p : ρ) (hv : r p = tupOf vs) (hs : Ent w0 Γ (Γ' p)) :
    WQ (bodyPost P fn (RetP w0 r Γ')) w0 .ret l Γ := fun w hw => ⟨rfl, _, run_results hf hw, p, by rw [hv], hs w hw⟩
theorem wq_end {fn : Func} {rs : List ResultVar} {vs : List Value} {ρ : Type} {r : ρ → Value} {Γ' : ρ → List Atom} (hf : fn.results = rs.toArray) [hr : Rs P Γ l rs vs] (p : ρ) (hv : r p = tupOf vs) (hs : Ent w0 Γ (Γ' p)) :
    WQ (bodyPost P fn (RetP w0 r Γ')) w0 .normal l Γ := fun w hw => ⟨rfl, _, run_results hf hw, p, by rw [hv], hs w hw⟩

/-! ### Loops -/
def patch : List Value → List Nat → List Value → List Value
  | l, j :: J, v :: vs => patch (l.set j v) J vs
  | l, _, _ => l

/-- Behind a round: the relation again, and the measure has gone down. -/
def Next_ (w0 : World) (l : List Value) (K JJ : List Nat) {ι : Type} (vals : ι → List Value) (ctx : ι → List Atom) (pre : ι → Prop) (μ : ι → Nat) (i : ι) : Act → World → Prop := fun a w =>
  ∃ i' u, pre i' ∧ μ i' < μ i ∧ a = E (patch (patch l K (vals i')) JJ (JJ.map u)) ∧ Sat w0 w (ctx i')

theorem wc_loop (K JJ : List Nat) {ι : Type} (vals : ι → List Value) (ctx : ι → List Atom) (pre : ι → Prop) (μ : ι → Nat) {c : Code} (i0 : ι)
    (h0 : patch (patch l K (vals i0)) JJ (JJ.map fun j => l.getD j undef) = l) (hp : pre i0) (hsub : Ent w0 Γ (ctx i0))
    (round : ∀ i u l', patch (patch l K (vals i)) JJ (JJ.map u) = l' → pre i → WC P (Exit.then (Next_ w0 l K JJ vals ctx pre μ i) Q) w0 c l' (ctx i)) : WC P Q w0 (.loop c) l Γ := by
  intro w hs
  have key : ∀ n, ∀ (i : ι) (u : Nat → Value) w, μ i = n → pre i → Sat w0 w (ctx i) → ∀ b k cs,
      ∃ e a' w', Q e a' w' ∧ Arrives P (lone (b.at (E (patch (patch l K (vals i)) JJ (JJ.map u))) (.code c :: .inLoop c :: k)) cs w) b k cs e a' w' := by
    intro n
    induction n using Nat.strongRecOn with
    | _ n ih =>
      intro i u w hn hpi hsi b k cs
      obtain ⟨e, a₁, w₁, hq, harr⟩ := round i u _ rfl hpi w hsi b (.inLoop c :: k) cs
      cases e with
      | normal =>
        obtain ⟨i', u', hp', hlt, rfl, hs'⟩ := hq
        obtain ⟨e₂, a₂, w₂, hq₂, harr₂⟩ := ih (μ i') (hn ▸ hlt) i' u' w₁ rfl hp' hs' b k cs
        exact ⟨e₂, a₂, w₂, hq₂, .of_steps (Steps.trans harr (.one step_inLoop)) harr₂⟩
      | exit id => exact ⟨_, a₁, w₁, hq, .pass (x := .inLoop c) rfl (fun _ _ => .inl (by simp)) harr⟩
      | goto l => exact ⟨_, a₁, w₁, hq, .pass (x := .inLoop c) rfl (fun _ _ => .inl (by simp)) harr⟩
      | ret => exact ⟨_, a₁, w₁, hq, .pass (x := .inLoop c) rfl (fun _ _ => .inl (by simp)) harr⟩
      | panic ch => exact ⟨_, a₁, w₁, hq, .pass (x := .inLoop c) rfl (fun _ _ => .inl (by simp)) harr⟩
      | outgrown => exact ⟨_, a₁, w₁, hq, .pass (x := .inLoop c) rfl (fun _ _ => .inl (by simp)) harr⟩
  intro b k cs
  have := key _ i0 (fun j => l.getD j undef) w rfl hp (hsub w hs) b k cs
  rw [h0] at this
  obtain ⟨e, a', w', hq, harr⟩ := this
  exact ⟨e, a', w', hq, .of_steps (.one step_loop) harr⟩

theorem wq_next {K JJ : List Nat} {l0 : List Value} {ι : Type} {vals : ι → List Value} {ctx : ι → List Atom} {pre : ι → Prop} {μ : ι → Nat} {i : ι} (i' : ι) (hp : pre i') (hμ : μ i' < μ i)
    (hl : patch (patch l0 K (vals i')) JJ (JJ.map fun j => l.getD j undef) = l) (hsub : Ent w0 Γ (ctx i')) : WQ (Exit.then (Next_ w0 l0 K JJ vals ctx pre μ i) Q) w0 .normal l Γ :=
  fun w hs => ⟨i', _, hp, hμ, by rw [hl], hsub w hs⟩

end ops

end Go.Eng
