/- The rules of the walk: ranges over functions. -/
import Derived.Test.YtogmjihokkdcfaaGreatDoorEngY
import Derived.RangeFuncOwn
namespace Go.Eng
open Go Go.RowKit
set_option linter.unusedVariables false
set_option linter.unusedSimpArgs false

/-! ### From the plain walk to the fenced one -/
/-- No fence; within a round maybe. -/
abbrev Wd (r : Option Nat) : Fence := { Fence.wide with round := r }
section conv
variable {r : Option Nat} {n : Nat} {P : Program} {ops : Array Oper}
theorem callsIn_wd {f : FuncId} {args : Array Value} {w : World} {R : Ending → World → Prop} (h : Calls P f args w R) : CallsIn (Wd r) n P f args w R :=
  (callsIn_wide (n := n)).2 h
theorem rowsIn_wd {row : String} {args : Array Value} {w : World} {R : Value → World → Prop} (h : Rows P row args w R) : RowsIn (Wd r) n P row args w R :=
  fun c cs _ => let ⟨v, w', hr, hs⟩ := h c cs; ⟨v, w', hr, stepsIn_wide.2 hs⟩
theorem oper_in {o : Oper} {a : Act} {w : World} {next next' : Act → World → Prop} {Q Q' : Exit → Act → World → Prop} (hd : r = none ∨ ∀ c, o.op ≠ .defer c) (hn : ∀ a w, next a w → next' a w) (hp : ∀ c a w, Q (.panic c) a w → Q' (.panic c) a w) (ho : LetsOut Q → LetsOut Q')
    (h : o.wp P a w next Q) : o.wpIn (Wd r) n P a w next' Q' := by
  refine ⟨fun f _ => trivial, ?_⟩
  have hse : Oper.semAt (Wd r).round a.eval o = execOp a.eval o := by
    rcases hd with rfl | hd
    · rfl
    · exact Oper.semAt_eq _ _ _ hd
  rw [hse]
  unfold Oper.wp at h
  generalize (execOp a.eval o).run P w = res at *
  cases res with
  | ok v w' =>
    cases v with
    | value v => exact hn _ _ h
    | skip => exact hn _ _ h
    | defer d => exact hn _ _ h
    | enter f args =>
      refine ⟨fun hh => (by cases hh), callsIn_wd ?_⟩
      refine Calls.mono h fun e w'' he => ?_
      cases e with
      | returned v => exact hn _ _ he
      | panicked c => exact hp _ _ _ he
      | outgrown => exact ho he
    | row row args => exact ⟨fun hh => (by cases hh), rowsIn_wd (Rows.mono h fun v w'' he => hn _ _ he)⟩
    | _ => exact h.elim
  | halt x w' =>
    cases x with
    | panic v => exact hp _ _ _ h
    | _ => exact h.elim
/-- No operation of the list is a defer statement. -/
def noDefer (l : List Oper) : Bool := l.all fun o => match o.op with | .defer _ => false | _ => true
theorem noDefer_cons {o : Oper} {l : List Oper} (h : noDefer (o :: l) = true) : (∀ c, o.op ≠ .defer c) ∧ noDefer l = true := by
  unfold noDefer at h
  rw [List.all_cons, Bool.and_eq_true] at h
  refine ⟨fun c e => ?_, h.2⟩
  rw [e] at h
  cases h.1
theorem list_in {suf : List Oper} {Q Q' : Exit → Act → World → Prop} (hn : ∀ a w, Q .normal a w → wpListIn (Wd r) n P ops Q' suf a w) (hp : ∀ c a w, Q (.panic c) a w → Q' (.panic c) a w) (ho : ¬ LetsOut Q) : ∀ (pre : List Oper) (a : Act) (w : World), (r = none ∨ noDefer pre = true) → wpList P ops Q pre a w → wpListIn (Wd r) n P ops Q' (pre ++ suf) a w
  | [], a, w, _, h => hn a w h
  | o :: pre, a, w, hd, h => by
    have hd1 : r = none ∨ ∀ c, o.op ≠ .defer c := hd.imp id fun h => (noDefer_cons h).1
    have hd2 : r = none ∨ noDefer pre = true := hd.imp id fun h => (noDefer_cons h).2
    rw [List.cons_append]
    unfold wpList at h
    unfold wpListIn
    split
    · rename_i hw
      rw [if_pos hw] at h
      rcases h with h | h
      · exact oper_in hd1 (fun a w h => list_in hn hp ho pre a w hd2 h) hp (fun h => absurd h ho) h
      · exact absurd h.2 ho
    · rename_i hw
      rw [if_neg hw] at h
      exact ⟨fun f _ => trivial, list_in hn hp ho pre _ w hd2 h⟩
end conv
/-- A post that no outgrowing meets. -/
class NoOut (Q : Exit → Act → World → Prop) : Prop where
  out : ¬ LetsOut Q
instance : NoOut (fun _ _ _ => False) := ⟨fun ⟨_, _, h⟩ => h⟩
instance {K : Act → World → Prop} {Q : Exit → Act → World → Prop} [h : NoOut Q] : NoOut (Exit.then K Q) := ⟨fun ⟨a, w, h'⟩ => h.out ⟨a, w, h'⟩⟩
instance {id : Nat} {Q : Exit → Act → World → Prop} [h : NoOut Q] : NoOut (Exit.inBlock id Q) := ⟨fun ⟨a, w, h'⟩ => h.out ⟨a, w, h'⟩⟩
instance {P : Program} {L : Nat} {R : Ending → World → Prop} : NoOut (roundPost P L R) := ⟨fun ⟨_, _, h⟩ => h⟩
instance {P : Program} {fn : Func} {w0 : World} {ρ : Type} {q : ρ → Value} {Γ' : ρ → List Atom} : NoOut (bodyPost P fn (RetP w0 q Γ')) := ⟨fun ⟨_, _, h⟩ => by obtain ⟨p, e, _⟩ := h; cases e⟩
instance {F : Fence} {n : Nat} {P : Program} {fn : Func} {w0 : World} {ρ : Type} {q : ρ → Value} {Γ' : ρ → List Atom} : NoOut (bodyPostM F n P fn (RetP w0 q Γ')) := ⟨fun ⟨_, _, h⟩ => by obtain ⟨p, e, _⟩ := h; cases e⟩

/-! ### Blocks that are no cells -/
structure Blk where
  n : Nat
  o : Obj
instance repBlk : Rep Blk where
  sz := 1
  rd ok w cs x := cs = [.pointer (some ⟨x.n, 0, none⟩)] ∧ ok x.n ∧ w.heap[x.n]? = some x.o
  ow ok w F cs x := F = [x.n] ∧ cs = [.pointer (some ⟨x.n, 0, none⟩)] ∧ w.heap[x.n]? = some x.o
  pos := by decide
  rd_len h := by rw [h.1]; rfl
  rd_one h := fun c hc => by rw [h.1, List.mem_singleton] at hc; rw [hc]; rfl
  rd_mono h hm := by
    obtain ⟨h1, h2, h3⟩ := h
    have hlt := (Array.getElem?_eq_some_iff.1 h3).1
    obtain ⟨h4, h5⟩ := hm _ h2 hlt
    exact ⟨h1, h4, by rw [h5]; exact h3⟩
  ow_mono h hf hm := by
    obtain ⟨h1, h2, h3⟩ := h
    exact ⟨h1, h2, by rw [hf _ (by rw [h1]; simp)]; exact h3⟩
  ow_rd h _ hf := by
    obtain ⟨h1, h2, h3⟩ := h
    exact ⟨h2, hf _ (by rw [h1]; simp), h3⟩
  ow_lt h b hb := by
    obtain ⟨h1, h2, h3⟩ := h
    rw [h1, List.mem_singleton] at hb
    rw [hb]
    exact (Array.getElem?_eq_some_iff.1 h3).1
/-- Block n is owned; it holds o. -/
abbrev blk (n : Nat) (o : Obj) : Atom := @Atom.ow Blk repBlk [.pointer (some ⟨n, 0, none⟩)] ⟨n, o⟩
theorem sat_blk {w0 w : World} {Γ : List Atom} {n : Nat} {o : Obj} (h : Sat w0 w (blk n o :: Γ)) : w.heap[n]? = some o := by
  obtain ⟨_, F, _, _, f, g, _, ⟨_, _, h3⟩, _⟩ := h
  exact h3
theorem Sat.putB {w0 w : World} {Γ : List Atom} {n : Nat} {o : Obj} (o' : Obj) (h : Sat w0 w (blk n o :: Γ)) : Sat w0 (w.putObj n o') (blk n o' :: Γ) := by
  obtain ⟨hb, F, hn, hl, f, g, rfl, ⟨rfl, _, hc⟩, hs⟩ := h
  have hlt : n < w.heap.size := (Array.getElem?_eq_some_iff.1 hc).1
  have hg : n ∉ g := by have := hn; simp at this; exact this.1
  have hsame : ∀ k, k ≠ n → SameB w (w.putObj n o') k := fun k hk => World.putObj_heap_other hk
  refine ⟨hb.grown (grownBy_putObj' w n o') hb.size (fun k e => by cases e; exact hl n (by simp)), [n] ++ g, hn, hl, [n], g, rfl, ⟨rfl, rfl, World.putObj_heap_same hlt⟩, ?_⟩
  exact hs.mono (fun k hk _ => ⟨hk, hsame k (fun e => hk (by simp [e]))⟩) (by simp) (fun k hk => hsame k (fun e => hg (e ▸ hk)))
theorem Sat.allocB {w0 w : World} {Γ : List Atom} (h : Sat w0 w Γ) (o : Obj) : Sat w0 (w.alloc o) (blk w.heap.size o :: Γ) := by
  obtain ⟨hb, F, hn, hl, hs⟩ := h
  have hlt := hs.lt
  refine ⟨hb.alloc hb.size _, w.heap.size :: F, ?_, ?_, [w.heap.size], F, rfl, ⟨rfl, rfl, heap_alloc_new w _⟩, ?_⟩
  · exact List.nodup_cons.2 ⟨fun hm => Nat.lt_irrefl _ (hlt _ hm), hn⟩
  · intro b hb'
    rcases List.mem_cons.1 hb' with rfl | hb'
    · exact hb.size
    · exact hl b hb'
  · refine hs.mono (fun b hb hlt => ⟨?_, Below.heap_alloc _ _ _ hlt⟩) (by simp) (fun b hb => Below.heap_alloc _ _ _ (hlt b hb))
    intro hm
    rcases List.mem_cons.1 hm with rfl | hm
    · exact Nat.lt_irrefl _ hlt
    · exact hb hm

/-! ### Code within a round -/
def WCI (P : Program) (L : Nat) (Q : Exit → Act → World → Prop) (w0 : World) (c : Code) (l : List Value) (Γ : List Atom) : Prop :=
  ∀ w, Sat w0 w Γ → c.wpIn (Wd (some L)) 0 P Q (E l) w
section wci
variable {P : Program} {L : Nat} {Q Q' : Exit → Act → World → Prop} {w0 : World} {l : List Value} {Γ Δ : List Atom} {x y : Code}
instance : Red (WCI P L Q w0 (.seq x y) l Γ) (WCI P L (Exit.then (y.wpIn (Wd (some L)) 0 P Q) Q) w0 x l Γ) := ⟨fun h w hs => wpIn_seq (h w hs)⟩
instance : Red (WCI P L Q w0 .skip l Γ) (WQ Q w0 .normal l Γ) := ⟨fun h w hs => wpIn_skip (h w hs)⟩
instance {id : Nat} : Red (WCI P L Q w0 (.block id x) l Γ) (WCI P L (Exit.inBlock id Q) w0 x l Γ) := ⟨fun h w hs => wpIn_block (h w hs)⟩
instance : Red (WQ (Exit.then (y.wpIn (Wd (some L)) 0 P Q) Q') w0 .normal l Γ) (WCI P L Q w0 y l Γ) := ⟨fun h => h⟩
instance {c : Operand} [hc : Ev l c (.bool true)] : Red (WCI P L Q w0 (.cond c x y) l Γ) (WCI P L Q w0 x l Γ) := ⟨fun h w hs => wpIn_cond_true hc.eq (h w hs)⟩
instance {c : Operand} [hc : Ev l c (.bool false)] : Red (WCI P L Q w0 (.cond c x y) l Γ) (WCI P L Q w0 y l Γ) := ⟨fun h w hs => wpIn_cond_false hc.eq (h w hs)⟩
theorem wci_if {c : Operand} {b : Bool} {p q : Prop} [hc : Ev l c (.bool b)] [hp : BoolP b p] [hn : BoolN b q] (ht : p → WCI P L Q w0 x l Γ) (hf : q → WCI P L Q w0 y l Γ) : WCI P L Q w0 (.cond c x y) l Γ := fun w hs => by
  cases b with
  | true => exact wpIn_cond_true hc.eq (ht (hp.iff.1 rfl) w hs)
  | false => exact wpIn_cond_false hc.eq (hf (hn.iff.1 rfl) w hs)
instance {c : Operand} {b : Bool} {p q : Prop} [hc : Ev l c (.bool b)] [hp : BoolP b p] [hn : BoolN b q] : RedI (WCI P L Q w0 (.cond c x y) l Γ) p q (WCI P L Q w0 x l Γ) (WCI P L Q w0 y l Γ) := ⟨fun h1 h2 => wci_if h1 h2⟩
/-- Not a defer statement. -/
class NoD (op : Op) : Prop where
  ne : ∀ c, op ≠ .defer c
instance {x : Operand} : NoD (.move x) := ⟨fun _ h => by cases h⟩
instance {x : Operand} : NoD (.assign x) := ⟨fun _ h => by cases h⟩
instance {a b c : Operand} : NoD (.pick a b c) := ⟨fun _ h => by cases h⟩
instance {t : TypeId} : NoD (.alloc t) := ⟨fun _ h => by cases h⟩
instance {t : TypeId} {x : Operand} : NoD (.box t x) := ⟨fun _ h => by cases h⟩
instance {t : TypeId} {ps : Array (Nat × Operand)} : NoD (.build t ps) := ⟨fun _ h => by cases h⟩
instance {t : TypeId} {n : Nat} {ps : Array (Nat × Operand)} : NoD (.buildSlice t n ps) := ⟨fun _ h => by cases h⟩
instance {t : TypeId} {x : Operand} : NoD (.load t x) := ⟨fun _ h => by cases h⟩
instance {t : TypeId} {x y : Operand} : NoD (.store t x y) := ⟨fun _ h => by cases h⟩
instance {x : Operand} : NoD (.nilCheck x) := ⟨fun _ h => by cases h⟩
instance {o : BinOp} {T U : TypeId} {x y : Operand} : NoD (.binOp o T x y U) := ⟨fun _ h => by cases h⟩
instance {o : UnOp} {T : TypeId} {x : Operand} : NoD (.unOp o T x) := ⟨fun _ h => by cases h⟩
instance {T U : TypeId} {x : Operand} : NoD (.convert T U x) := ⟨fun _ h => by cases h⟩
instance {T : TypeId} {x : Operand} {i : Nat} : NoD (.fieldAddr T x i) := ⟨fun _ h => by cases h⟩
instance {T : TypeId} {x y : Operand} : NoD (.indexAddr T x y) := ⟨fun _ h => by cases h⟩
instance {x : Operand} {i : Nat} : NoD (.extract x i) := ⟨fun _ h => by cases h⟩
instance {c : Call} : NoD (.call c) := ⟨fun _ h => by cases h⟩
instance {T : TypeId} {x : Operand} {a b c : Option Operand} : NoD (.slice T x a b c) := ⟨fun _ h => by cases h⟩
class NoDf (ol : List Oper) : Prop where
  eq : noDefer ol = true
instance : NoDf [] := ⟨rfl⟩
instance {o : Oper} {ol : List Oper} [h1 : NoD o.op] [h2 : NoDf ol] : NoDf (o :: ol) := ⟨by
  unfold noDefer
  rw [List.all_cons, Bool.and_eq_true]
  refine ⟨?_, h2.eq⟩
  have := h1.ne
  split
  · rename_i c hc
    exact absurd hc (this c)
  · rfl⟩
theorem wci_region {id : Nat} {ol : List Oper} [ho : NoOut Q] (hd : noDefer ol = true) (h : WL P ol.toArray Q w0 ol l Γ) : WCI P L Q w0 (.region id ol.toArray false) l Γ := fun w hs => by
  refine wpIn_region_lit ?_
  have := list_in (r := some L) (n := 0) (P := P) (ops := ol.toArray) (suf := []) (Q := Q) (Q' := Q) (fun a w h => wpListIn_nil h) (fun _ _ _ h => h) ho.out ol (E l) w (.inr hd) (h w hs)
  rwa [List.append_nil] at this
instance {id : Nat} {ol : List Oper} [ho : NoOut Q] [hd : NoDf ol] : Red (WCI P L Q w0 (.region id ol.toArray false) l Γ) (WL P ol.toArray Q w0 ol l Γ) := ⟨fun g => wci_region hd.eq g⟩
end wci
/-! ### The round's begin and end -/
/-- Behind the assignment to the loop's variables. -/
def BeginK (P : Program) (L : Nat) (body : Code) (R : Ending → World → Prop) (a : Act) (w : World) : Prop :=
  ∃ w2, (Instr.beginRound L).run P w = .ok () w2 ∧ body.wpIn (Wd (some L)) 0 P (roundPost P L R) a w2
section rounds
variable {P : Program} {L : Nat} {R : Ending → World → Prop} {w0 : World} {l : List Value} {Γ Δ : List Atom} {body : Code} {rec : Loop}
theorem wq_begin [hp : PullOw Blk repBlk Γ [.pointer (some ⟨L, 0, none⟩)] ⟨L, .loop rec⟩ Δ] (hr : rec.state = .ready) (h : WCI P L (roundPost P L R) w0 body l (blk L (.loop { rec with state := .busy }) :: Δ)) : WQ (Exit.then (BeginK P L body R) (fun _ _ _ => False)) w0 .normal l Γ := fun w hs => by
  have hs2 := hs.perm hp.perm
  exact ⟨_, run_beginRound (sat_blk hs2) hr, h _ (hs2.putB _)⟩
theorem wq_round [hp : PullOw Blk repBlk Γ [.pointer (some ⟨L, 0, none⟩)] ⟨L, .loop rec⟩ Δ] (h : ∀ w, Sat w0 w (blk L (.loop { rec with state := .ready, pending := none }) :: Δ) → R (.returned (.bool true)) w) : WQ (roundPost P L R) w0 .normal l Γ := fun w hs => by
  have hs2 := hs.perm hp.perm
  exact ⟨_, _, run_endRound none (sat_blk hs2), h _ (hs2.putB _)⟩
end rounds
/-! ### A call of yield -/
/-- What a call of yield does: the caller's state goes from one index to another. D: what is yielded; ys: what has been. -/
structure YieldC (P : Program) (L : Nat) (w0 : World) {ι D : Type} (enc : D → Value → List Value) (own : D → List Int) (ok : List D → D → Prop) (Γi : List Atom) (Gt : ι → List Atom) (Inv : List D → ι → Prop) : Prop where
  run : ∀ ys d v i, ok ys d → Inv ys i → ∀ w, Sat w0 w (.ow [v] (own d) :: (Γi ++ Gt i)) → YieldAt Fence.wide 0 P L (enc d v).toArray w fun e w' => e = .returned (.bool true) ∧ ∃ i', Inv (ys ++ [d]) i' ∧ Sat w0 w' (Γi ++ Gt i')
/-- The region up to the call of yield is done; the call and what is behind it. -/
def YQ (P : Program) (ops : Array Oper) (Q : Exit → Act → World → Prop) (suf : List Oper) : Exit → Act → World → Prop
  | .normal, a, w => wpListIn Fence.wide 1 P ops Q suf a w
  | _, _, _ => False
instance {P : Program} {ops : Array Oper} {Q : Exit → Act → World → Prop} {suf : List Oper} : NoOut (YQ P ops Q suf) := ⟨fun ⟨_, _, h⟩ => h⟩
section yields
variable {P : Program} {Q : Exit → Act → World → Prop} {w0 : World} {l : List Value} {Γ Δ : List Atom} {ops : Array Oper} {L : Nat}
theorem wc_yield {id : Nat} (n : Nat) {ol : List Oper} (h : WL P ol.toArray (YQ P ol.toArray Q (ol.drop n)) w0 (ol.take n) l Γ) : WC P Q w0 (.region id ol.toArray false) l Γ := fun w hs => by
  refine wpIn_wide.1 (wpIn_region_lit (n := 1) ?_)
  have := list_in (r := none) (n := 1) (P := P) (Q' := Q) (suf := ol.drop n) (fun a w h => h) (fun _ _ _ h => h.elim) (NoOut.out (Q := YQ P ol.toArray Q (ol.drop n))) (ol.take n) (E l) w (.inl rfl) (h w hs)
  rwa [List.take_append_drop] at this
/-- The first n of some operations. -/
instance {n : Nat} {o : Oper} {rest : List Oper} : Red (WL P ops Q w0 (List.take (n + 1) (o :: rest)) l Γ) (WL P ops Q w0 (o :: List.take n rest) l Γ) := ⟨fun h => h⟩
instance {rest : List Oper} : Red (WL P ops Q w0 (List.take 0 rest) l Γ) (WL P ops Q w0 [] l Γ) := ⟨fun h => h⟩
theorem wq_yield {d : Nat} {t : Operand} {xs : List Operand} {vs : List Value} {ts : Array TypeId} {ty : TypeId} {pos : String} {after : Array Edge} {rest : List Oper} {ι D : Type} {enc : D → Value → List Value} {own : D → List Int} {ok : List D → D → Prop} {Γi : List Atom} {Gt : ι → List Atom} {Inv : List D → ι → Prop} [ho : NoOut Q]
    [ht : Ev l t (.func (.yield L) #[] #[])] [hx : EvL l xs vs] (hY : YieldC P L w0 enc own ok Γi Gt Inv) {ys : List D} {dd : D} {v : Value} {i : ι} (hk : ok ys dd) (hi : Inv ys i) (hv : vs = enc dd v) (he : Ent w0 Γ (.ow [v] (own dd) :: (Γi ++ Gt i)))
    (h : ∀ i', Inv (ys ++ [dd]) i' → WL P ops Q w0 rest (l.set d (.bool true)) (Γi ++ Gt i')) : WQ (YQ P ops Q (⟨some d, .call { callee := .value t, args := xs.toArray, argTypes := ts }, ty, pos, after, none⟩ :: rest)) w0 .normal l Γ := fun w hs => by
  obtain ⟨fn, tmps, assign, body, hy, hR⟩ := hY.run ys dd v i hk hi w (he w hs)
  show wpListIn Fence.wide 1 P ops Q (_ :: rest) (E l) w
  refine wpListIn_plain rfl fun K hK => ?_
  refine ⟨fun f _ => trivial, ?_⟩
  have hrun : (execOp (E l).eval ⟨some d, .call { callee := .value t, args := xs.toArray, argTypes := ts }, ty, pos, after, none⟩).run P w = .ok (.round L fn tmps assign body) w := by
    have hea : Array.map (E l).eval xs.toArray = vs.toArray := by simp [hx.eq]
    simp only [execOp, resolve, Sem.run_bind, ht.eq, hea]
    rw [hv]
    simpa [Deferred.ofValue, invoke] using hy
  rw [Oper.semAt_eq _ _ _ (fun c h => by cases h), hrun, Oper.uponIn_round]
  refine ⟨fun hh => (by cases hh), RoundIn.mono hR ?_⟩
  rintro e w' ⟨rfl, i', hi', hs'⟩
  show K ((E l).put (some d) (.bool true)) w'
  rw [E_put]
  refine hK _ _ ?_
  have := list_in (r := none) (n := 1) (P := P) (ops := ops) (suf := []) (Q := Q) (Q' := Q) (fun a w h => wpListIn_nil h) (fun _ _ _ h => h) ho.out rest (E (l.set d (.bool true))) w' (.inl rfl) (h i' hi' w' hs')
  rwa [List.append_nil] at this
end yields
/-! ### The statement -/
/-- The activation behind the loop: the block of the rounds' deferred calls is marked. -/
def ED (l : List Value) (b : Nat) : Act := { tmps := l.toArray, defers := [{ target := .collected b, args := #[] }] }
section stmt
variable {P : Program} {Q : Exit → Act → World → Prop} {w0 : World} {l : List Value} {Γ : List Atom}
theorem sat_mid {w : World} {A B : List Atom} {X : Atom} (h : Sat w0 w (X :: (A ++ B))) : Sat w0 w (A ++ X :: B) := h.perm (List.perm_middle.symm)
theorem sat_mid' {w : World} {A B : List Atom} {X : Atom} (h : Sat w0 w (A ++ X :: B)) : Sat w0 w (X :: (A ++ B)) := h.perm List.perm_middle
/-- The caller's state, and the two blocks of the loop. -/
def GtR {ι : Type} (Gt : ι → List Atom) (L : Nat) (r : Loop) (i : ι) : List Atom := blk L (.loop r) :: blk r.defers (.deferred (some [])) :: Gt i
/-- The temporaries of a round: what is yielded is laid into the loop's parameters. -/
def lrOf (l : List Value) (pl : List Tmp) (vs : List Value) : List Value := (pl.zip vs).foldl (fun t pv => t.set pv.1 pv.2) l
theorem lrOf_eq (l : List Value) (pl : List Tmp) (vs : List Value) : (pl.toArray.zip vs.toArray).foldl (fun t (p, v) => t.setIfInBounds p v) l.toArray = (lrOf l pl vs).toArray := by
  unfold lrOf
  rw [List.zip_toArray]
  rw [List.foldl_toArray]
  induction pl.zip vs generalizing l with
  | nil => rfl
  | cons pv ps ih =>
    rw [List.foldl_cons, List.foldl_cons, ← ih]
    congr 1
    simp
theorem wc_rangeFunc {ι D : Type} {g : Operand} {gf : Nat} {lb : List Value} {pl : List Tmp} {assign body : Code} (enc : D → Value → List Value) (own : D → List Int) (ok : List D → D → Prop) (Inv : List D → ι → Prop) (all : List D) (Γi : List Atom) (Gt : ι → List Atom) (i0 : ι) (rv : Value)
    [hg : Ev l g (.func (.func gf) #[] lb.toArray)] [hf : IsFn P gf] (hps : ∀ d v, (enc d v).length = pl.length)
    (h0 : Inv [] i0) (hE : Ent w0 Γ (Γi ++ Gt i0))
    (hit : ∀ (L : Nat) (r : Loop), YieldC P L w0 enc own ok Γi (GtR Gt L r) Inv → CJ P gf (.func (.yield L) #[] #[] :: lb) w0 (Γi ++ GtR Gt L r i0) (fun _ : { i : ι // Inv all i } => rv) (fun q => Γi ++ GtR Gt L r q.1))
    (hbody : ∀ (L : Nat) (r : Loop) (R : Ending → World → Prop) (ys : List D) (d : D) (v : Value) (i : ι), r.state = .ready → ok ys d → Inv ys i →
      (∀ i', Inv (ys ++ [d]) i' → ∀ w, Sat w0 w (Γi ++ GtR Gt L { r with pending := none } i') → R (.returned (.bool true)) w) →
      WCI P L (Exit.then (BeginK P L body R) (fun _ _ _ => False)) w0 assign (lrOf l pl (enc d v)) (.ow [v] (own d) :: (Γi ++ GtR Gt L r i)))
    (hdone : ∀ (b : Nat) (i : ι), Inv all i → WQ (fun e a w => Q e { a with defers := [{ target := .collected b, args := #[] }] } w) w0 .normal l (blk b (.deferred (some [])) :: (Γi ++ Gt i))) :
    WC P Q w0 (.rangeFunc g pl.toArray assign body) l Γ := fun w hs => by
  refine wpIn_wide.1 (wpIn_rangeFunc (n := 1) (F := Fence.wide) fun fn _ => ?_)
  obtain ⟨rec, hrec⟩ : ∃ rec : Loop, rec = { state := .ready, pending := none, fn, tmps := l.toArray, params := pl.toArray, assign, body, defers := w.heap.size } := ⟨_, rfl⟩
  have hs1 : Sat w0 ((w.alloc (.deferred (some []))).alloc (.loop rec)) (Γi ++ GtR Gt (w.heap.size + 1) rec i0) := by
    have h1 := ((hE w hs).allocB (.deferred (some []))).allocB (.loop rec)
    rw [World.size_alloc] at h1
    have h2 : rec.defers = w.heap.size := by rw [hrec]
    unfold GtR
    rw [h2]
    refine h1.perm ?_
    exact ((List.perm_middle (l₁ := Γi)).symm.cons _).trans (List.perm_middle (l₁ := Γi)).symm
  refine ⟨w.heap.size + 1, [{ target := .collected w.heap.size, args := #[] }], (w.alloc (.deferred (some []))).alloc (.loop rec), { target := .fn (.func gf) lb.toArray, args := #[.func (.yield (w.heap.size + 1)) #[] #[]] }, (w.alloc (.deferred (some []))).alloc (.loop rec), gf,
    (.func (.yield (w.heap.size + 1)) #[] #[] :: lb).toArray, (w.alloc (.deferred (some []))).alloc (.loop rec), ?_, ?_, fun _ _ => trivial, ?_, fun hh => (by cases hh), ?_⟩
  · rw [hrec]; exact run_enterLoop_outer _ _ _ _ _
  · simp only [resolve, hg.eq]
    simp [go_sem]
  · have := hf.run (.func (.yield (w.heap.size + 1)) #[] #[] :: lb).toArray ((w.alloc (.deferred (some []))).alloc (.loop rec))
    simpa [invoke, go_sem] using this
  · refine (callsIn_wide (n := 0)).2 ?_
    have hYC : YieldC P (w.heap.size + 1) w0 enc own ok Γi (GtR Gt (w.heap.size + 1) rec) Inv := ⟨fun ys d v i hk hi W hW => by
      have hl : W.heap[w.heap.size + 1]? = some (.loop rec) := by
        have : Sat w0 W (.ow [v] (own d) :: (Γi ++ blk (w.heap.size + 1) (.loop rec) :: blk rec.defers (.deferred (some [])) :: Gt i)) := hW
        exact sat_blk (sat_mid' this.drop)
      have hy := run_yield (P := P) (args := (enc d v).toArray) hl (by rw [hrec]; simpa using hps d v)
      refine ⟨_, _, _, _, hy, ?_⟩
      rw [hrec]
      simp only
      rw [lrOf_eq]
      refine roundIn_of_wpIn (F := Fence.wide) trivial ?_
      exact hbody (w.heap.size + 1) rec _ ys d v i (by rw [hrec]) hk hi (fun i' hi' w' hw' => ⟨rfl, i', hi', by
        have e : ({ rec with pending := none } : Loop) = rec := by rw [hrec]
        rw [e, hrec] at hw'
        exact hw'⟩) W hW⟩
    refine Calls.mono (hit (w.heap.size + 1) rec hYC _ hs1) ?_
    rintro e W ⟨⟨i, hi⟩, rfl, hW⟩
    have hW2 : Sat w0 W (blk (w.heap.size + 1) (.loop rec) :: (Γi ++ blk rec.defers (.deferred (some [])) :: Gt i)) := sat_mid' hW
    refine ⟨none, W.putObj (w.heap.size + 1) (.loop { rec with state := .exhausted }), ?_, ?_⟩
    · have := run_endLoop (P := P) (sat_blk hW2) (by rw [hrec]; simp)
      rw [hrec] at this ⊢
      exact this
    · have h3 := sat_mid' (hW2.putB (.loop { rec with state := .exhausted })).drop
      have h2 : rec.defers = w.heap.size := by rw [hrec]
      rw [h2] at h3
      exact hdone w.heap.size i hi _ (h2 ▸ h3)
theorem cj_enter_m {f : FuncId} {fn : Func} {c : Code} {vs : List Value} {n : Nat} {ρ : Type} {r : ρ → Value} {Γ' : ρ → List Atom} (hf : P.funcs[f]? = some fn) (hn : fn.ntmps = n) (h : WC P (bodyPostM Fence.wide 1 P fn (RetP w0 r Γ')) w0 c l Γ)
    (hl : vs ++ List.replicate (n - vs.length) undef = l := by simp only [List.length_cons, List.length_nil, Nat.reduceAdd, Nat.reduceSub, List.replicate_succ, List.replicate_zero, List.cons_append, List.nil_append]; rfl) (hb : fn.body = some c := by rfl) : CJ P f vs w0 Γ r Γ' := fun w hs => by
  refine (callsIn_wide (n := 1)).1 (callsIn_of_wp_marks hf hb trivial ?_)
  refine wpIn_wide.2 ?_
  have := h w hs
  rw [← hl] at this
  have e : (vs.toArray ++ Array.replicate (fn.ntmps - vs.toArray.size) undef : Array Value) = (vs ++ List.replicate (n - vs.length) undef).toArray := by
    rw [hn]; simp
  rw [e]
  exact this
instance {F : Fence} {n : Nat} {fn : Func} {rs : List ResultVar} {vs : List Value} {v : Value} {ρ : Type} {r : ρ → Value} {Γ' : ρ → List Atom} [hf : ResC fn rs] [hr : Rs P Γ l rs vs] [ht : TupC vs v] :
    Red (WQ (bodyPostM F n P fn (RetP w0 r Γ')) w0 .ret l Γ) (∃ p, r p = v ∧ Ent w0 Γ (Γ' p)) := ⟨fun ⟨p, h1, h2⟩ w hw => ⟨_, run_results hf.eq hw, p, by rw [h1, ht.eq], h2 w hw⟩⟩
end stmt
/-! ### Behind the loop -/
def WD (P : Program) (b : Nat) (Q : Exit → Act → World → Prop) (w0 : World) (c : Code) (l : List Value) (Γ : List Atom) : Prop := ∀ w, Sat w0 w Γ → c.wp P Q (ED l b) w
def WQD (b : Nat) (Q : Exit → Act → World → Prop) (w0 : World) (e : Exit) (l : List Value) (Γ : List Atom) : Prop := ∀ w, Sat w0 w Γ → Q e (ED l b) w
/-- Operations that leave the world as it is. -/
def WSD (P : Program) (ops : Array Oper) (b : Nat) (Q : Exit → Act → World → Prop) (w0 : World) (rest : List Oper) (l : List Value) (Γ : List Atom) : Prop := ∀ w, Sat w0 w Γ → wpStill P ops w (fun a => Q .normal a w) rest (ED l b)
section wd
variable {P : Program} {Q Q' : Exit → Act → World → Prop} {w0 : World} {l l' : List Value} {Γ Δ : List Atom} {x y : Code} {b : Nat} {ops : Array Oper} {rest : List Oper}
instance : Red (WD P b Q w0 (.seq x y) l Γ) (WD P b (Exit.then (y.wp P Q) Q) w0 x l Γ) := ⟨fun h w hs => wp_seq (h w hs)⟩
instance : Red (WD P b Q w0 .ret l Γ) (WQD b Q w0 .ret l Γ) := ⟨fun h w hs => wp_ret (h w hs)⟩
instance : Red (WQD b (Exit.then (y.wp P Q) Q') w0 .normal l Γ) (WD P b Q w0 y l Γ) := ⟨fun h => h⟩
instance {id : Nat} : Red (WQD b (Exit.inBlock id Q) w0 .normal l Γ) (WQD b Q w0 .normal l Γ) := ⟨fun h => h⟩
theorem wd_still [hm : Mixed P] {id : Nat} {ol : List Oper} (hB : Region.lexB .any ol.toArray = true) (h : WSD P ol.toArray b Q w0 ol l Γ) : WD P b Q w0 (.region id ol.toArray true) l Γ := fun w hs =>
  wp_region_still_lit hm.eq hB (h w.drew hs.drew)
instance : Red (WSD P ops b Q w0 [] l Γ) (WQD b Q w0 .normal l Γ) := ⟨fun h w hs => h w hs⟩
theorem E_putD {d : Nat} {v : Value} : (ED l b).put (some d) v = ED (l.set d v) b := by simp [ED, Act.put]
theorem wsd_pu {op : Op} {ty : TypeId} {v : Value} {pos : String} {after : Array Edge} {d : Nat} (hy : Pu P w0 l Γ op ty v) [hd : Se l d v l'] (h : WSD P ops b Q w0 rest l' Γ) : WSD P ops b Q w0 (⟨some d, op, ty, pos, after, none⟩ :: rest) l Γ := fun w hs => by
  refine wpStill_step fun K hK => ?_
  rw [if_pos (by rfl)]
  unfold Oper.still
  have e : (execOp (ED l b).eval ⟨some d, op, ty, pos, after, none⟩).run P w = .ok (.value v) w := hy w hs _ rfl rfl
  rw [e, Oper.stillUpon_value, E_putD, hd.eq]
  exact hK _ (h w hs)
instance {op : Op} {ty : TypeId} {v : Value} {pos : String} {after : Array Edge} {d : Nat} [hy : PuC P l Γ op ty v] [hd : Se l d v l'] : Red (WSD P ops b Q w0 (⟨some d, op, ty, pos, after, none⟩ :: rest) l Γ) (WSD P ops b Q w0 rest l' Γ) := ⟨fun h => wsd_pu (hy.run w0) h⟩
instance {op : Op} {ty : TypeId} {v : Value} {pos : String} {after : Array Edge} {d : Nat} {S : Prop} [hy : PuS P l Γ op ty v S] [hd : Se l d v l'] : RedS (WSD P ops b Q w0 (⟨some d, op, ty, pos, after, none⟩ :: rest) l Γ) S (WSD P ops b Q w0 rest l' Γ) := ⟨fun s h => wsd_pu (hy.run s w0) h⟩
instance {n : Nat} {fn : Func} {rs : List ResultVar} {vs : List Value} {v : Value} {ρ : Type} {r : ρ → Value} {Γ' : ρ → List Atom} [hp : PullOw Blk repBlk Γ [.pointer (some ⟨b, 0, none⟩)] ⟨b, .deferred (some [])⟩ Δ] [hf : ResC fn rs] [hr : Rs P Δ l rs vs] [ht : TupC vs v] :
    Red (WQD b (bodyPostM Fence.wide n P fn (RetP w0 r Γ')) w0 .ret l Γ) (∃ p, r p = v ∧ Ent w0 Δ (Γ' p)) := ⟨fun ⟨p, h1, h2⟩ w hw => by
  have hw2 := hw.perm hp.perm
  have hw3 := (hw2.putB (.deferred none)).drop
  exact ⟨by simp, .inl ⟨b, _, rfl, run_takeDeferred (sat_blk hw2), _, run_results hf.eq hw3, p, by rw [h1, ht.eq], h2 _ hw3⟩⟩⟩
theorem wq_behind (h : WQD b Q w0 .normal l Γ) : WQ (fun e a w => Q e { a with defers := [{ target := .collected b, args := #[] }] } w) w0 .normal l Γ := fun w hs => h w hs
end wd
end Go.Eng
namespace Go.Eng
open Go Go.RowKit
set_option linter.unusedVariables false
set_option linter.unusedSimpArgs false
/-- The record of a loop that a return has left. -/
abbrev lLeft (r : Loop) : Loop := { r with state := .done, pending := some .ret }
/-- What a call of yield does: on, or the loop is left. -/
structure YieldX (P : Program) (L : Nat) (w0 : World) {ι D : Type} (enc : D → List Value) (ok : List D → D → Prop) {σ : Type} (Γi : σ → List Atom) (Gt Gx : ι → List Atom) (Inv Ix : List D → ι → Prop) : Prop where
  run : ∀ ys d i s, ok ys d → Inv ys i → ∀ w, Sat w0 w (Γi s ++ Gt i) → YieldAt Fence.wide 0 P L (enc d).toArray w fun e w' => (e = .returned (.bool true) ∧ ∃ i', Inv (ys ++ [d]) i' ∧ Sat w0 w' (Γi s ++ Gt i')) ∨ (e = .returned (.bool false) ∧ ∃ i', Ix (ys ++ [d]) i' ∧ Sat w0 w' (Γi s ++ Gx i'))
instance {P : Program} {L : Nat} {Q : Exit → Act → World → Prop} {w0 : World} {l : List Value} {Γ : List Atom} : Red (WCI P L Q w0 .ret l Γ) (WQ Q w0 .ret l Γ) := ⟨fun h w hs => wpIn_ret (h w hs)⟩
instance {P : Program} {L : Nat} {y : Code} {Q Q' : Exit → Act → World → Prop} {w0 : World} {l : List Value} {Γ : List Atom} : Red (WQ (Exit.then (y.wpIn (Wd (some L)) 0 P Q) Q') w0 .ret l Γ) (WQ Q' w0 .ret l Γ) := ⟨fun h => h⟩
section yields
variable {P : Program} {Q : Exit → Act → World → Prop} {w0 : World} {l : List Value} {Γ Δ : List Atom} {ops : Array Oper} {L : Nat}
theorem wqx_yield {d : Nat} {t : Operand} {xs : List Operand} {vs : List Value} {ts : Array TypeId} {ty : TypeId} {pos : String} {after : Array Edge} {rest : List Oper} {ι D : Type} {enc : D → List Value} {ok : List D → D → Prop} {σ : Type} {Γi : σ → List Atom} {Gt Gx : ι → List Atom} {Inv Ix : List D → ι → Prop} [ho : NoOut Q]
    [ht : Ev l t (.func (.yield L) #[] #[])] [hx : EvL l xs vs] (hY : YieldX P L w0 enc ok Γi Gt Gx Inv Ix) {ys : List D} {dd : D} {i : ι} {s : σ} (hk : ok ys dd) (hi : Inv ys i) (hv : vs = enc dd) (he : Ent w0 Γ (Γi s ++ Gt i))
    (h : ∀ i', Inv (ys ++ [dd]) i' → WL P ops Q w0 rest (l.set d (.bool true)) (Γi s ++ Gt i')) (h' : ∀ i', Ix (ys ++ [dd]) i' → WL P ops Q w0 rest (l.set d (.bool false)) (Γi s ++ Gx i')) : WQ (YQ P ops Q (⟨some d, .call { callee := .value t, args := xs.toArray, argTypes := ts }, ty, pos, after, none⟩ :: rest)) w0 .normal l Γ := fun w hs => by
  obtain ⟨fn, tmps, assign, body, hy, hR⟩ := hY.run ys dd i s hk hi w (he w hs)
  show wpListIn Fence.wide 1 P ops Q (_ :: rest) (E l) w
  refine wpListIn_plain rfl fun K hK => ?_
  refine ⟨fun f _ => trivial, ?_⟩
  have hrun : (execOp (E l).eval ⟨some d, .call { callee := .value t, args := xs.toArray, argTypes := ts }, ty, pos, after, none⟩).run P w = .ok (.round L fn tmps assign body) w := by
    have hea : Array.map (E l).eval xs.toArray = vs.toArray := by simp [hx.eq]
    simp only [execOp, resolve, Sem.run_bind, ht.eq, hea]
    rw [hv]
    simpa [Deferred.ofValue, invoke] using hy
  rw [Oper.semAt_eq _ _ _ (fun c h => by cases h), hrun, Oper.uponIn_round]
  refine ⟨fun hh => (by cases hh), RoundIn.mono hR ?_⟩
  rintro e w' (⟨rfl, i', hi', hs'⟩ | ⟨rfl, i', hi', hs'⟩)
  · show K ((E l).put (some d) (.bool true)) w'
    rw [E_put]
    refine hK _ _ ?_
    have := list_in (r := none) (n := 1) (P := P) (ops := ops) (suf := []) (Q := Q) (Q' := Q) (fun a w h => wpListIn_nil h) (fun _ _ _ h => h) ho.out rest (E (l.set d (.bool true))) w' (.inl rfl) (h i' hi' w' hs')
    rwa [List.append_nil] at this
  · show K ((E l).put (some d) (.bool false)) w'
    rw [E_put]
    refine hK _ _ ?_
    have := list_in (r := none) (n := 1) (P := P) (ops := ops) (suf := []) (Q := Q) (Q' := Q) (fun a w h => wpListIn_nil h) (fun _ _ _ h => h) ho.out rest (E (l.set d (.bool false))) w' (.inl rfl) (h' i' hi' w' hs')
    rwa [List.append_nil] at this
end yields
section rounds
variable {P : Program} {L : Nat} {R : Ending → World → Prop} {w0 : World} {l : List Value} {Γ Δ : List Atom} {rec : Loop}
theorem wq_left [hp : PullOw Blk repBlk Γ [.pointer (some ⟨L, 0, none⟩)] ⟨L, .loop rec⟩ Δ] (h : ∀ w, Sat w0 w (blk L (.loop (lLeft rec)) :: Δ) → R (.returned (.bool false)) w) : WQ (roundPost P L R) w0 .ret l Γ := fun w hs => by
  have hs2 := hs.perm hp.perm
  exact ⟨_, _, run_endRound (some .ret) (sat_blk hs2), h _ (hs2.putB _)⟩
end rounds
section stmt
variable {P : Program} {Q : Exit → Act → World → Prop} {w0 : World} {l : List Value} {Γ : List Atom}
theorem wcx_rangeFunc {ι D : Type} {g : Operand} {gf : Nat} {lb : List Value} {pl : List Tmp} {assign body : Code} (enc : D → List Value) (ok : List D → D → Prop) (Inv Ix : List D → ι → Prop) (all : List D) {σ : Type} (Γi : σ → List Atom) (Gt : ι → List Atom) (i0 : ι) (s0 : σ) (rv : Value)
    [hg : Ev l g (.func (.func gf) #[] lb.toArray)] [hf : IsFn P gf] (hps : ∀ d, (enc d).length = pl.length)
    (h0 : Inv [] i0) (hE : Ent w0 Γ (Γi s0 ++ Gt i0))
    (hit : ∀ (L : Nat) (r : Loop), YieldX P L w0 enc ok Γi (GtR Gt L r) (GtR Gt L (lLeft r)) Inv Ix → CJ P gf (.func (.yield L) #[] #[] :: lb) w0 (Γi s0 ++ GtR Gt L r i0) (fun _ : { q : Bool × ι × σ // (q.1 = true ∧ Inv all q.2.1) ∨ (q.1 = false ∧ ∃ pre, pre <+: all ∧ Ix pre q.2.1) } => rv) (fun q => Γi q.1.2.2 ++ GtR Gt L (if q.1.1 = true then r else lLeft r) q.1.2.1))
    (hbody : ∀ (L : Nat) (r : Loop) (R : Ending → World → Prop) (ys : List D) (d : D) (i : ι) (s : σ), r.state = .ready → ok ys d → Inv ys i →
      (∀ i', Inv (ys ++ [d]) i' → ∀ w, Sat w0 w (Γi s ++ GtR Gt L { r with pending := none } i') → R (.returned (.bool true)) w) →
      (∀ i', Ix (ys ++ [d]) i' → ∀ w, Sat w0 w (Γi s ++ GtR Gt L (lLeft r) i') → R (.returned (.bool false)) w) →
      WCI P L (Exit.then (BeginK P L body R) (fun _ _ _ => False)) w0 assign (lrOf l pl (enc d)) (Γi s ++ GtR Gt L r i))
    (hdone : ∀ (b : Nat) (i : ι) (s : σ), Inv all i → WQD b Q w0 .normal l (blk b (.deferred (some [])) :: (Γi s ++ Gt i)))
    (hleft : ∀ (b : Nat) (pre : List D) (i : ι) (s : σ), pre <+: all → Ix pre i → WQD b Q w0 .ret l (blk b (.deferred (some [])) :: (Γi s ++ Gt i))) :
    WC P Q w0 (.rangeFunc g pl.toArray assign body) l Γ := fun w hs => by
  refine wpIn_wide.1 (wpIn_rangeFunc (n := 1) (F := Fence.wide) fun fn _ => ?_)
  obtain ⟨rec, hrec⟩ : ∃ rec : Loop, rec = { state := .ready, pending := none, fn, tmps := l.toArray, params := pl.toArray, assign, body, defers := w.heap.size } := ⟨_, rfl⟩
  have h2 : rec.defers = w.heap.size := by rw [hrec]
  have hs1 : Sat w0 ((w.alloc (.deferred (some []))).alloc (.loop rec)) (Γi s0 ++ GtR Gt (w.heap.size + 1) rec i0) := by
    have h1 := ((hE w hs).allocB (.deferred (some []))).allocB (.loop rec)
    rw [World.size_alloc] at h1
    unfold GtR
    rw [h2]
    refine h1.perm ?_
    exact ((List.perm_middle (l₁ := Γi s0)).symm.cons _).trans (List.perm_middle (l₁ := Γi s0)).symm
  refine ⟨w.heap.size + 1, [{ target := .collected w.heap.size, args := #[] }], (w.alloc (.deferred (some []))).alloc (.loop rec), { target := .fn (.func gf) lb.toArray, args := #[.func (.yield (w.heap.size + 1)) #[] #[]] }, (w.alloc (.deferred (some []))).alloc (.loop rec), gf,
    (.func (.yield (w.heap.size + 1)) #[] #[] :: lb).toArray, (w.alloc (.deferred (some []))).alloc (.loop rec), ?_, ?_, fun _ _ => trivial, ?_, fun hh => (by cases hh), ?_⟩
  · rw [hrec]; exact run_enterLoop_outer _ _ _ _ _
  · simp only [resolve, hg.eq]
    simp [go_sem]
  · have := hf.run (.func (.yield (w.heap.size + 1)) #[] #[] :: lb).toArray ((w.alloc (.deferred (some []))).alloc (.loop rec))
    simpa [invoke, go_sem] using this
  · refine (callsIn_wide (n := 0)).2 ?_
    have hYC : YieldX P (w.heap.size + 1) w0 enc ok Γi (GtR Gt (w.heap.size + 1) rec) (GtR Gt (w.heap.size + 1) (lLeft rec)) Inv Ix := ⟨fun ys d i s hk hi W hW => by
      have hl : W.heap[w.heap.size + 1]? = some (.loop rec) := by
        have : Sat w0 W (Γi s ++ blk (w.heap.size + 1) (.loop rec) :: blk rec.defers (.deferred (some [])) :: Gt i) := hW
        exact sat_blk (sat_mid' this)
      have hy := run_yield (P := P) (args := (enc d).toArray) hl (by rw [hrec]; simpa using hps d)
      refine ⟨_, _, _, _, hy, ?_⟩
      rw [hrec]
      simp only
      rw [lrOf_eq]
      refine roundIn_of_wpIn (F := Fence.wide) trivial ?_
      exact hbody (w.heap.size + 1) rec _ ys d i s (by rw [hrec]) hk hi (fun i' hi' w' hw' => .inl ⟨rfl, i', hi', by
        have e : ({ rec with pending := none } : Loop) = rec := by rw [hrec]
        rw [e, hrec] at hw'
        exact hw'⟩) (fun i' hi' w' hw' => .inr ⟨rfl, i', hi', by
        rw [hrec] at hw'
        exact hw'⟩) W hW⟩
    refine Calls.mono (hit (w.heap.size + 1) rec hYC _ hs1) ?_
    rintro e W ⟨⟨⟨bb, i, s⟩, hi⟩, rfl, hW⟩
    rcases hi with ⟨hb, hi⟩ | ⟨hb, pre, hpre, hi⟩
    · simp only at hb hi hW
      rw [if_pos hb] at hW
      have hW2 : Sat w0 W (blk (w.heap.size + 1) (.loop rec) :: (Γi s ++ blk rec.defers (.deferred (some [])) :: Gt i)) := sat_mid' hW
      refine ⟨none, W.putObj (w.heap.size + 1) (.loop { rec with state := .exhausted }), ?_, ?_⟩
      · have := run_endLoop (P := P) (sat_blk hW2) (by rw [hrec]; simp)
        rw [hrec] at this ⊢
        exact this
      · have h3 := sat_mid' (hW2.putB (.loop { rec with state := .exhausted })).drop
        rw [h2] at h3
        exact hdone w.heap.size i s hi _ (h2 ▸ h3)
    · simp only at hb hi hW
      rw [if_neg (by rw [hb]; decide)] at hW
      have hW2 : Sat w0 W (blk (w.heap.size + 1) (.loop (lLeft rec)) :: (Γi s ++ blk rec.defers (.deferred (some [])) :: Gt i)) := sat_mid' hW
      refine ⟨some .ret, W.putObj (w.heap.size + 1) (.loop { lLeft rec with state := .exhausted }), ?_, ?_⟩
      · have := run_endLoop (P := P) (sat_blk hW2) (by simp)
        exact this
      · have h3 := sat_mid' (hW2.putB (.loop { lLeft rec with state := .exhausted })).drop
        rw [h2] at h3
        exact wpIn_ret (hleft w.heap.size pre i s hpre hi _ (h2 ▸ h3))
end stmt
/-! ### Behind the loop, in order -/
def QE (b : Nat) (Q : Exit → Act → World → Prop) : Exit → Act → World → Prop
  | .normal, a, w => Q .normal { a with defers := [{ target := .collected b, args := #[] }] } w
  | _, _, _ => False
section behind
variable {P : Program} {Q Q' : Exit → Act → World → Prop} {w0 : World} {l : List Value} {Γ : List Atom} {b : Nat} {ops : Array Oper}
/-- What is run is no defer statement. -/
class NoDv (op : Op) : Prop where
  ne : ∀ (ρ : Operand → Value) (o : Oper) (P : Program) (w w' : World) (d : Deferred), o.op = op → (execOp ρ o).run P w ≠ .ok (.defer d) w'
theorem nd_v {s : Sem Value} {w w' : World} {d : Deferred} : ((do pure (Next.value (← s))) : Sem Next).run P w ≠ .ok (.defer d) w' := by
  rw [Sem.run_bind]
  cases s.run P w <;> intro h <;> cases h
theorem nd_u {s : Sem Unit} {w w' : World} {d : Deferred} : ((do s; pure Next.skip) : Sem Next).run P w ≠ .ok (.defer d) w' := by
  rw [Sem.run_bind]
  cases s.run P w <;> intro h <;> cases h
instance {x : Operand} : NoDv (.move x) := ⟨fun ρ o P w w' d ho => by unfold execOp; rw [ho]; intro h; cases h⟩
instance {x : Operand} : NoDv (.assign x) := ⟨fun ρ o P w w' d ho => by unfold execOp; rw [ho]; intro h; cases h⟩
instance {t : TypeId} {x : Operand} : NoDv (.load t x) := ⟨fun ρ o P w w' d ho => by unfold execOp; rw [ho]; exact nd_v⟩
instance {t : TypeId} {x y : Operand} : NoDv (.store t x y) := ⟨fun ρ o P w w' d ho => by unfold execOp; rw [ho]; exact nd_u⟩
instance {o : UnOp} {T : TypeId} {x : Operand} : NoDv (.unOp o T x) := ⟨fun ρ o P w w' d ho => by unfold execOp; rw [ho]; exact nd_v⟩
instance {x : Operand} {i : Nat} : NoDv (.extract x i) := ⟨fun ρ o P w w' d ho => by unfold execOp; rw [ho]; exact nd_v⟩
inductive NoDvs : List Oper → Prop
  | nil : NoDvs []
  | cons {o : Oper} {ol : List Oper} : NoDv o.op → NoDvs ol → NoDvs (o :: ol)
class NoDw (ol : List Oper) : Prop where
  eq : NoDvs ol
instance : NoDw [] := ⟨.nil⟩
instance {o : Oper} {ol : List Oper} [h1 : NoDv o.op] [h2 : NoDw ol] : NoDw (o :: ol) := ⟨.cons h1 h2.eq⟩
theorem oper_d {D : List Deferred} {o : Oper} {a : Act} {w : World} {next next' : Act → World → Prop} (hd : NoDv o.op) (hn : ∀ a w, next a w → next' { a with defers := D } w)
    (hp : ∀ c a w, Q (.panic c) a w → Q' (.panic c) { a with defers := D } w) (ho : ¬ LetsOut Q) (h : o.wp P a w next Q) : o.wp P { a with defers := D } w next' Q' := by
  unfold Oper.wp at h ⊢
  have he : ({ a with defers := D } : Act).eval = a.eval := rfl
  have hput : ∀ v, ({ a with defers := D } : Act).put o.dst v = { a.put o.dst v with defers := D } := fun v => by
    cases o.dst <;> rfl
  have hsd : ∀ d w', (execOp a.eval o).run P w ≠ .ok (.defer d) w' := fun d w' => hd.ne _ _ _ _ _ _ rfl
  rw [he]
  generalize (execOp a.eval o).run P w = res at *
  cases res with
  | ok v w' =>
    cases v with
    | value v => rw [Oper.upon_value] at h ⊢; rw [hput]; exact hn _ _ h
    | skip => rw [Oper.upon_skip] at h ⊢; rw [hput]; exact hn _ _ h
    | defer d => exact absurd rfl (hsd d w')
    | enter f args =>
      rw [Oper.upon_enter] at h ⊢
      refine Calls.mono h fun e w'' he => ?_
      cases e with
      | returned v => simp only at he ⊢; rw [hput]; exact hn _ _ he
      | panicked c => exact hp _ _ _ he
      | outgrown => exact absurd he ho
    | row row args =>
      rw [Oper.upon_row] at h ⊢
      exact Rows.mono h fun v w'' he => by rw [hput]; exact hn _ _ he
    | _ => exact h.elim
  | halt x w' =>
    cases x with
    | panic v => exact hp _ _ _ h
    | _ => exact h.elim
theorem list_d {D : List Deferred} (hq : ∀ a w, Q .normal a w → Q' .normal { a with defers := D } w) (hp : ∀ c a w, Q (.panic c) a w → Q' (.panic c) { a with defers := D } w) (ho : ¬ LetsOut Q) : ∀ (pre : List Oper) (a : Act) (w : World), NoDvs pre → wpList P ops Q pre a w → wpList P ops Q' pre { a with defers := D } w
  | [], a, w, _, h => hq a w h
  | o :: pre, a, w, hd, h => by
    obtain ⟨hd1, hd2⟩ : NoDv o.op ∧ NoDvs pre := by cases hd; exact ⟨‹_›, ‹_›⟩
    have hput : ∀ v, ({ a with defers := D } : Act).put o.dst v = { a.put o.dst v with defers := D } := fun v => by
      cases o.dst <;> rfl
    unfold wpList at h ⊢
    split at h
    · rename_i hw
      rw [if_pos hw]
      rcases h with h | h
      · exact .inl (oper_d hd1 (fun a w h => list_d hq hp ho pre a w hd2 h) hp ho h)
      · exact absurd h.2 ho
    · rename_i hw
      rw [if_neg hw, hput]
      exact list_d hq hp ho pre _ w hd2 h
theorem wd_region {id : Nat} {ol : List Oper} [hd : NoDw ol] (h : WL P ol.toArray (QE b Q) w0 ol l Γ) : WD P b Q w0 (.region id ol.toArray false) l Γ := fun w hs => by
  refine wp_region_lit ?_
  exact list_d (Q := QE b Q) (Q' := Q) (D := [{ target := .collected b, args := #[] }]) (fun a w h => h) (fun c a w h => h.elim) (fun ⟨_, _, h⟩ => h) ol (E l) w hd.eq (h w hs)
instance {id : Nat} {ol : List Oper} [hd : NoDw ol] : Red (WD P b Q w0 (.region id ol.toArray false) l Γ) (WL P ol.toArray (QE b Q) w0 ol l Γ) := ⟨wd_region⟩
instance : Red (WQ (QE b Q) w0 .normal l Γ) (WQD b Q w0 .normal l Γ) := ⟨fun h w hs => h w hs⟩
instance {K : Act → World → Prop} : Red (WQD b (Exit.then K Q) w0 .ret l Γ) (WQD b Q w0 .ret l Γ) := ⟨fun h => h⟩
instance {id : Nat} : Red (WQD b (Exit.inBlock id Q) w0 .ret l Γ) (WQD b Q w0 .ret l Γ) := ⟨fun h => h⟩
end behind
end Go.Eng
