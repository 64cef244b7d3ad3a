/- The rules of the walk: parts of slices, elements laid open, facts read off. -/
import Derived.Test.YtjblieilblcdnaaEngG
namespace Go.Eng
open Go Go.RowKit
set_option linter.unusedVariables false
set_option linter.unusedSimpArgs false

/-- How an element's cells look: some of them are values of which an atom speaks. -/
class Un (α : Type) [Rep α] where
  Pr : Type
  cells : Pr → α → List Value
  atoms : Pr → α → List Atom
  fact : α → Prop
  law : ∀ {ok w cs} {x : α}, Rep.rd ok w cs x → ∃ p, cs = cells p x ∧ Sep ok w (atoms p x) [] ∧ fact x
  len : ∀ (p : Pr) (x : α), (cells p x).length = Rep.sz α
  ext : ∀ {ok w} {p : Pr} {x : α}, Rep.rd ok w (cells p x) x → Sep ok w (atoms p x) []

instance unInt : Un Int := ⟨Unit, fun _ n => [.int .i64 n], fun _ _ => [], fun n => -9223372036854775808 ≤ n ∧ n ≤ 9223372036854775807, fun h => ⟨(), h.1, rfl, h.2⟩, fun _ _ => rfl, fun _ => rfl⟩
instance unBool : Un Bool := ⟨Unit, fun _ b => [.bool b], fun _ _ => [], fun _ => True, fun h => ⟨(), h, rfl, trivial⟩, fun _ _ => rfl, fun _ => rfl⟩
instance unStr : Un ByteArray := ⟨Unit, fun _ s => [.string s], fun _ _ => [], fun s => s.size ≤ 9223372036854775807, fun h => ⟨(), h.1, rfl, h.2⟩, fun _ _ => rfl, fun _ => rfl⟩
instance unU8 : Un UInt8 := ⟨Unit, fun _ n => [.int .u8 n.toNat], fun _ _ => [], fun _ => True, fun h => ⟨(), h, rfl, trivial⟩, fun _ _ => rfl, fun _ => rfl⟩
instance unList {α : Type} [Rep α] : Un (List α) := ⟨Value, fun c _ => [c], fun c xs => [.rd [c] xs], fun xs => xs.length ≤ 9223372036854775807, fun {ok w cs xs} h => by
  have h' := h
  obtain ⟨a, cap, rfl, _, _, hl, _⟩ := h'
  exact ⟨_, rfl, ⟨[], [], rfl, ⟨rfl, h⟩, rfl⟩, hl⟩, fun _ _ => rfl, fun h => ⟨[], [], rfl, ⟨rfl, h⟩, rfl⟩⟩
instance unProd {α β : Type} [Rep α] [Rep β] [ua : Un α] [ub : Un β] : Un (α × β) := ⟨ua.Pr × ub.Pr, fun p x => ua.cells p.1 x.1 ++ ub.cells p.2 x.2, fun p x => ua.atoms p.1 x.1 ++ ub.atoms p.2 x.2, fun x => ua.fact x.1 ∧ ub.fact x.2, fun h => by
  obtain ⟨c, d, rfl, h1, h2⟩ := h
  obtain ⟨p, rfl, hp, hf⟩ := ua.law h1
  obtain ⟨q, rfl, hq, hg⟩ := ub.law h2
  exact ⟨(p, q), rfl, Sep.append hq hp, hf, hg⟩,
  fun p x => by rw [List.length_append, ua.len, ub.len]; rfl,
  fun {ok w p x} h => by
    obtain ⟨c, d, he, h1, h2⟩ := h
    have hl1 := Rep.rd_len h1
    obtain ⟨rfl, rfl⟩ := List.append_inj he (by rw [ua.len, hl1])
    exact Sep.append (ub.ext h2) (ua.ext h1)⟩
instance unSh {α : Type} [Rep α] [ua : Un α] : Un (Sh α) := ⟨ua.Pr, fun p x => ua.cells p x.v, fun p x => ua.atoms p x.v, fun x => ua.fact x.v, fun h => ua.law h, fun p x => ua.len p x.v, fun h => ua.ext h⟩

section un
set_option linter.unusedSectionVars false
variable {α β : Type} [Rep α] [Rep β] [Un α] [Un β]
end un

theorem Sat.addSep {w0 w : World} {Γ Δ : List Atom} (h : Sat w0 w Γ) (hd : ∀ F, Sep (· ∉ F) w Γ F → Sep (· ∉ F) w Δ []) : Sat w0 w (Δ ++ Γ) := by
  obtain ⟨hb, F, hn, hl, hs⟩ := h
  exact ⟨hb, F, hn, hl, by simpa using Sep.append hs (hd F hs)⟩

section ops
variable {P : Program} {ops : Array Oper} {Q : Exit → Act → World → Prop} {w0 : World} {rest : List Oper} {l l' : List Value} {Γ Δ Ε : List Atom} {ty : TypeId} {v : Value} {pos : String} {after : Array Edge} {d : Nat}

theorem peek_sat {α : Type} {iα : Rep α} [inh : Inhabited α] [un : Un α] {w : World} {sv : Value} {n : Int} {xs : List α} [hr : HasIm (List α) repList Γ [sv] xs] (hi : 0 ≤ n ∧ n < xs.length) (hs : Sat w0 w Γ) :
    ∃ p : Un.Pr α, Un.fact (xs.getD n.toNat default) ∧ Sat w0 w (.pt (elemA sv n (Rep.sz α)) (Un.cells p (xs.getD n.toNat default)) :: (Un.atoms p (xs.getD n.toNat default) ++ Γ)) := by
  have hin : n.toNat < xs.length := by omega
  have hget : xs.getD n.toNat default = xs[n.toNat] := by rw [List.getD_eq_getElem?_getD, List.getElem?_eq_getElem hin, Option.getD_some]
  obtain ⟨hb, F, hn, hl, hsep⟩ := hs
  obtain ⟨a, cap, b, off, p, c, s, rfl, ha, hok, hca, hp, hea, hrd⟩ := elem_cells (hr.get hsep) hi.1 hi.2
  rw [← hget] at hrd
  obtain ⟨q, rfl, hq, hf⟩ := un.law hrd
  refine ⟨q, hf, hb, F, hn, hl, [], F, rfl, ⟨rfl, ?_⟩, by simpa using Sep.append hsep hq⟩
  rw [hea]
  have hlen := Rep.rd_len hrd
  refine ⟨hok, hca.lt (by have := Rep.pos (α := α); simp only [List.length_append]; omega), fun j hj => ?_⟩
  rw [add_lit]
  exact hca.part j hj

/-- An element's cells are laid open. -/
theorem wl_peek {α : Type} {iα : Rep α} [inh : Inhabited α] [un : Un α] (sv : Value) (n : Int) {xs : List α} [hr : HasIm (List α) repList Γ [sv] xs] (hi : 0 ≤ n ∧ n < xs.length)
    (h : ∀ p : Un.Pr α, Un.fact (xs.getD n.toNat default) → WL P ops Q w0 rest l (.pt (elemA sv n (Rep.sz α)) (Un.cells p (xs.getD n.toNat default)) :: (Un.atoms p (xs.getD n.toNat default) ++ Γ))) : WL P ops Q w0 rest l Γ := fun w hs => by
  obtain ⟨p, hf, hs'⟩ := peek_sat (hr := hr) hi hs
  exact h p hf w hs'
theorem wc_peek {α : Type} {iα : Rep α} [inh : Inhabited α] [un : Un α] {c : Code} (sv : Value) (n : Int) {xs : List α} [hr : HasIm (List α) repList Γ [sv] xs] (hi : 0 ≤ n ∧ n < xs.length)
    (h : ∀ p : Un.Pr α, Un.fact (xs.getD n.toNat default) → WC P Q w0 c l (.pt (elemA sv n (Rep.sz α)) (Un.cells p (xs.getD n.toNat default)) :: (Un.atoms p (xs.getD n.toNat default) ++ Γ))) : WC P Q w0 c l Γ := fun w hs => by
  obtain ⟨p, hf, hs'⟩ := peek_sat (hr := hr) hi hs
  exact h p hf w hs'

/-- Types whose elements are read at once. -/
class Flat (α : Type) : Prop where
  t : True
instance : Flat Int := ⟨trivial⟩
instance : Flat Bool := ⟨trivial⟩
instance : Flat ByteArray := ⟨trivial⟩
instance : Flat UInt8 := ⟨trivial⟩
class Deep_ (α : Type) : Prop where
  t : True
instance {α : Type} : Deep_ (List α) := ⟨trivial⟩
instance {α β : Type} : Deep_ (α × β) := ⟨trivial⟩
instance {α : Type} : Deep_ (Sh α) := ⟨trivial⟩

/-- xs[n] of which nothing is laid open yet. -/
theorem wl_index_deep {α : Type} {iα : Rep α} [inh : Inhabited α] [un : Un α] [dp : Deep_ α] {T k by_ : Nat} {x y : Operand} {sv : Value} {n : Int} {kk : IntKind} {xs : List α} [hx : Ev l x sv] [hy : Ev l y (.int kk n)] [hT : Sl P T k by_] [hr : HasIm (List α) repList Γ [sv] xs]
    (hk : k = Rep.sz α) (hi : 0 ≤ n ∧ n < xs.length) [hd : Se l d (.pointer (some (elemA sv n k))) l']
    (h : ∀ (p : Un.Pr α) (cs : List Value) (as : List Atom), Un.cells p (xs.getD n.toNat default) = cs → Un.atoms p (xs.getD n.toNat default) ++ Γ = as → Un.fact (xs.getD n.toNat default) → WL P ops Q w0 rest l' (.pt (elemA sv n k) cs :: as)) :
    WL P ops Q w0 (⟨some d, .indexAddr T x y, ty, pos, after, none⟩ :: rest) l Γ := by
  refine wl_peek sv n hi fun p hf => ?_
  rw [← hk]
  intro w hs
  have hs0 : Sat w0 w Γ := Sat.dropN (Δ := .pt _ _ :: Un.atoms p _) hs
  refine wpList_plain rfl fun K hK => ?_
  unfold Oper.wp
  rw [pu_index (ty := ty) (hr := HasRd.im) hi w hs0 _ rfl rfl, Oper.upon_value, E_put, hd.eq]
  exact hK _ _ (h p _ _ rfl rfl hf w hs)

/-- A field of an element, its cells laid open. -/
theorem pu_load_ptf {T off : Nat} {x : Operand} {p : Addr} {cs : List Value} [h : Ev l x (.pointer (some (p.add off)))] [hT : Sc P T] [hp : HasPt Γ p cs] [hv : Ge cs off v] : Pu P w0 l Γ (.load T x) ty v :=
  pu_of (s := Instr.loadAt T (.pointer (some (p.add off)))) (fun o ho _ => by unfold execOp; rw [ho]; simp only [h.eq]) (fun w hs => by
    have hlt : off < cs.length := (List.getElem?_eq_some_iff.1 hv.eq).1
    have := hs.pt (hr := hp) off hlt
    rw [hv.eq] at this
    simp [Instr.loadAt, Instr.sureAddr, loadVar, Sem.run_bind, hT.agg, load, Sem.run, this])
theorem pu_load_ptf_agg {T off k : Nat} {x : Operand} {p : Addr} {cs out : List Value} [h : Ev l x (.pointer (some (p.add off)))] [hT : Ag P T k] [hp : HasPt Γ p cs] [hv : Tk cs off k out] : Pu P w0 l Γ (.load T x) ty (.agg out.toArray) :=
  pu_of (s := Instr.loadAt T (.pointer (some (p.add off)))) (fun o ho _ => by unfold execOp; rw [ho]; simp only [h.eq]) (fun w hs => by
    obtain ⟨h1, h2⟩ := hv.eq
    have hk : out.length = k := by rw [← h1]; simp; omega
    have hc := run_loadCells (P := P) (w := w) (p := p.add off) (cs := out) 0 #[] (fun j hj => by
      rw [Nat.zero_add]
      have hcell := hs.pt (hr := hp) (off + j) (by omega)
      have e : (p.add off).add j = p.add (off + j) := by
        by_cases h0 : off = 0
        · subst h0; simp [Addr.add]
        · exact add_add p off j
      rw [e, hcell, ← h1, List.getElem?_take, if_pos (by omega), List.getElem?_drop])
    rw [hk] at hc
    simp only [Instr.loadAt, Instr.sureAddr, loadVar, Sem.run_bind, Sem.run_pure, Result.andThen_ok, hT.agg, if_true, hT.size, loadCells, hc]
    simp)

/-! ### s[lo:hi] -/
theorem slice_rd {α : Type} [Rep α] {ok : Nat → Prop} {w : World} {a : Option Addr} {cap lo hi : Nat} {xs : List α} (h : Rep.rd ok w [.slice a xs.length cap] xs) (h1 : lo ≤ hi) (h2 : hi ≤ xs.length) :
    Rep.rd ok w [.slice (if cap = lo then a else a.map (·.add (lo * Rep.sz α))) (hi - lo) (cap - lo)] ((xs.take hi).drop lo) := by
  obtain ⟨a', cap', hc, hl1, hl2, hl3, hr⟩ := h
  simp only [List.cons.injEq, Value.slice.injEq, and_true, true_and] at hc
  obtain ⟨rfl, rfl⟩ := hc
  have hlen : ((xs.take hi).drop lo).length = hi - lo := by rw [List.length_drop, List.length_take]; omega
  refine ⟨_, cap - lo, by rw [hlen], by omega, by omega, by omega, fun hp => ?_⟩
  obtain ⟨b, off, cells, rfl, hok, hca, hrd⟩ := hr (by omega)
  have hne : ¬ cap = lo := by omega
  refine ⟨b, off + lo * Rep.sz α, (cells.take (hi * Rep.sz α)).drop (lo * Rep.sz α), by simp [hne, add_lit], hok, ?_, ?_⟩
  · have hcl := hrd.len
    intro j hj
    rw [List.length_drop, List.length_take] at hj
    rw [List.getElem?_drop, List.getElem?_take, if_pos (by omega), Nat.add_assoc]
    exact hca _ (by omega)
  · have := (hrd.cut hi h2).1
    exact (this.cut lo (by rw [List.length_take]; omega)).2

theorem run_slice {T e : Nat} {i : TypeInfo} {a : Option Addr} {n cap lo hi : Nat} {vlo vhi : Option Value} (ht : P.underlying T = some (.slice e)) (hi' : P.info? e = some i)
    (hlo : vlo = none ∧ lo = 0 ∨ ∃ k, vlo = some (.int k lo)) (hhi : vhi = none ∧ hi = n ∨ ∃ k, vhi = some (.int k hi)) (h1 : lo ≤ hi) (h2 : hi ≤ cap) (w : World) :
    (Instr.sliceAt T (.slice a n cap) vlo vhi none).run P w = .ok (.slice (if cap = lo then a else a.map (·.add (lo * i.size))) (hi - lo) (cap - lo)) w := by
  rcases hlo with ⟨rfl, rfl⟩ | ⟨k, rfl⟩ <;> rcases hhi with ⟨rfl, rfl⟩ | ⟨k', rfl⟩ <;>
    simp [Instr.sliceAt, Instr.slice, Instr.sliceBounds, Instr.sliceBound, asIntOf, run_underlying ht, sizeOf, typeInfo, hi', h1, h2]

theorem wl_slice_core {α : Type} {iα : Rep α} {T k by_ : Nat} {x : Operand} {olo ohi : Option Operand} {sv : Value} {lo hi : Nat} {xs : List α} [hx : Ev l x sv] [hT : Sl P T k by_] [hr : HasIm (List α) repList Γ [sv] xs] (hk : k = Rep.sz α)
    (hlo : olo = none ∧ lo = 0 ∨ ∃ o kk, olo = some o ∧ (E l).eval o = .int kk lo) (hhi : ohi = none ∧ hi = xs.length ∨ ∃ o kk, ohi = some o ∧ (E l).eval o = .int kk hi) (h1 : lo ≤ hi) (h2 : hi ≤ xs.length)
    (h : ∀ sv', WL P ops Q w0 rest (l.set d sv') (.rd [sv'] ((xs.take hi).drop lo) :: Γ)) : WL P ops Q w0 (⟨some d, .slice T x olo ohi none, ty, pos, after, none⟩ :: rest) l Γ := by
  intro w hs
  obtain ⟨e, i, z, ht, hi', hik, hib, hz, hzk, hpos⟩ := hT.ex
  obtain ⟨hb, F, hn, hl, hsep⟩ := hs
  have hrd := hr.get hsep
  obtain ⟨a, cap, hc, hcap, _⟩ := hrd
  simp only [List.cons.injEq, and_true] at hc
  subst hc
  have hrun := run_slice (P := P) (T := T) (a := a) (n := xs.length) (cap := cap) (lo := lo) (hi := hi) (vlo := olo.map (E l).eval) (vhi := ohi.map (E l).eval) ht hi'
    (by rcases hlo with ⟨rfl, h⟩ | ⟨o, kk, rfl, h⟩
        · exact .inl ⟨rfl, h⟩
        · exact .inr ⟨kk, by simp [h]⟩)
    (by rcases hhi with ⟨rfl, h⟩ | ⟨o, kk, rfl, h⟩
        · exact .inl ⟨rfl, h⟩
        · exact .inr ⟨kk, by simp [h]⟩) h1 (by omega) w
  have hrd2 := slice_rd (hr.get hsep) h1 h2
  rw [← hk, ← hik] at hrd2
  refine wl_op rfl (v := .slice (if cap = lo then a else a.map (·.add (lo * i.size))) (hi - lo) (cap - lo)) (w' := w) ?_ ?_
  · refine run_value (f := Next.value) (s := Instr.sliceAt T ((E l).eval x) (olo.map (E l).eval) (ohi.map (E l).eval) (Option.map (E l).eval none)) ?_
    rw [hx.eq]; exact hrun
  · rw [E_put]
    exact h _ _ ⟨hb, F, hn, hl, [], F, rfl, ⟨rfl, hrd2⟩, hsep⟩

/-- s[lo:] -/
theorem wl_slice_lo {α : Type} {iα : Rep α} {T k by_ : Nat} {x y : Operand} {sv : Value} {kk : IntKind} {n : Int} {xs : List α} [hx : Ev l x sv] [hy : Ev l y (.int kk n)] [hT : Sl P T k by_] [hr : HasIm (List α) repList Γ [sv] xs] (hk : k = Rep.sz α) (hn : 0 ≤ n ∧ n ≤ xs.length)
    (h : ∀ sv', WL P ops Q w0 rest (l.set d sv') (.rd [sv'] (xs.drop n.toNat) :: Γ)) : WL P ops Q w0 (⟨some d, .slice T x (some y) none none, ty, pos, after, none⟩ :: rest) l Γ :=
  wl_slice_core (lo := n.toNat) (hi := xs.length) hk (.inr ⟨y, kk, rfl, by rw [hy.eq, Int.toNat_of_nonneg hn.1]⟩) (.inl ⟨rfl, rfl⟩) (by omega) (Nat.le_refl _) (fun sv' => by rw [List.take_length]; exact h sv')
/-- s[:hi] -/
theorem wl_slice_hi {α : Type} {iα : Rep α} {T k by_ : Nat} {x y : Operand} {sv : Value} {kk : IntKind} {n : Int} {xs : List α} [hx : Ev l x sv] [hy : Ev l y (.int kk n)] [hT : Sl P T k by_] [hr : HasIm (List α) repList Γ [sv] xs] (hk : k = Rep.sz α) (hn : 0 ≤ n ∧ n ≤ xs.length)
    (h : ∀ sv', WL P ops Q w0 rest (l.set d sv') (.rd [sv'] (xs.take n.toNat) :: Γ)) : WL P ops Q w0 (⟨some d, .slice T x none (some y) none, ty, pos, after, none⟩ :: rest) l Γ :=
  wl_slice_core (lo := 0) (hi := n.toNat) hk (.inl ⟨rfl, rfl⟩) (.inr ⟨y, kk, rfl, by rw [hy.eq, Int.toNat_of_nonneg hn.1]⟩) (by omega) (by omega) (fun sv' => h sv')
/-- s[lo:hi] -/
theorem wl_slice_lh {α : Type} {iα : Rep α} {T k by_ : Nat} {x y z : Operand} {sv : Value} {kk kk' : IntKind} {n m : Int} {xs : List α} [hx : Ev l x sv] [hy : Ev l y (.int kk n)] [hz : Ev l z (.int kk' m)] [hT : Sl P T k by_] [hr : HasIm (List α) repList Γ [sv] xs] (hk : k = Rep.sz α) (hn : 0 ≤ n ∧ n ≤ m ∧ m ≤ xs.length)
    (h : ∀ sv', WL P ops Q w0 rest (l.set d sv') (.rd [sv'] ((xs.take m.toNat).drop n.toNat) :: Γ)) : WL P ops Q w0 (⟨some d, .slice T x (some y) (some z) none, ty, pos, after, none⟩ :: rest) l Γ :=
  wl_slice_core (lo := n.toNat) (hi := m.toNat) hk (.inr ⟨y, kk, rfl, by rw [hy.eq, Int.toNat_of_nonneg hn.1]⟩) (.inr ⟨z, kk', rfl, by rw [hz.eq, Int.toNat_of_nonneg (by omega)]⟩) (by omega) (by omega) (fun sv' => h sv')

/-! ### Facts -/
theorem RdL.in64 {ok : Nat → Prop} {w : World} : ∀ {cells : List Value} {xs : List Int}, RdL ok w cells xs → ∀ n ∈ xs, In64 n
  | _, x :: xs, ⟨c, d, e, h, h'⟩, n, hn => by
    rcases List.mem_cons.1 hn with rfl | hn
    · exact h.2
    · exact RdL.in64 h' n hn
theorem cj_len {f : FuncId} {vs : List Value} {ρ : Type} {r : ρ → Value} {Γ' : ρ → List Atom} {α : Type} {iα : Rep α} (sv : Value) {xs : List α} [hr : HasRd (List α) repList Γ [sv] xs] (h : xs.length ≤ 9223372036854775807 → CJ P f vs w0 Γ r Γ') : CJ P f vs w0 Γ r Γ' := fun w hs => by
  obtain ⟨a, cap, _, _, _, hl, _⟩ := hs.rd (hr := hr)
  exact h hl w hs
theorem cj_in64 {f : FuncId} {vs : List Value} {ρ : Type} {r : ρ → Value} {Γ' : ρ → List Atom} (sv : Value) {xs : List Int} [hr : HasRd (List Int) repList Γ [sv] xs] (h : (∀ n ∈ xs, In64 n) → CJ P f vs w0 Γ r Γ') : CJ P f vs w0 Γ r Γ' := fun w hs => by
  obtain ⟨a, cap, _, _, _, _, hl⟩ := hs.rd (hr := hr)
  refine h (fun n hn => ?_) w hs
  obtain ⟨b, off, cells, _, _, _, hrd⟩ := hl (List.length_pos_of_mem hn)
  exact hrd.in64 n hn
/-- What is owned is shared from here on. -/
theorem wl_share {α : Type} {iα : Rep α} (sv : Value) {x : α} [hp : PullOw α iα Γ [sv] x Δ] (h : WL P ops Q w0 rest l (.rd [sv] x :: Δ)) : WL P ops Q w0 rest l Γ := fun w hs => h w (hs.perm hp.perm).share
theorem wc_share {α : Type} {iα : Rep α} {c : Code} (sv : Value) {x : α} [hp : PullOw α iα Γ [sv] x Δ] (h : WC P Q w0 c l (.rd [sv] x :: Δ)) : WC P Q w0 c l Γ := fun w hs => h w (hs.perm hp.perm).share
end ops

/-! ### What is carried out by looking -/
class PuC (P : Program) (l : List Value) (Γ : List Atom) (op : Op) (ty : TypeId) (v : outParam Value) : Prop where
  run : ∀ w0, Pu P w0 l Γ op ty v
instance {P : Program} {l : List Value} {Γ : List Atom} {ty : TypeId} {v : Value} {x : Operand} [h : Ev l x v] : PuC P l Γ (.move x) ty v := ⟨fun _ => pu_move⟩
instance {P : Program} {l : List Value} {Γ : List Atom} {ty : TypeId} {v : Value} {x : Operand} [h : Ev l x v] : PuC P l Γ (.assign x) ty v := ⟨fun _ => pu_assign⟩
instance {P : Program} {l : List Value} {Γ : List Atom} {ty : TypeId} {v : Value} {c a b : Operand} [h : Ev l c (.bool true)] [ha : Ev l a v] : PuC P l Γ (.pick c a b) ty v := ⟨fun _ => pu_pick_t⟩
instance {P : Program} {l : List Value} {Γ : List Atom} {ty : TypeId} {v : Value} {c a b : Operand} [h : Ev l c (.bool false)] [ha : Ev l b v] : PuC P l Γ (.pick c a b) ty v := ⟨fun _ => pu_pick_f⟩
instance {P : Program} {l : List Value} {Γ : List Atom} {ty : TypeId} {T : TypeId} {x : Operand} {b : Bool} [h : Ev l x (.bool b)] : PuC P l Γ (.unOp .not T x) ty (.bool (!b)) := ⟨fun _ => pu_un_not⟩
instance (priority := 400) {P : Program} {l : List Value} {Γ : List Atom} {ty : TypeId} {T : TypeId} {x : Operand} {i k : Nat} {a : Addr} [h : Ev l x (.pointer (some a))] [hf : Fo P T i k] : PuC P l Γ (.fieldAddr T x i) ty (.pointer (some (a.add k))) := ⟨fun _ => pu_fieldAddr⟩
instance (priority := 500) {P : Program} {l : List Value} {Γ : List Atom} {ty : TypeId} {T : TypeId} {x : Operand} {i k m s : Nat} {p : Addr} [h : Ev l x (.pointer (some (p.add m)))] [hf : Fo P T i k] [hs : NatAdd m k s] : PuC P l Γ (.fieldAddr T x i) ty (.pointer (some (p.add s))) := ⟨fun _ => pu_fieldAddr_e⟩
instance {P : Program} {l : List Value} {Γ : List Atom} {ty : TypeId} {T : TypeId} {x : Operand} {i k b off s : Nat} [h : Ev l x (.pointer (some ⟨b, off, none⟩))] [hf : Fo P T i k] [hs : NatAdd off k s] : PuC P l Γ (.fieldAddr T x i) ty (.pointer (some ⟨b, s, none⟩)) := ⟨fun _ => pu_fieldAddr_b⟩
instance {P : Program} {l : List Value} {Γ : List Atom} {ty : TypeId} {x : Operand} {a : Addr} [h : Ev l x (.pointer (some a))] : PuC P l Γ (.nilCheck x) ty (.pointer (some a)) := ⟨fun _ => pu_nilCheck⟩
instance {P : Program} {l : List Value} {Γ : List Atom} {ty : TypeId} {v : Value} {x : Operand} {i : Nat} {vs : List Value} [h : Ev l x (.tuple vs.toArray)] [hi : Ge vs i v] : PuC P l Γ (.extract x i) ty v := ⟨fun _ => pu_extract⟩
instance {P : Program} {l : List Value} {Γ : List Atom} {ty : TypeId} {x : Operand} {T k b : Nat} {sv : Value} {α : Type} {i : Rep α} {xs : List α} [h : Ev l x sv] [ht : Sl P T k b] [hr : HasRd (List α) repList Γ [sv] xs] : PuC P l Γ (.call { callee := .builtin .len, args := #[x], argTypes := #[T] }) ty (.int .i64 xs.length) := ⟨fun _ => pu_len⟩
instance {P : Program} {l : List Value} {Γ : List Atom} {ty : TypeId} {x : Operand} {T : Nat} {s : ByteArray} [h : Ev l x (.string s)] [ht : IsStr P T] : PuC P l Γ (.call { callee := .builtin .len, args := #[x], argTypes := #[T] }) ty (.int .i64 s.size) := ⟨fun _ => pu_len_str⟩
instance {P : Program} {l : List Value} {Γ : List Atom} {ty : TypeId} {T U : TypeId} {x y : Operand} {a b : Int} {k : IntKind} [hx : Ev l x (.int k a)] [hy : Ev l y (.int k b)] : PuC P l Γ (.binOp .lss T x y U) ty (.bool (decide (a < b))) := ⟨fun _ => pu_lss⟩
instance {P : Program} {l : List Value} {Γ : List Atom} {ty : TypeId} {T U : TypeId} {x y : Operand} {a b : Int} {k : IntKind} [hx : Ev l x (.int k a)] [hy : Ev l y (.int k b)] : PuC P l Γ (.binOp .leq T x y U) ty (.bool (decide (a ≤ b))) := ⟨fun _ => pu_leq⟩
instance {P : Program} {l : List Value} {Γ : List Atom} {ty : TypeId} {T U : TypeId} {x y : Operand} {a b : Int} {k : IntKind} [hx : Ev l x (.int k a)] [hy : Ev l y (.int k b)] : PuC P l Γ (.binOp .gtr T x y U) ty (.bool (decide (b < a))) := ⟨fun _ => pu_gtr⟩
instance {P : Program} {l : List Value} {Γ : List Atom} {ty : TypeId} {T U : TypeId} {x y : Operand} {a b : Int} {k : IntKind} [hx : Ev l x (.int k a)] [hy : Ev l y (.int k b)] : PuC P l Γ (.binOp .geq T x y U) ty (.bool (decide (b ≤ a))) := ⟨fun _ => pu_geq⟩
instance {P : Program} {l : List Value} {Γ : List Atom} {ty : TypeId} {T U : TypeId} {x y : Operand} {a b : Int} {k : IntKind} [hx : Ev l x (.int k a)] [hy : Ev l y (.int k b)] : PuC P l Γ (.binOp .eql T x y U) ty (.bool (decide (a = b))) := ⟨fun _ => pu_eql⟩
instance {P : Program} {l : List Value} {Γ : List Atom} {ty : TypeId} {T U : TypeId} {x y : Operand} {a b : Int} {k : IntKind} [hx : Ev l x (.int k a)] [hy : Ev l y (.int k b)] : PuC P l Γ (.binOp .neq T x y U) ty (.bool (decide (a ≠ b))) := ⟨fun _ => pu_neq⟩
instance {P : Program} {l : List Value} {Γ : List Atom} {ty : TypeId} {T U : TypeId} {x y : Operand} {a b : Bool} [hx : Ev l x (.bool a)] [hy : Ev l y (.bool b)] [hT : IsBool P T] : PuC P l Γ (.binOp .eql T x y U) ty (.bool (a == b)) := ⟨fun _ => pu_eql_b⟩
instance {P : Program} {l : List Value} {Γ : List Atom} {ty : TypeId} {T U : TypeId} {x y : Operand} {a b : Bool} [hx : Ev l x (.bool a)] [hy : Ev l y (.bool b)] [hT : IsBool P T] : PuC P l Γ (.binOp .neq T x y U) ty (.bool (!(a == b))) := ⟨fun _ => pu_neq_b⟩
instance {P : Program} {l : List Value} {Γ : List Atom} {ty : TypeId} {T U : TypeId} {x y : Operand} {a b : ByteArray} [hx : Ev l x (.string a)] [hy : Ev l y (.string b)] : PuC P l Γ (.binOp .eql T x y U) ty (.bool (decide (a = b))) := ⟨fun _ => pu_eql_s⟩
instance {P : Program} {l : List Value} {Γ : List Atom} {ty : TypeId} {T U : TypeId} {x y : Operand} {a b : ByteArray} [hx : Ev l x (.string a)] [hy : Ev l y (.string b)] : PuC P l Γ (.binOp .neq T x y U) ty (.bool (decide (a ≠ b))) := ⟨fun _ => pu_neq_s⟩
instance {P : Program} {l : List Value} {Γ : List Atom} {ty : TypeId} {v : Value} {T : TypeId} {x : Operand} {b off : Nat} {cs : List Value} [h : Ev l x (.pointer (some ⟨b, off, none⟩))] [hT : Sc P T] [hb : HasBk Γ b cs] [hv : Ge cs off v] : PuC P l Γ (.load T x) ty v := ⟨fun _ => pu_load⟩
instance {P : Program} {l : List Value} {Γ : List Atom} {ty : TypeId} {T : TypeId} {x : Operand} {b off k : Nat} {cs out : List Value} [h : Ev l x (.pointer (some ⟨b, off, none⟩))] [hT : Ag P T k] [hb : HasBk Γ b cs] [hv : Tk cs off k out] : PuC P l Γ (.load T x) ty (.agg out.toArray) := ⟨fun _ => pu_load_agg⟩
instance {P : Program} {l : List Value} {Γ : List Atom} {ty : TypeId} {v : Value} {T : TypeId} {x : Operand} {p : Addr} [h : Ev l x (.pointer (some p))] [hT : Sc P T] [hp : HasPt Γ p [v]] : PuC P l Γ (.load T x) ty v := ⟨fun _ => pu_load_pt⟩
instance {P : Program} {l : List Value} {Γ : List Atom} {ty : TypeId} {v : Value} {T off : Nat} {x : Operand} {p : Addr} {cs : List Value} [h : Ev l x (.pointer (some (p.add off)))] [hT : Sc P T] [hp : HasPt Γ p cs] [hv : Ge cs off v] : PuC P l Γ (.load T x) ty v := ⟨fun _ => pu_load_ptf⟩
instance {P : Program} {l : List Value} {Γ : List Atom} {ty : TypeId} {T off k : Nat} {x : Operand} {p : Addr} {cs out : List Value} [h : Ev l x (.pointer (some (p.add off)))] [hT : Ag P T k] [hp : HasPt Γ p cs] [hv : Tk cs off k out] : PuC P l Γ (.load T x) ty (.agg out.toArray) := ⟨fun _ => pu_load_ptf_agg⟩
instance {P : Program} {l : List Value} {Γ : List Atom} {ty : TypeId} {T : TypeId} {ps : List (Nat × Operand)} {places : List (Nat × Nat)} {zs out : List Value} [hT : StT P T places zs] [hb : BuildL Γ l places zs ps out] : PuC P l Γ (.build T ps.toArray) ty (.agg out.toArray) := ⟨fun _ => pu_build⟩

theorem wl_auto {P : Program} {ops : Array Oper} {Q : Exit → Act → World → Prop} {w0 : World} {rest : List Oper} {l l' : List Value} {Γ : List Atom} {ty : TypeId} {v : Value} {pos : String} {after : Array Edge} {d : Nat} {op : Op}
    [hy : PuC P l Γ op ty v] [hd : Se l d v l'] (h : WL P ops Q w0 rest l' Γ) : WL P ops Q w0 (⟨some d, op, ty, pos, after, none⟩ :: rest) l Γ := wl_pure (hy.run w0) h

end Go.Eng
