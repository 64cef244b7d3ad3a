/- The product of automata, plain: its states are the pairs that are reached; its rules, as the program and as the reference list them. -/
import Derived.Test.YtbbdjjlnachnlaaGreatAutL
namespace Go.Proofs.YtbbdjjlnachnlaaGreat
open Go Go.Eng
set_option linter.unusedVariables false
set_option linter.unusedSimpArgs false
theorem nd_le {α : Type} : ∀ {l m : List α}, l.Nodup → (∀ x ∈ l, x ∈ m) → l.length ≤ m.length
  | [], m, _, _ => Nat.zero_le _
  | x :: l, m, hn, h => by
    obtain ⟨m1, m2, rfl⟩ := List.append_of_mem (h x List.mem_cons_self)
    have hx := (List.nodup_cons.1 hn)
    have := nd_le (l := l) (m := m1 ++ m2) hx.2 fun y hy => by
      rcases List.mem_append.1 (h y (List.mem_cons_of_mem _ hy)) with h1 | h1
      · exact List.mem_append_left _ h1
      · rcases List.mem_cons.1 h1 with rfl | h1
        · exact absurd hy hx.1
        · exact List.mem_append_right _ h1
    simp only [List.length_append, List.length_cons] at this ⊢
    omega
theorem nd_eq {α : Type} {l m : List α} (hl : l.Nodup) (hm : m.Nodup) (h : ∀ x, x ∈ l ↔ x ∈ m) : l.length = m.length :=
  Nat.le_antisymm (nd_le hl fun x hx => (h x).1 hx) (nd_le hm fun x hx => (h x).2 hx)
theorem nd_flatMap {α β : Type} {l : List α} {f : α → List β} (h1 : ∀ a ∈ l, (f a).Nodup) (h2 : l.Pairwise fun a b => ∀ x ∈ f a, ∀ y ∈ f b, x ≠ y) : (l.flatMap f).Nodup := by
  rw [List.nodup_iff_pairwise_ne, List.pairwise_flatMap]
  exact ⟨fun a ha => List.nodup_iff_pairwise_ne.1 (h1 a ha), h2⟩
theorem nd_map {α β : Type} {l : List α} {f : α → β} (hl : l.Nodup) (h : ∀ a ∈ l, ∀ b ∈ l, f a = f b → a = b) : (l.map f).Nodup := by
  rw [List.nodup_iff_pairwise_ne, List.pairwise_map]
  refine (List.nodup_iff_pairwise_ne.1 hl).imp_of_mem fun ha hb hne e => hne (h _ ha _ hb e)
theorem nd_filter {α : Type} (p : α → Bool) {l : List α} (h : l.Nodup) : (l.filter p).Nodup := by
  rw [List.nodup_iff_pairwise_ne] at *
  exact List.Pairwise.filter _ h
theorem nd_range (n : Nat) : (List.range n).Nodup := List.nodup_range
/-! ### The pairs -/
/-- In order. -/
noncomputable def pairsTo (P : Int → Int → Prop) (m p : Nat) : Nat → List (Int × Int)
  | 0 => []
  | q + 1 => pairsTo P m p q ++ (if decC (P (p : Int) (q : Int)) = true then [((p : Int), (q : Int))] else [])
noncomputable def pairsP (P : Int → Int → Prop) (m : Nat) : Nat → List (Int × Int)
  | 0 => []
  | p + 1 => pairsP P m p ++ pairsTo P m p m
theorem pairsTo_mem {P : Int → Int → Prop} {m p : Nat} {z : Int × Int} : ∀ {q}, z ∈ pairsTo P m p q ↔ ∃ j : Nat, j < q ∧ z = ((p : Int), (j : Int)) ∧ P (p : Int) (j : Int)
  | 0 => by simp [pairsTo]
  | q + 1 => by
    unfold pairsTo
    rw [List.mem_append, pairsTo_mem]
    constructor
    · rintro (⟨j, h1, h2, h3⟩ | h)
      · exact ⟨j, by omega, h2, h3⟩
      · split at h
        · rename_i hd
          rw [List.mem_singleton] at h; exact ⟨q, by omega, h, decC_iff.1 hd⟩
        · cases h
    · rintro ⟨j, h1, h2, h3⟩
      by_cases e : j = q
      · subst e; exact .inr (by rw [if_pos (decC_t h3), h2]; simp)
      · exact .inl ⟨j, by omega, h2, h3⟩
theorem pairsP_mem {P : Int → Int → Prop} {m : Nat} {z : Int × Int} : ∀ {n}, z ∈ pairsP P m n ↔ ∃ i j : Nat, i < n ∧ j < m ∧ z = ((i : Int), (j : Int)) ∧ P (i : Int) (j : Int)
  | 0 => by simp [pairsP]
  | n + 1 => by
    unfold pairsP
    rw [List.mem_append, pairsP_mem, pairsTo_mem]
    constructor
    · rintro (⟨i, j, h1, h2, h3⟩ | ⟨j, h1, h2⟩)
      · exact ⟨i, j, by omega, h2, h3⟩
      · exact ⟨n, j, by omega, h1, h2⟩
    · rintro ⟨i, j, h1, h2, h3⟩
      by_cases e : i = n
      · subst e; exact .inr ⟨j, h2, h3⟩
      · exact .inl ⟨i, j, by omega, h2, h3⟩
theorem pairsTo_nd {P : Int → Int → Prop} {m p : Nat} : ∀ q, (pairsTo P m p q).Nodup
  | 0 => List.nodup_nil
  | q + 1 => by
    unfold pairsTo
    rw [List.nodup_append]
    refine ⟨pairsTo_nd q, by split <;> simp, fun a ha b hb e => ?_⟩
    split at hb
    · rw [List.mem_singleton] at hb
      obtain ⟨j, h1, h2, _⟩ := pairsTo_mem.1 ha
      rw [h2, hb] at e
      have := congrArg Prod.snd e
      simp only at this
      omega
    · cases hb
theorem pairsP_nd {P : Int → Int → Prop} {m : Nat} : ∀ n, (pairsP P m n).Nodup
  | 0 => List.nodup_nil
  | n + 1 => by
    unfold pairsP
    rw [List.nodup_append]
    refine ⟨pairsP_nd n, pairsTo_nd m, fun a ha b hb e => ?_⟩
    obtain ⟨i, j, h1, _, h2, _⟩ := pairsP_mem.1 ha
    obtain ⟨j', _, h3, _⟩ := pairsTo_mem.1 hb
    rw [h2, h3] at e
    have := congrArg Prod.fst e
    simp only at this
    omega
theorem pairsTo_pre {P : Int → Int → Prop} {m p q : Nat} (h : q < m) : pairsTo P m p q <+: pairsTo P m p m := by
  obtain ⟨d, rfl⟩ : ∃ d, m = q + d := ⟨m - q, by omega⟩
  clear h
  generalize hmm : q + d = mm
  suffices ∀ d, pairsTo P mm p q <+: pairsTo P mm p (q + d) by rw [← hmm] at this ⊢; exact this d
  intro d
  induction d with
  | zero => exact List.prefix_rfl
  | succ d ih => exact ih.trans (by rw [← Nat.add_assoc]; exact List.prefix_append _ _)
theorem pairsP_pre {P : Int → Int → Prop} {m p : Nat} : ∀ {n}, p ≤ n → pairsP P m p <+: pairsP P m n
  | 0, h => by obtain rfl : p = 0 := by omega
               exact List.prefix_rfl
  | n + 1, h => by
    by_cases e : p = n + 1
    · rw [e]; exact List.prefix_rfl
    · exact (pairsP_pre (n := n) (by omega)).trans (List.prefix_append _ _)
theorem pairs_pre {P : Int → Int → Prop} {m p q n : Nat} (hp : p < n) (hq : q ≤ m) : pairsP P m p ++ pairsTo P m p q <+: pairsP P m n := by
  have h1 : pairsTo P m p q <+: pairsTo P m p m := by
    by_cases e : q = m
    · rw [e]; exact List.prefix_rfl
    · exact pairsTo_pre (by omega)
  obtain ⟨t, ht⟩ := h1
  have h2 : pairsP P m p ++ pairsTo P m p q <+: pairsP P m (p + 1) := ⟨t, by show _ = pairsP P m p ++ pairsTo P m p m; rw [List.append_assoc, ht]⟩
  exact h2.trans (pairsP_pre (by omega))
theorem pre_get {α : Type} [Inhabited α] {l m : List α} {z : α} (h : l ++ [z] <+: m) : l.length < m.length ∧ m.getD l.length default = z := by
  obtain ⟨t, rfl⟩ := h
  refine ⟨by simp, ?_⟩
  rw [List.getD_eq_getElem?_getD, List.append_assoc, List.getElem?_append_right (Nat.le_refl _), Nat.sub_self]; rfl
abbrev PR (x y : SAuto) : Int → Int → Prop := Pr2 x.2.1 y.2.1
noncomputable def prL (x y : SAuto) : List (Int × Int) := pairsP (PR x y) y.1.toNat x.1.toNat
theorem prL_mem {a : List Int} {x y : SAuto} (h : AutoP a x) (h' : AutoP a y) {p q : Int} : (p, q) ∈ prL x y ↔ PR x y p q := by
  unfold prL
  rw [pairsP_mem]
  constructor
  · rintro ⟨i, j, _, _, e, h3⟩
    simp only [Prod.mk.injEq] at e
    rw [e.1, e.2]; exact h3
  · intro h3
    obtain ⟨h4, h5⟩ := pr2_in h h' h3
    refine ⟨p.toNat, q.toNat, by omega, by omega, ?_, ?_⟩
    · rw [show ((p.toNat : Nat) : Int) = p by omega, show ((q.toNat : Nat) : Int) = q by omega]
    · rw [show ((p.toNat : Nat) : Int) = p by omega, show ((q.toNat : Nat) : Int) = q by omega]; exact h3
theorem prL_nd (x y : SAuto) : (prL x y).Nodup := pairsP_nd _
noncomputable def numP (x y : SAuto) (p q : Int) : Int := (((prL x y).idxOf (p, q) : Nat) : Int)
theorem idx_get {α : Type} [BEq α] [LawfulBEq α] [Inhabited α] {l : List α} {z : α} (h : z ∈ l) : l.idxOf z < l.length ∧ l.getD (l.idxOf z) default = z := by
  have hl := List.idxOf_lt_length_of_mem h
  refine ⟨hl, ?_⟩
  rw [List.getD_eq_getElem?_getD, List.getElem?_eq_getElem hl]
  exact List.getElem_idxOf hl
theorem idx_of {α : Type} [BEq α] [LawfulBEq α] [Inhabited α] {l : List α} (hn : l.Nodup) {i : Nat} (h : i < l.length) : l.idxOf (l.getD i default) = i := by
  have hg : l.getD i default = l[i] := by rw [List.getD_eq_getElem?_getD, List.getElem?_eq_getElem h]; rfl
  have hm : l.getD i default ∈ l := by rw [hg]; exact List.getElem_mem h
  obtain ⟨h1, h2⟩ := idx_get hm
  have h3 : l.getD (l.idxOf (l.getD i default)) default = l[l.idxOf (l.getD i default)] := by
    rw [List.getD_eq_getElem?_getD (i := l.idxOf (l.getD i default)), List.getElem?_eq_getElem h1]; rfl
  exact (List.getElem_inj hn).1 (h3.symm.trans (h2.trans hg))
theorem numP_in {a : List Int} {x y : SAuto} (h : AutoP a x) (h' : AutoP a y) {p q : Int} (hp : PR x y p q) : 0 ≤ numP x y p q ∧ numP x y p q < (prL x y).length ∧ (prL x y).getD (numP x y p q).toNat default = (p, q) := by
  obtain ⟨h1, h2⟩ := idx_get ((prL_mem h h').2 hp)
  unfold numP
  rw [Int.toNat_natCast]
  exact ⟨by omega, by omega, h2⟩
theorem numP_inj {a : List Int} {x y : SAuto} (h : AutoP a x) (h' : AutoP a y) {p q p' q' : Int} (h1 : PR x y p q) (h2 : PR x y p' q') (e : numP x y p q = numP x y p' q') : p = p' ∧ q = q' := by
  have e1 := (numP_in h h' h1).2.2
  have e2 := (numP_in h h' h2).2.2
  rw [e, e2] at e1
  exact ⟨congrArg Prod.fst e1.symm, congrArg Prod.snd e1.symm⟩
/-! ### The rules, as the program lists them -/
def FitsP (P : Int → Int → Prop) (r s : STrans) : Prop := r.1 = s.1 ∧ ∀ i, i < r.2.1.length → P (r.2.1.getD i 0) (s.2.1.getD i 0)
noncomputable def mkR (x y : SAuto) (r s : STrans) : STrans := (r.1, mapI (numP x y) r.2.1 s.2.1, numP x y r.2.2 s.2.2)
noncomputable def cellI (x y : SAuto) (r s : STrans) : List STrans := if decC (FitsP (PR x y) r s) = true then [mkR x y r s] else []
noncomputable def rowI (x y : SAuto) (r : STrans) (ss : List STrans) : List STrans := ss.flatMap (cellI x y r)
noncomputable def allI (x y : SAuto) (rs : List STrans) : List STrans := rs.flatMap fun r => rowI x y r y.2.1
theorem rowI_mem {x y : SAuto} {r : STrans} {ss : List STrans} {t : STrans} : t ∈ rowI x y r ss ↔ ∃ s ∈ ss, FitsP (PR x y) r s ∧ t = mkR x y r s := by
  unfold rowI cellI
  rw [List.mem_flatMap]
  refine exists_congr fun s => and_congr_right fun _ => ?_
  split
  · rename_i h
    rw [List.mem_singleton]
    exact ⟨fun e => ⟨decC_iff.1 h, e⟩, fun e => e.2⟩
  · rename_i h
    exact ⟨fun e => (by cases e), fun e => absurd (decC_t e.1) h⟩
theorem allI_mem {x y : SAuto} {rs : List STrans} {t : STrans} : t ∈ allI x y rs ↔ ∃ r ∈ rs, ∃ s ∈ y.2.1, FitsP (PR x y) r s ∧ t = mkR x y r s := by
  unfold allI
  rw [List.mem_flatMap]
  exact exists_congr fun r => and_congr_right fun _ => rowI_mem
theorem fits_to {x y : SAuto} {r s : STrans} (hr : r ∈ x.2.1) (hs : s ∈ y.2.1) (hf : FitsP (PR x y) r s) : PR x y r.2.2 s.2.2 := Pr2.mk r s hr hs hf.1 hf.2
theorem mkR_inj {a : List Int} {x y : SAuto} (h : AutoP a x) (h' : AutoP a y) {r s r' s' : STrans} (hr : r ∈ x.2.1) (hs : s ∈ y.2.1) (hf : FitsP (PR x y) r s) (hr' : r' ∈ x.2.1) (hs' : s' ∈ y.2.1) (hf' : FitsP (PR x y) r' s') (e : mkR x y r s = mkR x y r' s') : r = r' ∧ s = s' := by
  unfold mkR at e
  simp only [Prod.mk.injEq] at e
  obtain ⟨e1, e2, e3⟩ := e
  obtain ⟨t1, t2⟩ := numP_inj h h' (fits_to hr hs hf) (fits_to hr' hs' hf') e3
  have hl : r.2.1.length = r'.2.1.length := by rw [← mapI_len (numP x y) r.2.1 s.2.1, e2, mapI_len]
  have l1 := auto_len h h' hr hs hf.1
  have l2 := auto_len h h' hr' hs' hf'.1
  have key : ∀ i, i < r.2.1.length → r.2.1.getD i 0 = r'.2.1.getD i 0 ∧ s.2.1.getD i 0 = s'.2.1.getD i 0 := fun i hi => by
    have h1 := mapI_get (f := numP x y) (b := s.2.1) hi
    rw [e2, mapI_get (by omega)] at h1
    exact numP_inj h h' (hf.2 i hi) (hf'.2 i (by omega)) h1.symm
  have ext : ∀ {u v : List Int}, u.length = v.length → (∀ i, i < u.length → u.getD i 0 = v.getD i 0) → u = v := fun {u v} h1 h2 => by
    apply List.ext_getElem h1
    intro i h3 h4
    have := h2 i h3
    rw [getD_lt h3, getD_lt h4] at this
    exact this
  refine ⟨trans_eq.2 ⟨⟨e1, ext hl fun i hi => (key i hi).1⟩, t1⟩, trans_eq.2 ⟨⟨by rw [← hf.1, e1, hf'.1], ext (by omega) fun i hi => (key i (by omega)).2⟩, t2⟩⟩
theorem allI_nd {a : List Int} {x y : SAuto} (h : AutoP a x) (h' : AutoP a y) : (allI x y x.2.1).Nodup := by
  unfold allI
  refine nd_flatMap (fun r hr => ?_) ?_
  · unfold rowI
    refine nd_flatMap (fun s hs => by unfold cellI; split <;> simp) ?_
    refine (List.nodup_iff_pairwise_ne.1 (rulesP_nd h'.2.2.2.2)).imp_of_mem fun {s s'} hs hs' hne u hu v hv e => ?_
    unfold cellI at hu hv
    split at hu
    · split at hv
      · rename_i f1 f2
        rw [List.mem_singleton] at hu hv
        subst hu hv
        exact hne (mkR_inj h h' hr hs (decC_iff.1 f1) hr hs' (decC_iff.1 f2) e).2
      · cases hv
    · cases hu
  · refine (List.nodup_iff_pairwise_ne.1 (rulesP_nd h.2.2.2.2)).imp_of_mem fun {r r'} hr hr' hne u hu v hv e => ?_
    obtain ⟨s, hs, hf, rfl⟩ := rowI_mem.1 hu
    obtain ⟨s', hs', hf', rfl⟩ := rowI_mem.1 hv
    exact hne (mkR_inj h h' hr hs hf hr' hs' hf' e).1
/-! ### The rules, as the reference lists them -/
def lefts (ps : List (Int × Int)) (l : List Int) : List (List Int) := l.map fun k => [(ps.getD k.toNat default).1]
def rights (ps : List (Int × Int)) (l : List Int) : List (List Int) := l.map fun k => [(ps.getD k.toNat default).2]
noncomputable def cellS (x y : SAuto) (f : Nat) (l : List Int) : List STrans :=
  (imgL x.2.1 f (lefts (prL x y) l)).flatMap fun p => (imgL y.2.1 f (rights (prL x y) l)).map fun q => ((f : Int), l, numP x y p q)
noncomputable def rowB (a : List Int) (x y : SAuto) (f i : Nat) : List STrans := (List.range i).flatMap fun j => cellS x y f (dig (prL x y).length (arN a f) j)
noncomputable def allB (a : List Int) (x y : SAuto) (f : Nat) : List STrans := (List.range f).flatMap fun g => rowB a x y g ((prL x y).length ^ arN a g)
theorem rowB_succ (a : List Int) (x y : SAuto) (f i : Nat) : rowB a x y f (i + 1) = rowB a x y f i ++ cellS x y f (dig (prL x y).length (arN a f) i) := by
  unfold rowB
  rw [List.range_succ, List.flatMap_append]; simp
theorem allB_succ (a : List Int) (x y : SAuto) (f : Nat) : allB a x y (f + 1) = allB a x y f ++ rowB a x y f ((prL x y).length ^ arN a f) := by
  unfold allB
  rw [List.range_succ, List.flatMap_append]; simp
theorem lefts_get {ps : List (Int × Int)} {l : List Int} {i : Nat} (h : i < l.length) : (lefts ps l).getD i default = [(ps.getD (l.getD i 0).toNat default).1] := by
  unfold lefts
  rw [List.getD_eq_getElem?_getD, List.getElem?_map, List.getElem?_eq_getElem h, List.getD_eq_getElem?_getD (l := l), List.getElem?_eq_getElem h]; rfl
theorem rights_get {ps : List (Int × Int)} {l : List Int} {i : Nat} (h : i < l.length) : (rights ps l).getD i default = [(ps.getD (l.getD i 0).toNat default).2] := by
  unfold rights
  rw [List.getD_eq_getElem?_getD, List.getElem?_map, List.getElem?_eq_getElem h, List.getD_eq_getElem?_getD (l := l), List.getElem?_eq_getElem h]; rfl
theorem imgL_mem {rs : List STrans} (hi : InS rs) {f : Int} {args : List (List Int)} {q : Int} : q ∈ imgL rs f args ↔ ∃ r ∈ rs, r.1 = f ∧ (∀ i, i < args.length → r.2.1.getD i 0 ∈ args.getD i default) ∧ q = r.2.2 := by
  unfold imgL
  rw [pL_mem fun q hq => img_in hi (Nat.le_refl _) hq]
  constructor
  · rintro ⟨j, hj, ⟨h1, h2⟩, rfl⟩
    exact ⟨_, getT hj, h1, h2, rfl⟩
  · rintro ⟨r, hr, h1, h2, rfl⟩
    obtain ⟨j, hj, rfl⟩ := List.getElem_of_mem hr
    have e : rs.getD j default = rs[j] := by rw [List.getD_eq_getElem?_getD, List.getElem?_eq_getElem hj]; rfl
    exact ⟨j, hj, by rw [e]; exact ⟨h1, h2⟩, by rw [e]⟩
theorem imgL_nd (rs : List STrans) (f : Int) (args : List (List Int)) : (imgL rs f args).Nodup := by
  unfold imgL pL
  refine nd_map (nd_filter _ (nd_range _)) fun a _ b _ e => ?_
  have : (a : Int) = (b : Int) := e
  omega
theorem cellS_mem {x y : SAuto} {f : Nat} {l : List Int} {t : STrans} : t ∈ cellS x y f l ↔ ∃ p ∈ imgL x.2.1 f (lefts (prL x y) l), ∃ q ∈ imgL y.2.1 f (rights (prL x y) l), t = ((f : Int), l, numP x y p q) := by
  unfold cellS
  rw [List.mem_flatMap]
  refine exists_congr fun p => and_congr_right fun _ => ?_
  rw [List.mem_map]
  exact exists_congr fun q => and_congr_right fun _ => eq_comm
/-- Of a list of numbers: what fits in both. -/
theorem img_pair {a : List Int} {x y : SAuto} (h : AutoP a x) (h' : AutoP a y) {f : Nat} {l : List Int} (hll : l.length = arN a f) (hl : ∀ q ∈ l, 0 ≤ q ∧ q < (prL x y).length) {p q : Int} (hp : p ∈ imgL x.2.1 f (lefts (prL x y) l)) (hq : q ∈ imgL y.2.1 f (rights (prL x y) l)) :
    ∃ r ∈ x.2.1, ∃ s ∈ y.2.1, FitsP (PR x y) r s ∧ r.1 = (f : Int) ∧ r.2.2 = p ∧ s.2.2 = q ∧ mapI (numP x y) r.2.1 s.2.1 = l := by
  obtain ⟨r, hr, r1, r2, rfl⟩ := (imgL_mem (inS_of h)).1 hp
  obtain ⟨s, hs, s1, s2, rfl⟩ := (imgL_mem (inS_of h')).1 hq
  have lr : (r.2.1.length : Int) = a.getD f 0 := by have := (auto_tr h hr).2.1; rw [r1, Int.toNat_natCast] at this; exact this
  have ls := auto_len h h' hr hs (r1.trans s1.symm)
  have har : r.2.1.length = arN a f := by unfold arN; omega
  have key : ∀ i, i < r.2.1.length → ((prL x y).getD (l.getD i 0).toNat default) = (r.2.1.getD i 0, s.2.1.getD i 0) ∧ (l.getD i 0).toNat < (prL x y).length ∧ 0 ≤ l.getD i 0 := fun i hi => by
    have h1 := r2 i (by unfold lefts; rw [List.length_map]; omega)
    have h2 := s2 i (by unfold rights; rw [List.length_map]; omega)
    rw [lefts_get (by omega), List.mem_singleton] at h1
    rw [rights_get (by omega), List.mem_singleton] at h2
    have h3 := hl _ (getK (show i < l.length by omega))
    exact ⟨by rw [h1, h2], by omega, h3.1⟩
  have hP : ∀ i, i < r.2.1.length → PR x y (r.2.1.getD i 0) (s.2.1.getD i 0) := fun i hi => by
    obtain ⟨h1, h2, _⟩ := key i hi
    rw [← prL_mem h h', ← h1, List.getD_eq_getElem?_getD, List.getElem?_eq_getElem h2]
    exact List.getElem_mem h2
  refine ⟨r, hr, s, hs, ⟨r1.trans s1.symm, hP⟩, r1, rfl, rfl, ?_⟩
  apply List.ext_getElem (by rw [mapI_len]; omega)
  intro i h1 h2
  have h3 : i < r.2.1.length := by rw [mapI_len] at h1; exact h1
  have h4 := mapI_get (f := numP x y) (b := s.2.1) h3
  rw [getD_lt h1] at h4
  rw [h4]
  obtain ⟨h5, h6, h7⟩ := key i h3
  unfold numP
  rw [← h5, idx_of (prL_nd x y) h6]
  have := getD_lt h2
  omega
theorem allB_mem {a : List Int} {x y : SAuto} {t : STrans} {m : Nat} : t ∈ allB a x y m ↔ ∃ f i, f < m ∧ i < (prL x y).length ^ arN a f ∧ t ∈ cellS x y f (dig (prL x y).length (arN a f) i) := by
  unfold allB rowB
  rw [List.mem_flatMap]
  constructor
  · rintro ⟨f, hf, ht⟩
    obtain ⟨i, hi, ht⟩ := List.mem_flatMap.1 ht
    exact ⟨f, i, List.mem_range.1 hf, List.mem_range.1 hi, ht⟩
  · rintro ⟨f, i, hf, hi, ht⟩
    exact ⟨f, List.mem_range.2 hf, List.mem_flatMap.2 ⟨i, List.mem_range.2 hi, ht⟩⟩
theorem allI_allB {a : List Int} {x y : SAuto} (h : AutoP a x) (h' : AutoP a y) (hn : 0 < (prL x y).length) (t : STrans) : t ∈ allI x y x.2.1 ↔ t ∈ allB a x y a.length := by
  rw [allI_mem, allB_mem]
  constructor
  · rintro ⟨r, hr, s, hs, hf, rfl⟩
    have tr := auto_tr h hr
    have ls := auto_len h h' hr hs hf.1
    obtain ⟨f, hfe⟩ : ∃ f : Nat, r.1 = (f : Int) := ⟨r.1.toNat, by have := tr.1.1; omega⟩
    have hfl : f < a.length := by have := tr.1.2; omega
    have har : r.2.1.length = arN a f := by have := tr.2.1; rw [hfe, Int.toNat_natCast] at this; unfold arN; omega
    have hin : ∀ q ∈ mapI (numP x y) r.2.1 s.2.1, 0 ≤ q ∧ q < ((prL x y).length : Int) := fun q hq => by
      obtain ⟨i, hi, rfl⟩ := List.getElem_of_mem hq
      have hi' : i < r.2.1.length := by rw [mapI_len] at hi; exact hi
      have h4 := mapI_get (f := numP x y) (b := s.2.1) hi'
      rw [getD_lt hi] at h4
      rw [h4]
      have := numP_in h h' (hf.2 i hi')
      exact ⟨this.1, this.2.1⟩
    obtain ⟨i, hi, hd⟩ := dig_sur hn _ hin
    rw [mapI_len, har] at hi hd
    refine ⟨f, i, hfl, hi, ?_⟩
    rw [hd, cellS_mem]
    have g : ∀ i, i < r.2.1.length → (prL x y).getD ((mapI (numP x y) r.2.1 s.2.1).getD i 0).toNat default = (r.2.1.getD i 0, s.2.1.getD i 0) := fun i hi => by
      rw [mapI_get hi]
      exact (numP_in h h' (hf.2 i hi)).2.2
    refine ⟨r.2.2, (imgL_mem (inS_of h)).2 ⟨r, hr, hfe, fun i hi => ?_, rfl⟩, s.2.2, (imgL_mem (inS_of h')).2 ⟨s, hs, by rw [← hf.1, hfe], fun i hi => ?_, rfl⟩, by unfold mkR; rw [hfe]⟩
    · unfold lefts at hi
      rw [List.length_map, mapI_len] at hi
      rw [lefts_get (by rw [mapI_len]; exact hi), g i hi]; simp
    · unfold rights at hi
      rw [List.length_map, mapI_len] at hi
      rw [rights_get (by rw [mapI_len]; exact hi), g i hi]; simp
  · rintro ⟨f, i, hf, hi, ht⟩
    obtain ⟨p, hp, q, hq, rfl⟩ := cellS_mem.1 ht
    obtain ⟨r, hr, s, hs, hfit, r1, rfl, rfl, hm⟩ := img_pair h h' (dig_len _ _ _) (dig_in hn _ _) hp hq
    exact ⟨r, hr, s, hs, hfit, by unfold mkR; rw [r1, hm]⟩
theorem allB_nd {a : List Int} {x y : SAuto} (h : AutoP a x) (h' : AutoP a y) (hn : 0 < (prL x y).length) : (allB a x y a.length).Nodup := by
  have hcell : ∀ f i, f < a.length → (cellS x y f (dig (prL x y).length (arN a f) i)).Nodup := fun f i hf => by
    have key : ∀ p ∈ imgL x.2.1 f (lefts (prL x y) (dig (prL x y).length (arN a f) i)), ∀ q ∈ imgL y.2.1 f (rights (prL x y) (dig (prL x y).length (arN a f) i)), PR x y p q := fun p hp q hq => by
      obtain ⟨r, hr, s, hs, hfit, r1, rfl, rfl, hm⟩ := img_pair h h' (dig_len _ _ _) (dig_in hn _ _) hp hq
      exact fits_to hr hs hfit
    unfold cellS
    refine nd_flatMap (fun p hp => nd_map (imgL_nd _ _ _) fun q hq q' hq' e => ?_) ?_
    · simp only [Prod.mk.injEq, true_and] at e
      exact (numP_inj h h' (key p hp q hq) (key p hp q' hq') e).2
    · refine (List.nodup_iff_pairwise_ne.1 (imgL_nd _ _ _)).imp_of_mem fun {p p'} hp hp' hne u hu v hv e => ?_
      obtain ⟨q, hq, rfl⟩ := List.mem_map.1 hu
      obtain ⟨q', hq', rfl⟩ := List.mem_map.1 hv
      simp only [Prod.mk.injEq, true_and] at e
      exact hne (numP_inj h h' (key p hp q hq) (key p' hp' q' hq') e).1
  unfold allB
  refine nd_flatMap (fun f hf => ?_) ?_
  · unfold rowB
    refine nd_flatMap (fun i hi => hcell f i (List.mem_range.1 hf)) ?_
    refine (List.nodup_iff_pairwise_ne.1 (nd_range _)).imp_of_mem fun {i j} hi hj hne u hu v hv e => ?_
    obtain ⟨p, _, q, _, rfl⟩ := cellS_mem.1 hu
    obtain ⟨p', _, q', _, rfl⟩ := cellS_mem.1 hv
    simp only [Prod.mk.injEq, true_and] at e
    exact hne (dig_inj hn _ _ _ (List.mem_range.1 hi) (List.mem_range.1 hj) e.1)
  · refine (List.nodup_iff_pairwise_ne.1 (nd_range _)).imp_of_mem fun {f g} hf hg hne u hu v hv e => ?_
    obtain ⟨i, _, hu⟩ := List.mem_flatMap.1 hu
    obtain ⟨j, _, hv⟩ := List.mem_flatMap.1 hv
    obtain ⟨p, _, q, _, rfl⟩ := cellS_mem.1 hu
    obtain ⟨p', _, q', _, rfl⟩ := cellS_mem.1 hv
    simp only [Prod.mk.injEq] at e
    exact hne (by omega)
theorem both_len {a : List Int} {x y : SAuto} (h : AutoP a x) (h' : AutoP a y) (hn : 0 < (prL x y).length) : (allI x y x.2.1).length = (allB a x y a.length).length :=
  nd_eq (allI_nd h h') (allB_nd h h' hn) (allI_allB h h' hn)
/-- The final states. -/
noncomputable def finB (ps : List (Int × Int)) (fa fb : List Int) : Nat → List Int
  | 0 => []
  | i + 1 => finB ps fa fb i ++ (if (ps.getD i default).1 ∈ fa ∧ (ps.getD i default).2 ∈ fb then [(i : Int)] else [])
theorem finB_mem {ps : List (Int × Int)} {fa fb : List Int} {q : Int} : ∀ {m}, q ∈ finB ps fa fb m ↔ ∃ i, i < m ∧ q = (i : Int) ∧ (ps.getD i default).1 ∈ fa ∧ (ps.getD i default).2 ∈ fb
  | 0 => by simp [finB]
  | m + 1 => by
    unfold finB
    rw [List.mem_append, finB_mem]
    constructor
    · rintro (⟨i, h1, h2, h3⟩ | h)
      · exact ⟨i, by omega, h2, h3⟩
      · split at h
        · rw [List.mem_singleton] at h; exact ⟨m, by omega, h, ‹_›⟩
        · cases h
    · rintro ⟨i, h1, h2, h3⟩
      by_cases e : i = m
      · subst e; exact .inr (by rw [if_pos h3, h2]; simp)
      · exact .inl ⟨i, by omega, h2, h3⟩
theorem finB_len (ps : List (Int × Int)) (fa fb : List Int) : ∀ i, (finB ps fa fb i).length ≤ i
  | 0 => Nat.le_refl _
  | i + 1 => by
    have := finB_len ps fa fb i
    unfold finB
    rw [List.length_append]
    split <;> simp <;> omega
theorem finB_set {ps : List (Int × Int)} {fa fb : List Int} : ∀ m, (finB ps fa fb m).Pairwise (· < ·)
  | 0 => List.Pairwise.nil
  | m + 1 => by
    unfold finB
    rw [List.pairwise_append]
    refine ⟨finB_set m, by split <;> simp, fun a ha b hb => ?_⟩
    obtain ⟨i, h3, h4, _⟩ := finB_mem.1 ha
    split at hb
    · rw [List.mem_singleton] at hb; omega
    · cases hb
/-- The product, its rules in some order. -/
structure BothW (a : List Int) (x y z : SAuto) : Prop where
  ax : AutoP a x
  ay : AutoP a y
  n1 : 1 ≤ (prL x y).length ∧ (prL x y).length ≤ 16
  r3 : (allI x y x.2.1).length ≤ 300
  st : z.1 = (prL x y).length
  rl : z.2.1.Perm (allI x y x.2.1)
  fi : z.2.2 = finB (prL x y) x.2.2 y.2.2 (prL x y).length
theorem BothW.rel {a : List Int} {x y z : SAuto} (h : BothW a x y z) : BothR x y z (numP x y) where
  inj p q p' q' h1 h2 e := numP_inj h.ax h.ay h1 h2 e
  rules t := by
    rw [h.rl.mem_iff, allI_mem]
    refine exists_congr fun r => and_congr_right fun _ => exists_congr fun s => and_congr_right fun _ => ?_
    exact ⟨fun e => ⟨e.1.1, e.1.2, e.2⟩, fun e => ⟨⟨e.1, e.2.1⟩, e.2.2⟩⟩
  fin n := by
    rw [h.fi, finB_mem]
    constructor
    · rintro ⟨i, h1, h2, h3, h4⟩
      refine ⟨_, _, ?_, h3, h4, ?_⟩
      · refine (prL_mem h.ax h.ay).1 ?_
        show (prL x y).getD i default ∈ _
        rw [List.getD_eq_getElem?_getD, List.getElem?_eq_getElem h1]
        exact List.getElem_mem h1
      · unfold numP
        rw [show (((prL x y).getD i default).1, ((prL x y).getD i default).2) = (prL x y).getD i default from rfl, idx_of (prL_nd x y) h1]
        exact h2
    · rintro ⟨p, q, h1, h2, h3, rfl⟩
      obtain ⟨h4, h5, h6⟩ := numP_in h.ax h.ay h1
      exact ⟨(numP x y p q).toNat, by omega, by omega, by rw [h6]; exact h2, by rw [h6]; exact h3⟩
theorem BothW.auto {a : List Int} {x y z : SAuto} (h : BothW a x y z) : AutoP a z := by
  have h1 := h.n1
  refine ⟨h.ax.1, ⟨by rw [h.st]; omega, by rw [h.st]; omega⟩, by rw [h.rl.length_eq]; exact h.r3, ?_, rulesP_of (fun t ht => ?_) (h.rl.symm.nodup (allI_nd h.ax h.ay))⟩
  · rw [h.fi, h.st]
    refine setP_of (finB_set _) fun q hq => ?_
    obtain ⟨i, h2, h3, _⟩ := finB_mem.1 hq
    omega
  · obtain ⟨r, hr, s, hs, hf, rfl⟩ := allI_mem.1 (h.rl.mem_iff.1 ht)
    have tr := auto_tr h.ax hr
    have hto := numP_in h.ax h.ay (fits_to hr hs hf)
    refine ⟨tr.1, ?_, fun i hi => ?_, hto.1, by rw [h.st]; exact hto.2.1⟩
    · show ((mapI (numP x y) r.2.1 s.2.1).length : Int) = _
      rw [mapI_len]; exact tr.2.1
    · have hi' : i < r.2.1.length := by
        have : i < (mapI (numP x y) r.2.1 s.2.1).length := hi
        rw [mapI_len] at this; exact this
      show 0 ≤ (mapI (numP x y) r.2.1 s.2.1).getD i 0 ∧ (mapI (numP x y) r.2.1 s.2.1).getD i 0 < _
      rw [mapI_get hi', h.st]
      have := numP_in h.ax h.ay (hf.2 i hi')
      exact ⟨this.1, this.2.1⟩
theorem BothW.acc {a t : List Int} {x y z : SAuto} (h : BothW a x y z) (ht : GrP a t) : accN a z t = (accN a x t && accN a y t) :=
  both_acc h.ax h.ay h.auto ht h.rel
end Go.Proofs.YtbbdjjlnachnlaaGreat
