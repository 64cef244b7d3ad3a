/- The trace of a system by its pairs: the reference. -/
import Derived.Test.YtjblieilblcdnaaTraO
import Derived.Test.YtjblieilblcdnaaMee3
import Derived.Test.YtjblieilblcdnaaDrl
namespace Go.Eng
open Go Go.RowKit
instance (priority := 390) hasIm_pairL {Γ : List Atom} {α β : Type} {iα : Rep α} {iβ : Rep β} {a b c : Value} {cs : List Value} {x : α} {y : β} [h : HasIm α iα Γ [a] x] [h' : HasIm β iβ Γ (b :: c :: cs) y] : HasIm (α × β) repProd Γ (a :: b :: c :: cs) (x, y) := ⟨fun hs => ⟨[a], b :: c :: cs, rfl, h.get hs, h'.get hs⟩⟩
end Go.Eng
namespace Go.Proofs.Ytjblieilblcdnaa
open Go Go.Eng
set_option linter.unusedVariables false
set_option linter.unusedSimpArgs false
set_option synthInstance.maxHeartbeats 400000
set_option synthInstance.maxSize 1000
set_option maxHeartbeats 4000000
set_option maxRecDepth 20000

theorem ent_im {w0 : World} {Γ Ε : List Atom} {α : Type} {i : Rep α} (c : Value) {x : α} [h : HasIm α i Γ [c] x] (h2 : Go.Eng.Ent w0 (@Atom.rd α i [c] x :: Γ) Ε) : Go.Eng.Ent w0 Γ Ε := fun w hs => h2 w (hs.addrd (fun F h' => h.get h'))
theorem siz_polys {m : Nat} : ∀ {xs : List SPoly}, (∀ q ∈ xs, q.2.length ≤ m) → Siz.size xs ≤ xs.length * (1 + m)
  | [], _ => by simp [siz_list, sumL]
  | q :: xs, h => by
    have h1 := siz_polys (xs := xs) fun z hz => h z (by simp [hz])
    have h2 := h q (by simp)
    have h3 : Siz.size q = q.2.length := by rw [siz_pair, siz_int, siz_ints, Nat.zero_add]
    rw [siz_list] at h1 ⊢
    have h4 : sumL (q :: xs) = Siz.size q + sumL xs := rfl
    rw [h4, h3, List.length_cons, Nat.succ_mul]
    omega
theorem mark_siz {a : List Int} {ps : List SPoly} (h : MarkP a ps) : Siz.size ps ≤ 64 := by
  have hsg := sigOk_len h.p.1
  have hl := h.l
  have hm : ∀ q ∈ ps, q.2.length ≤ 3 := fun q hq => by
    have key : ∀ qs : List SPoly, PolysP a qs → q ∈ qs → q.2.length ≤ 3 := fun qs hp hm => by
      obtain ⟨i, hi, e⟩ := List.getElem_of_mem hm
      have h1 := (hp.2.2 i hi).2.1
      have h2 := sigOk_get hp.1 (k := i) (by have := hp.2.1; omega)
      rw [List.getD_eq_getElem?_getD, List.getElem?_eq_getElem hi, Option.getD_some, e] at h1
      omega
    rw [← List.take_append_drop a.length ps] at hq
    rcases List.mem_append.1 hq with hq | hq
    · exact key _ h.p hq
    · exact key _ h.q hq
  have := siz_polys hm
  omega
/-- A step that takes some of a part away. -/
structure StepP (s : List Int) (t : SPairStep) : Prop where
  p : t.1 = s
  g : t.2.2.2.Sublist s
  gp : 0 < t.2.2.2.length
  sz : Siz.size t ≤ 1000
abbrev StT (s : List Int) : Type := { t : SPairStep × Bool // t.2 = true → StepP s t.1 }
theorem l18Step_spec {w0 : World} {Γ : List Atom} {v0 v1 vs : Value} {x : SSystem} {s : List Int} [h0 : HasIm (List Int) repList Γ [v0] x.1] [h1 : HasIm (List SRule) repList Γ [v1] x.2] [h2 : HasIm (List Int) repList Γ [vs] s] :
    CJ Try.prog 29 [.agg #[v0, v1], vs] w0 Γ (fun q : (Value × Value × Value × Value) × StT s => .tuple #[.agg #[q.1.1, q.1.2.1, q.1.2.2.1, q.1.2.2.2], .bool q.2.1.2]) (fun q => .rd [q.1.1] q.2.1.1.1 :: .rd [q.1.2.1] q.2.1.1.2.1 :: .rd [q.1.2.2.1] q.2.1.1.2.2.1 :: .rd [q.1.2.2.2] q.2.1.1.2.2.2 :: Γ) := by
  have hpl := pairsD_len x
  refine cj_enter Try.func29 Try.ntmps29 ?_
  repeat' (first | refine red ?_ | (refine redc fun r => ?_; try have hr := Subtype.property r) | refine redn fun b => ?_ | (refine redi (fun hc => ?_) (fun hc => ?_) <;> try first | (exfalso; omega) | with_reducible first | exact absurd rfl hc | exact absurd hc Bool.false_ne_true | exact absurd hc Bool.false_ne_true.symm) | fail)
  · rename Value × FpT x s => f
    obtain ⟨hP, hg⟩ := f.2.2.2 hc
    have h1 := f.2.2.1
    have h2 := hP.st.len
    have h3 := (prjD_sub x s f.2.1.1).length_le
    exact ⟨((vs, f.1, .slice none 0 0, r), ⟨((s, f.2.1.1, [], prjD x s f.2.1.1), true), fun _ => ⟨rfl, prjD_sub x s _, hg, by simp only [siz_pair, siz_ints]; have : Siz.size ([] : List SPoly) = 0 := rfl; omega⟩⟩), rfl, ent_im vs (ent_rd r (ent_rd f.1 ent_e))⟩
  · rename Value × FmT x s => f
    obtain ⟨hP, hg⟩ := f.2.2 hc
    have h1 := mark_siz hP.mm
    have h2 := hP.st.len
    have h3 := (wgbD_sub x s f.2.1.1).length_le
    exact ⟨((vs, .slice none 0 0, f.1, r), ⟨((s, [], f.2.1.1, wgbD x s f.2.1.1), true), fun _ => ⟨rfl, wgbD_sub x s _, hg, by simp only [siz_pair, siz_ints, List.length_nil]; omega⟩⟩), rfl, ent_im vs (ent_rd r ent_e)⟩
  · exact ⟨((.slice none 0 0, .slice none 0 0, .slice none 0 0, .slice none 0 0), ⟨(([], [], [], []), false), fun h => nomatch h⟩), rfl, ent_e⟩
instance l18Step_ctr {Γ : List Atom} {v0 v1 vs : Value} {x : SSystem} {s : List Int} [h0 : HasIm (List Int) repList Γ [v0] x.1] [h1 : HasIm (List SRule) repList Γ [v1] x.2] [h2 : HasIm (List Int) repList Γ [vs] s] :
    CtrC Try.prog 29 [.agg #[v0, v1], vs] Γ (True) ((Value × Value × Value × Value) × StT s) (fun q : (Value × Value × Value × Value) × StT s => .tuple #[.agg #[q.1.1, q.1.2.1, q.1.2.2.1, q.1.2.2.2], .bool q.2.1.2]) (fun q => .rd [q.1.1] q.2.1.1.1 :: .rd [q.1.2.1] q.2.1.1.2.1 :: .rd [q.1.2.2.1] q.2.1.1.2.2.1 :: .rd [q.1.2.2.2] q.2.1.1.2.2.2 :: Γ) := ⟨fun s w0 => l18Step_spec⟩

theorem l18PartsS_spec {w0 : World} {Γ : List Atom} {vg vs : Value} {g : List (List Int)} {s : List Int} [h0 : HasRd (List (List Int)) repList Γ [vg] g] [h1 : HasRd (List Int) repList Γ [vs] s] (hs : AfsC g s) :
    CJ Try.prog 27 [vg, vs] w0 Γ (fun q : Value × PrtT g.length s => q.1) (fun q => .ow [q.1] (q.2.1.map Sh.mk) :: Γ) := by
  exact cj_mono (l18Parts_spec hs) (fun q => ⟨q, rfl, ent_toSh q.1⟩)
instance l18PartsS_ctr {Γ : List Atom} {vg vs : Value} {g : List (List Int)} {s : List Int} [h0 : HasRd (List (List Int)) repList Γ [vg] g] [h1 : HasRd (List Int) repList Γ [vs] s] :
    CtrC Try.prog 27 [vg, vs] Γ (AfsC g s) (Value × PrtT g.length s) (fun q : Value × PrtT g.length s => q.1) (fun q => .ow [q.1] (q.2.1.map Sh.mk) :: Γ) := ⟨fun s w0 => l18PartsS_spec s⟩

attribute [local instance 2000] l18PartsS_ctr
theorem wc_rdSh {P : Program} {Q : Exit → Act → World → Prop} {w0 : World} {l : List Value} {Γ Δ : List Atom} {c : Code} {β : Type} {iβ : Rep β} (sv : Value) {xs : List (Sh β)} [hp : PullOw (List (Sh β)) repList Γ [sv] xs Δ] (h : WC P Q w0 c l (@Atom.rd (List β) repList [sv] (xs.map Sh.v) :: Δ)) : WC P Q w0 c l Γ := fun w hs => h w (by
  haveI hi : ToRd (List β) repList Γ sv (xs.map Sh.v) Δ True := inferInstance
  exact hi.ent trivial w0 w hs)
abbrev TrT : Type := { q : List SPairStep × Bool // q.1.length ≤ 64 ∧ Siz.size q.1 ≤ 100000 }
theorem ent_sh1 {w0 : World} {Γ Δ Ε : List Atom} {β : Type} {iβ : Rep β} (sv : Value) {xs : List β} [hp : PullOw (List β) repList Γ [sv] xs Δ] (h : Go.Eng.Ent w0 (@Atom.ow (List (Sh β)) repList [sv] (xs.map Sh.mk) :: Δ) Ε) : Go.Eng.Ent w0 Γ Ε := fun w hs => h w (ent_toSh sv w hs)
theorem prt_len {n : Nat} {s : List Int} {ps : List (List Int)} (h : PrtP n s ps) : (List.map Sh.mk ps).length ≤ s.length := by
  rw [List.length_map]
  exact Nat.le_trans (flat_len ps fun q hq => (h.pt q hq).2) h.sum
theorem siz_snocP (xs : List SPairStep) (t : SPairStep) : Siz.size (xs ++ [t]) = Siz.size xs + (1 + Siz.size t) := by
  induction xs with
  | nil => rw [List.nil_append, siz_list, siz_list]; simp [sumL]
  | cons x xs ih =>
    rw [siz_list] at ih
    rw [List.cons_append, siz_list, siz_list]
    rw [siz_list] at ih
    simp only [sumL, List.length_cons] at ih ⊢
    omega
theorem less_lt {s g : List Int} (h : g.Sublist s) (hp : 0 < g.length) : (s.filter fun v => dcP (v ∉ g)).length < s.length := by
  refine List.length_filter_lt_length_iff_exists.2 ?_
  cases g with
  | nil => simp at hp
  | cons z g => exact ⟨z, h.subset (by simp), by rw [dcP_f (fun hn => hn (by simp))]; decide⟩
structure TdP (n : Nat) (td : List (List Int)) (ot : List SPairStep) : Prop where
  pt : ∀ q ∈ td, StC n q ∧ 0 < q.length
  le : td.flatten.length + ot.length ≤ 64
  sz : Siz.size ot ≤ 1001 * ot.length
theorem prt_cast {n m : Nat} {s : List Int} {ps : List (List Int)} (e : n = m) (h : PrtP n s ps) : PrtP m s ps := e ▸ h
theorem td_next {n : Nat} {td : List (List Int)} {ot : List SPairStep} {t : SPairStep} {less : List Int} {ps : List (List Int)} (h : TdP n td ot) (htd : 0 < td.length) (hl : less.length < (td.getD 0 default).length) (hz : Siz.size t ≤ 1000) (hp : PrtP n less ps) : TdP n (ps ++ td.drop 1) (ot ++ [t]) ∧ (ps ++ td.drop 1).flatten.length < td.flatten.length := by
  cases td with
  | nil => simp at htd
  | cons q td =>
    have h1 := hp.sum
    have h2 := h.le
    have h3 := h.sz
    have h4 : less.length < q.length := hl
    have e1 : (ps ++ (q :: td).drop 1).flatten.length = ps.flatten.length + td.flatten.length := by
      rw [List.flatten_append, List.length_append]; rfl
    have e2 : (q :: td).flatten.length = q.length + td.flatten.length := by rw [List.flatten_cons, List.length_append]
    have e3 : (ot ++ [t]).length = ot.length + 1 := by rw [List.length_append]; rfl
    refine ⟨⟨fun z hz => ?_, by omega, by rw [siz_snocP]; omega⟩, by omega⟩
    rcases List.mem_append.1 hz with hz | hz
    · exact hp.pt z hz
    · exact h.pt z (List.mem_cons_of_mem _ hz)
theorem TraceOf_spec {w0 : World} {Γ : List Atom} {v0 v1 : Value} {x : SSystem} [h0 : HasIm (List Int) repList Γ [v0] x.1] [h1 : HasIm (List SRule) repList Γ [v1] x.2] :
    CJ Try.prog 17 [.agg #[v0, v1]] w0 Γ (fun q : Value × TrT => .tuple #[q.1, .bool q.2.1.2]) (fun q => .ow [q.1] (q.2.1.1.map Sh.mk) :: Γ) := by
  have hpl := pairsD_len x
  by_cases hok : PairsP x
  · have hph := pairs_good hok
    have hpc := hph.c
    have hst := stC_all (pairsD x).length
    refine cj_enter Try.func17 Try.ntmps17 ?_
    repeat' (first | refine red ?_ | (refine redc fun r => ?_; try have hr := Subtype.property r) | refine redv fun sv => ?_ | refine redn fun b => ?_ | (refine redi (fun hc => ?_) (fun hc => ?_) <;> try first | (exfalso; omega) | with_reducible first | exact absurd rfl hc | exact absurd hc Bool.false_ne_true | exact absurd hc Bool.false_ne_true.symm) | fail)
    · exact absurd hok hc
    rename Value × GrfT (pairsD x).length => gr
    have hgr := gr.2.2
    have hgl := hgr.len
    have hfa : AfsC gr.2.1 (List.map Int.ofNat (List.range (pairsD x).length)) := ⟨by omega, by rw [hgl]; exact hgr, by rw [hgl]; exact hst⟩
    repeat' (first | refine red ?_ | (refine redc fun r => ?_; try have hr := Subtype.property r) | refine redv fun sv => ?_ | fail)
    rename Value × PrtT gr.2.1.length (List.map Int.ofNat (List.range (pairsD x).length)) => pr
    have hpr := pr.2.2
    have hal : (List.map Int.ofNat (List.range (pairsD x).length)).length = (pairsD x).length := by simp
    have hps := hpr.sum
    refine wc_share gr.1 ?_
    refine wc_rdSh pr.1 ?_
    simp only [shv_mk]
    refine wc_ow0 (α := SPairStep) (β := Sh SPairStep) sv rfl ?_
    refine wc_loop_p [7, 8] [27, 28, 29, 31, 32, 33, 34, 35, 30, 36, 37, 9, 10, 38, 39, 40, 2, 3, 41, 42, 43, 44, 45, 46, 47, 48, 49, 50, 51, 52, 53, 54, 55] (ι := (Value × List (List Int)) × (Value × List SPairStep)) (fun k => [k.1.1, k.2.1]) (fun k => [.rd [k.1.1] k.1.2, .ow [k.2.1] (k.2.2.map Sh.mk)]) (fun k => TdP (pairsD x).length k.1.2 k.2.2) (fun k => k.1.2.flatten.length) ((pr.1, pr.2.1), (sv, [])) [.rd [pr.1] pr.2.1, .ow [sv] ([] : List (Sh SPairStep))] (by kernel_rfl) ⟨fun q hq => by have h := hpr.pt q hq; rw [hgl] at h; exact h, by simp only [List.length_nil]; omega, Nat.zero_le _⟩ rfl ?_
    intro ⟨⟨vt, td⟩, ⟨vo, ot⟩⟩ u l' hl' hT
    simp only [patch, List.map_cons, List.map_nil, List.set_cons_zero, List.set_cons_succ] at hl'
    subst hl'
    simp only [List.cons_append, List.nil_append] at hT ⊢
    have hfl := flat_len td fun q hq => (hT.pt q hq).2
    have hle := hT.le
    have hsz := hT.sz
    by_cases htd : 0 < td.length
    · have hq0 := hT.pt _ (getD_memD htd)
      have hom : (List.map Sh.mk ot).length = ot.length := List.length_map ..
      have hql := hq0.1.len
      repeat' (first | refine red ?_ | refine redv fun sv => ?_ | (refine redi (fun hc => ?_) (fun hc => ?_) <;> try first | (exfalso; omega) | with_reducible first | exact absurd rfl hc | exact absurd hc Bool.false_ne_true | exact absurd hc Bool.false_ne_true.symm) | ((refine wa_begin 8 [false, false, false, false, false, false, false, false, false, false, false] [] ?_ <;> (first | refine wa_p 0 ?_ | fail) <;> refine wa_p 1 ?_ <;> (first | (refine wa_deep 2 fun p cs as_ asb_ hcs has hasb hf => ?_; simp only [Un.cells, Un.atoms, Un.fact, List.cons_append, List.nil_append] at hcs has hasb hf; subst hcs has hasb) | fail) <;> (first | refine wa_p 3 ?_ | fail) <;> (refine wa_two 4 8 ?_ ?_; rotate_right; (focus ((repeat' (first | refine red ?_ | refine redn fun b => ?_ | fail)) <;> (refine wa_do 4 ?_ <;> (repeat' (first | refine red ?_ | (refine redc fun r => ?_; try have hr := Subtype.property r) | fail))) <;> refine wa_p 5 ?_ <;> refine wa_p 6 ?_ <;> refine wa_p 7 ?_ <;> (refine wa_do 9 ?_ <;> (repeat' (first | refine red ?_ | fail))) <;> refine wa_p 10 ?_)); rotate_right; (focus ((repeat' (first | refine red ?_ | (refine redc fun r => ?_; try have hr := Subtype.property r) | fail)) <;> refine wa_p 5 ?_ <;> refine wa_p 6 ?_ <;> refine wa_p 7 ?_ <;> (refine wa_do 8 ?_ <;> (repeat' (first | refine red ?_ | refine redn fun b => ?_ | fail))) <;> (refine wa_do 9 ?_ <;> (repeat' (first | refine red ?_ | fail))) <;> refine wa_p 10 ?_)))) <;> (refine wa_end ?_)) | fail)
      all_goals try exact ⟨(sv, ⟨([], false), by simp, Nat.zero_le _⟩), rfl, ent_sh1 sv ent_e⟩
      all_goals
        rename Value => vo2
        rename (Value × Value × Value × Value) × StT (td.getD 0 default) => st
        obtain ⟨hp, hg, hgp, hsz2⟩ := st.2.2 (by assumption)
        have hlt := less_lt hg hgp
        have hfa2 : AfsC gr.2.1 ((td.getD 0 default).filter fun v => dcP (v ∉ st.2.1.1.2.2.2)) := ⟨by omega, by rw [hgl]; exact hgr, by rw [hgl]; exact hq0.1.sub List.filter_sublist⟩
        have hnx : ∀ ps : PrtT gr.2.1.length ((td.getD 0 default).filter fun v => dcP (v ∉ st.2.1.1.2.2.2)), TdP (pairsD x).length (ps.1 ++ td.drop 1) (ot ++ [st.2.1.1]) ∧ (ps.1 ++ td.drop 1).flatten.length < td.flatten.length := fun ps => td_next hT htd hlt hsz2 (prt_cast hgl ps.2)
        ((refine wa_begini 12 [false, false, false, false, false, false, false, false, false, false, false, false] [] ?_ <;> refine wa_p 0 ?_ <;> refine wa_p 1 ?_ <;> (first | refine wa_p 2 ?_ | fail) <;> (first | refine wa_p 3 ?_ | fail) <;> (first | refine wa_p 4 ?_ | fail) <;> (first | refine wa_p 5 ?_ | fail) <;> refine wa_p 8 ?_ <;> (refine wa_two 6 9 ?_ ?_; rotate_right; (focus ((repeat' (first | refine red ?_ | refine redv fun sv => ?_ | fail)) <;> (refine wa_do 6 ?_ <;> (repeat' (first | refine red ?_ | (refine redc fun r => ?_; (try have hr := Subtype.property r); try (have hrr := prt_len r.2.2)) | fail))) <;> (refine wa_do 7 ?_ <;> (repeat' (first | refine red ?_ | (refine redc fun r => ?_; (try have hr := Subtype.property r); try (have hrr := prt_len r.2.2)) | fail))) <;> (refine wa_do 10 ?_ <;> (repeat' (first | refine red ?_ | refine redv fun sv => ?_ | fail))) <;> refine wa_p 11 ?_)); rotate_right; (focus ((repeat' (first | refine red ?_ | (refine redc fun r => ?_; (try have hr := Subtype.property r); try (have hrr := prt_len r.2.2)) | fail)) <;> (refine wa_two 7 9 ?_ ?_; rotate_right; (focus ((repeat' (first | refine red ?_ | refine redv fun sv => ?_ | fail)) <;> (refine wa_do 7 ?_ <;> (repeat' (first | refine red ?_ | (refine redc fun r => ?_; (try have hr := Subtype.property r); try (have hrr := prt_len r.2.2)) | fail))) <;> (refine wa_do 10 ?_ <;> (repeat' (first | refine red ?_ | refine redv fun sv => ?_ | fail))) <;> refine wa_p 11 ?_)); rotate_right; (focus ((repeat' (first | refine red ?_ | (refine redc fun r => ?_; (try have hr := Subtype.property r); try (have hrr := prt_len r.2.2)) | fail)) <;> (refine wa_do 9 ?_ <;> (repeat' (first | refine red ?_ | refine redv fun sv => ?_ | fail))) <;> (refine wa_do 10 ?_ <;> (repeat' (first | refine red ?_ | refine redv fun sv => ?_ | fail))) <;> refine wa_p 11 ?_))))))) <;> (refine wa_end ?_))
        repeat' (first | refine red ?_ | fail)
        all_goals
          rename Value × PrtT gr.2.1.length ((td.getD 0 default).filter fun v => dcP (v ∉ st.2.1.1.2.2.2)) => ps
          exact wq_next ((sv, ps.2.1 ++ td.drop 1), (vo2, ot ++ [st.2.1.1])) (hnx ps.2).1 (hnx ps.2).2 (by kernel_rfl) (by simp only [← List.map_append]; exact ent_unsh (ys := ps.2.1 ++ td.drop 1) sv ent_e)
    · obtain rfl : td = [] := List.length_eq_zero_iff.1 (by omega)
      simp only [List.flatten_nil, List.length_nil] at hle hfl
      repeat' (first | refine red ?_ | (refine redi (fun hc => ?_) (fun hc => ?_) <;> try first | (exfalso; omega) | with_reducible first | exact absurd rfl hc | exact absurd hc Bool.false_ne_true | exact absurd hc Bool.false_ne_true.symm) | fail)
      exact ⟨(vo, ⟨(ot, true), by simp only; omega, by simp only; omega⟩), rfl, ent_e⟩
  · refine cj_enter Try.func17 Try.ntmps17 ?_
    repeat' (first | refine red ?_ | (refine redc fun r => ?_; try have hr := Subtype.property r) | refine redv fun sv => ?_ | refine redn fun b => ?_ | (refine redi (fun hc => ?_) (fun hc => ?_) <;> try first | (exfalso; omega) | with_reducible first | exact absurd rfl hc | exact absurd hc Bool.false_ne_true | exact absurd hc Bool.false_ne_true.symm) | fail)
    · exact ⟨(sv, ⟨([], false), by simp, Nat.zero_le _⟩), rfl, ent_sh1 sv ent_e⟩
    · exact absurd hc hok
instance TraceOf_ctr {Γ : List Atom} {v0 v1 : Value} {x : SSystem} [h0 : HasIm (List Int) repList Γ [v0] x.1] [h1 : HasIm (List SRule) repList Γ [v1] x.2] :
    CtrC Try.prog 17 [.agg #[v0, v1]] Γ (True) (Value × TrT) (fun q : Value × TrT => .tuple #[q.1, .bool q.2.1.2]) (fun q => .ow [q.1] (q.2.1.1.map Sh.mk) :: Γ) := ⟨fun s w0 => TraceOf_spec⟩

end Go.Proofs.Ytjblieilblcdnaa
namespace Go.Proofs.Ytjblieilblcdnaa
open Go Go.Eng
set_option linter.unusedVariables false
set_option linter.unusedSimpArgs false
set_option synthInstance.maxHeartbeats 400000
set_option synthInstance.maxSize 1000
set_option maxHeartbeats 4000000
set_option maxRecDepth 20000

theorem wl_abs {P : Program} {ops : Array Oper} {Q : Exit → Act → World → Prop} {w0 : World} {rest : List Oper} {l : List Value} {Γ Δ : List Atom} {α : Type} {iα : Rep α} (sv : Value) {x : α} (p : α → Prop) (hx : p x) [hp : PullOw α iα Γ [sv] x Δ] (h : ∀ y, p y → WL P ops Q w0 rest l (.rd [sv] y :: Δ)) : WL P ops Q w0 rest l Γ := wl_share sv (h x hx)
theorem siz_appP (xs ys : List SPairStep) : Siz.size (xs ++ ys) = Siz.size xs + Siz.size ys := by
  induction xs with
  | nil => rw [List.nil_append, siz_list [] (α := SPairStep)]; simp [sumL]
  | cons x xs ih =>
    rw [siz_list, siz_list xs, siz_list ys] at ih
    rw [List.cons_append, siz_list, siz_list (x :: xs), siz_list ys]
    simp only [sumL, List.length_cons] at ih ⊢
    omega
theorem siz_e1 (a b c d : Int) : Siz.size [([a], [b, c], ([] : List SPoly), [d])] ≤ 1000 := by
  simp [siz_list, sumL, siz_pair, siz_int]
theorem siz_e2 {n : Nat} (hn : n ≤ 300) : Siz.size [(([] : List Int), ([] : List Int), [((1 : Int), List.replicate n (0 : Int))], ([] : List Int))] ≤ 1000 := by
  rw [siz_list]
  simp only [sumL, siz_pair]
  rw [siz_list (α := SPoly)]
  simp only [sumL, siz_pair, siz_int, siz_ints, List.length_replicate, List.length_cons, List.length_nil]
  omega
abbrev DtT (code : List UInt8) : Type := { q : Value × List SPairStep × CurS code // Siz.size q.2.1 ≤ 1000000 }
theorem l29DrawTrace_spec {w0 : World} {Γ Δ : List Atom} {bc : Nat} {vb : Value} {code : List UInt8} {p : CurS code} [hb : PullBk Γ bc (cur vb p) Δ] [hv : HasRd (List UInt8) repList Δ [vb] code] :
    CJ Try.prog 11 [.pointer (some ⟨bc, 0, none⟩)] w0 Γ (fun q : DtT code => q.1.1) (fun q => .rd [q.1.1] q.1.2.1 :: .bk bc (cur vb q.1.2.2) :: Δ) := by
  refine cj_perm hb.perm ?_
  refine cj_enter Try.func11 Try.ntmps11 ?_
  repeat' (first | refine red ?_ | refine reds ?_ | (refine redc fun r => ?_; try have hr := Subtype.property r) | refine redv fun sv => ?_ | (refine redi (fun hc => ?_) (fun hc => ?_) <;> try first | (exfalso; omega) | exact absurd rfl hc) | fail)
  · rename Value × TrT => tr
    obtain ⟨hl64, hsz⟩ := tr.2.2
    refine wl_abs sv (fun ys => ys.length = 1 ∧ Siz.size ys ≤ 1000) ⟨rfl, siz_e1 ..⟩ fun ys hy => ?_
    obtain ⟨hy1, hy2⟩ := hy
    have hm1 : (List.map Sh.mk tr.2.1.1).length = tr.2.1.1.length := List.length_map ..
    have hm2 : (List.map Sh.mk ys).length = 1 := (List.length_map ..).trans hy1
    repeat' (first | refine red ?_ | refine reds ?_ | (refine redc fun r => ?_; try have hr := Subtype.property r) | refine redv fun sv => ?_ | (refine redi (fun hc => ?_) (fun hc => ?_) <;> try first | (exfalso; omega) | exact absurd rfl hc) | fail)
    · refine wl_abs sv (fun ys => ys.length = 1 ∧ Siz.size ys ≤ 1000) ⟨rfl, siz_e2 (by omega)⟩ fun zs hz => ?_
      obtain ⟨hz1, hz2⟩ := hz
      have hm3 : (List.map Sh.mk zs).length = 1 := (List.length_map ..).trans hz1
      repeat' (first | refine red ?_ | refine redv fun sv => ?_ | fail)
      exact ⟨⟨(sv, tr.2.1.1 ++ ys ++ zs, r.1.2), by simp only [siz_appP]; omega⟩, rfl, by simp only [← List.map_append]; exact ent_unsh (ys := tr.2.1.1 ++ ys ++ zs) sv ent_e⟩
    · exact ⟨⟨(sv, tr.2.1.1 ++ ys, r.2), by simp only [siz_appP]; omega⟩, rfl, by simp only [← List.map_append]; exact ent_unsh (ys := tr.2.1.1 ++ ys) sv ent_e⟩
  · rename Value × TrT => tr
    obtain ⟨hl64, hsz⟩ := tr.2.2
    have hm1 : (List.map Sh.mk tr.2.1.1).length = tr.2.1.1.length := List.length_map ..
    refine wl_abs sv (fun ys => ys.length = 1 ∧ Siz.size ys ≤ 1000) ⟨rfl, siz_e2 (by omega)⟩ fun zs hz => ?_
    obtain ⟨hz1, hz2⟩ := hz
    have hm3 : (List.map Sh.mk zs).length = 1 := (List.length_map ..).trans hz1
    repeat' (first | refine red ?_ | refine redv fun sv => ?_ | fail)
    exact ⟨⟨(sv, tr.2.1.1 ++ zs, r.1.2), by simp only [siz_appP]; omega⟩, rfl, by simp only [← List.map_append]; exact ent_unsh (ys := tr.2.1.1 ++ zs) sv ent_e⟩
  · rename Value × TrT => tr
    obtain ⟨hl64, hsz⟩ := tr.2.2
    exact ⟨⟨(tr.1, tr.2.1.1, r.2), by simp only; omega⟩, rfl, ent_unsh (ys := tr.2.1.1) tr.1 ent_e⟩
instance l29DrawTrace_ctr {Γ Δ : List Atom} {bc : Nat} {vb : Value} {code : List UInt8} {p : CurS code} [hb : PullBk Γ bc (cur vb p) Δ] [hv : HasRd (List UInt8) repList Δ [vb] code] :
    CtrC Try.prog 11 [.pointer (some ⟨bc, 0, none⟩)] Γ (True) (DtT code) (fun q : DtT code => q.1.1) (fun q => .rd [q.1.1] q.1.2.1 :: .bk bc (cur vb q.1.2.2) :: Δ) := ⟨fun s w0 => l29DrawTrace_spec⟩

theorem DrawPairsNode_spec {w0 : World} {Γ : List Atom} {v : Value} {code : List UInt8} [hv : HasRd (List UInt8) repList Γ [v] code] :
    CJ Try.prog 5 [v] w0 Γ (fun q : Value × { xs : List SPairStep // Siz.size xs ≤ 1000000 } => q.1) (fun q => .rd [q.1] q.2.1 :: Γ) := by
  refine cj_enter Try.func5 Try.ntmps5 ?_
  repeat' (first | refine red ?_ | (refine redc fun r => ?_; try have hr := Subtype.property r) | fail)
  exact ⟨(r.1.1, ⟨r.1.2.1, r.2⟩), rfl, ent_e⟩
instance DrawPairsNode_ctr {Γ : List Atom} {v : Value} {code : List UInt8} [hv : HasRd (List UInt8) repList Γ [v] code] :
    CtrC Try.prog 5 [v] Γ (True) (Value × { xs : List SPairStep // Siz.size xs ≤ 1000000 }) (fun q : Value × { xs : List SPairStep // Siz.size xs ≤ 1000000 } => q.1) (fun q => .rd [q.1] q.2.1 :: Γ) := ⟨fun s w0 => DrawPairsNode_spec⟩

end Go.Proofs.Ytjblieilblcdnaa
