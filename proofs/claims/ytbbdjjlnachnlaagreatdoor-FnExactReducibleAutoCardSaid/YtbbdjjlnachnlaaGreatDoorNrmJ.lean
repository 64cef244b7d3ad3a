/- The automaton of normal forms: a result, the program's side. -/
import Derived.Test.YtbbdjjlnachnlaaGreatDoorNrmI
import Derived.Test.YtbbdjjlnachnlaaGreatDoorNrmT
import Derived.Test.YtbbdjjlnachnlaaGreatDoorEngY
namespace Go.Eng
open Go Go.RowKit
theorem wc_entE {P : Program} {Q : Exit → Act → World → Prop} {w0 : World} {c : Code} {l : List Value} {Γ Δ : List Atom} (he : Ent w0 Γ Δ) (h : WC P Q w0 c l Δ) : WC P Q w0 c l Γ := fun w hs => h w (he w hs)
end Go.Eng
namespace Go.Proofs.YtbbdjjlnachnlaaGreatDoor
open Go Go.Eng
set_option linter.unusedVariables false
set_option linter.unusedSimpArgs false
set_option synthInstance.maxHeartbeats 400000
set_option synthInstance.maxSize 1000
set_option maxHeartbeats 4000000
set_option maxRecDepth 20000


/-- What the program works with. -/
structure RC (a : List Int) (sh ls sets : List (List Int)) (f : Nat) (list : List Int) : Prop where
  nc : NC a sh ls
  cl : (∀ k, k < sh.length → Closed a sh (sh.getD k default)) ∧ ∀ k, k < ls.length → Closed a sh (ls.getD k default)
  fl : f < a.length
  ll : list.length = arN a f
  el : ∀ q ∈ list, 0 ≤ q ∧ q < sets.length
theorem formL_get {a : List Int} {sh ts : List (List Int)} {k : Nat} (hk : k < ts.length) : (formL a sh ts).getD k default = formP a sh (ts.getD k default) := by
  unfold formL
  rw [List.getD_eq_getElem?_getD, List.getElem?_map, List.getElem?_eq_getElem hk, List.getD_eq_getElem?_getD, List.getElem?_eq_getElem hk]
  rfl
theorem ftC_of {a : List Int} {sh sets : List (List Int)} {p : List Int} {f : Nat} (hp : termOk a p = true) (hl : sets.length = arN a f) : FtC (formP a sh p) (f : Int) sets := ⟨fun e => by
  show (idxL a sh p (arK a p 0)).length ≤ _
  rw [idxL_len, arK_arN (show p.getD 0 0 = (f : Int) from e), hl]
  exact Nat.le_refl _, by
  show (idxL a sh p (arK a p 0)).length ≤ _
  rw [idxL_len]
  have := (arK_le hp (k := 0) (by have := termOk_len hp; omega)).1
  omega⟩
theorem sh_get {xs : List (List Int)} {k : Nat} (hk : k < xs.length) : ((xs.map Sh.mk).getD k default).v = xs.getD k default := by
  rw [List.getD_eq_getElem?_getD, List.getElem?_map, List.getElem?_eq_getElem hk, List.getD_eq_getElem?_getD, List.getElem?_eq_getElem hk]
  rfl
theorem formP_in {a : List Int} {sh : List (List Int)} {t : List Int} (hs : sigOk a = true) (h : termOk a t = true) : -9223372036854775808 ≤ (formP a sh t).1 ∧ (formP a sh t).1 ≤ 9223372036854775807 := by
  have h1 := termOk_get h (k := 0) (by have := termOk_len h; omega)
  have h2 := sigOk_len hs
  show _ ≤ t.getD 0 0 ∧ t.getD 0 0 ≤ _
  omega
theorem result_spec {w0 : World} {Γ Δ : List Atom} {bx : Nat} {v vl vh vk vs vm vt : Value} {a : List Int} {sh ls sets : List (List Int)} {f : Nat} {list : List Int} [hb0 : HasBk Γ bx [v, vl, vh, vk, vs, vm]] [h3 : PullOw (List (Sh (List Int))) repList Γ [vs] (sets.map Sh.mk) Δ] [hb : HasBk Δ bx [v, vl, vh, vk, vs, vm]] [h1 : HasIm (List SForm) repList Δ [vl] (formL a sh ls)] [h2 : HasIm (List SForm) repList Δ [vh] (formL a sh sh)] [h4 : HasRd (List Int) repList Δ [vt] list] (hs : RC a sh ls sets f list) :
    CJ Tryz.prog 168 [.pointer (some ⟨bx, 0, none⟩), .int .i64 (f : Int), vt] w0 Γ (fun q : Value => .tuple #[q, .bool (imN a sh ls f (listed sets list)).isSome]) (fun q => .ow [q] ((imN a sh ls f (listed sets list)).getD []) :: .ow [vs] (sets.map Sh.mk) :: Δ) := by
  refine cj_perm h3.perm ?_
  have hel := hs.el
  have hnc := hs.nc
  have ha3 := (sig_el hnc.sg hs.fl).2
  have hal : arN a f ≤ 3 := by unfold arN; omega
  have hll := hs.ll
  have hml : (sets.map Sh.mk).length = sets.length := List.length_map ..
  refine cj_len vs fun hlx => ?_
  refine cj_enter Tryz.func168 Tryz.ntmps168 ?_
  repeat' (first | refine red ?_ | fail)
  refine wc_loop_p [8, 18] [19, 20, 21, 10, 22, 23, 24, 25, 26, 27, 28, 29, 30, 31, 32] (ι := Value × Nat) (fun k => [k.1, .int .i64 k.2]) (fun k => [.ow [k.1] ((listed sets (list.take k.2)).map Sh.mk)]) (fun k => k.2 ≤ list.length) (fun k => list.length - k.2) (.slice none 0 0, 0) [.ow [.slice none 0 0] ([] : List (Sh (List Int)))] (by kernel_rfl) (Nat.zero_le _) rfl ?_
  intro ⟨so, k⟩ u l' hl' hk
  simp only [patch, List.map_cons, List.map_nil, List.set_cons_zero, List.set_cons_succ] at hl'
  subst hl'
  simp only [List.cons_append, List.nil_append] at hk ⊢
  have hle : ((listed sets (list.take k)).map Sh.mk).length = k := by rw [List.length_map, listed_len, List.length_take]; omega
  by_cases hkl : k < list.length
  · have hq := hel _ (getK hkl)
    have hgv : ((sets.map Sh.mk).getD (list.getD k 0).toNat default).v = sets.getD (list.getD k 0).toNat default := sh_get (by omega)
    repeat' (first | refine red ?_ | refine redf fun hbi => ?_ | refine reds ?_ | refine redv fun sv => ?_ | (refine redi (fun hc => ?_) (fun hc => ?_) <;> try first | (exfalso; omega) | with_reducible first | exact absurd rfl hc | exact absurd hc Bool.false_ne_true | exact absurd hc Bool.false_ne_true.symm) | fail)
    rw [hgv, ← List.map_append, ← listed_succ sets hkl]
    exact wq_next (sv, k + 1) (by simp only; omega) (by simp only; omega) (by kernel_rfl) ent_e
  obtain rfl : k = list.length := by omega
  rw [List.take_length]
  repeat' (first | refine red ?_ | (refine redi (fun hc => ?_) (fun hc => ?_) <;> try first | (exfalso; omega) | with_reducible first | exact absurd rfl hc | exact absurd hc Bool.false_ne_true | exact absurd hc Bool.false_ne_true.symm) | fail)
  obtain ⟨args, hargs⟩ : ∃ args, args = listed sets list := ⟨_, rfl⟩
  rw [← hargs]
  have hal2 : args.length = arN a f := by rw [hargs, listed_len, hll]
  refine wc_entE (Δ := .rd [so] args :: .ow [vs] (sets.map Sh.mk) :: Δ) (ent_unsh (ys := args) so ent_e) ?_
  have hfl := formL_len a sh ls
  have hfs := formL_len a sh sh
  have hlc := hnc.llen
  have hsc := hnc.slen
  refine wc_loop_c [38] [39, 40, 41, 12, 42, 43, 44, 45, 6, 7, 46] (ι := Nat) (fun k => [.int .i64 k]) (fun k => k ≤ ls.length ∧ ¬ ShutN a sh ls f args k) (fun k => ls.length - k) 0 (by kernel_rfl) ⟨Nat.zero_le _, fun ⟨i, hi, _⟩ => by omega⟩ ?_
  intro k u l' hl' ⟨hk, hkk⟩
  simp only [patch, List.map_cons, List.map_nil, List.set_cons_zero, List.set_cons_succ] at hl'
  subst hl'
  by_cases hkl : k < ls.length
  · have hfc := formL_get (a := a) (sh := sh) (ts := ls) hkl
    have hft : FtC ((formL a sh ls).getD k default) (f : Int) args := by rw [hfc]; exact ftC_of (hnc.lok k hkl) hal2
    have hin := formP_in hnc.sg (hnc.lok k hkl) (sh := sh)
    rw [← hfc] at hin
    have hcl := hs.cl.2 k hkl
    repeat' (first | refine red ?_ | refine reds ?_ | (refine redc fun r => ?_; try have hr := Subtype.property r) | refine redn fun b => ?_ | (refine redd fun p cs as_ hcs has hf => ?_; simp only [Un.cells, Un.atoms, Un.fact, List.cons_append, List.nil_append] at hcs has hf; subst hcs has) | (refine redi (fun hc => ?_) (fun hc => ?_) <;> try first | (exfalso; omega) | with_reducible first | exact absurd rfl hc | exact absurd hc Bool.false_ne_true | exact absurd hc Bool.false_ne_true.symm) | fail)
    · have hsh : ShutN a sh ls f args ls.length := ⟨k, hkl, by rw [hfc, fit_form hcl] at hc; exact hc⟩
      rw [imN_no hsh]
      exact ⟨.slice none 0 0, rfl, by show Ent _ _ (.ow [.slice none 0 0] ([] : List Int) :: _); exact ent_e⟩
    · refine wq_next (k + 1) ⟨by omega, fun ⟨i, hi, h⟩ => ?_⟩ (by omega) (by kernel_rfl) ent_e
      by_cases e : i = k
      · rw [e] at h; exact hc (by rw [hfc, fit_form hcl]; exact h)
      · exact hkk ⟨i, by omega, h⟩
  rw [show k = ls.length by omega] at hkk ⊢
  repeat' (first | refine red ?_ | (refine redi (fun hc => ?_) (fun hc => ?_) <;> try first | (exfalso; omega) | with_reducible first | exact absurd rfl hc | exact absurd hc Bool.false_ne_true | exact absurd hc Bool.false_ne_true.symm) | fail)
  rw [imN_yes hkk]
  refine wc_loop_p [13, 52] [53, 54, 55, 56, 15, 14, 57, 58, 59, 60, 61, 62, 63, 64, 65] (ι := Value × Nat) (fun k => [k.1, .int .i64 k.2]) (fun k => [.ow [k.1] (selN (fun i => decC (FitN a sh (sh.getD i default) f args)) k.2)]) (fun k => k.2 ≤ sh.length) (fun k => sh.length - k.2) (.slice none 0 0, 0) [.ow [.slice none 0 0] ([] : List Int)] (by kernel_rfl) (Nat.zero_le _) rfl ?_
  intro ⟨ov, k⟩ u l' hl' hk
  simp only [patch, List.map_cons, List.map_nil, List.set_cons_zero, List.set_cons_succ] at hl'
  subst hl'
  simp only [List.cons_append, List.nil_append] at hk ⊢
  have hle := selN_len (fun i => decC (FitN a sh (sh.getD i default) f args)) k
  by_cases hkl : k < sh.length
  · have hfc := formL_get (a := a) (sh := sh) (ts := sh) hkl
    have hft : FtC ((formL a sh sh).getD k default) (f : Int) args := by rw [hfc]; exact ftC_of (hnc.sok k hkl) hal2
    have hin := formP_in hnc.sg (hnc.sok k hkl) (sh := sh)
    rw [← hfc] at hin
    have hcl := hs.cl.1 k hkl
    repeat' (first | refine red ?_ | refine reds ?_ | (refine redc fun r => ?_; try have hr := Subtype.property r) | refine redv fun sv => ?_ | refine redn fun b => ?_ | (refine redd fun p cs as_ hcs has hf => ?_; simp only [Un.cells, Un.atoms, Un.fact, List.cons_append, List.nil_append] at hcs has hf; subst hcs has) | (refine redi (fun hc => ?_) (fun hc => ?_) <;> try first | (exfalso; omega) | with_reducible first | exact absurd rfl hc | exact absurd hc Bool.false_ne_true | exact absurd hc Bool.false_ne_true.symm) | fail)
    · rw [hfc, fit_form hcl] at hc
      rw [← selN_yes (f := fun i => decC (FitN a sh (sh.getD i default) f args)) (decC_t hc)]
      exact wq_next (sv, k + 1) (by simp only; omega) (by simp only; omega) (by kernel_rfl) ent_e
    · rw [hfc, fit_form hcl] at hc
      refine wq_next (ov, k + 1) (by simp only; omega) (by simp only; omega) (by kernel_rfl) ?_
      simp only [selN_no (f := fun i => decC (FitN a sh (sh.getD i default) f args)) (decC_f hc)]
      exact ent_e
  · rw [show k = sh.length by omega]
    repeat' (first | refine red ?_ | (refine redi (fun hc => ?_) (fun hc => ?_) <;> try first | (exfalso; omega) | with_reducible first | exact absurd rfl hc | exact absurd hc Bool.false_ne_true | exact absurd hc Bool.false_ne_true.symm) | fail)
    exact ⟨ov, rfl, by show Ent _ _ (.ow [ov] (comesN a sh f args) :: _); unfold comesN; exact ent_e⟩
instance result_ctr {Γ Δ : List Atom} {bx : Nat} {v vl vh vk vs vm vt : Value} {a : List Int} {sh ls sets : List (List Int)} {f : Nat} {list : List Int} [hb0 : HasBk Γ bx [v, vl, vh, vk, vs, vm]] [h3 : PullOw (List (Sh (List Int))) repList Γ [vs] (sets.map Sh.mk) Δ] [hb : HasBk Δ bx [v, vl, vh, vk, vs, vm]] [h1 : HasIm (List SForm) repList Δ [vl] (formL a sh ls)] [h2 : HasIm (List SForm) repList Δ [vh] (formL a sh sh)] [h4 : HasRd (List Int) repList Δ [vt] list] :
    CtrC Tryz.prog 168 [.pointer (some ⟨bx, 0, none⟩), .int .i64 (f : Int), vt] Γ (RC a sh ls sets f list) (Value) (fun q : Value => .tuple #[q, .bool (imN a sh ls f (listed sets list)).isSome]) (fun q => .ow [q] ((imN a sh ls f (listed sets list)).getD []) :: .ow [vs] (sets.map Sh.mk) :: Δ) := ⟨fun s w0 => result_spec s⟩

end Go.Proofs.YtbbdjjlnachnlaaGreatDoor
