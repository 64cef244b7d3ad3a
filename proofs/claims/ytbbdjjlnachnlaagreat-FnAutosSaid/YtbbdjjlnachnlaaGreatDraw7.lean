/- Draws: automata, bent ones; ground terms. -/
import Derived.Test.YtbbdjjlnachnlaaGreatDraw6
import Derived.Test.YtbbdjjlnachnlaaGreatEngY
namespace Go.Proofs.YtbbdjjlnachnlaaGreat
open Go Go.Eng
set_option linter.unusedVariables false
set_option linter.unusedSimpArgs false
set_option synthInstance.maxHeartbeats 400000
set_option synthInstance.maxSize 1000
set_option maxHeartbeats 4000000
set_option maxRecDepth 20000


theorem trR_el {rs : List STrans} {ar : List Int} {sets : List (List Int)} {f : Nat} {out : List STrans} (h : ∀ t ∈ out, t.2.1.length ≤ 10) (hf : arN ar f ≤ 10) : ∀ i, ∀ t ∈ trR rs ar sets f out i, t.2.1.length ≤ 10
  | 0 => h
  | i + 1 => len_snoc (trR_el h hf i) (by rw [dig_len]; exact hf)
theorem trS_el {rs : List STrans} {ar : List Int} {sets : List (List Int)} (hs : sigOk ar = true) : ∀ f, f ≤ ar.length → ∀ t ∈ trS rs ar sets f, t.2.1.length ≤ 10
  | 0, _ => fun t ht => by cases ht
  | f + 1, hf => trR_el (trS_el hs f (by omega)) (by have := sig_el hs (f := f) (by omega); unfold arN; omega) _
theorem sureD_dr (ar : List Int) (x : SAuto) : DrA (sureD ar x) := by
  unfold sureD sureOf
  split
  · rename_i hau
    cases h : fixS x.2.1 ar 17 [] with
    | none => exact ⟨⟨Int.le_refl _, show (0 : Int) ≤ 16 by decide⟩, Nat.zero_le _, Nat.zero_le _, fun t ht => by cases ht⟩
    | some sets =>
      have h1 := fixS_len 17 [] (by simp) sets h
      have h2 := finN_len sets x.2.2 sets.length
      simp only
      split
      · exact ⟨⟨by simp only [Option.getD_some]; omega, by simp only [Option.getD_some]; omega⟩, by simpa using ‹_›, by simp only [Option.getD_some]; omega, trS_el (decC_iff.1 hau).1 _ (Nat.le_refl _)⟩
      · exact ⟨⟨by decide, by decide⟩, Nat.zero_le _, Nat.zero_le _, fun t ht => by cases ht⟩
  · exact ⟨⟨by decide, by decide⟩, Nat.zero_le _, Nat.zero_le _, fun t ht => by cases ht⟩
theorem SureAutoD_spec {w0 : World} {Γ : List Atom} {v v0 v1 : Value} {ar : List Int} {x : SAuto} [h : HasRd (List Int) repList Γ [v] ar] [h0 : HasRd (List STrans) repList Γ [v0] x.2.1] [h1 : HasRd (List Int) repList Γ [v1] x.2.2] :
    CJ Tryz.prog 22 [.agg #[v], .agg #[.int .i64 x.1, v0, v1]] w0 Γ (fun q : { q : Value × Value × SAuto × Bool // DrA q.2.2.1 } => .tuple #[.agg #[.int .i64 q.1.2.2.1.1, q.1.1, q.1.2.1], .bool q.1.2.2.2]) (fun q => .ow [q.1.1] q.1.2.2.1.2.1 :: .ow [q.1.2.1] q.1.2.2.1.2.2 :: Γ) := by
  exact cj_mono (SureAuto_spec (ar := ar) (x := x)) fun p => ⟨⟨(p.1, p.2, sureD ar x, (sureOf ar x).isSome), sureD_dr ar x⟩, rfl, fun w hs => hs⟩
instance SureAutoD_ctr {Γ : List Atom} {v v0 v1 : Value} {ar : List Int} {x : SAuto} [h : HasRd (List Int) repList Γ [v] ar] [h0 : HasRd (List STrans) repList Γ [v0] x.2.1] [h1 : HasRd (List Int) repList Γ [v1] x.2.2] :
    CtrC Tryz.prog 22 [.agg #[v], .agg #[.int .i64 x.1, v0, v1]] Γ (True) ({ q : Value × Value × SAuto × Bool // DrA q.2.2.1 }) (fun q : { q : Value × Value × SAuto × Bool // DrA q.2.2.1 } => .tuple #[.agg #[.int .i64 q.1.2.2.1.1, q.1.1, q.1.2.1], .bool q.1.2.2.2]) (fun q => .ow [q.1.1] q.1.2.2.1.2.1 :: .ow [q.1.2.1] q.1.2.2.1.2.2 :: Γ) := ⟨fun s w0 => SureAutoD_spec⟩

attribute [local instance 2000] SureAutoD_ctr
theorem len0 {rs : List STrans} (h : ∀ t ∈ rs, t.2.1.length ≤ 10) (hl : 0 < rs.length) : (rs.getD 0 default).2.1.length ≤ 10 := h _ (getT hl)
theorem wc_hole0L {P : Program} {Q : Exit → Act → World → Prop} {w0 : World} {l : List Value} {Γ Δ : List Atom} {c : Code} (n : Nat) {b : Nat} {v0 sv v2 : Value} {xs : List STrans} [hv : Ge l n (.pointer (some ⟨b, 0, none⟩))] [hb : HasBk Γ b [v0, sv, v2]] [hp : PullOw (List STrans) repList Γ [sv] xs Δ] (hi : 0 < xs.length) (hl : ∀ t ∈ xs, t.2.1.length ≤ 10)
    (h : ∀ p : UnO.Pr STrans, UnO.fact (xs.getD 0 default) → (xs.getD 0 default).2.1.length ≤ 10 → WC P Q w0 c l (.ow [sv] (Hole.mk xs 0 (UnO.cells p (xs.getD 0 default))) :: (UnO.atoms p (xs.getD 0 default) ++ Δ))) : WC P Q w0 c l Γ :=
  wc_hole0 (α := STrans) n hi fun p hf => h p hf (len0 hl hi)
instance (priority := 2000) {Γ Δ : List Atom} {b : Nat} [h : KeepD Γ Δ] : KeepD (.bk b [.int .i64 0, .slice none 0 0, .slice none 0 0] :: Γ) Δ := ⟨sub_skip h.sub⟩
theorem fin_auto {w0 : World} {Γ Γ1 Γ2 Γ3 Γ4 Δ : List Atom} {bc : Nat} {vb v rv fv : Value} {code : List UInt8} {st : Int} {a fs : List Int} {rs : List STrans} {p : CurS code} {S1 S2 S3 : Prop} [h1 : ToRd (List Int) repList Γ v a Γ1 S1] [h2 : ToRd (List STrans) repList (.rd [v] a :: Γ1) rv rs Γ2 S2] [h3 : ToRd (List Int) repList (.rd [rv] rs :: Γ2) fv fs Γ3 S3] [h4 : PullBk Γ3 bc (cur vb p) Γ4] [h5 : SubE (.rd [fv] fs :: Γ3) (.rd [v] a :: .rd [rv] rs :: .rd [fv] fs :: .bk bc (cur vb p) :: Δ)]
    (s1 : S1 := by first | exact True.intro | ((repeat' apply And.intro) <;> first | exact True.intro | assumption | omega)) (s2 : S2 := by first | exact True.intro | ((repeat' apply And.intro) <;> first | exact True.intro | assumption | omega)) (s3 : S3 := by first | exact True.intro | ((repeat' apply And.intro) <;> first | exact True.intro | assumption | omega)) :
    ∃ q : Value × List Int × Value × Value × SAuto × CurS code, Value.tuple #[.agg #[q.1], .agg #[.int .i64 q.2.2.2.2.1.1, q.2.2.1, q.2.2.2.1]] = Value.tuple #[.agg #[v], .agg #[.int .i64 st, rv, fv]] ∧ Ent w0 Γ (.rd [q.1] q.2.1 :: .rd [q.2.2.1] q.2.2.2.2.1.2.1 :: .rd [q.2.2.2.1] q.2.2.2.2.1.2.2 :: .bk bc (cur vb q.2.2.2.2.2) :: Δ) := by
  refine ⟨(v, a, rv, fv, (st, rs, fs), p), rfl, fun w hs => ?_⟩
  exact (ent_e (Γ := .rd [fv] fs :: Γ3)) w (h3.ent s3 w0 w (h2.ent s2 w0 w (h1.ent s1 w0 w hs)))
theorem l23DrawAny_spec {w0 : World} {Γ Δ : List Atom} {bc : Nat} {vb : Value} {code : List UInt8} {p : CurS code} [hb : PullBk Γ bc (cur vb p) Δ] [hv : HasRd (List UInt8) repList Δ [vb] code] :
    CJ Tryz.prog 46 [.pointer (some ⟨bc, 0, none⟩)] w0 Γ (fun q : Value × List Int × Value × Value × SAuto × CurS code => .tuple #[.agg #[q.1], .agg #[.int .i64 q.2.2.2.2.1.1, q.2.2.1, q.2.2.2.1]]) (fun q => .rd [q.1] q.2.1 :: .rd [q.2.2.1] q.2.2.2.2.1.2.1 :: .rd [q.2.2.2.1] q.2.2.2.2.1.2.2 :: .bk bc (cur vb q.2.2.2.2.2) :: Δ) := by
  refine cj_perm hb.perm ?_
  refine cj_enter Tryz.func46 Tryz.ntmps46 ?_
  repeat' (first | refine red ?_ | (refine redc fun r => ?_; try have hr := Subtype.property r) | refine redn fun b => ?_ | (refine redi (fun hc => ?_) (fun hc => ?_) <;> try first | (exfalso; omega) | exact absurd rfl hc) | fail)
  all_goals first
    | (((refine wa_begind 24 [false, false, false, false] [] ?_ <;> refine wa_p 0 ?_ <;> (first | refine wa_p 1 ?_ | fail) <;> (refine wa_do 2 ?_ <;> (repeat' (first | refine red ?_ | fail))) <;> (refine wa_do 3 ?_ <;> (repeat' (first | refine red ?_ | fail)))) <;> (refine wa_end ?_))
       all_goals (repeat' (first | refine red ?_ | fail))
       all_goals exact fin_auto)
    | (((refine wa_begin1 18 [false, false, false, false, false, false, false, false, false, false] [9] ?_ <;> (first | refine wa_p 0 ?_ | fail) <;> (first | refine wa_p 1 ?_ | fail) <;> refine wa_p 2 ?_ <;> (first | refine wa_p 3 ?_ | fail) <;> (first | refine wa_p 4 ?_ | fail) <;> (refine wa_do 5 ?_ <;> (repeat' (first | refine red ?_ | (refine redc fun r => ?_; try have hr := Subtype.property r) | fail))) <;> refine wa_do 6 ?_ <;> refine wa_do 7 ?_ <;> (fail) <;> refine wa_do 9 ?_) <;> (fail))
       all_goals (skip)
       all_goals (((refine wa_begind 24 [false, false, false, false] [] ?_ <;> refine wa_p 0 ?_ <;> (fail) <;> refine wa_do 2 ?_ <;> refine wa_do 3 ?_) <;> (fail)))
       all_goals (skip)
       all_goals exact fin_auto)
    | (((refine wa_beginc 18 [false, false, false, false, false, false, false, false, false, false] [7, 9] ?_ <;> (first | refine wa_p 0 ?_ | fail) <;> (first | refine wa_p 1 ?_ | fail) <;> refine wa_p 2 ?_ <;> (first | refine wa_p 3 ?_ | fail) <;> (first | refine wa_p 4 ?_ | fail) <;> (refine wa_do 5 ?_ <;> (repeat' (first | refine red ?_ | (refine redc fun r => ?_; try have hr := Subtype.property r) | fail))) <;> (refine wa_do 6 ?_ <;> (repeat' (first | refine red ?_ | refine redv fun sv => ?_ | fail))) <;> (refine wa_do 7 ?_ <;> (repeat' (first | refine red ?_ | refine redv fun sv => ?_ | fail))) <;> (first | refine wa_p0 8 ?_ | fail) <;> (refine wa_do 9 ?_ <;> (repeat' (first | refine red ?_ | fail)))) <;> (refine wa_end ?_))
       all_goals (repeat' (first | refine red ?_ | fail))
       all_goals (((refine wa_begind 24 [false, false, false, false] [] ?_ <;> refine wa_p 0 ?_ <;> (first | refine wa_p 1 ?_ | fail) <;> (refine wa_do 2 ?_ <;> (repeat' (first | refine red ?_ | fail))) <;> (refine wa_do 3 ?_ <;> (repeat' (first | refine red ?_ | fail)))) <;> (refine wa_end ?_)))
       all_goals (repeat' (first | refine red ?_ | fail))
       all_goals exact fin_auto)
    | (refine wc_hole0 5 (α := STrans) (by omega) fun q hq => ?_
       simp only [UnO.cells, UnO.atoms, UnO.fact, List.cons_append, List.nil_append] at hq ⊢
       ((refine wa_beginc 13 [false, false, false, false, false, false, false, false, false] [8] ?_ <;> (first | refine wa_p 0 ?_ | fail) <;> (first | refine wa_p 1 ?_ | fail) <;> refine wa_p 2 ?_ <;> (first | refine wa_p 3 ?_ | fail) <;> (first | refine wa_p 4 ?_ | fail) <;> (refine wa_do 5 ?_ <;> (repeat' (first | refine red ?_ | (refine redc fun r => ?_; try have hr := Subtype.property r) | fail))) <;> (first | refine wa_p 6 ?_ | fail) <;> (first | refine wa_p 7 ?_ | fail) <;> (refine wa_do 8 ?_ <;> (repeat' (first | refine red ?_ | fail)))) <;> (refine wa_end ?_))
       repeat' (first | refine red ?_ | fail)
       ((refine wa_begind 24 [false, false, false, false] [] ?_ <;> refine wa_p 0 ?_ <;> (first | refine wa_p 1 ?_ | fail) <;> (refine wa_do 2 ?_ <;> (repeat' (first | refine red ?_ | fail))) <;> (refine wa_do 3 ?_ <;> (repeat' (first | refine red ?_ | fail)))) <;> (refine wa_end ?_))
       all_goals (repeat' (first | refine red ?_ | fail))
       all_goals exact fin_auto)
    | (refine wc_owsh0 5 (α := STrans) fun ys hys => ?_
       refine wc_hole0 5 (α := Sh STrans) (by omega) fun q hq => ?_
       simp only [UnO.cells, UnO.atoms, UnO.fact, Un.cells, Un.atoms, Un.fact, List.cons_append, List.nil_append] at hq ⊢
       ((refine wa_beginc 16 [false, false, false, false, false, false, false, false, false, false] [7, 9] ?_ <;> (first | refine wa_p 0 ?_ | fail) <;> (first | refine wa_p 1 ?_ | fail) <;> (first | refine wa_p 2 ?_ | fail) <;> (first | refine wa_p 3 ?_ | fail) <;> (first | refine wa_p 4 ?_ | fail) <;> (first | refine wa_p 5 ?_ | fail) <;> (refine wa_do 6 ?_ <;> (repeat' (first | refine red ?_ | refine redv fun sv => ?_ | fail))) <;> (refine wa_do 7 ?_ <;> (repeat' (first | refine red ?_ | refine redv fun sv => ?_ | fail))) <;> (first | refine wa_p0 8 ?_ | fail) <;> (refine wa_do 9 ?_ <;> (repeat' (first | refine red ?_ | fail)))) <;> (refine wa_end ?_))
       repeat' (first | refine red ?_ | fail)
       ((refine wa_begind 24 [false, false, false, false] [] ?_ <;> refine wa_p 0 ?_ <;> (first | refine wa_p 1 ?_ | fail) <;> (refine wa_do 2 ?_ <;> (repeat' (first | refine red ?_ | fail))) <;> (refine wa_do 3 ?_ <;> (repeat' (first | refine red ?_ | fail)))) <;> (refine wa_end ?_))
       all_goals (repeat' (first | refine red ?_ | fail))
       all_goals exact fin_auto)
    | (refine wc_hole0L 5 (by omega) (And.right (And.right (And.right (by assumption)))) fun q hq hq2 => ?_
       simp only [UnO.cells, UnO.atoms, UnO.fact, List.cons_append, List.nil_append] at hq ⊢
       ((refine wa_begini 21 [false, false, false, false, false, false, false, false, false, false, false, false] [11] ?_ <;> (first | refine wa_p 0 ?_ | fail) <;> (first | refine wa_p 1 ?_ | fail) <;> (first | refine wa_p 2 ?_ | fail) <;> (first | refine wa_p 3 ?_ | fail) <;> (first | refine wa_p 4 ?_ | fail) <;> (first | refine wa_p 5 ?_ | fail) <;> (first | refine wa_p 6 ?_ | fail) <;> (refine wa_do 7 ?_ <;> (repeat' (first | refine red ?_ | refine redv fun sv => ?_ | fail))) <;> (refine wa_do 8 ?_ <;> (repeat' (first | refine red ?_ | refine redv fun sv => ?_ | fail))) <;> (first | refine wa_p 9 ?_ | fail) <;> (first | refine wa_p 10 ?_ | fail) <;> (refine wa_do 11 ?_ <;> (repeat' (first | refine red ?_ | fail)))) <;> (refine wa_end ?_))
       repeat' (first | refine red ?_ | fail)
       ((refine wa_begind 24 [false, false, false, false] [] ?_ <;> refine wa_p 0 ?_ <;> (first | refine wa_p 1 ?_ | fail) <;> (refine wa_do 2 ?_ <;> (repeat' (first | refine red ?_ | fail))) <;> (refine wa_do 3 ?_ <;> (repeat' (first | refine red ?_ | fail)))) <;> (refine wa_end ?_))
       all_goals (repeat' (first | refine red ?_ | fail))
       all_goals exact fin_auto)
instance l23DrawAny_ctr {Γ Δ : List Atom} {bc : Nat} {vb : Value} {code : List UInt8} {p : CurS code} [hb : PullBk Γ bc (cur vb p) Δ] [hv : HasRd (List UInt8) repList Δ [vb] code] :
    CtrC Tryz.prog 46 [.pointer (some ⟨bc, 0, none⟩)] Γ (True) (Value × List Int × Value × Value × SAuto × CurS code) (fun q : Value × List Int × Value × Value × SAuto × CurS code => .tuple #[.agg #[q.1], .agg #[.int .i64 q.2.2.2.2.1.1, q.2.2.1, q.2.2.2.1]]) (fun q => .rd [q.1] q.2.1 :: .rd [q.2.2.1] q.2.2.2.2.1.2.1 :: .rd [q.2.2.2.1] q.2.2.2.2.1.2.2 :: .bk bc (cur vb q.2.2.2.2.2) :: Δ) := ⟨fun s w0 => l23DrawAny_spec⟩

end Go.Proofs.YtbbdjjlnachnlaaGreat
