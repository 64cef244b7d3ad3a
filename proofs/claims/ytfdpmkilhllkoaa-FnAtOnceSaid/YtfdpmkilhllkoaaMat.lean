/- Matching: what the greedy match comes to; no program in sight. -/
import Derived.Test.YtfdpmkilhllkoaaUni
import Derived.Test.YtfdpmkilhllkoaaL04
namespace Go.Proofs.Ytfdpmkilhllkoaa
open Go Go.Eng
set_option linter.unusedVariables false
set_option linter.unusedSimpArgs false

/-- Terms one behind the other. -/
def Fo (a ts : List Int) (m : Nat) : Prop := skp a (badS a) ts m = (true, ts.length)
theorem fo_cons {a xs : List Int} {x : Int} {m : Nat} (h : Fo a (x :: xs) m) : ∃ m', m = m' + 1 ∧ badS a x = false ∧ Fo a xs (m' + (ar a x).toNat) := by
  cases m with
  | zero => simp [Fo, skp] at h
  | succ m' =>
    refine ⟨m', rfl, ?_⟩
    unfold Fo at h ⊢
    simp only [skp] at h
    by_cases hb : badS a x = true
    · simp [hb] at h
    · simp only [hb, Bool.false_eq_true, if_false, List.length_cons] at h
      injection h with h1 h2
      exact ⟨by simpa using hb, Prod.ext h1 (by simpa using h2)⟩
theorem fo_nil {a : List Int} {m : Nat} (h : Fo a [] m) : m = 0 := by
  cases m with
  | zero => rfl
  | succ m => simp [Fo, skp] at h
theorem fo_first {a ts : List Int} {m : Nat} (h : Fo a ts (m + 1)) : Tm a (ts.take (skp a (badS a) ts 1).2) ∧ Fo a (ts.drop (skp a (badS a) ts 1).2) m := by
  have hs := skp_split a (badS a) ts 1 m
  unfold Fo at h
  rw [Nat.add_comm 1 m, h] at hs
  by_cases h1 : (skp a (badS a) ts 1).1 = true
  · rw [if_pos h1] at hs
    injection hs with e1 e2
    have hle := skp_le a (badS a) ts 1
    constructor
    · unfold Tm
      rw [skp_take _ _ _ (Nat.le_refl _) h1, List.length_take, Nat.min_eq_left hle]
      exact Prod.ext h1 rfl
    · unfold Fo
      refine Prod.ext e1.symm ?_
      rw [List.length_drop]
      simp only
      omega
  · rw [if_neg h1] at hs
    exact absurd (by rw [← hs]) h1
theorem gd_set_self {b : List (List Int)} {i : Nat} {x : List Int} (h : i < b.length) : (b.set i x).getD i [] = x := by
  simp [List.getD_eq_getElem?_getD, h]
theorem gd_set_ne {b : List (List Int)} {i j : Nat} {x : List Int} (h : j ≠ i) : (b.set i x).getD j [] = b.getD j [] := by
  rw [List.getD_eq_getElem?_getD, List.getD_eq_getElem?_getD, List.getElem?_set, if_neg (Ne.symm h)]

/-- What bindings stand for. -/
def bF (b : List (List Int)) (n : Int) : List Int := if n < 0 ∧ b.getD (-1 - n).toNat [] ≠ [] then b.getD (-1 - n).toNat [] else [n]
theorem bF_sym {b : List (List Int)} {n : Int} (h : 0 ≤ n) : bF b n = [n] := if_neg (fun h' => by omega)
theorem bF_var {b : List (List Int)} {n : Int} (h : n < 0) (h' : b.getD (-1 - n).toNat [] ≠ []) : bF b n = b.getD (-1 - n).toNat [] := if_pos ⟨h, h'⟩
structure BOk (a : List Int) (b : List (List Int)) : Prop where
  len : b.length = 24
  tm : ∀ i, b.getD i [] ≠ [] → Tm a (b.getD i [])
theorem bok_zero (a : List Int) : BOk a (List.replicate 24 []) := ⟨by simp, fun i h => absurd (by
  rw [List.getD_eq_getElem?_getD, List.getElem?_replicate]
  split <;> rfl) h⟩
theorem bok_sb {a : List Int} {b : List (List Int)} (h : BOk a b) : Sb a (bF b) := ⟨fun n hn => bF_sym hn, fun n h1 h2 => by
  unfold bF
  split
  · rename_i hc
    exact h.tm _ hc.2
  · exact tm_var ⟨h1, h2⟩⟩
theorem bad_range {a : List Int} {n : Int} (h : badS a n = false) : -24 ≤ n ∧ n < a.length := by
  simp only [badS, decide_eq_false_iff_not] at h
  omega

theorem go_sound {a : List Int} : ∀ (p ts : List Int) (m : Nat) (b b' : List (List Int)), Fo a p m → Fo a ts m → BOk a b → matchGo a p ts b = some b' →
    BOk a b' ∧ (∀ i, b.getD i [] ≠ [] → b'.getD i [] = b.getD i []) ∧ fm (bF b') p = ts ∧ ∀ x ∈ p, x < 0 → b'.getD (-1 - x).toNat [] ≠ []
  | [], ts, m, b, b', hp, ht, hb, h => by
    have hm := fo_nil hp
    subst hm
    have : ts = [] := by
      unfold Fo at ht
      cases ts with
      | nil => rfl
      | cons x xs => simp [skp] at ht
    subst this
    simp only [matchGo, Option.some.injEq] at h
    subst h
    exact ⟨hb, fun _ _ => rfl, rfl, fun x hx => by cases hx⟩
  | _ :: _, [], m, b, b', hp, ht, hb, h => by simp [matchGo] at h
  | n :: p, x :: ts, m, b, b', hp, ht, hb, h => by
    obtain ⟨m', rfl, hbn, hp'⟩ := fo_cons hp
    have hnr := bad_range hbn
    simp only [matchGo] at h
    by_cases h0 : 0 ≤ n
    · rw [if_pos h0] at h
      by_cases hx : x = n
      · rw [if_pos hx] at h
        subst hx
        obtain ⟨m2, hm2, _, ht'⟩ := fo_cons ht
        have : m2 = m' := by omega
        subst this
        obtain ⟨a1, a2, a3, a4⟩ := go_sound p ts _ b b' hp' ht' hb h
        refine ⟨a1, a2, ?_, ?_⟩
        · rw [fm_cons, a3, bF_sym h0]; rfl
        · intro y hy h1
          rcases List.mem_cons.1 hy with e | e
          · omega
          · exact a4 y e h1
      · rw [if_neg hx] at h; cases h
    · rw [if_neg h0] at h
      have hp2 : Fo a p m' := by
        rw [ar_var (by omega)] at hp'
        simpa using hp'
      obtain ⟨hu, hv⟩ := fo_first ht
      generalize hk : (skp a (badS a) (x :: ts) 1).2 = k at h hu hv
      have hi : (-1 - n).toNat < b.length := by have := hb.len; omega
      have hne : (x :: ts).take k ≠ [] := fun e => by have := tm_pos hu; rw [e] at this; simp at this
      by_cases he : b.getD (-1 - n).toNat [] = []
      · rw [if_pos he] at h
        have hb2 : BOk a (b.set (-1 - n).toNat ((x :: ts).take k)) := ⟨by rw [List.length_set, hb.len], fun i hi' => by
          by_cases e : i = (-1 - n).toNat
          · rw [e, gd_set_self hi]; exact hu
          · rw [gd_set_ne e] at hi' ⊢; exact hb.tm i hi'⟩
        obtain ⟨a1, a2, a3, a4⟩ := go_sound p ((x :: ts).drop k) m' _ b' hp2 hv hb2 h
        have hbn' : b'.getD (-1 - n).toNat [] = (x :: ts).take k := by
          have := a2 (-1 - n).toNat (by rw [gd_set_self hi]; exact hne)
          rw [this, gd_set_self hi]
        refine ⟨a1, ?_, ?_, ?_⟩
        · intro i hi'
          have hne' : i ≠ (-1 - n).toNat := fun e => by rw [e] at hi'; exact hi' he
          have e := gd_set_ne (b := b) (x := (x :: ts).take k) hne'
          rw [← e] at hi' ⊢
          exact a2 i hi'
        · rw [fm_cons, a3, bF_var (by omega) (by rw [hbn']; exact hne), hbn', List.take_append_drop]
        · intro y hy h1
          rcases List.mem_cons.1 hy with e | e
          · rw [e, hbn']; exact hne
          · exact a4 y e h1
      · rw [if_neg he] at h
        by_cases hs : b.getD (-1 - n).toNat [] = (x :: ts).take k
        · rw [if_pos hs] at h
          obtain ⟨a1, a2, a3, a4⟩ := go_sound p ((x :: ts).drop k) m' b b' hp2 hv hb h
          have hbn' := a2 _ he
          refine ⟨a1, a2, ?_, ?_⟩
          · rw [fm_cons, a3, bF_var (by omega) (by rw [hbn']; exact he), hbn', hs, List.take_append_drop]
          · intro y hy h1
            rcases List.mem_cons.1 hy with e | e
            · rw [e, hbn']; exact he
            · exact a4 y e h1
        · rw [if_neg hs] at h; cases h
theorem go_complete {a : List Int} {σ : Int → List Int} (hσ : Sb a σ) : ∀ (p ts : List Int) (m : Nat) (b : List (List Int)), Fo a p m → fm σ p = ts → b.length = 24 → (∀ i, i < 24 → b.getD i [] = [] ∨ b.getD i [] = σ (-1 - (i : Int))) →
    ∃ b', matchGo a p ts b = some b'
  | [], ts, m, b, hp, h, hl, hb => ⟨b, by simp [matchGo]⟩
  | n :: p, ts, m, b, hp, h, hl, hb => by
    obtain ⟨m', rfl, hbn, hp'⟩ := fo_cons hp
    have hnr := bad_range hbn
    rw [fm_cons] at h
    by_cases h0 : 0 ≤ n
    · rw [hσ.pos n h0] at h
      subst h
      simp only [List.cons_append, List.nil_append, matchGo]
      rw [if_pos h0, if_pos trivial]
      exact go_complete hσ p _ _ b hp' rfl hl hb
    · have htm := hσ.tm n hnr.1 (by omega)
      have hsk : (skp a (badS a) ts 1).2 = (σ n).length := by rw [← h, skp_app _ _ _ _ _ (by rw [htm]), htm]
      have hpos := tm_pos htm
      have hp2 : Fo a p m' := by
        rw [ar_var (by omega)] at hp'
        simpa using hp'
      cases ts with
      | nil =>
        have := congrArg List.length h
        simp at this
        rw [this.1] at hpos
        simp at hpos
      | cons x ts =>
        simp only [matchGo]
        rw [if_neg h0, hsk, ← h, List.take_left, List.drop_left]
        have hin : σ (-1 - ((-1 - n).toNat : Int)) = σ n := by congr 1; omega
        by_cases he : b.getD (-1 - n).toNat [] = []
        · rw [if_pos he]
          refine go_complete hσ p _ _ _ hp2 rfl (by rw [List.length_set, hl]) (fun i hi => ?_)
          by_cases e : i = (-1 - n).toNat
          · right; rw [e, gd_set_self (by omega), hin]
          · rw [gd_set_ne e]; exact hb i hi
        · rw [if_neg he, if_pos (by
            rcases hb (-1 - n).toNat (by omega) with h1 | h1
            · exact absurd h1 he
            · rw [h1, hin])]
          exact go_complete hσ p _ _ b hp2 rfl hl hb
theorem fo_of {a t : List Int} (h : Tm a t) : Fo a t 1 := h
/-- A match gives bindings that fill the pattern. -/
theorem match_some {a p t : List Int} {ts : List (List Int)} (hp : termOk a p = true) (ht : termOk a t = true) (h : matchOf a p t = some ts) : ∃ b, BOk a b ∧ ts = plainOf b ∧ fm (bF b) p = t ∧ matchGo a p t (List.replicate 24 []) = some b := by
  unfold matchOf at h
  cases hg : matchGo a p t (List.replicate 24 []) with
  | none => rw [hg] at h; cases h
  | some b =>
    rw [hg] at h
    obtain ⟨h1, _, h3, _⟩ := go_sound p t 1 _ b (fo_of (tm_ok hp)) (fo_of (tm_ok ht)) (bok_zero a) hg
    exact ⟨b, h1, (Option.some.inj h).symm, h3, rfl⟩
theorem inst_iff {a p t : List Int} (hp : termOk a p = true) (ht : termOk a t = true) : instOf a p t = true ↔ ∃ σ, Sb a σ ∧ fm σ p = t := by
  constructor
  · intro h
    unfold instOf at h
    cases hm : matchOf a p t with
    | none => rw [hm] at h; cases h
    | some ts =>
      obtain ⟨b, h1, _, h3, _⟩ := match_some hp ht hm
      exact ⟨_, bok_sb h1, h3⟩
  · rintro ⟨σ, hσ, h⟩
    obtain ⟨b', hb'⟩ := go_complete hσ p t 1 (List.replicate 24 []) (fo_of (tm_ok hp)) h (by simp) (fun i hi => .inl (by
      rw [List.getD_eq_getElem?_getD, List.getElem?_replicate]
      split <;> rfl))
    unfold instOf matchOf
    rw [hb']
    rfl
theorem instanceIn_iff {a p t : List Int} : instanceIn a p t = true ↔ termOk a p = true ∧ termOk a t = true ∧ ∃ σ, Sb a σ ∧ fm σ p = t := by
  unfold instanceIn matchedOf
  by_cases h : termOk a p = true ∧ termOk a t = true
  · rw [if_pos h]
    have := inst_iff h.1 h.2
    unfold instOf at this
    rw [this]
    exact ⟨fun h' => ⟨h.1, h.2, h'⟩, fun h' => h'.2.2⟩
  · rw [if_neg h]
    exact Iff.intro (fun h' => by cases h') (fun h' => absurd ⟨h'.1, h'.2.1⟩ h)
theorem sb_id (a : List Int) : Sb a (fun n => [n]) := ⟨fun _ _ => rfl, fun n h1 h2 => tm_var ⟨h1, h2⟩⟩
theorem instanceIn_refl {a t : List Int} (h : termOk a t = true) : instanceIn a t t = true := instanceIn_iff.2 ⟨h, h, _, sb_id a, fm_id fun _ _ => rfl⟩
theorem Sb.comp {a : List Int} {σ τ : Int → List Int} (hσ : Sb a σ) (hτ : Sb a τ) : Sb a (fun n => Go.Proofs.Ytfdpmkilhllkoaa.fm τ (σ n)) := ⟨fun n hn => by
  rw [hσ.pos n hn, fm_one, hτ.pos n hn], fun n h1 h2 => hτ.fm (hσ.tm n h1 h2)⟩
theorem instanceIn_trans {a s t u : List Int} (h1 : instanceIn a s t = true) (h2 : instanceIn a t u = true) : instanceIn a s u = true := by
  obtain ⟨a1, a2, σ, a3, a4⟩ := instanceIn_iff.1 h1
  obtain ⟨b1, b2, τ, b3, b4⟩ := instanceIn_iff.1 h2
  exact instanceIn_iff.2 ⟨a1, b2, _, a3.comp b3, by rw [← fm_fm, a4, b4]⟩
end Go.Proofs.Ytfdpmkilhllkoaa
