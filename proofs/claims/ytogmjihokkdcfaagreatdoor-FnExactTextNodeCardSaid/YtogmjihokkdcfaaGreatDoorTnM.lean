/- Texts that are read again: numbers, words, terms. -/
import Derived.Test.YtogmjihokkdcfaaGreatDoorPars
import Derived.Test.YtogmjihokkdcfaaGreatDoorNumT
import Derived.Lib.ParseIntB
import Derived.Test.YtogmjihokkdcfaaGreatDoorNodeT
import Derived.Test.YtogmjihokkdcfaaGreatDoorEngV
namespace Go.Proofs.YtogmjihokkdcfaaGreatDoor
open Go Go.Eng
set_option linter.unusedVariables false
set_option linter.unusedSimpArgs false

/-! ### Words -/
def consH (b : UInt8) : List (List UInt8) → List (List UInt8)
  | [] => [[b]]
  | h :: t => (b :: h) :: t
/-- The words between the bytes c. -/
def spB (c : UInt8) : List UInt8 → List (List UInt8)
  | [] => [[]]
  | b :: l => if b = c then [] :: spB c l else consH b (spB c l)
/-- A word ahead of the first of some words. -/
def preH (w : List UInt8) : List (List UInt8) → List (List UInt8)
  | [] => [w]
  | h :: t => (w ++ h) :: t
theorem spB_ne (c : UInt8) : ∀ l, spB c l ≠ []
  | [] => by simp [spB]
  | b :: l => by
    unfold spB
    split
    · simp
    · cases spB c l <;> simp [consH]
theorem preH_nil {c : UInt8} {l : List UInt8} : preH [] (spB c l) = spB c l := by
  cases h : spB c l with
  | nil => exact absurd h (spB_ne c l)
  | cons x t => rfl
theorem preH_cons (w : List UInt8) (b : UInt8) (ws : List (List UInt8)) : preH w (consH b ws) = preH (w ++ [b]) ws := by
  cases ws <;> simp [preH, consH]
theorem spB_hit {c : UInt8} {l : List UInt8} (w : List UInt8) : preH w (spB c (c :: l)) = w :: spB c l := by
  rw [spB, if_pos rfl, preH, List.append_nil]
theorem spB_miss {b c : UInt8} {l : List UInt8} (w : List UInt8) (h : b ≠ c) : preH w (spB c (b :: l)) = preH (w ++ [b]) (spB c l) := by
  rw [spB, if_neg h, preH_cons]
theorem spB_end {c : UInt8} (w : List UInt8) : preH w (spB c []) = [w] := by rw [spB, preH, List.append_nil]
/-- The words with the bytes c between them. -/
def jnB (c : UInt8) : List (List UInt8) → List UInt8
  | [] => []
  | [w] => w
  | w :: x :: t => w ++ c :: jnB c (x :: t)
theorem jnB_consH (c b : UInt8) : ∀ {ws : List (List UInt8)}, ws ≠ [] → jnB c (consH b ws) = b :: jnB c ws
  | [], h => absurd rfl h
  | [w], _ => rfl
  | w :: x :: t, _ => rfl
theorem jn_sp (c : UInt8) : ∀ l, jnB c (spB c l) = l
  | [] => rfl
  | b :: l => by
    unfold spB
    split
    · rename_i h
      have ih := jn_sp c l
      cases hs : spB c l with
      | nil => exact absurd hs (spB_ne c l)
      | cons x t => rw [hs] at ih; rw [jnB, ih, h]; rfl
    · rw [jnB_consH c b (spB_ne c l), jn_sp c l]
theorem sp_index {c : UInt8} : ∀ {l : List UInt8}, Lib.indexByte l c = -1 → spB c l = [l]
  | [], _ => rfl
  | b :: l, h => by
    unfold Lib.indexByte at h
    split at h
    · simp at h
    · split at h
      · rename_i h1 h2
        have hb : b ≠ c := fun e => h1 (by rw [e]; exact beq_self_eq_true c)
        rw [spB, if_neg hb, sp_index (by simpa using h2)]
        rfl
      · rename_i h1 h2
        have := Lib.indexByte_ge l c
        exfalso
        simp only [beq_iff_eq] at h2
        omega
theorem sp_index_at {c : UInt8} : ∀ {l : List UInt8} {i : Nat}, Lib.indexByte l c = (i : Int) → i < l.length ∧ spB c l = l.take i :: spB c (l.drop (i + 1))
  | [], i, h => by simp [Lib.indexByte] at h
  | b :: l, i, h => by
    unfold Lib.indexByte at h
    split at h
    · rename_i h1
      obtain rfl : i = 0 := by omega
      have hb : b = c := by simpa using h1
      rw [spB, if_pos hb]
      exact ⟨by simp, by simp⟩
    · rename_i h1
      split at h
      · omega
      · rename_i h2
        have hge := Lib.indexByte_ge l c
        simp only [beq_iff_eq] at h2
        have hb : b ≠ c := fun e => h1 (by rw [e]; exact beq_self_eq_true c)
        obtain ⟨j, hj⟩ : ∃ j : Nat, Lib.indexByte l c = (j : Int) := ⟨(Lib.indexByte l c).toNat, by omega⟩
        obtain ⟨h3, h4⟩ := sp_index_at hj
        obtain rfl : i = j + 1 := by omega
        rw [spB, if_neg hb, h4]
        exact ⟨by simp only [List.length_cons]; omega, rfl⟩

/-! ### Numbers -/
def In6 (n : Int) : Prop := -9223372036854775808 ≤ n ∧ n ≤ 9223372036854775807
instance (n : Int) : Decidable (In6 n) := by unfold In6; infer_instance
theorem dec_parse {M : Nat} (hM : M ≤ 18446744073709551615) : ∀ (u : Nat) (r : List UInt8), u ≤ M → Lib.parseUintM M 0 (Lib.decDigits u ++ r) = Lib.parseUintM M u r := by
  intro u
  induction u using Nat.strongRecOn with
  | _ u ih =>
    intro r hu
    rw [Lib.decDigits]
    split
    · rename_i h
      rw [List.cons_append, List.nil_append, Lib.parseUintM]
      have h1 : (UInt8.ofNat (48 + u)).toNat = 48 + u := by rw [UInt8.toNat_ofNat']; omega
      rw [h1, if_pos (by omega), if_neg (by omega), if_neg (by omega)]
      congr 1
      omega
    · rename_i h
      rw [List.append_assoc, ih (u / 10) (by omega) _ (by omega), List.cons_append, List.nil_append, Lib.parseUintM]
      have h1 : (UInt8.ofNat (48 + u % 10)).toNat = 48 + u % 10 := by rw [UInt8.toNat_ofNat']; omega
      rw [h1, if_pos (by omega), if_neg (by omega), if_neg (by omega)]
      congr 1
      omega
theorem dec_head (u : Nat) : ∃ d r, Lib.decDigits u = d :: r ∧ 48 ≤ d.toNat ∧ d.toNat ≤ 57 := by
  induction u using Nat.strongRecOn with
  | _ u ih =>
    rw [Lib.decDigits]
    split
    · rename_i h
      exact ⟨_, [], rfl, by rw [UInt8.toNat_ofNat']; omega, by rw [UInt8.toNat_ofNat']; omega⟩
    · obtain ⟨d, r, h1, h2⟩ := ih (u / 10) (by omega)
      exact ⟨d, r ++ [UInt8.ofNat (48 + u % 10)], by rw [h1]; rfl, h2⟩
/-- A number is read as it is written. -/
theorem parse_itoa {n : Int} (h : In6 n) : Lib.parseIntB 64 (Lib.itoa n) = .ok n := by
  unfold In6 at h
  have key : ∀ u : Nat, u ≤ 9223372036854775808 → Lib.parseUintB 64 (Lib.decDigits u) = .ok u := fun u hu => by
    obtain ⟨d, r, h1, _⟩ := dec_head u
    unfold Lib.parseUintB
    rw [if_neg (by rw [h1]; simp)]
    have h64 : (2 : Nat) ^ 64 = 18446744073709551616 := by decide
    have := dec_parse (M := 2 ^ 64 - 1) (by decide) u [] (by omega)
    rw [List.append_nil] at this
    rw [this]
    rfl
  have h63 : (2 : Nat) ^ (64 - 1) = 9223372036854775808 := by decide
  unfold Lib.itoa
  split
  · rename_i hn
    unfold Lib.parseIntB
    simp only
    rw [if_pos (by decide), key _ (by omega)]
    simp only
    have h45 : (45 : UInt8).toNat = 45 := by decide
    rw [h45, h63, if_neg (by omega), if_neg (by omega), if_pos rfl]
    congr 1
    omega
  · rename_i hn
    obtain ⟨d, r, h1, h2, h3⟩ := dec_head n.toNat
    have hk := key n.toNat (by omega)
    rw [h1] at hk ⊢
    unfold Lib.parseIntB
    simp only
    rw [if_neg (by omega), hk]
    simp only
    rw [h63, if_neg (by omega), if_neg (by omega), if_neg (by omega)]
    congr 1
    omega
/-- A text of a number. -/
def okI (l : List UInt8) : Prop := ∃ n, In6 n ∧ Lib.itoa n = l
noncomputable instance (l : List UInt8) : Decidable (okI l) := Classical.propDecidable _
/-- The number of a text. -/
def valI (l : List UInt8) : Int := match Lib.parseIntB 64 l with | .ok v => v | _ => 0
theorem valI_itoa {n : Int} (h : In6 n) : valI (Lib.itoa n) = n := by unfold valI; rw [parse_itoa h]
theorem okI_val {l : List UInt8} (h : okI l) : In6 (valI l) ∧ Lib.itoa (valI l) = l := by
  obtain ⟨n, h1, h2⟩ := h
  rw [← h2, valI_itoa h1]
  exact ⟨h1, rfl⟩
theorem okI_of {n : Int} {l : List UInt8} (h : In6 n) (h2 : Lib.itoa n = l) : okI l ∧ n = valI l := ⟨⟨n, h, h2⟩, by rw [← h2, valI_itoa h]⟩

/-! ### Terms -/
inductive Toks : List Int → List UInt8 → Prop
  | nil : Toks [] []
  | pn {ns : List Int} {bs : List UInt8} (c : UInt8) : isPn c → Toks ns bs → Toks ns (c :: bs)
  | var {ns : List Int} {bs : List UInt8} (n : Nat) : n < 100 → (∀ c ∈ bs.head?, isPn c) → Toks ns bs → Toks ((-1 - (n : Int)) :: ns) (120 :: (numL n ++ bs))
  | sym {ns : List Int} {bs : List UInt8} (n : Nat) : n < 100 → (∀ c ∈ bs.head?, isPn c) → Toks ns bs → Toks ((n : Int) :: ns) (102 :: (numL n ++ bs))
theorem head_app {bs cs : List UInt8} (h1 : ∀ c ∈ bs.head?, isPn c) (h2 : ∀ c ∈ cs.head?, isPn c) : ∀ c ∈ (bs ++ cs).head?, isPn c := by
  cases bs with
  | nil => exact h2
  | cons b bs => exact h1
theorem Toks.app {ns ms : List Int} {bs cs : List UInt8} (h : Toks ns bs) (h2 : Toks ms cs) (hc : ∀ c ∈ cs.head?, isPn c) : Toks (ns ++ ms) (bs ++ cs) := by
  induction h with
  | nil => exact h2
  | pn c hp _ ih => exact .pn c hp ih
  | var n hn hb _ ih =>
    rw [List.cons_append, List.cons_append, List.append_assoc]
    exact .var n hn (head_app hb hc) ih
  | sym n hn hb _ ih =>
    rw [List.cons_append, List.cons_append, List.append_assoc]
    exact .sym n hn (head_app hb hc) ih
theorem tx_toks {a t : List Int} (h : termOk a t = true) : ∀ (N p : Nat), p < t.length → t.length - p ≤ N → Toks (subt a t p) (TX a t p)
  | 0, p, hp, hN => by omega
  | N + 1, p, hp, hN => by
    have hg := termOk_get h hp
    have hsig := sigOk_len (termOk_sig h)
    have hall := preK_all h hp
    by_cases h0 : t.getD p 0 < 0
    · rw [TX_var hp h0]
      have hk : arK a t p = 0 := by unfold arK; rw [ar_var h0]; rfl
      rw [hall, hk]
      have := Toks.var (-1 - t.getD p 0).toNat (by omega) (by simp) Toks.nil
      rw [show (-1 - (((-1 - t.getD p 0).toNat : Nat) : Int)) = t.getD p 0 by omega, List.append_nil] at this
      have h0' : preK a t p 0 = [] := by unfold preK; simp [kidN]
      rw [h0']
      exact this
    · rw [TX_fun h hp (by omega), hall]
      have hK : ∀ i, i ≤ arK a t p → Toks (preK a t p i) (KX a t p i) ∧ ∀ c ∈ (KX a t p i).head?, isPn c := fun i => by
        induction i with
        | zero =>
          intro _
          rw [KX_zero]
          have : preK a t p 0 = [] := by unfold preK; simp [kidN]
          rw [this]
          exact ⟨.nil, by simp⟩
        | succ i ih =>
          intro hi
          have hk := kid_lt h hp (i := i) (by omega)
          obtain ⟨h1, h2⟩ := ih (by omega)
          have hpn : isPn (if i = 0 then 40 else 44) := by split <;> decide
          have h3 := Toks.pn _ hpn (tx_toks h N (kidN a t (p + 1) i) hk.2 (by omega))
          rw [KX_succ, preK_succ h hp (by omega)]
          have h4 : ∀ c ∈ ((if i = 0 then (40 : UInt8) else 44) :: TX a t (kidN a t (p + 1) i)).head?, isPn c := fun c hc => by
            simp only [List.head?_cons, Option.mem_some_iff] at hc
            rw [← hc]; exact hpn
          exact ⟨h1.app h3 h4, head_app h2 h4⟩
      obtain ⟨h1, h2⟩ := hK _ (Nat.le_refl _)
      have hend : Toks [] (if arK a t p = 0 then ([] : List UInt8) else [41]) ∧ ∀ c ∈ (if arK a t p = 0 then ([] : List UInt8) else [41]).head?, isPn c := by
        split
        · exact ⟨.nil, by simp⟩
        · exact ⟨.pn 41 (by decide) .nil, fun c hc => by simp only [List.head?_cons, Option.mem_some_iff] at hc; rw [← hc]; decide⟩
      have h3 := h1.app hend.1 hend.2
      rw [List.append_nil] at h3
      have := Toks.sym (t.getD p 0).toNat (by omega) (head_app h2 hend.2) h3
      rw [show (((t.getD p 0).toNat : Nat) : Int) = t.getD p 0 by omega] at this
      rw [List.cons_append, List.cons_append, List.append_assoc]
      exact this
/-! ### Both scans -/
/-- The numbers in a text, as the reference reads them. -/
def nsO (l : List UInt8) (i : Nat) (t : List Int) : Prop := PnP (psW l i) ∧ t.length < 60
instance {l : List UInt8} {i : Nat} {t : List Int} : Decidable (nsO l i t) := by unfold nsO; infer_instance
def isXf (c : UInt8) : Prop := c.toNat = 120 ∨ c.toNat = 102
instance {c : UInt8} : Decidable (isXf c) := by unfold isXf; infer_instance
def nsT (l : List UInt8) : Nat → Nat → List Int → Option (List Int)
  | 0, _, t => some t
  | f + 1, i, t => if i < l.length then (if ¬ isXf (l.getD i 0) then nsT l f (i + 1) t else if nsO l i t then nsT l f (dgE l (i + 1)) (t ++ [psN l i]) else none) else some t
theorem nsT_fuel (l : List UInt8) : ∀ (f g i : Nat) (t : List Int), l.length - i ≤ f → l.length - i ≤ g → nsT l f i t = nsT l g i t
  | 0, 0, i, t, _, _ => rfl
  | 0, g + 1, i, t, h, _ => by
    rw [nsT, nsT, if_neg (by omega)]
  | f + 1, 0, i, t, _, h => by
    rw [nsT, nsT, if_neg (by omega)]
  | f + 1, g + 1, i, t, hf, hg => by
    have hge : i + 1 ≤ dgE l (i + 1) := digE_ge l (l.length - (i + 1)) (i + 1)
    unfold nsT
    split
    · split
      · exact nsT_fuel l f g (i + 1) t (by omega) (by omega)
      · split
        · exact nsT_fuel l f g _ _ (by omega) (by omega)
        · rfl
    · rfl
abbrev ns0 (l : List UInt8) (i : Nat) (t : List Int) : Option (List Int) := nsT l (l.length - i) i t
theorem ns_pn {l : List UInt8} {i : Nat} {t : List Int} (h : i < l.length) (hp : ¬ isXf (l.getD i 0)) : ns0 l i t = ns0 l (i + 1) t := by
  unfold ns0
  rw [show l.length - i = (l.length - (i + 1)) + 1 by omega, nsT, if_pos h, if_pos hp]
theorem ns_sym {l : List UInt8} {i : Nat} {t : List Int} (h : i < l.length) (hp : isXf (l.getD i 0)) (ho : nsO l i t) : ns0 l i t = ns0 l (dgE l (i + 1)) (t ++ [psN l i]) := by
  have hge : i + 1 ≤ dgE l (i + 1) := digE_ge l (l.length - (i + 1)) (i + 1)
  unfold ns0
  rw [show l.length - i = (l.length - (i + 1)) + 1 by omega, nsT, if_pos h, if_neg (by simpa using hp), if_pos ho]
  exact nsT_fuel _ _ _ _ _ (by omega) (by omega)
theorem ns_no {l : List UInt8} {i : Nat} {t : List Int} (h : i < l.length) (hp : isXf (l.getD i 0)) (ho : ¬ nsO l i t) : ns0 l i t = none := by
  unfold ns0
  rw [show l.length - i = (l.length - (i + 1)) + 1 by omega, nsT, if_pos h, if_neg (by simpa using hp), if_neg ho]
theorem ns_end {l : List UInt8} {i : Nat} {t : List Int} (h : l.length ≤ i) : ns0 l i t = some t := by
  unfold ns0
  rw [show l.length - i = 0 by omega]; rfl
theorem drop_getD {l bs : List UInt8} {i : Nat} {c : UInt8} (h : l.drop i = c :: bs) : i < l.length ∧ l.getD i 0 = c ∧ l.drop (i + 1) = bs := by
  have hlt : i < l.length := by
    rcases Nat.lt_or_ge i l.length with h1 | h1
    · exact h1
    · rw [List.drop_of_length_le h1] at h; cases h
  rw [List.drop_eq_getElem_cons hlt] at h
  injection h with h1 h2
  exact ⟨hlt, by rw [List.getD_eq_getElem?_getD, List.getElem?_eq_getElem hlt]; exact h1, h2⟩
/-- The digits of a number end where no digit follows. -/
theorem dg_word {l : List UInt8} : ∀ {ds : List UInt8} {bs : List UInt8} {j : Nat}, l.drop j = ds ++ bs → (∀ d ∈ ds, isDg d) → (∀ c ∈ bs.head?, isPn c) → dgE l j = j + ds.length
  | [], bs, j, h, _, hb => by
    rw [List.nil_append] at h
    unfold dgE
    rw [digE_stop]
    · simp
    · rintro ⟨h1, h2⟩
      cases bs with
      | nil =>
        have := congrArg List.length h
        rw [List.length_drop, List.length_nil] at this
        omega
      | cons c bs =>
        obtain ⟨_, h4, _⟩ := drop_getD h
        have := hb c (by simp)
        rw [h4] at h2
        unfold isPn at this
        unfold isDg at h2
        omega
  | d :: ds, bs, j, h, hd, hb => by
    rw [List.cons_append] at h
    obtain ⟨h3, h4, h5⟩ := drop_getD h
    unfold dgE
    rw [digE_step h3 (by rw [h4]; exact hd d List.mem_cons_self)]
    have := dg_word (j := j + 1) h5 (fun x hx => hd x (List.mem_cons_of_mem _ hx)) hb
    unfold dgE at this
    rw [this, List.length_cons]
    omega
theorem numL_dg {n : Nat} (h : n < 100) : (∀ d ∈ numL n, isDg d) ∧ PnP (numL n) ∧ pNum (numL n) = (n : Int) := by
  revert n
  decide +kernel
theorem word_at {l bs : List UInt8} {i : Nat} {c : UInt8} {n : Nat} (hn : n < 100) (h : l.drop i = c :: (numL n ++ bs)) (hb : ∀ c ∈ bs.head?, isPn c) : dgE l (i + 1) = i + 1 + (numL n).length ∧ psW l i = numL n ∧ l.drop (dgE l (i + 1)) = bs := by
  obtain ⟨h1, h2, h3⟩ := drop_getD h
  have h4 := dg_word h3 (numL_dg hn).1 hb
  refine ⟨h4, ?_, ?_⟩
  · unfold psW
    rw [h4, h3, show i + 1 + (numL n).length - (i + 1) = (numL n).length by omega, List.take_left]
  · rw [h4, ← List.drop_drop, h3, List.drop_left]
theorem toks_scan {l : List UInt8} {ns : List Int} {bs : List UInt8} (h : Toks ns bs) : ∀ (i : Nat) (t : List Int), l.drop i = bs → ps0 l i t = some (t ++ ns) ∧ (t.length + ns.length ≤ 60 → ns0 l i t = some (t ++ ns)) := by
  induction h with
  | nil =>
    intro i t hd
    have hl : l.length ≤ i := by
      have := congrArg List.length hd
      rw [List.length_drop, List.length_nil] at this
      omega
    rw [ps_end hl, ns_end hl, List.append_nil]
    exact ⟨rfl, fun _ => rfl⟩
  | pn c hp _ ih =>
    intro i t hd
    obtain ⟨h1, h2, h3⟩ := drop_getD hd
    obtain ⟨h4, h5⟩ := ih (i + 1) t h3
    refine ⟨by rw [ps_pn h1 (by rw [h2]; exact hp)]; exact h4, fun hl => ?_⟩
    rw [ns_pn h1 (by rw [h2]; unfold isXf; unfold isPn at hp; omega)]
    exact h5 hl
  | @var ns bs n hn hb _ ih =>
    intro i t hd
    obtain ⟨h1, h2, h3⟩ := drop_getD hd
    obtain ⟨w1, w2, w3⟩ := word_at hn hd hb
    obtain ⟨_, k2, k3⟩ := numL_dg hn
    have hps : psN l i = -1 - (n : Int) := by unfold psN; rw [h2, if_pos (by decide), w2, k3]
    obtain ⟨h4, h5⟩ := ih (dgE l (i + 1)) (t ++ [psN l i]) w3
    refine ⟨?_, fun hl => ?_⟩
    · rw [ps_sym h1 (by rw [h2]; decide) ⟨by rw [w2]; exact k2, by rw [h2]; decide⟩, h4, hps, List.append_assoc]; rfl
    · rw [List.length_cons] at hl
      rw [ns_sym h1 (by rw [h2]; decide) ⟨by rw [w2]; exact k2, by omega⟩, h5 (by simp only [List.length_append, List.length_singleton]; omega), hps, List.append_assoc]; rfl
  | @sym ns bs n hn hb _ ih =>
    intro i t hd
    obtain ⟨h1, h2, h3⟩ := drop_getD hd
    obtain ⟨w1, w2, w3⟩ := word_at hn hd hb
    obtain ⟨_, k2, k3⟩ := numL_dg hn
    have hps : psN l i = (n : Int) := by unfold psN; rw [h2, if_neg (by decide), w2, k3]
    obtain ⟨h4, h5⟩ := ih (dgE l (i + 1)) (t ++ [psN l i]) w3
    refine ⟨?_, fun hl => ?_⟩
    · rw [ps_sym h1 (by rw [h2]; decide) ⟨by rw [w2]; exact k2, by rw [h2]; decide⟩, h4, hps, List.append_assoc]; rfl
    · rw [List.length_cons] at hl
      rw [ns_sym h1 (by rw [h2]; decide) ⟨by rw [w2]; exact k2, by omega⟩, h5 (by simp only [List.length_append, List.length_singleton]; omega), hps, List.append_assoc]; rfl
/-- A text of a term. -/
def okT (a : List Int) (l : List UInt8) : Prop := ∃ t, termOk a t = true ∧ TX a t 0 = l
theorem text_scan {a t : List Int} (h : termOk a t = true) : ps0 (TX a t 0) 0 [] = some t ∧ ns0 (TX a t 0) 0 [] = some t := by
  have hl := termOk_len h
  have h1 := tx_toks h t.length 0 (by omega) (by omega)
  have h2 : subt a t 0 = t := by
    unfold subt sz
    rw [List.drop_zero, (termOk_iff.1 h).2.2.2, List.take_length]
  rw [h2] at h1
  have := toks_scan (l := TX a t 0) h1 0 [] rfl
  exact ⟨this.1, this.2 (by simpa using hl.2)⟩
theorem ptB_iff {a : List Int} {s : ByteArray} : ptB a s ↔ okT a s.data.toList := by
  constructor
  · rintro ⟨_, h2, h3⟩
    exact ⟨_, h2, congrArg (fun b : ByteArray => b.data.toList) h3⟩
  · rintro ⟨t, h1, h2⟩
    have hs := (text_scan h1).1
    rw [h2] at hs
    have hp : ptL s.data.toList = t := by unfold ptL; rw [hs]; rfl
    refine ⟨by rw [hs]; rfl, by rw [hp]; exact h1, ?_⟩
    rw [hp]
    apply ByteArray.ext
    apply Array.ext'
    exact h2
/-- The term of a text. -/
theorem okT_val {a : List Int} {l : List UInt8} (h : okT a l) : termOk a (ptL l) = true ∧ TX a (ptL l) 0 = l ∧ ns0 l 0 [] = some (ptL l) := by
  obtain ⟨t, h1, h2⟩ := h
  obtain ⟨h3, h4⟩ := text_scan h1
  rw [h2] at h3 h4
  have hp : ptL l = t := by unfold ptL; rw [h3]; rfl
  rw [hp]
  exact ⟨h1, h2, h4⟩
end Go.Proofs.YtogmjihokkdcfaaGreatDoor
namespace Go.Proofs.YtogmjihokkdcfaaGreatDoor
open Go Go.Eng
set_option linter.unusedVariables false
set_option linter.unusedSimpArgs false
set_option synthInstance.maxHeartbeats 400000
set_option synthInstance.maxSize 1000
set_option maxHeartbeats 2000000
set_option maxRecDepth 20000


/-! ### Kinds -/
/-- The first place of a list that holds s, from k on. -/
def idxFrom (s : ByteArray) : Nat → List ByteArray → Int
  | _, [] => -1
  | k, t :: l => if t = s then k else idxFrom s (k + 1) l
def idxOf (s : ByteArray) (l : List ByteArray) : Int := idxFrom s 0 l
theorem idxFrom_drop {s : ByteArray} {l : List ByteArray} : ∀ {k : Nat}, k < l.length → idxFrom s k (l.drop k) = if l.getD k ByteArray.empty = s then (k : Int) else idxFrom s (k + 1) (l.drop (k + 1)) := by
  intro k hk
  rw [List.drop_eq_getElem_cons hk]
  simp [idxFrom, List.getElem?_eq_getElem hk]
theorem idxFrom_range {s : ByteArray} : ∀ (l : List ByteArray) (k : Nat), -1 ≤ idxFrom s k l ∧ idxFrom s k l < (k + l.length : Nat)
  | [], k => by simp [idxFrom]; omega
  | t :: l, k => by
    have := idxFrom_range (s := s) l (k + 1)
    unfold idxFrom
    split
    · simp; omega
    · simp at this ⊢; omega
theorem idxFrom_at {s : ByteArray} : ∀ (l : List ByteArray) (k : Nat), 0 ≤ idxFrom s k l → ∃ j : Nat, idxFrom s k l = ((k + j : Nat) : Int) ∧ l.getD j ByteArray.empty = s
  | [], k, h => by simp [idxFrom] at h
  | t :: l, k, h => by
    unfold idxFrom at h ⊢
    split
    · rename_i e
      exact ⟨0, rfl, e⟩
    · rename_i e
      rw [if_neg e] at h
      obtain ⟨j, h1, h2⟩ := idxFrom_at l (k + 1) h
      exact ⟨j + 1, by rw [h1]; congr 1; omega, h2⟩
def nkd (s : ByteArray) : Int := idxOf s kindNames + 1
theorem nkd_range (s : ByteArray) : 0 ≤ nkd s ∧ nkd s ≤ 12 := by
  have hr := idxFrom_range (s := s) kindNames 0
  have hl : kindNames.length = 12 := rfl
  unfold nkd idxOf
  omega
theorem knT_nkd {s : ByteArray} (h : 1 ≤ nkd s) : knT (nkd s) = s := by
  have hr := nkd_range s
  unfold knT
  rw [if_pos ⟨h, hr.2⟩]
  unfold nkd idxOf at *
  obtain ⟨j, h1, h2⟩ := idxFrom_at (s := s) kindNames 0 (by omega)
  rw [h1, show (((0 + j : Nat) : Int) + 1 - 1).toNat = j by omega]
  exact h2
theorem spec_NameKind_spec {w0 : World} {Γ : List Atom} {s : ByteArray} : CJ Tryz.prog 17 [.string s] w0 Γ (fun _ : Unit => .int .i64 (nkd s)) (fun _ => Γ) := by
  have hl : kindNames.length = 12 := rfl
  refine cj_enter Tryz.func17 Tryz.ntmps17 ?_
  repeat' (first | refine red ?_ | refine redf fun hbi => ?_ | refine reds ?_ | (refine redc fun r => ?_; try have hr := Subtype.property r) | refine redp (fun r => ?_) (fun r => ?_) | refine redv fun sv => ?_ | refine redn fun b => ?_ | refine redz fun zs => ?_ | refine redq (fun hc => ?_) (fun hc => ?_) | with_reducible refine wq_blk_o rfl ?_ | (refine redd fun p cs as_ hcs has hf => ?_; simp only [Un.cells, Un.atoms, Un.fact, List.cons_append, List.nil_append] at hcs has hf; subst hcs has) | (refine redi (fun hc => ?_) (fun hc => ?_) <;> try first | (exfalso; omega) | with_reducible first | exact absurd rfl hc | exact absurd hc Bool.false_ne_true | exact absurd hc Bool.false_ne_true.symm) | fail)
  refine wc_loop_c [3] [4, 5, 8, 9, 10, 11, 12, 13, 14, 15, 2, 6, 7] (ι := Nat) (fun k => [.int .i64 k]) (fun k => k ≤ 12 ∧ idxOf s kindNames = idxFrom s k (kindNames.drop k)) (fun k => 12 - k) 0 (by kernel_rfl) ⟨Nat.zero_le _, rfl⟩ ?_
  intro k u l' hl' ⟨hk, hkk⟩
  simp only [patch, List.map_cons, List.map_nil, List.set_cons_zero, List.set_cons_succ] at hl'
  subst hl'
  repeat' (first | refine red ?_ | refine redf fun hbi => ?_ | refine reds ?_ | (refine redc fun r => ?_; try have hr := Subtype.property r) | refine redp (fun r => ?_) (fun r => ?_) | refine redv fun sv => ?_ | refine redn fun b => ?_ | refine redz fun zs => ?_ | refine redq (fun hc => ?_) (fun hc => ?_) | with_reducible refine wq_blk_o rfl ?_ | (refine redd fun p cs as_ hcs has hf => ?_; simp only [Un.cells, Un.atoms, Un.fact, List.cons_append, List.nil_append] at hcs has hf; subst hcs has) | (refine redi (fun hc => ?_) (fun hc => ?_) <;> try first | (exfalso; omega) | with_reducible first | exact absurd rfl hc | exact absurd hc Bool.false_ne_true | exact absurd hc Bool.false_ne_true.symm) | fail)
  · refine ⟨(), ?_, ent_e⟩
    unfold nkd
    rw [hkk, idxFrom_drop (by omega), if_pos (by simpa using hc)]
  · exact wq_next (k + 1) ⟨by omega, by rw [hkk, idxFrom_drop (by omega), if_neg (by intro h; exact hc (by simpa using h))]⟩ (by omega) (by kernel_rfl) ent_e
  · refine ⟨(), ?_, ent_e⟩
    unfold nkd
    rw [hkk, List.drop_of_length_le (by omega)]; rfl
instance spec_NameKind_ctr {Γ : List Atom} {s : ByteArray} :
    CtrC Tryz.prog 17 [.string s] Γ (True) (Unit) (fun _ : Unit => .int .i64 (nkd s)) (fun _ => Γ) := ⟨fun s w0 => spec_NameKind_spec⟩

theorem l1Split_spec {w0 : World} {Γ : List Atom} {s : ByteArray} {n : Int} {m : Nat} [hm : ToN n m] (hn : 0 ≤ n ∧ n < 256) (hs : s.size ≤ 1000000) : CJ Tryz.prog 14 [.string s, .int .u8 n] w0 Γ (fun q : Value => q) (fun q => .ow [q] ((spB (UInt8.ofNat m) s.data.toList).map S) :: Γ) := by
  have hll : s.data.toList.length = s.size := Array.length_toList
  have hnm := hm.eq
  have hcn : (UInt8.ofNat m).toNat = m := by rw [UInt8.toNat_ofNat']; omega
  generalize hc0 : UInt8.ofNat m = c at *
  refine cj_enter Tryz.func14 Tryz.ntmps14 ?_
  repeat' (first | refine red ?_ | refine redf fun hbi => ?_ | refine reds ?_ | (refine redc fun r => ?_; try have hr := Subtype.property r) | refine redp (fun r => ?_) (fun r => ?_) | refine redv fun sv => ?_ | refine redn fun b => ?_ | refine redz fun zs => ?_ | refine redq (fun hc => ?_) (fun hc => ?_) | with_reducible refine wq_blk_o rfl ?_ | (refine redi (fun hc => ?_) (fun hc => ?_) <;> try first | (exfalso; omega) | with_reducible first | exact absurd rfl hc | exact absurd hc Bool.false_ne_true | exact absurd hc Bool.false_ne_true.symm) | fail)
  refine wc_loop_p [5, 6, 7] [9, 10, 11, 12, 15, 16, 17, 18, 19, 20, 21, 22, 23, 24, 25, 26, 27, 28, 29, 30, 31, 32, 33, 34, 13, 14] (ι := Value × List (List UInt8) × Nat × Nat) (fun k => [k.1, .int .i64 k.2.2.1, .int .i64 k.2.2.2]) (fun k => [.ow [k.1] (k.2.1.map S)]) (fun k => k.2.2.2 ≤ s.size + 1 ∧ k.2.1.length ≤ k.2.2.2 ∧ (k.2.2.2 ≤ s.size → k.2.2.1 ≤ k.2.2.2 ∧ spB c s.data.toList = k.2.1 ++ preH ((s.data.toList.drop k.2.2.1).take (k.2.2.2 - k.2.2.1)) (spB c (s.data.toList.drop k.2.2.2))) ∧ (k.2.2.2 = s.size + 1 → spB c s.data.toList = k.2.1)) (fun k => s.size + 1 - k.2.2.2) (sv, [], 0, 0) [.ow [sv] ([] : List ByteArray)] (by kernel_rfl) ⟨Nat.zero_le _, Nat.le_refl _, fun _ => ⟨Nat.le_refl _, by simp [preH_nil]⟩, fun h => by simp at h⟩ rfl ?_
  intro ⟨ov, O, fr, i⟩ u l' hl' ⟨hi, hO, hin, hend⟩
  simp only [patch, List.map_cons, List.map_nil, List.set_cons_zero, List.set_cons_succ] at hl'
  subst hl'
  simp only [List.cons_append, List.nil_append] at hi hO hin hend ⊢
  have hxs : (s.extract (fr : Int).toNat (i : Int).toNat).size ≤ 1000000 := by
    rw [ByteArray.size_extract]; omega
  have hxe : (s.extract (fr : Int).toNat (i : Int).toNat) = S ((s.data.toList.drop fr).take (i - fr)) := by
    apply ByteArray.ext
    apply Array.ext'
    rw [ByteArray.data_extract, Array.toList_extract, Int.toNat_natCast, Int.toNat_natCast]
    rfl
  have hfr : i ≤ s.size → fr ≤ i := fun h => (hin h).1
  have hml : (O.map S).length ≤ i := by rw [List.length_map]; exact hO
  repeat' (first | refine red ?_ | refine redf fun hbi => ?_ | refine reds ?_ | (refine redc fun r => ?_; try have hr := Subtype.property r) | refine redp (fun r => ?_) (fun r => ?_) | refine redv fun sv => ?_ | refine redn fun b => ?_ | refine redz fun zs => ?_ | refine redq (fun hc => ?_) (fun hc => ?_) | with_reducible refine wq_blk_o rfl ?_ | (refine redi (fun hc => ?_) (fun hc => ?_) <;> try first | (exfalso; omega) | with_reducible first | exact absurd rfl hc | exact absurd hc Bool.false_ne_true | exact absurd hc Bool.false_ne_true.symm) | fail)
  · have hi' : i = s.size := by omega
    obtain ⟨_, h2⟩ := hin (by omega)
    rw [show s.data.toList.drop i = [] from List.drop_of_length_le (by omega), spB_end] at h2
    rw [hxe, show O.map S ++ [S ((s.data.toList.drop fr).take (i - fr))] = (O ++ [(s.data.toList.drop fr).take (i - fr)]).map S by simp]
    exact wq_next (sv, O ++ [(s.data.toList.drop fr).take (i - fr)], i + 1, i + 1) ⟨by simp only; omega, by simp only [List.length_append, List.length_singleton]; omega, fun h => by simp only at h; omega, fun _ => h2⟩ (by simp only; omega) (by kernel_rfl) ent_e
  · have hil : i < s.size := by omega
    obtain ⟨_, h2⟩ := hin (by omega)
    have hget : s.data.toList.drop i = c :: s.data.toList.drop (i + 1) := by
      rw [List.drop_eq_getElem_cons (by omega)]
      congr 1
      have : (s.data.toList.getD i 0).toNat = c.toNat := by omega
      rw [List.getD_eq_getElem?_getD, List.getElem?_eq_getElem (by omega), Option.getD_some] at this
      exact UInt8.toNat_inj.1 this
    rw [hget, spB_hit] at h2
    rw [hxe, show O.map S ++ [S ((s.data.toList.drop fr).take (i - fr))] = (O ++ [(s.data.toList.drop fr).take (i - fr)]).map S by simp]
    exact wq_next (sv, O ++ [(s.data.toList.drop fr).take (i - fr)], i + 1, i + 1) ⟨by simp only; omega, by simp only [List.length_append, List.length_singleton]; omega, fun _ => ⟨Nat.le_refl _, by simp only [Nat.sub_self, List.take_zero, preH_nil]; rw [h2, List.append_assoc]; rfl⟩, fun h => by simp only at h; omega⟩ (by simp only; omega) (by kernel_rfl) ent_e
  · have hil : i < s.size := by omega
    obtain ⟨h1, h2⟩ := hin (by omega)
    have hne : s.data.toList[i]'(by omega) ≠ c := fun e => by
      apply hc
      rw [List.getD_eq_getElem?_getD, List.getElem?_eq_getElem (by omega), Option.getD_some, e]
      omega
    rw [show s.data.toList.drop i = s.data.toList[i]'(by omega) :: s.data.toList.drop (i + 1) from List.drop_eq_getElem_cons (by omega), spB_miss _ hne] at h2
    have htk : (s.data.toList.drop fr).take (i - fr) ++ [s.data.toList[i]'(by omega)] = (s.data.toList.drop fr).take (i + 1 - fr) := by
      rw [show i + 1 - fr = (i - fr) + 1 by omega, List.take_succ_eq_append_getElem (by rw [List.length_drop]; omega)]
      congr 2
      rw [List.getElem_drop]
      congr 1
      omega
    rw [htk] at h2
    exact wq_next (ov, O, fr, i + 1) ⟨by simp only; omega, by simp only; omega, fun _ => ⟨by simp only; omega, h2⟩, fun h => by simp only at h; omega⟩ (by simp only; omega) (by kernel_rfl) ent_e
  · rw [hend (by omega)]
    exact ⟨_, rfl, ent_e⟩
instance l1Split_ctr {Γ : List Atom} {s : ByteArray} {n : Int} {m : Nat} [hm : ToN n m] :
    CtrC Tryz.prog 14 [.string s, .int .u8 n] Γ ((0 ≤ n ∧ n < 256) ∧ (s.size ≤ 1000000)) (Value) (fun q : Value => q) (fun q => .ow [q] ((spB (UInt8.ofNat m) s.data.toList).map S) :: Γ) := ⟨fun s w0 => l1Split_spec s.1 s.2⟩

theorem l1Read_spec {w0 : World} {Γ : List Atom} {s : ByteArray} :
    CJ Tryz.prog 69 [.string s] w0 Γ (fun _ : Unit => .tuple #[.int .i64 (pNum s.data.toList), .bool (decide (PnP s.data.toList))]) (fun _ => Γ) := by
  have hll : s.data.toList.length = s.size := Array.length_toList
  have hno : ¬ (1 ≤ s.data.toList.length ∧ s.data.toList.length ≤ 9 ∧ ¬ (1 < s.data.toList.length ∧ (s.data.toList.getD 0 0).toNat = 48)) → ¬ PnP s.data.toList := fun h h2 => h h2.1
  refine cj_enter Tryz.func69 Tryz.ntmps69 ?_
  repeat' (first | refine red ?_ | refine redf fun hbi => ?_ | refine reds ?_ | (refine redc fun r => ?_; try have hr := Subtype.property r) | refine redp (fun r => ?_) (fun r => ?_) | refine redv fun sv => ?_ | refine redn fun b => ?_ | refine redz fun zs => ?_ | refine redq (fun hc => ?_) (fun hc => ?_) | with_reducible refine wq_blk_o rfl ?_ | (refine redi (fun hc => ?_) (fun hc => ?_) <;> try first | (exfalso; omega) | with_reducible first | exact absurd rfl hc | exact absurd hc Bool.false_ne_true | exact absurd hc Bool.false_ne_true.symm) | fail)
  all_goals first
    | (refine ⟨(), ?_, ent_e⟩
       have hn : ¬ PnP s.data.toList := hno (by omega)
       rw [pNum, if_neg hn, decide_eq_false hn])
    | skip
  all_goals
    have hgd : 1 ≤ s.data.toList.length ∧ s.data.toList.length ≤ 9 ∧ ¬ (1 < s.data.toList.length ∧ (s.data.toList.getD 0 0).toNat = 48) := by omega
    refine wc_loop_c [4, 5] [24, 25, 26, 27, 30, 31, 32, 33, 34, 35, 36, 37, 38, 39, 2, 3, 40, 41, 42, 43, 44, 45, 46, 47, 28, 29] (ι := Nat) (fun k => [.int .i64 (pnV s.data.toList k), .int .i64 k]) (fun k => k ≤ s.size ∧ DigTo s.data.toList k) (fun k => s.size - k) 0 (by kernel_rfl) ⟨Nat.zero_le _, fun i hi => by omega⟩ ?_
    intro k u l' hl' ⟨hk, hd⟩
    simp only [patch, List.map_cons, List.map_nil, List.set_cons_zero, List.set_cons_succ] at hl'
    subst hl'
    have hv := pnV_lt s.data.toList k hd
    have hp : 10 ^ k ≤ 10 ^ 9 := Nat.pow_le_pow_right (by decide) (by omega)
    have hv2 : pnV s.data.toList k < 1000000000 := Nat.lt_of_lt_of_le hv hp
    have h48 : (UInt8.ofNat (48 : Int).toNat) = 48 := rfl
    have hsb : k < s.size → isDg (s.data.toList.getD k 0) → ((s.data.toList.getD k 0 - UInt8.ofNat (48 : Int).toNat).toNat : Int) = (s.data.toList.getD k 0).toNat - 48 := fun _ h => u8_sub ⟨by decide, by unfold isDg at h; omega⟩
    have hc256 : (s.data.toList.getD k 0 - UInt8.ofNat (48 : Int).toNat).toNat < 256 := UInt8.toNat_lt _
    repeat' (first | refine red ?_ | refine redf fun hbi => ?_ | refine reds ?_ | (refine redc fun r => ?_; try have hr := Subtype.property r) | refine redp (fun r => ?_) (fun r => ?_) | refine redv fun sv => ?_ | refine redn fun b => ?_ | refine redz fun zs => ?_ | refine redq (fun hc => ?_) (fun hc => ?_) | with_reducible refine wq_blk_o rfl ?_ | (refine redi (fun hc => ?_) (fun hc => ?_) <;> try first | (exfalso; omega) | with_reducible first | exact absurd rfl hc | exact absurd hc Bool.false_ne_true | exact absurd hc Bool.false_ne_true.symm) | fail)
    · have hn : ¬ PnP s.data.toList := fun h => by have := h.2 k (by omega); unfold isDg at this; omega
      exact ⟨(), by rw [pNum, if_neg hn, decide_eq_false hn], ent_e⟩
    · have hn : ¬ PnP s.data.toList := fun h => by have := h.2 k (by omega); unfold isDg at this; omega
      exact ⟨(), by rw [pNum, if_neg hn, decide_eq_false hn], ent_e⟩
    · have hdk : isDg (s.data.toList.getD k 0) := by unfold isDg; omega
      have hsk := hsb (by omega) hdk
      have hpk : ((pnV s.data.toList k : Int) * 10 + ((s.data.toList.getD k 0 - UInt8.ofNat (48 : Int).toNat).toNat : Int)) = ((pnV s.data.toList (k + 1) : Nat) : Int) := by
        rw [hsk]
        show _ = ((10 * pnV s.data.toList k + ((s.data.toList.getD k 0).toNat - 48) : Nat) : Int)
        omega
      rw [hpk]
      exact wq_next (k + 1) ⟨by omega, fun i hi => by
        by_cases he : i = k
        · rw [he]; exact hdk
        · exact hd i (by omega)⟩ (by omega) (by kernel_rfl) ent_e
    · have hy : PnP s.data.toList := ⟨hgd, by rw [hll, show s.size = k by omega]; exact hd⟩
      exact ⟨(), by rw [pNum, if_pos hy, decide_eq_true hy, hll, show s.size = k by omega], ent_e⟩
instance l1Read_ctr {Γ : List Atom} {s : ByteArray} :
    CtrC Tryz.prog 69 [.string s] Γ (True) (Unit) (fun _ : Unit => .tuple #[.int .i64 (pNum s.data.toList), .bool (decide (PnP s.data.toList))]) (fun _ => Γ) := ⟨fun s w0 => l1Read_spec⟩

/-! ### Numbers with a sign -/
section w64
variable {P : Program} {w0 : World} {l : List Value} {Γ : List Atom} {ty : TypeId} {T U : TypeId} {x y : Operand} {a b : Int}
theorem pu_sub_w [hx : Ev l x (.int .i64 a)] [hy : Ev l y (.int .i64 b)] : Pu P w0 l Γ (.binOp .sub T x y U) ty (.int .i64 (wr (a - b))) :=
  pu_bin eqGuard_int (fun w => by simp only [binOp, Op.intArith, ne_eq, not_true_eq_false, if_false]; unfold wr; rfl)
theorem subW [hx : Ev l x (.int .i64 a)] [hy : Ev l y (.int .i64 b)] : PuS P l Γ (.binOp .sub T x y U) ty (.int .i64 (wr (a - b))) True := ⟨fun _ _ => pu_sub_w⟩
theorem pu_neg_w [h : Ev l x (.int .i64 a)] : Pu P w0 l Γ (.unOp .neg T x) ty (.int .i64 (wr (-a))) :=
  pu_of (s := Op.unary .neg (.int .i64 a)) (fun o ho _ => by unfold execOp; rw [ho]; simp only [h.eq]) (fun w _ => by
    unfold wr
    simp only [Op.unary, Op.intArith, ne_eq, not_true_eq_false, if_false]
    rw [Int.zero_sub]; rfl)
theorem negW [h : Ev l x (.int .i64 a)] : PuS P l Γ (.unOp .neg T x) ty (.int .i64 (wr (-a))) True := ⟨fun _ _ => pu_neg_w⟩
end w64
theorem wr_range (n : Int) : In6 (wr n) := by
  unfold wr In6
  exact ⟨by unfold IntKind.wrap; simp [IntKind.bits, IntKind.signed]; omega, by unfold IntKind.wrap; simp [IntKind.bits, IntKind.signed]; omega⟩
/-- The digits, as the reference adds them up. -/
def fR : List UInt8 → Int → Int
  | [], n => n
  | c :: r, n => fR r (wr (wr (n * 10) - ((c.toNat : Int) - 48)))
theorem fR_snoc : ∀ (l : List UInt8) (c : UInt8) (n : Int), fR (l ++ [c]) n = wr (wr (fR l n * 10) - ((c.toNat : Int) - 48))
  | [], c, n => rfl
  | d :: l, c, n => fR_snoc l c _
theorem fR_dec : ∀ u : Nat, u ≤ 9223372036854775808 → fR (Lib.decDigits u) 0 = -(u : Int) := by
  intro u
  induction u using Nat.strongRecOn with
  | _ u ih =>
    intro hu
    rw [Lib.decDigits]
    split
    · rename_i h
      have h1 : (UInt8.ofNat (48 + u)).toNat = 48 + u := by rw [UInt8.toNat_ofNat']; omega
      show wr (wr (0 * 10) - (((UInt8.ofNat (48 + u)).toNat : Int) - 48)) = _
      rw [h1, wr_in (n := 0 * 10) (by omega), wr_in (by omega)]
      omega
    · rename_i h
      have h1 : (UInt8.ofNat (48 + u % 10)).toNat = 48 + u % 10 := by rw [UInt8.toNat_ofNat']; omega
      rw [fR_snoc, ih (u / 10) (by omega) (by omega), h1, wr_in (n := -((u / 10 : Nat) : Int) * 10) (by omega), wr_in (by omega)]
      omega
theorem dec_len (u : Nat) : 1 ≤ (Lib.decDigits u).length ∧ (u < 10000000000000000000 → (Lib.decDigits u).length ≤ 19) := by
  have key : ∀ (k u : Nat), u < 10 ^ (k + 1) → (Lib.decDigits u).length ≤ k + 1 := fun k => by
    induction k with
    | zero => intro u hu; rw [Lib.decDigits, dif_pos (by simpa using hu)]; simp
    | succ k ih =>
      intro u hu
      rw [Lib.decDigits]
      split
      · simp
      · rw [List.length_append, List.length_singleton]
        have := ih (u / 10) (by rw [Nat.pow_succ] at hu; omega)
        omega
  refine ⟨?_, fun h => key 18 u (by simpa using h)⟩
  obtain ⟨d, r, h, _⟩ := dec_head u
  rw [h]; simp
theorem dec_dg (u : Nat) : ∀ c ∈ Lib.decDigits u, isDg c := by
  induction u using Nat.strongRecOn with
  | _ u ih =>
    rw [Lib.decDigits]
    split
    · rename_i h
      intro c hc
      rw [List.mem_singleton] at hc
      rw [hc]; unfold isDg; rw [UInt8.toNat_ofNat']; omega
    · intro c hc
      rcases List.mem_append.1 hc with hc | hc
      · exact ih (u / 10) (by omega) c hc
      · rw [List.mem_singleton] at hc
        rw [hc]; unfold isDg; rw [UInt8.toNat_ofNat']; omega
theorem dec_lead (u : Nat) (hu : 1 ≤ u) : ∃ d r, Lib.decDigits u = d :: r ∧ 49 ≤ d.toNat ∧ d.toNat ≤ 57 := by
  induction u using Nat.strongRecOn with
  | _ u ih =>
    rw [Lib.decDigits]
    split
    · rename_i h
      exact ⟨_, [], rfl, by rw [UInt8.toNat_ofNat']; omega, by rw [UInt8.toNat_ofNat']; omega⟩
    · obtain ⟨d, r, h1, h2⟩ := ih (u / 10) (by omega) (by omega)
      exact ⟨d, r ++ [UInt8.ofNat (48 + u % 10)], by rw [h1]; rfl, h2⟩
/-- Where the digits begin. -/
def sgN (l : List UInt8) : Nat := if 0 < l.length ∧ (l.getD 0 0).toNat = 45 then 1 else 0
/-- What a text of a number is like. -/
theorem okI_shape {l : List UInt8} (h : okI l) : 1 ≤ l.length - sgN l ∧ sgN l ≤ l.length ∧ l.length - sgN l ≤ 19 ∧ ¬ ((l.getD (sgN l) 0).toNat = 48 ∧ 1 < l.length) ∧ (∀ i, sgN l ≤ i → i < l.length → isDg (l.getD i 0)) ∧ valI l = wr (if sgN l = 0 then wr (-(fR (l.drop (sgN l)) 0)) else fR (l.drop (sgN l)) 0) := by
  obtain ⟨n, hn, rfl⟩ := h
  rw [valI_itoa hn]
  unfold In6 at hn
  unfold Lib.itoa
  split
  · rename_i h0
    have hs : sgN (45 :: Lib.decDigits n.natAbs) = 1 := by unfold sgN; rw [if_pos ⟨by simp, by rfl⟩]
    obtain ⟨d, r, h1, h2, h3⟩ := dec_lead n.natAbs (by omega)
    have hl := dec_len n.natAbs
    rw [hs]
    simp only [List.length_cons, List.drop_succ_cons, List.drop_zero]
    refine ⟨by omega, by omega, by have := hl.2 (by omega); omega, ?_, fun i hi hi2 => ?_, ?_⟩
    · rw [h1]; show ¬ (d.toNat = 48 ∧ _); omega
    · obtain ⟨j, rfl⟩ : ∃ j, i = j + 1 := ⟨i - 1, by omega⟩
      have hj : j < (Lib.decDigits n.natAbs).length := by omega
      rw [List.getD_cons_succ, List.getD_eq_getElem?_getD, List.getElem?_eq_getElem hj]
      exact dec_dg _ _ (List.getElem_mem hj)
    · rw [if_neg (by decide), fR_dec _ (by omega), wr_in (by omega)]
      omega
  · rename_i h0
    obtain ⟨d, r, h1, h2, h3⟩ := dec_head n.toNat
    have hs : sgN (Lib.decDigits n.toNat) = 0 := by
      unfold sgN
      rw [h1, if_neg]
      rintro ⟨_, h⟩
      have : d.toNat = 45 := h
      omega
    have hl := dec_len n.toNat
    rw [hs]
    simp only [Nat.sub_zero, List.drop_zero]
    refine ⟨by omega, by omega, by have := hl.2 (by omega); omega, ?_, fun i hi hi2 => ?_, ?_⟩
    · by_cases hz : n.toNat = 0
      · rw [hz]
        have : Lib.decDigits 0 = [48] := by rw [Lib.decDigits]; rfl
        rw [this]
        simp
      · obtain ⟨d', r', h4, h5, h6⟩ := dec_lead n.toNat (by omega)
        rw [h4]
        show ¬ (d'.toNat = 48 ∧ _)
        omega
    · rw [List.getD_eq_getElem?_getD, List.getElem?_eq_getElem hi2]
      exact dec_dg _ _ (List.getElem_mem hi2)
    · rw [fR_dec _ (by omega)]
      simp only [if_true]
      rw [wr_in (n := - -((n.toNat : Nat) : Int)) (by omega), wr_in (by omega)]
      omega
section w
attribute [local instance 2000] Go.Eng.mulW subW negW
theorem fR_range : ∀ (l : List UInt8) {n : Int}, In6 n → In6 (fR l n)
  | [], n, h => h
  | c :: l, n, h => fR_range l (wr_range _)
theorem fR_next {l : List UInt8} {i k : Nat} (hik : i ≤ k) (hk : k < l.length) : fR ((l.drop i).take (k + 1 - i)) 0 = wr (wr (fR ((l.drop i).take (k - i)) 0 * 10) - (((l.getD k 0).toNat : Int) - 48)) := by
  rw [← fR_snoc]
  congr 1
  rw [show k + 1 - i = (k - i) + 1 by omega, List.take_succ_eq_append_getElem (by rw [List.length_drop]; omega)]
  congr 2
  rw [List.getElem_drop, List.getD_eq_getElem?_getD, List.getElem?_eq_getElem hk, Option.getD_some]
  congr 1
  omega
theorem okI_fin {s : ByteArray} {m : Int} (hm : In6 m) (h : okI s.data.toList → valI s.data.toList = m) : decide (okI s.data.toList) = decide (S (Lib.itoa m) = s) := by
  congr 1
  rw [eq_iff_iff]
  constructor
  · intro h1
    have h2 := (okI_val h1).2
    rw [h h1] at h2
    apply ByteArray.ext
    apply Array.ext'
    exact h2
  · intro h1
    exact ⟨m, hm, congrArg (fun b : ByteArray => b.data.toList) h1⟩
theorem read_fin1 {l : List UInt8} (h : sgN l = 1) (hr : In6 (fR (l.drop 1) 0)) (hk : okI l) : valI l = fR (l.drop 1) 0 := by
  have := (okI_shape hk).2.2.2.2.2
  rw [h, if_neg (by decide), wr_in hr] at this
  exact this
theorem read_fin0 {l : List UInt8} (h : sgN l = 0) (hk : okI l) : valI l = wr (-(fR (l.drop 0) 0)) := by
  have := (okI_shape hk).2.2.2.2.2
  rw [h, if_pos rfl, wr_in (n := wr (-(fR (l.drop 0) 0))) (wr_range _)] at this
  exact this
theorem l32Read_spec {w0 : World} {Γ : List Atom} {s : ByteArray} (hs : s.size ≤ 1000000) :
    CJ Tryz.prog 32 [.string s] w0 Γ (fun q : { q : Int // (-9223372036854775808 ≤ q ∧ q ≤ 9223372036854775807) ∧ (okI s.data.toList → q = valI s.data.toList) } => .tuple #[.int .i64 q.1, .bool (decide (okI s.data.toList))]) (fun _ => Γ) := by
  have hll : s.data.toList.length = s.size := Array.length_toList
  have hw1 : wr ((s.size : Int) - 1) = s.size - 1 := wr_in (by omega)
  have hw0 : wr ((s.size : Int) - 0) = s.size := (wr_in (by omega)).trans (by omega)
  have hcase : (0 < s.size ∧ (s.data.toList.getD 0 0).toNat = 45 ∧ sgN s.data.toList = 1) ∨ (¬ (0 < s.size ∧ (s.data.toList.getD 0 0).toNat = 45) ∧ sgN s.data.toList = 0) := by
    unfold sgN
    rw [hll]
    by_cases h : 0 < s.size ∧ (s.data.toList.getD 0 0).toNat = 45
    · exact .inl ⟨h.1, h.2, if_pos h⟩
    · exact .inr ⟨h, if_neg h⟩
  refine cj_enter Tryz.func32 Tryz.ntmps32 ?_
  repeat' (first | refine red ?_ | refine redf fun hbi => ?_ | refine reds ?_ | (refine redc fun r => ?_; try have hr := Subtype.property r) | refine redp (fun r => ?_) (fun r => ?_) | refine redv fun sv => ?_ | refine redn fun b => ?_ | refine redz fun zs => ?_ | refine redq (fun hc => ?_) (fun hc => ?_) | with_reducible refine wq_blk_o rfl ?_ | (refine redi (fun hc => ?_) (fun hc => ?_) <;> try first | (exfalso; omega) | with_reducible first | exact absurd rfl hc | exact absurd hc Bool.false_ne_true | exact absurd hc Bool.false_ne_true.symm) | fail)
  all_goals first
    | (have hn : ¬ okI s.data.toList := fun h => by
         obtain ⟨a1, a2, a3, a4, _⟩ := okI_shape h
         rcases hcase with ⟨b1, b2, b3⟩ | ⟨b1, b3⟩
         · rw [b3] at a1 a2 a3 a4; omega
         · rw [b3] at a1 a2 a3 a4; omega
       exact ⟨⟨0, by decide, fun h => absurd h hn⟩, by rw [decide_eq_false hn], ent_e⟩)
    | skip
  · refine wc_loop_c [5, 6] [39, 40, 41, 42, 45, 46, 47, 48, 49, 50, 51, 52, 53, 54, 2, 3, 55, 56, 57, 58, 59, 60, 61, 62, 43, 44] (ι := Nat) (fun k => [.int .i64 (fR ((s.data.toList.drop 1).take (k - 1)) 0), .int .i64 k]) (fun k => 1 ≤ k ∧ k ≤ s.size ∧ ∀ j, 1 ≤ j → j < k → isDg (s.data.toList.getD j 0)) (fun k => s.size - k) 1 (by kernel_rfl) ⟨Nat.le_refl _, by omega, fun j h1 h2 => by omega⟩ ?_
    intro k u l' hl' ⟨hk1, hk2, hk3⟩
    simp only [patch, List.map_cons, List.map_nil, List.set_cons_zero, List.set_cons_succ] at hl'
    subst hl'
    have hfr := fR_range ((s.data.toList.drop 1).take (k - 1)) (n := 0) (by decide)
    have hwr := wr_range (-(fR ((s.data.toList.drop 1).take (k - 1)) 0))
    unfold In6 at hfr hwr
    have hsb : k < s.size → isDg (s.data.toList.getD k 0) → ((s.data.toList.getD k 0 - UInt8.ofNat (48 : Int).toNat).toNat : Int) = (s.data.toList.getD k 0).toNat - 48 := fun _ h => u8_sub ⟨by decide, by unfold isDg at h; omega⟩
    have hc256 : (s.data.toList.getD k 0 - UInt8.ofNat (48 : Int).toNat).toNat < 256 := UInt8.toNat_lt _
    repeat' (first | refine red ?_ | refine redf fun hbi => ?_ | refine reds ?_ | (refine redc fun r => ?_; try have hr := Subtype.property r) | refine redp (fun r => ?_) (fun r => ?_) | refine redv fun sv => ?_ | refine redn fun b => ?_ | refine redz fun zs => ?_ | refine redq (fun hc => ?_) (fun hc => ?_) | with_reducible refine wq_blk_o rfl ?_ | (refine redi (fun hc => ?_) (fun hc => ?_) <;> try first | (exfalso; omega) | with_reducible first | exact absurd rfl hc | exact absurd hc Bool.false_ne_true | exact absurd hc Bool.false_ne_true.symm) | fail)
    · have hn : ¬ okI s.data.toList := fun h => by
        have h5 := (okI_shape h).2.2.2.2.1 k (by omega) (by omega)
        unfold isDg at h5; omega
      exact ⟨⟨0, by decide, fun h => absurd h hn⟩, by rw [decide_eq_false hn], ent_e⟩
    · have hn : ¬ okI s.data.toList := fun h => by
        have h5 := (okI_shape h).2.2.2.2.1 k (by omega) (by omega)
        unfold isDg at h5; omega
      exact ⟨⟨0, by decide, fun h => absurd h hn⟩, by rw [decide_eq_false hn], ent_e⟩
    · have hdk : isDg (s.data.toList.getD k 0) := by unfold isDg; omega
      rw [hsb (by omega) hdk, ← fR_next hk1 (by omega)]
      exact wq_next (k + 1) ⟨by omega, by omega, fun j h1 h2 => by
        by_cases he : j = k
        · rw [he]; exact hdk
        · exact hk3 j h1 (by omega)⟩ (by omega) (by kernel_rfl) ent_e
    · have hks : k = s.size := by omega
      have hfull : (s.data.toList.drop 1).take (k - 1) = s.data.toList.drop 1 := List.take_of_length_le (by rw [List.length_drop]; omega)
      rw [hfull] at hfr hwr ⊢
      have hsgn : sgN s.data.toList = 1 := by rcases hcase with ⟨b1, b2, b3⟩ | ⟨b1, b3⟩ <;> omega
      first
      | exact ⟨⟨_, hfr, fun h => (read_fin1 hsgn hfr h).symm⟩, by rw [okI_fin hfr (read_fin1 hsgn hfr)], ent_e⟩
      | exact ⟨⟨_, hwr, fun h => (read_fin0 hsgn h).symm⟩, by rw [okI_fin hwr (read_fin0 hsgn)], ent_e⟩
  · refine wc_loop_c [5, 6] [39, 40, 41, 42, 45, 46, 47, 48, 49, 50, 51, 52, 53, 54, 2, 3, 55, 56, 57, 58, 59, 60, 61, 62, 43, 44] (ι := Nat) (fun k => [.int .i64 (fR ((s.data.toList.drop 0).take (k - 0)) 0), .int .i64 k]) (fun k => 0 ≤ k ∧ k ≤ s.size ∧ ∀ j, 0 ≤ j → j < k → isDg (s.data.toList.getD j 0)) (fun k => s.size - k) 0 (by kernel_rfl) ⟨Nat.le_refl _, by omega, fun j h1 h2 => by omega⟩ ?_
    intro k u l' hl' ⟨hk1, hk2, hk3⟩
    simp only [patch, List.map_cons, List.map_nil, List.set_cons_zero, List.set_cons_succ] at hl'
    subst hl'
    have hfr := fR_range ((s.data.toList.drop 0).take (k - 0)) (n := 0) (by decide)
    have hwr := wr_range (-(fR ((s.data.toList.drop 0).take (k - 0)) 0))
    unfold In6 at hfr hwr
    have hsb : k < s.size → isDg (s.data.toList.getD k 0) → ((s.data.toList.getD k 0 - UInt8.ofNat (48 : Int).toNat).toNat : Int) = (s.data.toList.getD k 0).toNat - 48 := fun _ h => u8_sub ⟨by decide, by unfold isDg at h; omega⟩
    have hc256 : (s.data.toList.getD k 0 - UInt8.ofNat (48 : Int).toNat).toNat < 256 := UInt8.toNat_lt _
    repeat' (first | refine red ?_ | refine redf fun hbi => ?_ | refine reds ?_ | (refine redc fun r => ?_; try have hr := Subtype.property r) | refine redp (fun r => ?_) (fun r => ?_) | refine redv fun sv => ?_ | refine redn fun b => ?_ | refine redz fun zs => ?_ | refine redq (fun hc => ?_) (fun hc => ?_) | with_reducible refine wq_blk_o rfl ?_ | (refine redi (fun hc => ?_) (fun hc => ?_) <;> try first | (exfalso; omega) | with_reducible first | exact absurd rfl hc | exact absurd hc Bool.false_ne_true | exact absurd hc Bool.false_ne_true.symm) | fail)
    · have hn : ¬ okI s.data.toList := fun h => by
        have h5 := (okI_shape h).2.2.2.2.1 k (by omega) (by omega)
        unfold isDg at h5; omega
      exact ⟨⟨0, by decide, fun h => absurd h hn⟩, by rw [decide_eq_false hn], ent_e⟩
    · have hn : ¬ okI s.data.toList := fun h => by
        have h5 := (okI_shape h).2.2.2.2.1 k (by omega) (by omega)
        unfold isDg at h5; omega
      exact ⟨⟨0, by decide, fun h => absurd h hn⟩, by rw [decide_eq_false hn], ent_e⟩
    · have hdk : isDg (s.data.toList.getD k 0) := by unfold isDg; omega
      rw [hsb (by omega) hdk, ← fR_next hk1 (by omega)]
      exact wq_next (k + 1) ⟨by omega, by omega, fun j h1 h2 => by
        by_cases he : j = k
        · rw [he]; exact hdk
        · exact hk3 j h1 (by omega)⟩ (by omega) (by kernel_rfl) ent_e
    · have hks : k = s.size := by omega
      have hfull : (s.data.toList.drop 0).take (k - 0) = s.data.toList.drop 0 := List.take_of_length_le (by rw [List.length_drop]; omega)
      rw [hfull] at hfr hwr ⊢
      have hsgn : sgN s.data.toList = 0 := by rcases hcase with ⟨b1, b2, b3⟩ | ⟨b1, b3⟩ <;> omega
      first
      | exact ⟨⟨_, hfr, fun h => (read_fin1 hsgn hfr h).symm⟩, by rw [okI_fin hfr (read_fin1 hsgn hfr)], ent_e⟩
      | exact ⟨⟨_, hwr, fun h => (read_fin0 hsgn h).symm⟩, by rw [okI_fin hwr (read_fin0 hsgn)], ent_e⟩
  · refine wc_loop_c [5, 6] [39, 40, 41, 42, 45, 46, 47, 48, 49, 50, 51, 52, 53, 54, 2, 3, 55, 56, 57, 58, 59, 60, 61, 62, 43, 44] (ι := Nat) (fun k => [.int .i64 (fR ((s.data.toList.drop 0).take (k - 0)) 0), .int .i64 k]) (fun k => 0 ≤ k ∧ k ≤ s.size ∧ ∀ j, 0 ≤ j → j < k → isDg (s.data.toList.getD j 0)) (fun k => s.size - k) 0 (by kernel_rfl) ⟨Nat.le_refl _, by omega, fun j h1 h2 => by omega⟩ ?_
    intro k u l' hl' ⟨hk1, hk2, hk3⟩
    simp only [patch, List.map_cons, List.map_nil, List.set_cons_zero, List.set_cons_succ] at hl'
    subst hl'
    have hfr := fR_range ((s.data.toList.drop 0).take (k - 0)) (n := 0) (by decide)
    have hwr := wr_range (-(fR ((s.data.toList.drop 0).take (k - 0)) 0))
    unfold In6 at hfr hwr
    have hsb : k < s.size → isDg (s.data.toList.getD k 0) → ((s.data.toList.getD k 0 - UInt8.ofNat (48 : Int).toNat).toNat : Int) = (s.data.toList.getD k 0).toNat - 48 := fun _ h => u8_sub ⟨by decide, by unfold isDg at h; omega⟩
    have hc256 : (s.data.toList.getD k 0 - UInt8.ofNat (48 : Int).toNat).toNat < 256 := UInt8.toNat_lt _
    repeat' (first | refine red ?_ | refine redf fun hbi => ?_ | refine reds ?_ | (refine redc fun r => ?_; try have hr := Subtype.property r) | refine redp (fun r => ?_) (fun r => ?_) | refine redv fun sv => ?_ | refine redn fun b => ?_ | refine redz fun zs => ?_ | refine redq (fun hc => ?_) (fun hc => ?_) | with_reducible refine wq_blk_o rfl ?_ | (refine redi (fun hc => ?_) (fun hc => ?_) <;> try first | (exfalso; omega) | with_reducible first | exact absurd rfl hc | exact absurd hc Bool.false_ne_true | exact absurd hc Bool.false_ne_true.symm) | fail)
    · have hn : ¬ okI s.data.toList := fun h => by
        have h5 := (okI_shape h).2.2.2.2.1 k (by omega) (by omega)
        unfold isDg at h5; omega
      exact ⟨⟨0, by decide, fun h => absurd h hn⟩, by rw [decide_eq_false hn], ent_e⟩
    · have hn : ¬ okI s.data.toList := fun h => by
        have h5 := (okI_shape h).2.2.2.2.1 k (by omega) (by omega)
        unfold isDg at h5; omega
      exact ⟨⟨0, by decide, fun h => absurd h hn⟩, by rw [decide_eq_false hn], ent_e⟩
    · have hdk : isDg (s.data.toList.getD k 0) := by unfold isDg; omega
      rw [hsb (by omega) hdk, ← fR_next hk1 (by omega)]
      exact wq_next (k + 1) ⟨by omega, by omega, fun j h1 h2 => by
        by_cases he : j = k
        · rw [he]; exact hdk
        · exact hk3 j h1 (by omega)⟩ (by omega) (by kernel_rfl) ent_e
    · have hks : k = s.size := by omega
      have hfull : (s.data.toList.drop 0).take (k - 0) = s.data.toList.drop 0 := List.take_of_length_le (by rw [List.length_drop]; omega)
      rw [hfull] at hfr hwr ⊢
      have hsgn : sgN s.data.toList = 0 := by rcases hcase with ⟨b1, b2, b3⟩ | ⟨b1, b3⟩ <;> omega
      first
      | exact ⟨⟨_, hfr, fun h => (read_fin1 hsgn hfr h).symm⟩, by rw [okI_fin hfr (read_fin1 hsgn hfr)], ent_e⟩
      | exact ⟨⟨_, hwr, fun h => (read_fin0 hsgn h).symm⟩, by rw [okI_fin hwr (read_fin0 hsgn)], ent_e⟩
instance l32Read_ctr {Γ : List Atom} {s : ByteArray} :
    CtrC Tryz.prog 32 [.string s] Γ (s.size ≤ 1000000) ({ q : Int // (-9223372036854775808 ≤ q ∧ q ≤ 9223372036854775807) ∧ (okI s.data.toList → q = valI s.data.toList) }) (fun q : { q : Int // (-9223372036854775808 ≤ q ∧ q ≤ 9223372036854775807) ∧ (okI s.data.toList → q = valI s.data.toList) } => .tuple #[.int .i64 q.1, .bool (decide (okI s.data.toList))]) (fun _ => Γ) := ⟨fun s w0 => l32Read_spec s⟩

end w
end Go.Proofs.YtogmjihokkdcfaaGreatDoor
namespace Go.Proofs.YtogmjihokkdcfaaGreatDoor
open Go Go.Eng
set_option linter.unusedVariables false
set_option linter.unusedSimpArgs false
set_option synthInstance.maxHeartbeats 400000
set_option synthInstance.maxSize 1000
set_option maxHeartbeats 2000000
set_option maxRecDepth 20000


theorem consH_len {b : UInt8} {n : Nat} : ∀ {ws : List (List UInt8)}, (∀ w ∈ ws, w.length ≤ n) → ∀ w ∈ consH b ws, w.length ≤ n + 1
  | [], _, w, hw => by
    rw [show consH b [] = [[b]] from rfl, List.mem_singleton] at hw
    rw [hw]; simp
  | x :: t, h, w, hw => by
    rcases List.mem_cons.1 hw with rfl | hw
    · have := h x List.mem_cons_self
      simp only [List.length_cons]; omega
    · have := h w (List.mem_cons_of_mem _ hw); omega
theorem spB_len (c : UInt8) : ∀ l : List UInt8, (spB c l).length ≤ l.length + 1 ∧ ∀ w ∈ spB c l, w.length ≤ l.length
  | [] => by simp [spB]
  | b :: l => by
    obtain ⟨h1, h2⟩ := spB_len c l
    unfold spB
    split
    · refine ⟨by simp only [List.length_cons]; omega, fun w hw => ?_⟩
      rcases List.mem_cons.1 hw with rfl | hw
      · simp
      · have := h2 w hw; simp only [List.length_cons]; omega
    · refine ⟨?_, fun w hw => by have := consH_len h2 w hw; simp only [List.length_cons]; omega⟩
      have : (consH b (spB c l)).length ≤ (spB c l).length + 1 := by cases spB c l <;> simp [consH]
      have h3 : (consH b (spB c l)).length = (spB c l).length := by
        cases h : spB c l with
        | nil => exact absurd h (spB_ne c l)
        | cons x t => rfl
      simp only [List.length_cons]; omega
theorem mapS_get {ws : List (List UInt8)} {i : Nat} (h : i < ws.length) : (ws.map S).getD i ByteArray.empty = S (ws.getD i []) := by
  rw [List.getD_eq_getElem?_getD, List.getElem?_map, List.getElem?_eq_getElem h, List.getD_eq_getElem?_getD, List.getElem?_eq_getElem h]
  rfl
theorem getD_memB {ws : List (List UInt8)} {i : Nat} (h : i < ws.length) : ws.getD i [] ∈ ws := by
  rw [List.getD_eq_getElem?_getD, List.getElem?_eq_getElem h]
  exact List.getElem_mem h
noncomputable def decQ (p : Prop) : Bool := @decide p (Classical.propDecidable p)
theorem decQ_t {p : Prop} (h : p) : decQ p = true := by unfold decQ; exact @decide_eq_true p (Classical.propDecidable p) h
theorem decQ_f {p : Prop} (h : ¬ p) : decQ p = false := by unfold decQ; exact @decide_eq_false p (Classical.propDecidable p) h
theorem decQ_iff {p : Prop} : decQ p = true ↔ p := by unfold decQ; exact @decide_eq_true_iff p (Classical.propDecidable p)
/-! ### Lists of numbers -/
def AllW (p : List UInt8 → Prop) (ws : List (List UInt8)) (k : Nat) : Prop := ∀ j, j < k → p (ws.getD j [])
theorem allW_next {p : List UInt8 → Prop} {ws : List (List UInt8)} {k : Nat} (h : AllW p ws k) (hk : p (ws.getD k [])) : AllW p ws (k + 1) := fun j hj => by
  by_cases he : j = k
  · rw [he]; exact hk
  · exact h j (by omega)
noncomputable def rdL (s : ByteArray) : Option (List Int) := if s = { data := #[45] } then some [] else if decQ (AllW okI (spB 44 s.data.toList) (spB 44 s.data.toList).length) = true then some ((spB 44 s.data.toList).map valI) else none
theorem rdL_no {s : ByteArray} {k : Nat} (h : s ≠ { data := #[45] }) (hk : k < (spB 44 s.data.toList).length) (h2 : ¬ okI ((spB 44 s.data.toList).getD k [])) : rdL s = none := by
  unfold rdL
  rw [if_neg h, if_neg]
  rw [decQ_f (fun h3 => h2 (h3 k hk))]
  decide
theorem rdL_yes {s : ByteArray} (h : s ≠ { data := #[45] }) (h2 : AllW okI (spB 44 s.data.toList) (spB 44 s.data.toList).length) : rdL s = some ((spB 44 s.data.toList).map valI) := by
  unfold rdL
  rw [if_neg h, if_pos (decQ_t h2)]
theorem l32ReadList_spec {w0 : World} {Γ : List Atom} {s : ByteArray} (hs : s.size ≤ 1000000) :
    CJ Tryz.prog 15 [.string s] w0 Γ (fun q : Value => .tuple #[q, .bool (rdL s).isSome]) (fun q => .ow [q] ((rdL s).getD []) :: Γ) := by
  have hll : s.data.toList.length = s.size := Array.length_toList
  obtain ⟨hwl1, hwl2⟩ := spB_len 44 s.data.toList
  have hc44 : UInt8.ofNat (Int.toNat 44) = 44 := rfl
  refine cj_enter Tryz.func15 Tryz.ntmps15 ?_
  repeat' (first | refine red ?_ | refine redf fun hbi => ?_ | refine reds ?_ | (refine redc fun r => ?_; try have hr := Subtype.property r) | refine redp (fun r => ?_) (fun r => ?_) | refine redv fun sv => ?_ | refine redn fun b => ?_ | refine redz fun zs => ?_ | refine redq (fun hc => ?_) (fun hc => ?_) | with_reducible refine wq_blk_o rfl ?_ | (refine redd fun p cs as_ hcs has hf => ?_; simp only [Un.cells, Un.atoms, Un.fact, List.cons_append, List.nil_append] at hcs has hf; subst hcs has) | (refine redi (fun hc => ?_) (fun hc => ?_) <;> try first | (exfalso; omega) | with_reducible first | exact absurd rfl hc | exact absurd hc Bool.false_ne_true | exact absurd hc Bool.false_ne_true.symm) | fail)
  · rw [show rdL s = some [] from if_pos hc]
    simp only [Option.getD_some, Option.isSome_some]
    exact ⟨_, rfl, ent_e⟩
  rw [hc44]
  generalize hwse : spB 44 s.data.toList = ws at *
  have hml : (ws.map S).length = ws.length := List.length_map _
  refine wc_loop_p [4, 6] [15, 16, 17, 18, 22, 23, 24, 25, 26, 21, 27, 28, 7, 8, 29, 30, 31, 2, 3, 32, 33, 34, 35, 19, 20] (ι := Value × Nat) (fun k => [k.1, .int .i64 k.2]) (fun k => [.ow [k.1] ((ws.take k.2).map valI)]) (fun k => k.2 ≤ ws.length ∧ AllW okI ws k.2) (fun k => ws.length - k.2) (sv, 0) [.ow [sv] ([] : List Int)] (by kernel_rfl) ⟨Nat.zero_le _, fun j hj => by omega⟩ rfl ?_
  intro ⟨ov, i⟩ u l' hl' ⟨hi, hall⟩
  simp only [patch, List.map_cons, List.map_nil, List.set_cons_zero, List.set_cons_succ] at hl'
  subst hl'
  simp only [List.cons_append, List.nil_append] at hi hall ⊢
  have hol : ((ws.take i).map valI).length = i := by rw [List.length_map, List.length_take]; omega
  have hsz : i < ws.length → ((ws.map S).getD (i : Int).toNat ByteArray.empty).size ≤ 1000000 := fun h => by
    rw [Int.toNat_natCast, mapS_get h, S_size]
    have := hwl2 _ (getD_memB h)
    omega
  repeat' (first | refine red ?_ | refine redf fun hbi => ?_ | refine reds ?_ | (refine redc fun r => ?_; try have hr := Subtype.property r) | refine redp (fun r => ?_) (fun r => ?_) | refine redv fun sv => ?_ | refine redn fun b => ?_ | refine redz fun zs => ?_ | refine redq (fun hc => ?_) (fun hc => ?_) | with_reducible refine wq_blk_o rfl ?_ | (refine redd fun p cs as_ hcs has hf => ?_; simp only [Un.cells, Un.atoms, Un.fact, List.cons_append, List.nil_append] at hcs has hf; subst hcs has) | (refine redi (fun hc => ?_) (fun hc => ?_) <;> try first | (exfalso; omega) | with_reducible first | exact absurd rfl hc | exact absurd hc Bool.false_ne_true | exact absurd hc Bool.false_ne_true.symm) | fail)
  · have hil : i < ws.length := by omega
    rw [Int.toNat_natCast, mapS_get hil] at hc
    rw [rdL_no ‹_› (k := i) (by rw [hwse]; exact hil) (by rw [hwse]; exact hc)]
    simp only [Option.getD_none, Option.isSome_none]
    exact ⟨_, rfl, ent_e⟩
  · have hil : i < ws.length := by omega
    obtain ⟨rv, h1, h2⟩ := r
    have hrv := h2 hc
    rw [Int.toNat_natCast, mapS_get hil] at hc hrv
    simp only
    rw [hrv, show (ws.take i).map valI ++ [valI (S (ws.getD i [])).data.toList] = (ws.take (i + 1)).map valI by
      rw [List.take_succ_eq_append_getElem hil, List.map_append, List.getD_eq_getElem?_getD, List.getElem?_eq_getElem hil]; rfl]
    exact wq_next (sv, i + 1) ⟨by simp only; omega, allW_next hall hc⟩ (by simp only; omega) (by kernel_rfl) ent_e
  · rw [rdL_yes ‹_› (by rw [hwse, show ws.length = i by omega]; exact hall), hwse, show i = ws.length by omega, List.take_length]
    simp only [Option.getD_some, Option.isSome_some]
    exact ⟨_, rfl, ent_e⟩
instance l32ReadList_ctr {Γ : List Atom} {s : ByteArray} :
    CtrC Tryz.prog 15 [.string s] Γ (s.size ≤ 1000000) (Value) (fun q : Value => .tuple #[q, .bool (rdL s).isSome]) (fun q => .ow [q] ((rdL s).getD []) :: Γ) := ⟨fun s w0 => l32ReadList_spec s⟩

/-! ### Terms -/
def okTB (a : List Int) (l : List UInt8) : Bool := decide (ptB a (S l))
theorem okTB_iff {a : List Int} {l : List UInt8} : okTB a l = true ↔ okT a l := by
  unfold okTB
  rw [decide_eq_true_iff, ptB_iff]
  rfl
theorem l10Numbers_spec {w0 : World} {Γ : List Atom} {s : ByteArray} (hs : s.size ≤ 1000000) :
    CJ Tryz.prog 52 [.string s] w0 Γ (fun q : Value => .tuple #[q, .bool (ns0 s.data.toList 0 []).isSome]) (fun q => .ow [q] ((ns0 s.data.toList 0 []).getD []) :: Γ) := by
  have hll : s.data.toList.length = s.size := Array.length_toList
  refine cj_enter Tryz.func52 Tryz.ntmps52 ?_
  repeat' (first | refine red ?_ | refine redf fun hbi => ?_ | refine reds ?_ | (refine redc fun r => ?_; try have hr := Subtype.property r) | refine redp (fun r => ?_) (fun r => ?_) | refine redv fun sv => ?_ | refine redn fun b => ?_ | refine redz fun zs => ?_ | refine redq (fun hc => ?_) (fun hc => ?_) | with_reducible refine wq_blk_o rfl ?_ | (refine redi (fun hc => ?_) (fun hc => ?_) <;> try first | (exfalso; omega) | with_reducible first | exact absurd rfl hc | exact absurd hc Bool.false_ne_true | exact absurd hc Bool.false_ne_true.symm) | fail)
  refine wc_loop_p [4, 5] [11, 12, 13, 14, 15, 16, 17, 6, 18, 19, 20, 21, 22, 23, 24, 25, 26, 7, 27, 28, 29, 30, 31, 32, 33, 34, 35, 36, 37, 38, 39, 40, 41, 42, 43, 44, 46, 47, 48, 49, 50, 45, 51, 52, 8, 9, 53, 54, 55, 56, 57, 58, 59, 60, 2, 3, 61, 62, 63, 64, 65, 66, 67, 68] (ι := Nat × List Int × Value) (fun k => [k.2.2, .int .i64 k.1]) (fun k => [.ow [k.2.2] k.2.1]) (fun k => k.1 ≤ s.size ∧ k.2.1.length ≤ k.1 ∧ ns0 s.data.toList 0 [] = ns0 s.data.toList k.1 k.2.1) (fun k => s.size - k.1) (0, [], sv) [.ow [sv] ([] : List Int)] (by kernel_rfl) ⟨Nat.zero_le _, Nat.le_refl _, rfl⟩ rfl ?_
  intro ⟨i, t, tv⟩ u l' hl' ⟨hi, htl, hps⟩
  simp only [patch, List.map_cons, List.map_nil, List.set_cons_zero, List.set_cons_succ] at hl'
  subst hl'
  simp only [List.cons_append, List.nil_append] at hi htl hps ⊢
  repeat' (first | refine red ?_ | refine redf fun hbi => ?_ | refine reds ?_ | (refine redc fun r => ?_; try have hr := Subtype.property r) | refine redp (fun r => ?_) (fun r => ?_) | refine redv fun sv => ?_ | refine redn fun b => ?_ | refine redz fun zs => ?_ | refine redq (fun hc => ?_) (fun hc => ?_) | with_reducible refine wq_blk_o rfl ?_ | (refine redi (fun hc => ?_) (fun hc => ?_) <;> try first | (exfalso; omega) | with_reducible first | exact absurd rfl hc | exact absurd hc Bool.false_ne_true | exact absurd hc Bool.false_ne_true.symm) | fail)
  · exact wq_next (i + 1, t, tv) ⟨by simp only; omega, by simp only; omega, by simp only; rw [hps]; exact ns_pn (by omega) (by unfold isXf; omega)⟩ (by simp only; omega) (by kernel_rfl) ent_e
  · have hil : i < s.size := by omega
    have hxf : isXf (s.data.toList.getD i 0) := by unfold isXf; omega
    have hge : i + 1 ≤ dgE s.data.toList (i + 1) := digE_ge _ _ _
    refine wc_loop_c [5] [27, 28, 29, 30, 31, 32, 33, 34, 35, 36, 37, 38, 39, 40, 41, 42, 43, 44] (ι := Nat) (fun e => [.int .i64 e]) (fun e => i + 1 ≤ e ∧ e ≤ s.size ∧ dgE s.data.toList (i + 1) = dgE s.data.toList e) (fun e => s.size - e) (i + 1) (by kernel_rfl) ⟨Nat.le_refl _, hil, rfl⟩ ?_
    intro e u l' hl' ⟨he1, he2, hee⟩
    simp only [patch, List.map_cons, List.map_nil, List.set_cons_zero, List.set_cons_succ] at hl'
    subst hl'
    have hpl := pNum_lt (s.extract ((i : Int) + 1).toNat (e : Int).toNat).data.toList
    have hst : ¬ (e < s.size ∧ isDg (s.data.toList.getD e 0)) → dgE s.data.toList (i + 1) = e := fun h => hee.trans (digE_stop (by rw [hll]; exact h))
    have hxw : dgE s.data.toList (i + 1) = e → psW s.data.toList i = (s.extract ((i : Int) + 1).toNat (e : Int).toNat).data.toList := fun h => by
      rw [psW, h, show ((i : Int) + 1).toNat = i + 1 by omega, Int.toNat_natCast, ByteArray.data_extract, Array.toList_extract]
    repeat' (first | refine red ?_ | refine redf fun hbi => ?_ | refine reds ?_ | (refine redc fun r => ?_; try have hr := Subtype.property r) | refine redp (fun r => ?_) (fun r => ?_) | refine redv fun sv => ?_ | refine redn fun b => ?_ | refine redz fun zs => ?_ | refine redq (fun hc => ?_) (fun hc => ?_) | with_reducible refine wq_blk_o rfl ?_ | (refine redi (fun hc => ?_) (fun hc => ?_) <;> try first | (exfalso; omega) | with_reducible first | exact absurd rfl hc | exact absurd hc Bool.false_ne_true | exact absurd hc Bool.false_ne_true.symm) | fail)
    all_goals first
      | exact wq_next (e + 1) ⟨by omega, by omega, by rw [hee]; exact digE_step (by omega) ⟨by omega, by omega⟩⟩ (by omega) (by kernel_rfl) ent_e
      | skip
    all_goals
      have hend : dgE s.data.toList (i + 1) = e := hst (fun h => by unfold isDg at h; omega)
      first
      | (have ho : ¬ nsO s.data.toList i t := fun h => by
           first
           | (have h1 := h.1
              rw [hxw hend] at h1
              exact absurd h1 ‹_›)
           | (have h2 := h.2; omega)
         have hn : ns0 s.data.toList 0 [] = none := by rw [hps]; exact ns_no (by omega) hxf ho
         rw [hn]
         simp only [Option.getD_none, Option.isSome_none]
         exact ⟨_, rfl, ent_e⟩)
      | (have ho : nsO s.data.toList i t := ⟨by rw [hxw hend]; assumption, by omega⟩
         have hN : ns0 s.data.toList 0 [] = ns0 s.data.toList e (t ++ [psN s.data.toList i]) := by rw [hps, ns_sym (by omega) hxf ho, hend]
         have hNN : psN s.data.toList i = if (s.data.toList.getD i 0).toNat = 120 then -1 - pNum (s.extract ((i : Int) + 1).toNat (e : Int).toNat).data.toList else pNum (s.extract ((i : Int) + 1).toNat (e : Int).toNat).data.toList := by rw [psN, hxw hend]
         first
         | rw [if_pos (by omega)] at hNN
         | rw [if_neg (by omega)] at hNN
         rw [hNN] at hN
         exact wq_next (e, _, sv) ⟨by simp only; omega, by simp only [List.length_append, List.length_singleton]; omega, hN⟩ (by simp only; omega) (by kernel_rfl) ent_e)
  · have hil : i < s.size := by omega
    have hxf : isXf (s.data.toList.getD i 0) := by unfold isXf; omega
    have hge : i + 1 ≤ dgE s.data.toList (i + 1) := digE_ge _ _ _
    refine wc_loop_c [5] [27, 28, 29, 30, 31, 32, 33, 34, 35, 36, 37, 38, 39, 40, 41, 42, 43, 44] (ι := Nat) (fun e => [.int .i64 e]) (fun e => i + 1 ≤ e ∧ e ≤ s.size ∧ dgE s.data.toList (i + 1) = dgE s.data.toList e) (fun e => s.size - e) (i + 1) (by kernel_rfl) ⟨Nat.le_refl _, hil, rfl⟩ ?_
    intro e u l' hl' ⟨he1, he2, hee⟩
    simp only [patch, List.map_cons, List.map_nil, List.set_cons_zero, List.set_cons_succ] at hl'
    subst hl'
    have hpl := pNum_lt (s.extract ((i : Int) + 1).toNat (e : Int).toNat).data.toList
    have hst : ¬ (e < s.size ∧ isDg (s.data.toList.getD e 0)) → dgE s.data.toList (i + 1) = e := fun h => hee.trans (digE_stop (by rw [hll]; exact h))
    have hxw : dgE s.data.toList (i + 1) = e → psW s.data.toList i = (s.extract ((i : Int) + 1).toNat (e : Int).toNat).data.toList := fun h => by
      rw [psW, h, show ((i : Int) + 1).toNat = i + 1 by omega, Int.toNat_natCast, ByteArray.data_extract, Array.toList_extract]
    repeat' (first | refine red ?_ | refine redf fun hbi => ?_ | refine reds ?_ | (refine redc fun r => ?_; try have hr := Subtype.property r) | refine redp (fun r => ?_) (fun r => ?_) | refine redv fun sv => ?_ | refine redn fun b => ?_ | refine redz fun zs => ?_ | refine redq (fun hc => ?_) (fun hc => ?_) | with_reducible refine wq_blk_o rfl ?_ | (refine redi (fun hc => ?_) (fun hc => ?_) <;> try first | (exfalso; omega) | with_reducible first | exact absurd rfl hc | exact absurd hc Bool.false_ne_true | exact absurd hc Bool.false_ne_true.symm) | fail)
    all_goals first
      | exact wq_next (e + 1) ⟨by omega, by omega, by rw [hee]; exact digE_step (by omega) ⟨by omega, by omega⟩⟩ (by omega) (by kernel_rfl) ent_e
      | skip
    all_goals
      have hend : dgE s.data.toList (i + 1) = e := hst (fun h => by unfold isDg at h; omega)
      first
      | (have ho : ¬ nsO s.data.toList i t := fun h => by
           first
           | (have h1 := h.1
              rw [hxw hend] at h1
              exact absurd h1 ‹_›)
           | (have h2 := h.2; omega)
         have hn : ns0 s.data.toList 0 [] = none := by rw [hps]; exact ns_no (by omega) hxf ho
         rw [hn]
         simp only [Option.getD_none, Option.isSome_none]
         exact ⟨_, rfl, ent_e⟩)
      | (have ho : nsO s.data.toList i t := ⟨by rw [hxw hend]; assumption, by omega⟩
         have hN : ns0 s.data.toList 0 [] = ns0 s.data.toList e (t ++ [psN s.data.toList i]) := by rw [hps, ns_sym (by omega) hxf ho, hend]
         have hNN : psN s.data.toList i = if (s.data.toList.getD i 0).toNat = 120 then -1 - pNum (s.extract ((i : Int) + 1).toNat (e : Int).toNat).data.toList else pNum (s.extract ((i : Int) + 1).toNat (e : Int).toNat).data.toList := by rw [psN, hxw hend]
         first
         | rw [if_pos (by omega)] at hNN
         | rw [if_neg (by omega)] at hNN
         rw [hNN] at hN
         exact wq_next (e, _, sv) ⟨by simp only; omega, by simp only [List.length_append, List.length_singleton]; omega, hN⟩ (by simp only; omega) (by kernel_rfl) ent_e)
  · have hn : ns0 s.data.toList 0 [] = some t := by rw [hps]; exact ns_end (by omega)
    rw [hn]
    simp only [Option.getD_some, Option.isSome_some]
    exact ⟨_, rfl, ent_e⟩
instance l10Numbers_ctr {Γ : List Atom} {s : ByteArray} :
    CtrC Tryz.prog 52 [.string s] Γ (s.size ≤ 1000000) (Value) (fun q : Value => .tuple #[q, .bool (ns0 s.data.toList 0 []).isSome]) (fun q => .ow [q] ((ns0 s.data.toList 0 []).getD []) :: Γ) := ⟨fun s w0 => l10Numbers_spec s⟩

end Go.Proofs.YtogmjihokkdcfaaGreatDoor
namespace Go.Proofs.YtogmjihokkdcfaaGreatDoor
open Go Go.Eng
set_option linter.unusedVariables false
set_option linter.unusedSimpArgs false
set_option synthInstance.maxHeartbeats 400000
set_option synthInstance.maxSize 1000
set_option maxHeartbeats 2000000
set_option maxRecDepth 20000


theorem TT_bytes {a t : List Int} {s : ByteArray} (ht : termOk a t = true) : S (TT a t) = s ↔ TX a t 0 = s.data.toList := by
  rw [show TT a t = TX a t 0 from if_pos ht]
  constructor
  · intro h; exact congrArg (fun b : ByteArray => b.data.toList) h
  · intro h
    apply ByteArray.ext
    apply Array.ext'
    exact h
noncomputable def trL (a : List Int) (l : List UInt8) : List Int := if okTB a l = true then ptL l else []
theorem l32Term_spec {w0 : World} {Γ : List Atom} {v : Value} {a : List Int} {s : ByteArray} [h : HasRd (List Int) repList Γ [v] a] (hs : s.size ≤ 1000000) :
    CJ Tryz.prog 33 [.agg #[v], .string s] w0 Γ (fun q : Value => .tuple #[q, .bool (okTB a s.data.toList)]) (fun q => .ow [q] (trL a s.data.toList) :: Γ) := by
  have hno : ¬ okT a s.data.toList → okTB a s.data.toList = false ∧ trL a s.data.toList = [] := fun h => by
    have h1 : okTB a s.data.toList = false := by
      cases hb : okTB a s.data.toList with
      | false => rfl
      | true => exact absurd (okTB_iff.1 hb) h
    exact ⟨h1, by unfold trL; rw [h1]; rfl⟩
  have hyes : okT a s.data.toList → okTB a s.data.toList = true ∧ trL a s.data.toList = ptL s.data.toList := fun h => by
    have h1 := okTB_iff.2 h
    exact ⟨h1, by unfold trL; rw [h1]; rfl⟩
  refine cj_lift (R := [.rd [v] a]) (A := fun q : Value => [.ow [q] (trL a s.data.toList)]) (fun w1 => ?_) (reads_cons h (inferInstance)) (fun _ => inferInstance)
  simp only [List.cons_append, List.nil_append]
  refine cj_enter Tryz.func33 Tryz.ntmps33 ?_
  repeat' (first | refine red ?_ | refine redf fun hbi => ?_ | refine reds ?_ | (refine redc fun r => ?_; try have hr := Subtype.property r) | refine redp (fun r => ?_) (fun r => ?_) | refine redv fun sv => ?_ | refine redn fun b => ?_ | refine redz fun zs => ?_ | refine redq (fun hc => ?_) (fun hc => ?_) | with_reducible refine wq_blk_o rfl ?_ | (refine redi (fun hc => ?_) (fun hc => ?_) <;> try first | (exfalso; omega) | with_reducible first | exact absurd rfl hc | exact absurd hc Bool.false_ne_true | exact absurd hc Bool.false_ne_true.symm) | fail)
  · have hn : ¬ okT a s.data.toList := fun h => by rw [(okT_val h).2.2] at hc; cases hc
    rw [(hno hn).1, (hno hn).2]
    exact ⟨_, rfl, ent_e⟩
  · have hn : ¬ okT a s.data.toList := fun h => by
      rw [(okT_val h).2.2, Option.getD_some, (okT_val h).1] at hc; cases hc
    rw [(hno hn).1, (hno hn).2]
    exact ⟨_, rfl, ent_e⟩
  · have hn : ¬ okT a s.data.toList := fun h => by
      rw [(okT_val h).2.2, Option.getD_some] at hc
      exact hc ((TT_bytes (okT_val h).1).2 (okT_val h).2.1)
    rw [(hno hn).1, (hno hn).2]
    exact ⟨_, rfl, ent_e⟩
  · have hy : okT a s.data.toList := ⟨_, ‹_›, (TT_bytes ‹_›).1 hc⟩
    rw [(hyes hy).1, (hyes hy).2, (okT_val hy).2.2]
    simp only [Option.getD_some]
    exact ⟨_, rfl, ent_e⟩
instance l32Term_ctr {Γ : List Atom} {v : Value} {a : List Int} {s : ByteArray} [h : HasRd (List Int) repList Γ [v] a] :
    CtrC Tryz.prog 33 [.agg #[v], .string s] Γ (s.size ≤ 1000000) (Value) (fun q : Value => .tuple #[q, .bool (okTB a s.data.toList)]) (fun q => .ow [q] (trL a s.data.toList) :: Γ) := ⟨fun s w0 => l32Term_spec s⟩

noncomputable def rdT (a : List Int) (s : ByteArray) : Option (List (List Int)) := if s = { data := #[45] } then some [] else if decQ (AllW (okT a) (spB 59 s.data.toList) (spB 59 s.data.toList).length) = true then some ((spB 59 s.data.toList).map ptL) else none
theorem rdT_no {a : List Int} {s : ByteArray} {k : Nat} (h : s ≠ { data := #[45] }) (hk : k < (spB 59 s.data.toList).length) (h2 : ¬ okT a ((spB 59 s.data.toList).getD k [])) : rdT a s = none := by
  unfold rdT
  rw [if_neg h, if_neg]
  rw [decQ_f (fun h3 => h2 (h3 k hk))]
  decide
theorem rdT_yes {a : List Int} {s : ByteArray} (h : s ≠ { data := #[45] }) (h2 : AllW (okT a) (spB 59 s.data.toList) (spB 59 s.data.toList).length) : rdT a s = some ((spB 59 s.data.toList).map ptL) := by
  unfold rdT
  rw [if_neg h, if_pos (decQ_t h2)]
theorem okTB_f {a : List Int} {l : List UInt8} (h : okTB a l = false) : ¬ okT a l := fun h2 => by rw [okTB_iff.2 h2] at h; cases h
theorem l32ReadTerms_spec {w0 : World} {Γ : List Atom} {v : Value} {a : List Int} {s : ByteArray} [h : HasRd (List Int) repList Γ [v] a] (hs : s.size ≤ 1000000) :
    CJ Tryz.prog 16 [.agg #[v], .string s] w0 Γ (fun q : Value => .tuple #[q, .bool (rdT a s).isSome]) (fun q => .ow [q] ((rdT a s).getD []) :: Γ) := by
  have hll : s.data.toList.length = s.size := Array.length_toList
  obtain ⟨hwl1, hwl2⟩ := spB_len 59 s.data.toList
  have hc44 : UInt8.ofNat (Int.toNat 59) = 59 := rfl
  refine cj_lift (R := [.rd [v] a]) (A := fun q : Value => [.ow [q] ((rdT a s).getD [])]) (fun w1 => ?_) (reads_cons h (inferInstance)) (fun _ => inferInstance)
  simp only [List.cons_append, List.nil_append]
  refine cj_enter Tryz.func16 Tryz.ntmps16 ?_
  repeat' (first | refine red ?_ | refine redf fun hbi => ?_ | refine reds ?_ | (refine redc fun r => ?_; try have hr := Subtype.property r) | refine redp (fun r => ?_) (fun r => ?_) | refine redv fun sv => ?_ | refine redn fun b => ?_ | refine redz fun zs => ?_ | refine redq (fun hc => ?_) (fun hc => ?_) | with_reducible refine wq_blk_o rfl ?_ | (refine redd fun p cs as_ hcs has hf => ?_; simp only [Un.cells, Un.atoms, Un.fact, List.cons_append, List.nil_append] at hcs has hf; subst hcs has) | (refine redi (fun hc => ?_) (fun hc => ?_) <;> try first | (exfalso; omega) | with_reducible first | exact absurd rfl hc | exact absurd hc Bool.false_ne_true | exact absurd hc Bool.false_ne_true.symm) | ((refine wa_begin 8 [false, false, false, false, false, false, false, false, false, false, false] [] ?_ <;> refine wa_p 0 ?_ <;> (first | refine wa_p 1 ?_ | refine wa_p0 1 ?_) <;> (first | refine wa_p 2 ?_ | refine wa_p0 2 ?_) <;> (first | refine wa_p 3 ?_ | (refine wa_deep 3 fun p cs as_ asb_ hcs has hasb hf => ?_; simp only [Un.cells, Un.atoms, Un.fact, List.cons_append, List.nil_append] at hcs has hasb hf; subst hcs has hasb) | fail) <;> (first | refine wa_f 4 fun hbi => ?_ | refine wa_p 4 ?_ | (refine wa_do 4 ?_ <;> (repeat' (first | refine red ?_ | (refine redc fun r => ?_; try have hr := Subtype.property r) | refine redv fun sv => ?_ | refine redf fun hbi => ?_ | refine redn fun b => ?_ | refine reds ?_ | refine redi (fun hc => ?_) (fun hc => ?_) | refine redq (fun hc => ?_) (fun hc => ?_) | refine redp (fun r => ?_) (fun r => ?_) | fail))) | fail) <;> (refine wa_do 5 ?_ <;> (repeat' (first | refine red ?_ | (refine redc fun r => ?_; try have hr := Subtype.property r) | refine redv fun sv => ?_ | refine redf fun hbi => ?_ | refine redn fun b => ?_ | refine reds ?_ | refine redi (fun hc => ?_) (fun hc => ?_) | refine redq (fun hc => ?_) (fun hc => ?_) | refine redp (fun r => ?_) (fun r => ?_) | fail))) <;> (first | refine wa_p 6 ?_ | refine wa_p0 6 ?_) <;> (first | refine wa_p 7 ?_ | refine wa_p0 7 ?_) <;> (first | refine wa_p 8 ?_ | refine wa_p0 8 ?_) <;> (first | refine wa_p 9 ?_ | refine wa_p0 9 ?_) <;> (first | refine wa_p 10 ?_ | refine wa_p0 10 ?_)) <;> (first | refine wa_end ?_ | with_reducible refine wq_keep ?_)) | fail)
  · rw [show rdT a s = some [] from if_pos hc]
    simp only [Option.getD_some, Option.isSome_some]
    exact ⟨_, rfl, ent_e⟩
  rw [hc44]
  generalize hwse : spB 59 s.data.toList = ws at *
  have hml : (ws.map S).length = ws.length := List.length_map _
  refine wc_loop_p [6, 8] [17, 18, 19, 20, 24, 25, 26, 27, 28, 29, 23, 30, 31, 9, 10, 32, 33, 34, 4, 5, 35, 36, 37, 38, 21, 22] (ι := Value × Nat) (fun k => [k.1, .int .i64 k.2]) (fun k => [.ow [k.1] ((ws.take k.2).map ptL)]) (fun k => k.2 ≤ ws.length ∧ AllW (okT a) ws k.2) (fun k => ws.length - k.2) (sv, 0) [.ow [sv] ([] : List (List Int))] (by kernel_rfl) ⟨Nat.zero_le _, fun j hj => by omega⟩ rfl ?_
  intro ⟨ov, i⟩ u l' hl' ⟨hi, hall⟩
  simp only [patch, List.map_cons, List.map_nil, List.set_cons_zero, List.set_cons_succ] at hl'
  subst hl'
  simp only [List.cons_append, List.nil_append] at hi hall ⊢
  have hol : ((ws.take i).map ptL).length = i := by rw [List.length_map, List.length_take]; omega
  by_cases hil : i < ws.length
  · have hsz : ((ws.map S).getD (i : Int).toNat ByteArray.empty).size ≤ 1000000 := by
      rw [Int.toNat_natCast, mapS_get hil, S_size]
      have := hwl2 _ (getD_memB hil)
      omega
    have hsz2 : ((ws.map S).getD i ByteArray.empty).size ≤ 1000000 := hsz
    have hgw := mapS_get hil
    repeat' (first | refine red ?_ | refine redf fun hbi => ?_ | refine reds ?_ | (refine redc fun r => ?_; try have hr := Subtype.property r) | refine redp (fun r => ?_) (fun r => ?_) | refine redv fun sv => ?_ | refine redn fun b => ?_ | refine redz fun zs => ?_ | refine redq (fun hc => ?_) (fun hc => ?_) | with_reducible refine wq_blk_o rfl ?_ | (refine redd fun p cs as_ hcs has hf => ?_; simp only [Un.cells, Un.atoms, Un.fact, List.cons_append, List.nil_append] at hcs has hf; subst hcs has) | (refine redi (fun hc => ?_) (fun hc => ?_) <;> try first | (exfalso; omega) | with_reducible first | exact absurd rfl hc | exact absurd hc Bool.false_ne_true | exact absurd hc Bool.false_ne_true.symm) | ((refine wa_begin 8 [false, false, false, false, false, false, false, false, false, false, false] [] ?_ <;> refine wa_p 0 ?_ <;> (first | refine wa_p 1 ?_ | refine wa_p0 1 ?_) <;> (first | refine wa_p 2 ?_ | refine wa_p0 2 ?_) <;> (first | refine wa_p 3 ?_ | (refine wa_deep 3 fun p cs as_ asb_ hcs has hasb hf => ?_; simp only [Un.cells, Un.atoms, Un.fact, List.cons_append, List.nil_append] at hcs has hasb hf; subst hcs has hasb) | fail) <;> (first | refine wa_f 4 fun hbi => ?_ | refine wa_p 4 ?_ | (refine wa_do 4 ?_ <;> (repeat' (first | refine red ?_ | (refine redc fun r => ?_; try have hr := Subtype.property r) | refine redv fun sv => ?_ | refine redf fun hbi => ?_ | refine redn fun b => ?_ | refine reds ?_ | refine redi (fun hc => ?_) (fun hc => ?_) | refine redq (fun hc => ?_) (fun hc => ?_) | refine redp (fun r => ?_) (fun r => ?_) | fail))) | fail) <;> (refine wa_do 5 ?_ <;> (repeat' (first | refine red ?_ | (refine redc fun r => ?_; try have hr := Subtype.property r) | refine redv fun sv => ?_ | refine redf fun hbi => ?_ | refine redn fun b => ?_ | refine reds ?_ | refine redi (fun hc => ?_) (fun hc => ?_) | refine redq (fun hc => ?_) (fun hc => ?_) | refine redp (fun r => ?_) (fun r => ?_) | fail))) <;> (first | refine wa_p 6 ?_ | refine wa_p0 6 ?_) <;> (first | refine wa_p 7 ?_ | refine wa_p0 7 ?_) <;> (first | refine wa_p 8 ?_ | refine wa_p0 8 ?_) <;> (first | refine wa_p 9 ?_ | refine wa_p0 9 ?_) <;> (first | refine wa_p 10 ?_ | refine wa_p0 10 ?_)) <;> (first | refine wa_end ?_ | with_reducible refine wq_keep ?_)) | fail)
    · rw [hgw] at hc
      rw [rdT_no ‹_› (k := i) (by rw [hwse]; exact hil) (by rw [hwse]; exact okTB_f hc)]
      simp only [Option.getD_none, Option.isSome_none]
      exact ⟨_, rfl, ent_e⟩
    · rw [hgw] at hc ⊢
      have hok := okTB_iff.1 hc
      rw [show trL a (S (ws.getD i [])).data.toList = ptL (ws.getD i []) from if_pos hc, show (ws.take i).map ptL ++ [ptL (ws.getD i [])] = (ws.take (i + 1)).map ptL by
        rw [List.take_succ_eq_append_getElem hil, List.map_append, List.getD_eq_getElem?_getD, List.getElem?_eq_getElem hil]; rfl]
      exact wq_next (sv, i + 1) ⟨by simp only; omega, allW_next hall hok⟩ (by simp only; omega) (by kernel_rfl) ent_e
  · repeat' (first | refine red ?_ | refine redf fun hbi => ?_ | refine reds ?_ | (refine redc fun r => ?_; try have hr := Subtype.property r) | refine redp (fun r => ?_) (fun r => ?_) | refine redv fun sv => ?_ | refine redn fun b => ?_ | refine redz fun zs => ?_ | refine redq (fun hc => ?_) (fun hc => ?_) | with_reducible refine wq_blk_o rfl ?_ | (refine redd fun p cs as_ hcs has hf => ?_; simp only [Un.cells, Un.atoms, Un.fact, List.cons_append, List.nil_append] at hcs has hf; subst hcs has) | (refine redi (fun hc => ?_) (fun hc => ?_) <;> try first | (exfalso; omega) | with_reducible first | exact absurd rfl hc | exact absurd hc Bool.false_ne_true | exact absurd hc Bool.false_ne_true.symm) | ((refine wa_begin 8 [false, false, false, false, false, false, false, false, false, false, false] [] ?_ <;> refine wa_p 0 ?_ <;> (first | refine wa_p 1 ?_ | refine wa_p0 1 ?_) <;> (first | refine wa_p 2 ?_ | refine wa_p0 2 ?_) <;> (first | refine wa_p 3 ?_ | (refine wa_deep 3 fun p cs as_ asb_ hcs has hasb hf => ?_; simp only [Un.cells, Un.atoms, Un.fact, List.cons_append, List.nil_append] at hcs has hasb hf; subst hcs has hasb) | fail) <;> (first | refine wa_f 4 fun hbi => ?_ | refine wa_p 4 ?_ | (refine wa_do 4 ?_ <;> (repeat' (first | refine red ?_ | (refine redc fun r => ?_; try have hr := Subtype.property r) | refine redv fun sv => ?_ | refine redf fun hbi => ?_ | refine redn fun b => ?_ | refine reds ?_ | refine redi (fun hc => ?_) (fun hc => ?_) | refine redq (fun hc => ?_) (fun hc => ?_) | refine redp (fun r => ?_) (fun r => ?_) | fail))) | fail) <;> (refine wa_do 5 ?_ <;> (repeat' (first | refine red ?_ | (refine redc fun r => ?_; try have hr := Subtype.property r) | refine redv fun sv => ?_ | refine redf fun hbi => ?_ | refine redn fun b => ?_ | refine reds ?_ | refine redi (fun hc => ?_) (fun hc => ?_) | refine redq (fun hc => ?_) (fun hc => ?_) | refine redp (fun r => ?_) (fun r => ?_) | fail))) <;> (first | refine wa_p 6 ?_ | refine wa_p0 6 ?_) <;> (first | refine wa_p 7 ?_ | refine wa_p0 7 ?_) <;> (first | refine wa_p 8 ?_ | refine wa_p0 8 ?_) <;> (first | refine wa_p 9 ?_ | refine wa_p0 9 ?_) <;> (first | refine wa_p 10 ?_ | refine wa_p0 10 ?_)) <;> (first | refine wa_end ?_ | with_reducible refine wq_keep ?_)) | fail)
    rw [rdT_yes ‹_› (by rw [hwse, show ws.length = i by omega]; exact hall), hwse, show i = ws.length by omega, List.take_length]
    simp only [Option.getD_some, Option.isSome_some]
    exact ⟨_, rfl, ent_e⟩
instance l32ReadTerms_ctr {Γ : List Atom} {v : Value} {a : List Int} {s : ByteArray} [h : HasRd (List Int) repList Γ [v] a] :
    CtrC Tryz.prog 16 [.agg #[v], .string s] Γ (s.size ≤ 1000000) (Value) (fun q : Value => .tuple #[q, .bool (rdT a s).isSome]) (fun q => .ow [q] ((rdT a s).getD []) :: Γ) := ⟨fun s w0 => l32ReadTerms_spec s⟩

end Go.Proofs.YtogmjihokkdcfaaGreatDoor
