/- Unification: the program's side. -/
import Derived.Test.YtcpfcnjchlbapaaEngU
import Derived.Test.YtcpfcnjchlbapaaL12
import Derived.Test.YtcpfcnjchlbapaaUniS2
namespace Go.Proofs.Ytcpfcnjchlbapaa
open Go Go.Eng
set_option linter.unusedVariables false
set_option linter.unusedSimpArgs false
set_option synthInstance.maxHeartbeats 400000
set_option synthInstance.maxSize 1000

abbrev bsO (xs : List (NE Int)) : List (List Int) := xs.map NE.xs
theorem bd_ne {xs : List (NE Int)} {n : Int} : bdF (bsO xs) n = (xs.getD (-1 - n).toNat default).xs := ne_getD'
/-- Where the bindings of a term's head come to. -/
abbrev RootT (a : List Int) (bs : List (List Int)) (t : List Int) : Type := { r : List Int // termOk a r = true ∧ fm (sg a bs) r = fm (sg a bs) t ∧ (r.getD 0 0 < 0 → bdF bs (r.getD 0 0) = []) }
def rkH (σ : Int → List Int) (t : List Int) : Nat := if t.getD 0 0 < 0 then rk σ (t.getD 0 0) else 0
theorem tm_one {a t : List Int} (h : termOk a t = true) (h0 : t.getD 0 0 < 0) : t = [t.getD 0 0] := by
  have := one_sub h (k := 0) (by have := termOk_len h; omega) h0
  rw [← this]
  unfold subt sz
  rw [List.drop_zero]
  have h4 := (termOk_iff.1 h).2.2.2
  rw [h4]
  simp
theorem root_spec {w0 : World} {Γ Δ : List Atom} {b : Nat} {vs v : Value} {cs : List Value} {xs : List (NE Int)} {a t : List Int} [hb : PullBk Γ b (vs :: cs) Δ] [hv : HasRd (List Int) repList Δ [vs] a] [hr : HasIm (Ar 48 (NE Int)) repAr Δ cs (Ar.mk xs)] [h2 : HasIm (List Int) repList Δ [v] t] (ht : TriE a (bsO xs) ∧ termOk a t = true) :
    CJ Try.prog 188 [.pointer (some ⟨b, 0, none⟩), v] w0 Γ (fun p : Value × RootT a (bsO xs) t => p.1) (fun p => .rd [p.1] p.2.1 :: .bk b (vs :: cs) :: Δ) := by
  refine cj_perm hb.perm ?_
  obtain ⟨hT, hto⟩ := ht
  have hT2 := tri_sg hT
  refine cj_enter Try.func188 Try.ntmps188 ?_
  refine wc_dup [v] ?_
  repeat' (first | refine red ?_ | refine redf fun hbi => ?_ | refine reds ?_ | refine redc fun r => ?_ | refine redp (fun r => ?_) (fun r => ?_) | refine redv fun sv => ?_ | refine redn fun b => ?_ | refine redz fun zs => ?_ | refine redq (fun hc => ?_) (fun hc => ?_) | with_reducible refine wq_blk_o rfl ?_ | (refine redd fun p cs as_ hcs has hf => ?_; simp only [Un.cells, Un.atoms, Un.fact, List.cons_append, List.nil_append] at hcs has hf; subst hcs has) | (refine redi (fun hc => ?_) (fun hc => ?_) <;> try first | (exfalso; omega) | exact absurd rfl hc) | ((refine wa_begin 1 [false, false, false, false, false, false, false, false, false, false, false, false, false, false, false, false] [] ?_ <;> (first | refine wa_p 0 ?_ | refine wa_p0 0 ?_) <;> refine wa_p 1 ?_ <;> (first | refine wa_f 2 fun hbi => ?_ | refine wa_p 2 ?_ | (refine wa_do 2 ?_ <;> (repeat' (first | refine red ?_ | refine redc fun r => ?_ | refine redv fun sv => ?_ | refine redf fun hbi => ?_ | refine redn fun b => ?_ | refine reds ?_ | refine redi (fun hc => ?_) (fun hc => ?_) | refine redq (fun hc => ?_) (fun hc => ?_) | refine redp (fun r => ?_) (fun r => ?_) | fail))) | fail) <;> refine wa_p 3 ?_ <;> (first | refine wa_p 4 ?_ | refine wa_p0 4 ?_) <;> (first | refine wa_pg 5 ?_ | refine wa_no 5 ?_ | (refine wa_if 9 (fun hc => ?_) (fun hc => ?_) <;> (try first | (exfalso; omega) | exact absurd rfl hc) <;> first | refine wa_pg 5 ?_ | refine wa_no 5 ?_) | fail) <;> (first | refine wa_pg 6 ?_ | refine wa_no 6 ?_ | fail) <;> (first | refine wa_pg 7 ?_ | refine wa_no 7 ?_ | fail) <;> (first | refine wa_pg 8 ?_ | refine wa_no 8 ?_ | fail) <;> (first | refine wa_pg 9 ?_ | refine wa_no 9 ?_ | fail) <;> (first | refine wa_pg 10 ?_ | refine wa_no 10 ?_ | (refine wa_do 10 ?_ <;> (repeat' (first | refine red ?_ | refine redc fun r => ?_ | refine redv fun sv => ?_ | refine redf fun hbi => ?_ | refine redn fun b => ?_ | refine reds ?_ | refine redi (fun hc => ?_) (fun hc => ?_) | refine redq (fun hc => ?_) (fun hc => ?_) | refine redp (fun r => ?_) (fun r => ?_) | fail))) | fail) <;> (first | refine wa_pg 11 ?_ | refine wa_no 11 ?_ | (refine wa_do 11 ?_ <;> (repeat' (first | refine red ?_ | refine redc fun r => ?_ | refine redv fun sv => ?_ | refine redf fun hbi => ?_ | refine redn fun b => ?_ | refine reds ?_ | refine redi (fun hc => ?_) (fun hc => ?_) | refine redq (fun hc => ?_) (fun hc => ?_) | refine redp (fun r => ?_) (fun r => ?_) | fail))) | fail) <;> (first | refine wa_pg 12 ?_ | refine wa_no 12 ?_ | (refine wa_do 12 ?_ <;> (repeat' (first | refine red ?_ | refine redc fun r => ?_ | refine redv fun sv => ?_ | refine redf fun hbi => ?_ | refine redn fun b => ?_ | refine reds ?_ | refine redi (fun hc => ?_) (fun hc => ?_) | refine redq (fun hc => ?_) (fun hc => ?_) | refine redp (fun r => ?_) (fun r => ?_) | fail))) | fail) <;> (first | refine wa_pg 13 ?_ | refine wa_no 13 ?_ | (refine wa_do 13 ?_ <;> (repeat' (first | refine red ?_ | refine redc fun r => ?_ | refine redv fun sv => ?_ | refine redf fun hbi => ?_ | refine redn fun b => ?_ | refine reds ?_ | refine redi (fun hc => ?_) (fun hc => ?_) | refine redq (fun hc => ?_) (fun hc => ?_) | refine redp (fun r => ?_) (fun r => ?_) | fail))) | fail) <;> (first | refine wa_pg 14 ?_ | refine wa_no 14 ?_ | (refine wa_do 14 ?_ <;> (repeat' (first | refine red ?_ | refine redc fun r => ?_ | refine redv fun sv => ?_ | refine redf fun hbi => ?_ | refine redn fun b => ?_ | refine reds ?_ | refine redi (fun hc => ?_) (fun hc => ?_) | refine redq (fun hc => ?_) (fun hc => ?_) | refine redp (fun r => ?_) (fun r => ?_) | fail))) | fail) <;> (first | refine wa_p 15 ?_ | refine wa_p0 15 ?_ | (refine wa_do 15 ?_ <;> (repeat' (first | refine red ?_ | refine redc fun r => ?_ | refine redv fun sv => ?_ | refine redf fun hbi => ?_ | refine redn fun b => ?_ | refine reds ?_ | refine redi (fun hc => ?_) (fun hc => ?_) | refine redq (fun hc => ?_) (fun hc => ?_) | refine redp (fun r => ?_) (fun r => ?_) | fail))) | fail)) <;> (first | refine wa_end ?_ | with_reducible refine wq_keep ?_)) | ((refine wa_begin 2 [false, false, false, false, false, false, false, false, false, false] [] ?_ <;> (first | refine wa_p 0 ?_ | refine wa_p0 0 ?_) <;> (first | refine wa_p 1 ?_ | refine wa_p0 1 ?_) <;> refine wa_p 2 ?_ <;> (first | refine wa_f 3 fun hbi => ?_ | refine wa_p 3 ?_ | fail) <;> (first | refine wa_p 4 ?_ | refine wa_p0 4 ?_ | fail) <;> (first | refine wa_p 5 ?_ | refine wa_p0 5 ?_ | (refine wa_do 5 ?_ <;> (repeat' (first | refine red ?_ | refine redc fun r => ?_ | refine redv fun sv => ?_ | refine redf fun hbi => ?_ | refine redn fun b => ?_ | refine reds ?_ | refine redi (fun hc => ?_) (fun hc => ?_) | refine redq (fun hc => ?_) (fun hc => ?_) | refine redp (fun r => ?_) (fun r => ?_) | fail))) | fail) <;> (first | refine wa_p 6 ?_ | refine wa_p0 6 ?_ | (refine wa_do 6 ?_ <;> (repeat' (first | refine red ?_ | refine redc fun r => ?_ | refine redv fun sv => ?_ | refine redf fun hbi => ?_ | refine redn fun b => ?_ | refine reds ?_ | refine redi (fun hc => ?_) (fun hc => ?_) | refine redq (fun hc => ?_) (fun hc => ?_) | refine redp (fun r => ?_) (fun r => ?_) | fail))) | fail) <;> (first | refine wa_p 7 ?_ | (refine wa_deep 7 fun p cs as_ asb_ hcs has hasb hf => ?_; simp only [Un.cells, Un.atoms, Un.fact, List.cons_append, List.nil_append] at hcs has hasb hf; subst hcs has hasb) | fail) <;> (first | refine wa_f 8 fun hbi => ?_ | refine wa_p 8 ?_ | (refine wa_do 8 ?_ <;> (repeat' (first | refine red ?_ | refine redc fun r => ?_ | refine redv fun sv => ?_ | refine redf fun hbi => ?_ | refine redn fun b => ?_ | refine reds ?_ | refine redi (fun hc => ?_) (fun hc => ?_) | refine redq (fun hc => ?_) (fun hc => ?_) | refine redp (fun r => ?_) (fun r => ?_) | fail))) | fail) <;> (first | refine wa_p 9 ?_ | refine wa_p0 9 ?_)) <;> (first | refine wa_end ?_ | with_reducible refine wq_keep ?_)) | fail)
  refine wc_loop_p [1] [5, 6, 7, 8, 9, 10, 11, 12, 13, 14, 15, 16, 17, 18, 19, 20, 21, 22, 23, 24, 25, 26, 27, 28, 29] (ι := Value × List Int) (fun k => [k.1]) (fun k => [.rd [k.1] k.2]) (fun k => termOk a k.2 = true ∧ fm (sg a (bsO xs)) k.2 = fm (sg a (bsO xs)) t) (fun k => rkH (sg a (bsO xs)) k.2) (v, t) [.rd [v] t] (by kernel_rfl) ⟨hto, rfl⟩ rfl ?_
  intro ⟨u0, t0⟩ u l' hl' ⟨hk, hkk⟩
  simp only [patch, List.map_cons, List.map_nil, List.set_cons_zero, List.set_cons_succ] at hl'
  subst hl'
  simp only [List.cons_append, List.nil_append] at hk hkk ⊢
  have htl := termOk_len hk
  have ht0 := termOk_get hk (k := 0) (by omega)
  repeat' (first | refine red ?_ | refine redf fun hbi => ?_ | refine reds ?_ | refine redc fun r => ?_ | refine redp (fun r => ?_) (fun r => ?_) | refine redv fun sv => ?_ | refine redn fun b => ?_ | refine redz fun zs => ?_ | refine redq (fun hc => ?_) (fun hc => ?_) | with_reducible refine wq_blk_o rfl ?_ | (refine redd fun p cs as_ hcs has hf => ?_; simp only [Un.cells, Un.atoms, Un.fact, List.cons_append, List.nil_append] at hcs has hf; subst hcs has) | (refine redi (fun hc => ?_) (fun hc => ?_) <;> try first | (exfalso; omega) | exact absurd rfl hc) | ((refine wa_begin 1 [false, false, false, false, false, false, false, false, false, false, false, false, false, false, false, false] [] ?_ <;> (first | refine wa_p 0 ?_ | refine wa_p0 0 ?_) <;> refine wa_p 1 ?_ <;> (first | refine wa_f 2 fun hbi => ?_ | refine wa_p 2 ?_ | (refine wa_do 2 ?_ <;> (repeat' (first | refine red ?_ | refine redc fun r => ?_ | refine redv fun sv => ?_ | refine redf fun hbi => ?_ | refine redn fun b => ?_ | refine reds ?_ | refine redi (fun hc => ?_) (fun hc => ?_) | refine redq (fun hc => ?_) (fun hc => ?_) | refine redp (fun r => ?_) (fun r => ?_) | fail))) | fail) <;> refine wa_p 3 ?_ <;> (first | refine wa_p 4 ?_ | refine wa_p0 4 ?_) <;> (first | refine wa_pg 5 ?_ | refine wa_no 5 ?_ | (refine wa_if 9 (fun hc => ?_) (fun hc => ?_) <;> (try first | (exfalso; omega) | exact absurd rfl hc) <;> first | refine wa_pg 5 ?_ | refine wa_no 5 ?_) | fail) <;> (first | refine wa_pg 6 ?_ | refine wa_no 6 ?_ | fail) <;> (first | refine wa_pg 7 ?_ | refine wa_no 7 ?_ | fail) <;> (first | refine wa_pg 8 ?_ | refine wa_no 8 ?_ | fail) <;> (first | refine wa_pg 9 ?_ | refine wa_no 9 ?_ | fail) <;> (first | refine wa_pg 10 ?_ | refine wa_no 10 ?_ | (refine wa_do 10 ?_ <;> (repeat' (first | refine red ?_ | refine redc fun r => ?_ | refine redv fun sv => ?_ | refine redf fun hbi => ?_ | refine redn fun b => ?_ | refine reds ?_ | refine redi (fun hc => ?_) (fun hc => ?_) | refine redq (fun hc => ?_) (fun hc => ?_) | refine redp (fun r => ?_) (fun r => ?_) | fail))) | fail) <;> (first | refine wa_pg 11 ?_ | refine wa_no 11 ?_ | (refine wa_do 11 ?_ <;> (repeat' (first | refine red ?_ | refine redc fun r => ?_ | refine redv fun sv => ?_ | refine redf fun hbi => ?_ | refine redn fun b => ?_ | refine reds ?_ | refine redi (fun hc => ?_) (fun hc => ?_) | refine redq (fun hc => ?_) (fun hc => ?_) | refine redp (fun r => ?_) (fun r => ?_) | fail))) | fail) <;> (first | refine wa_pg 12 ?_ | refine wa_no 12 ?_ | (refine wa_do 12 ?_ <;> (repeat' (first | refine red ?_ | refine redc fun r => ?_ | refine redv fun sv => ?_ | refine redf fun hbi => ?_ | refine redn fun b => ?_ | refine reds ?_ | refine redi (fun hc => ?_) (fun hc => ?_) | refine redq (fun hc => ?_) (fun hc => ?_) | refine redp (fun r => ?_) (fun r => ?_) | fail))) | fail) <;> (first | refine wa_pg 13 ?_ | refine wa_no 13 ?_ | (refine wa_do 13 ?_ <;> (repeat' (first | refine red ?_ | refine redc fun r => ?_ | refine redv fun sv => ?_ | refine redf fun hbi => ?_ | refine redn fun b => ?_ | refine reds ?_ | refine redi (fun hc => ?_) (fun hc => ?_) | refine redq (fun hc => ?_) (fun hc => ?_) | refine redp (fun r => ?_) (fun r => ?_) | fail))) | fail) <;> (first | refine wa_pg 14 ?_ | refine wa_no 14 ?_ | (refine wa_do 14 ?_ <;> (repeat' (first | refine red ?_ | refine redc fun r => ?_ | refine redv fun sv => ?_ | refine redf fun hbi => ?_ | refine redn fun b => ?_ | refine reds ?_ | refine redi (fun hc => ?_) (fun hc => ?_) | refine redq (fun hc => ?_) (fun hc => ?_) | refine redp (fun r => ?_) (fun r => ?_) | fail))) | fail) <;> (first | refine wa_p 15 ?_ | refine wa_p0 15 ?_ | (refine wa_do 15 ?_ <;> (repeat' (first | refine red ?_ | refine redc fun r => ?_ | refine redv fun sv => ?_ | refine redf fun hbi => ?_ | refine redn fun b => ?_ | refine reds ?_ | refine redi (fun hc => ?_) (fun hc => ?_) | refine redq (fun hc => ?_) (fun hc => ?_) | refine redp (fun r => ?_) (fun r => ?_) | fail))) | fail)) <;> (first | refine wa_end ?_ | with_reducible refine wq_keep ?_)) | ((refine wa_begin 2 [false, false, false, false, false, false, false, false, false, false] [] ?_ <;> (first | refine wa_p 0 ?_ | refine wa_p0 0 ?_) <;> (first | refine wa_p 1 ?_ | refine wa_p0 1 ?_) <;> refine wa_p 2 ?_ <;> (first | refine wa_f 3 fun hbi => ?_ | refine wa_p 3 ?_ | fail) <;> (first | refine wa_p 4 ?_ | refine wa_p0 4 ?_ | fail) <;> (first | refine wa_p 5 ?_ | refine wa_p0 5 ?_ | (refine wa_do 5 ?_ <;> (repeat' (first | refine red ?_ | refine redc fun r => ?_ | refine redv fun sv => ?_ | refine redf fun hbi => ?_ | refine redn fun b => ?_ | refine reds ?_ | refine redi (fun hc => ?_) (fun hc => ?_) | refine redq (fun hc => ?_) (fun hc => ?_) | refine redp (fun r => ?_) (fun r => ?_) | fail))) | fail) <;> (first | refine wa_p 6 ?_ | refine wa_p0 6 ?_ | (refine wa_do 6 ?_ <;> (repeat' (first | refine red ?_ | refine redc fun r => ?_ | refine redv fun sv => ?_ | refine redf fun hbi => ?_ | refine redn fun b => ?_ | refine reds ?_ | refine redi (fun hc => ?_) (fun hc => ?_) | refine redq (fun hc => ?_) (fun hc => ?_) | refine redp (fun r => ?_) (fun r => ?_) | fail))) | fail) <;> (first | refine wa_p 7 ?_ | (refine wa_deep 7 fun p cs as_ asb_ hcs has hasb hf => ?_; simp only [Un.cells, Un.atoms, Un.fact, List.cons_append, List.nil_append] at hcs has hasb hf; subst hcs has hasb) | fail) <;> (first | refine wa_f 8 fun hbi => ?_ | refine wa_p 8 ?_ | (refine wa_do 8 ?_ <;> (repeat' (first | refine red ?_ | refine redc fun r => ?_ | refine redv fun sv => ?_ | refine redf fun hbi => ?_ | refine redn fun b => ?_ | refine reds ?_ | refine redi (fun hc => ?_) (fun hc => ?_) | refine redq (fun hc => ?_) (fun hc => ?_) | refine redp (fun r => ?_) (fun r => ?_) | fail))) | fail) <;> (first | refine wa_p 9 ?_ | refine wa_p0 9 ?_)) <;> (first | refine wa_end ?_ | with_reducible refine wq_keep ?_)) | fail)
  · have h0 : t0.getD 0 0 < 0 := by assumption
    have hbd : bdF (bsO xs) (t0.getD 0 0) ≠ [] := by rw [bd_ne]; exact hc
    obtain ⟨b1, b2, b3⟩ := hT2.bo _ ht0.1 h0 hbd
    refine wq_next (sv, (xs.getD (-1 - t0.getD 0 0).toNat default).xs) ⟨by rw [← bd_ne]; exact b1, ?_⟩ ?_ (by kernel_rfl) ent_e
    · simp only
      rw [← hkk]
      conv => rhs; rw [tm_one hk h0, fm_one, b2]
      rw [bd_ne]
    · simp only
      unfold rkH
      rw [if_pos h0]
      split
      · rename_i h1
        rw [← bd_ne] at h1 ⊢
        exact rk_lt hT2 ht0.1 h0 hbd (getD_mem (by have := termOk_len b1; omega)) h1
      · unfold rk
        have := tm_pos (hT2.io.sb.tm _ ht0.1 h0)
        omega
  · have h0 : t0.getD 0 0 < 0 := by assumption
    exact ⟨(u0, ⟨t0, hk, hkk, fun _ => by rw [bd_ne]; exact hc⟩), rfl, ent_e⟩
  · exact ⟨(u0, ⟨t0, hk, hkk, fun h => by omega⟩), rfl, ent_e⟩

instance root_ctr {Γ Δ : List Atom} {b : Nat} {vs v : Value} {cs : List Value} {xs : List (NE Int)} {a t : List Int} [hb : PullBk Γ b (vs :: cs) Δ] [hv : HasRd (List Int) repList Δ [vs] a] [hr : HasIm (Ar 48 (NE Int)) repAr Δ cs (Ar.mk xs)] [h2 : HasIm (List Int) repList Δ [v] t] :
    CtrC Try.prog 188 [.pointer (some ⟨b, 0, none⟩), v] Γ (TriE a (bsO xs) ∧ termOk a t = true) (Value × RootT a (bsO xs) t) (fun p : Value × RootT a (bsO xs) t => p.1) (fun p => .rd [p.1] p.2.1 :: .bk b (vs :: cs) :: Δ) := ⟨fun s w0 => root_spec s⟩

/-! ### Does a variable occur -/
def sn (zs : List Bool) (x : Int) : Bool := zs.getD (-1 - x).toNat default
structure OccP (a : List Int) (bs : List (List Int)) (n : Int) (t : List Int) (zs : List Bool) : Prop where
  tri : TriE a bs
  nr : -24 ≤ n ∧ n < 0
  fr : bdF bs n = []
  ok : termOk a t = true
  ln : zs.length = 48
  se : ∀ x, -24 ≤ x → x < 0 → sn zs x = true → rk (sg a bs) x < rkT (sg a bs) t → n ∉ sg a bs x
abbrev OccT (a : List Int) (bs : List (List Int)) (n : Int) (t : List Int) (zs : List Bool) : Type := { q : Bool × List Value × List Bool // q.2.2.length = 48 ∧ (q.1 = true → n ∈ fm (sg a bs) t) ∧ (q.1 = false → n ∉ fm (sg a bs) t ∧ (∀ x, -24 ≤ x → x < 0 → sn q.2.2 x = true → sn zs x = true ∨ rk (sg a bs) x < rkT (sg a bs) t) ∧ ∀ x, -24 ≤ x → x < 0 → sn q.2.2 x = true → rk (sg a bs) x < rkT (sg a bs) t → n ∉ sg a bs x) }
theorem sn_set {zs : List Bool} {m x : Int} (hl : zs.length = 48) (hm : -24 ≤ m ∧ m < 0) (hx : -24 ≤ x ∧ x < 0) : sn (zs.set (-1 - m).toNat true) x = true ↔ x = m ∨ sn zs x = true := by
  unfold sn
  simp only [List.getD_eq_getElem?_getD, List.getElem?_set]
  by_cases h : x = m
  · subst h
    rw [if_pos rfl, if_pos (by omega)]; simp
  · rw [if_neg (by omega)]; simp [h]
theorem occurs_rec (N : Nat) : ∀ {w0 : World} {Γ Δ : List Atom} {b b2 : Nat} {vs v : Value} {cs ds : List Value} {xs : List (NE Int)} {zs : List Bool} {a t : List Int} {n : Int} [hb2 : PullBk Γ b2 ds Δ] [hb : HasBk Δ b (vs :: cs)] [hv : HasRd (List Int) repList Δ [vs] a] [hr : HasIm (Ar 48 (NE Int)) repAr Δ cs (Ar.mk xs)] [hz : HasIm (Ar 48 Bool) repAr Δ ds (Ar.mk zs)] [h2 : HasIm (List Int) repList Δ [v] t] (ht : OccP a (bsO xs) n t zs ∧ rkT (sg a (bsO xs)) t < N),
    CJ Try.prog 189 [.pointer (some ⟨b, 0, none⟩), .int .i64 n, v, .pointer (some ⟨b2, 0, none⟩)] w0 Γ (fun p : OccT a (bsO xs) n t zs => .bool p.1.1) (fun p => .bk b2 p.1.2.1 :: .rd p.1.2.1 (Ar.mk p.1.2.2 : Ar 48 Bool) :: Δ) := by
  induction N with
  | zero =>
    intro w0 Γ Δ b b2 vs v cs ds xs zs a t n hb2 hb hv hr hz h2 ht
    omega
  | succ N ih =>
    intro w0 Γ Δ b b2 vs v cs ds xs zs a t n hb2 hb hv hr hz h2 ht
    haveI hI : ∀ (Γ Δ : List Atom) (b b2 : Nat) (vs v : Value) (cs ds : List Value) (xs : List (NE Int)) (zs : List Bool) (a t : List Int) (n : Int) [PullBk Γ b2 ds Δ] [HasBk Δ b (vs :: cs)] [HasRd (List Int) repList Δ [vs] a] [HasIm (Ar 48 (NE Int)) repAr Δ cs (Ar.mk xs)] [HasIm (Ar 48 Bool) repAr Δ ds (Ar.mk zs)] [HasIm (List Int) repList Δ [v] t], CtrC Try.prog 189 [.pointer (some ⟨b, 0, none⟩), .int .i64 n, v, .pointer (some ⟨b2, 0, none⟩)] Γ (OccP a (bsO xs) n t zs ∧ rkT (sg a (bsO xs)) t < N) (OccT a (bsO xs) n t zs) (fun p => .bool p.1.1) (fun p => .bk b2 p.1.2.1 :: .rd p.1.2.1 (Ar.mk p.1.2.2 : Ar 48 Bool) :: Δ) := fun Γ Δ b b2 vs v cs ds xs zs a t n _ _ _ _ _ _ => ⟨fun s w0 => ih s⟩
    refine cj_perm hb2.perm ?_
    obtain ⟨hO, hN⟩ := ht
    have hT2 := tri_sg hO.tri
    have hzl := hO.ln
    have htl := termOk_len hO.ok
    have hnr := hO.nr
    refine cj_len v fun hlx => ?_
    refine cj_enter Try.func189 Try.ntmps189 ?_
    refine wc_dup ds ?_
    repeat' (first | refine red ?_ | refine redf fun hbi => ?_ | refine reds ?_ | refine redc fun r => ?_ | refine redp (fun r => ?_) (fun r => ?_) | refine redv fun sv => ?_ | refine redn fun b => ?_ | refine redz fun zs => ?_ | refine redq (fun hc => ?_) (fun hc => ?_) | with_reducible refine wq_blk_o rfl ?_ | (refine redd fun p cs as_ hcs has hf => ?_; simp only [Un.cells, Un.atoms, Un.fact, List.cons_append, List.nil_append] at hcs has hf; subst hcs has) | (refine redi (fun hc => ?_) (fun hc => ?_) <;> try first | (exfalso; omega) | exact absurd rfl hc) | fail)
    refine wc_loop_p [14] [15, 16, 17, 10, 18, 19, 20, 8, 21, 22, 23, 24, 25, 26, 27, 28, 29, 30, 31, 32, 33, 34, 35, 36, 37, 38, 39, 40, 41, 42, 11, 43, 44, 45, 46, 47, 48, 49, 50, 51, 52] (ι := Nat × List Value × List Bool) (fun k => [.int .i64 k.1]) (fun k => [.bk b2 k.2.1, .rd k.2.1 (Ar.mk k.2.2 : Ar 48 Bool)]) (fun k => k.1 ≤ t.length ∧ k.2.2.length = 48 ∧ (∀ m ∈ t.take k.1, n ∉ sg a (bsO xs) m) ∧ (∀ x, -24 ≤ x → x < 0 → sn k.2.2 x = true → sn zs x = true ∨ rk (sg a (bsO xs)) x < rkT (sg a (bsO xs)) t) ∧ ∀ x, -24 ≤ x → x < 0 → sn k.2.2 x = true → rk (sg a (bsO xs)) x < rkT (sg a (bsO xs)) t → n ∉ sg a (bsO xs) x) (fun k => t.length - k.1) (0, ds, zs) [.bk b2 ds, .rd ds (Ar.mk zs : Ar 48 Bool)] (by kernel_rfl) ⟨Nat.zero_le _, hzl, by simp, fun x _ _ h => .inl h, hO.se⟩ rfl ?_
    intro ⟨k, es, ys⟩ u l' hl' ⟨hk, hyl, hin, hsub, hse⟩
    simp only [patch, List.map_cons, List.map_nil, List.set_cons_zero, List.set_cons_succ] at hl'
    subst hl'
    simp only [List.cons_append, List.nil_append] at hk hyl hin hsub hse ⊢
    have htk : k < t.length → -24 ≤ t.getD k 0 := fun h => (termOk_get hO.ok h).1
    repeat' (first | refine red ?_ | refine redf fun hbi => ?_ | refine reds ?_ | refine redc fun r => ?_ | refine redp (fun r => ?_) (fun r => ?_) | refine redv fun sv => ?_ | refine redn fun b => ?_ | refine redz fun zs => ?_ | refine redq (fun hc => ?_) (fun hc => ?_) | with_reducible refine wq_blk_o rfl ?_ | (refine redd fun p cs as_ hcs has hf => ?_; simp only [Un.cells, Un.atoms, Un.fact, List.cons_append, List.nil_append] at hcs has hf; subst hcs has) | (refine redi (fun hc => ?_) (fun hc => ?_) <;> try first | (exfalso; omega) | exact absurd rfl hc) | fail)
    · refine ⟨⟨(true, es, ys), hyl, fun _ => ?_, fun h => by cases h⟩, rfl, ent_e⟩
      rw [mem_fm]
      refine ⟨n, by rw [← hc]; exact getD_mem (by omega), ?_⟩
      rw [hT2.un n hnr.1 hnr.2 hO.fr]; simp
    · refine wq_next (k + 1, es, ys) ⟨by simp only; omega, hyl, fun m hm => ?_, hsub, hse⟩ (by simp only; omega) (by kernel_rfl) ent_e
      rcases (mem_take_succ (by omega)).1 hm with h | h
      · exact hin m h
      · rw [h, hT2.io.sb.pos _ hc, List.mem_singleton]; omega
    · refine wq_next (k + 1, es, ys) ⟨by simp only; omega, hyl, fun m hm => ?_, hsub, hse⟩ (by simp only; omega) (by kernel_rfl) ent_e
      have h0 : t.getD k 0 < 0 := by assumption
      rcases (mem_take_succ (by omega)).1 hm with h | h
      · exact hin m h
      · rw [h]
        exact hse _ (htk (by omega)) h0 hc (rkT_mem (getD_mem (by omega)) h0)
    · have h0 : t.getD k 0 < 0 := by assumption
      have hkt : k < t.length := by omega
      have hne : ¬ t.getD k 0 = n := by assumption
      have hmr : -24 ≤ t.getD k 0 ∧ t.getD k 0 < 0 := ⟨htk hkt, h0⟩
      have hbd : bdF (bsO xs) (t.getD k 0) ≠ [] := by rw [bd_ne]; exact hc
      obtain ⟨b1, b2', b3⟩ := hT2.bo _ hmr.1 h0 hbd
      have hrm := rkT_mem (σ := sg a (bsO xs)) (getD_mem hkt) h0
      have hrb := rkT_bd hT2 hmr.1 h0 hbd
      have hocc : OccP a (bsO xs) n (xs.getD (-1 - t.getD k 0).toNat default).xs (ys.set (-1 - t.getD k 0).toNat true) := by
        rw [← bd_ne]
        refine ⟨hO.tri, hnr, hO.fr, b1, by rw [List.length_set]; exact hyl, fun x h1 h2 h3 h4 => ?_⟩
        rcases (sn_set hyl hmr ⟨h1, h2⟩).1 h3 with e | e
        · rw [e] at h4; omega
        · exact hse x h1 h2 e (by omega)
      have hlt : rkT (sg a (bsO xs)) (xs.getD (-1 - t.getD k 0).toNat default).xs < N := by rw [← bd_ne]; omega
      refine redc (fun r => ?_) ⟨hocc, hlt⟩
      obtain ⟨⟨q1, q2, q3⟩, hq1, hq2, hq3⟩ := r
      simp only at hq1 hq2 hq3 ⊢
      rw [← bd_ne, ← b2'] at hq2 hq3
      repeat' (first | refine red ?_ | refine redf fun hbi => ?_ | refine reds ?_ | refine redc fun r => ?_ | refine redp (fun r => ?_) (fun r => ?_) | refine redv fun sv => ?_ | refine redn fun b => ?_ | refine redz fun zs => ?_ | refine redq (fun hc => ?_) (fun hc => ?_) | with_reducible refine wq_blk_o rfl ?_ | (refine redd fun p cs as_ hcs has hf => ?_; simp only [Un.cells, Un.atoms, Un.fact, List.cons_append, List.nil_append] at hcs has hf; subst hcs has) | (refine redi (fun hc => ?_) (fun hc => ?_) <;> try first | (exfalso; omega) | exact absurd rfl hc) | fail)
      · refine ⟨⟨(true, q2, q3), hq1, fun _ => ?_, fun h => by cases h⟩, rfl, ent_e⟩
        rw [mem_fm]
        exact ⟨_, getD_mem hkt, hq2 (by assumption)⟩
      · obtain ⟨h5, h6, h7⟩ := hq3 (by assumption)
        refine wq_next (k + 1, q2, q3) ⟨by simp only; omega, hq1, fun m hm => ?_, fun x h1 h2 h3 => ?_, fun x h1 h2 h3 h4 => ?_⟩ (by simp only; omega) (by kernel_rfl) ent_e
        · rcases (mem_take_succ hkt).1 hm with h | h
          · exact hin m h
          · rw [h]; exact h5
        · rcases h6 x h1 h2 h3 with h | h
          · rcases (sn_set hyl hmr ⟨h1, h2⟩).1 h with e | e
            · rw [e]; exact .inr hrm
            · exact hsub x h1 h2 e
          · exact .inr (by omega)
        · by_cases h8 : rk (sg a (bsO xs)) x < rkT (sg a (bsO xs)) (bdF (bsO xs) (t.getD k 0))
          · exact h7 x h1 h2 h3 h8
          · rcases h6 x h1 h2 h3 with h | h
            · rcases (sn_set hyl hmr ⟨h1, h2⟩).1 h with e | e
              · rw [e]; exact h5
              · exact hse x h1 h2 e h4
            · exact absurd h h8
    · have h0 : t.getD k 0 < 0 := by assumption
      have hkt : k < t.length := by omega
      have hne : ¬ t.getD k 0 = n := by assumption
      have hmr : -24 ≤ t.getD k 0 ∧ t.getD k 0 < 0 := ⟨htk hkt, h0⟩
      have hbd : bdF (bsO xs) (t.getD k 0) = [] := by rw [bd_ne]; exact hc
      have hrm := rkT_mem (σ := sg a (bsO xs)) (getD_mem hkt) h0
      have h5 : n ∉ sg a (bsO xs) (t.getD k 0) := by
        rw [hT2.un _ hmr.1 h0 hbd, List.mem_singleton]; omega
      refine wq_next (k + 1, es.set (-1 - t.getD k 0).toNat (.bool true), ys.set (-1 - t.getD k 0).toNat true) ⟨by simp only; omega, by simp only [List.length_set]; exact hyl, fun m hm => ?_, fun x h1 h2 h3 => ?_, fun x h1 h2 h3 h4 => ?_⟩ (by simp only; omega) (by kernel_rfl) ent_e
      · rcases (mem_take_succ hkt).1 hm with h | h
        · exact hin m h
        · rw [h]; exact h5
      · rcases (sn_set hyl hmr ⟨h1, h2⟩).1 h3 with e | e
        · rw [e]; exact .inr hrm
        · exact hsub x h1 h2 e
      · rcases (sn_set hyl hmr ⟨h1, h2⟩).1 h3 with e | e
        · rw [e]; exact h5
        · exact hse x h1 h2 e h4
    · rw [List.take_of_length_le (by omega)] at hin
      refine ⟨⟨(false, es, ys), hyl, fun h => (by cases h), fun _ => ⟨fun h => ?_, hsub, hse⟩⟩, rfl, ent_e⟩
      obtain ⟨m, hm, hnm⟩ := mem_fm.1 h
      exact hin m hm hnm
theorem occurs_spec {w0 : World} {Γ Δ : List Atom} {b b2 : Nat} {vs v : Value} {cs ds : List Value} {xs : List (NE Int)} {zs : List Bool} {a t : List Int} {n : Int} [hb2 : PullBk Γ b2 ds Δ] [hb : HasBk Δ b (vs :: cs)] [hv : HasRd (List Int) repList Δ [vs] a] [hr : HasIm (Ar 48 (NE Int)) repAr Δ cs (Ar.mk xs)] [hz : HasIm (Ar 48 Bool) repAr Δ ds (Ar.mk zs)] [h2 : HasIm (List Int) repList Δ [v] t] (ht : OccP a (bsO xs) n t zs) :
    CJ Try.prog 189 [.pointer (some ⟨b, 0, none⟩), .int .i64 n, v, .pointer (some ⟨b2, 0, none⟩)] w0 Γ (fun p : OccT a (bsO xs) n t zs => .bool p.1.1) (fun p => .bk b2 p.1.2.1 :: .rd p.1.2.1 (Ar.mk p.1.2.2 : Ar 48 Bool) :: Δ) := by
  exact occurs_rec _ ⟨ht, Nat.lt_succ_self _⟩

instance occurs_ctr {Γ Δ : List Atom} {b b2 : Nat} {vs v : Value} {cs ds : List Value} {xs : List (NE Int)} {zs : List Bool} {a t : List Int} {n : Int} [hb2 : PullBk Γ b2 ds Δ] [hb : HasBk Δ b (vs :: cs)] [hv : HasRd (List Int) repList Δ [vs] a] [hr : HasIm (Ar 48 (NE Int)) repAr Δ cs (Ar.mk xs)] [hz : HasIm (Ar 48 Bool) repAr Δ ds (Ar.mk zs)] [h2 : HasIm (List Int) repList Δ [v] t] :
    CtrC Try.prog 189 [.pointer (some ⟨b, 0, none⟩), .int .i64 n, v, .pointer (some ⟨b2, 0, none⟩)] Γ (OccP a (bsO xs) n t zs) (OccT a (bsO xs) n t zs) (fun p : OccT a (bsO xs) n t zs => .bool p.1.1) (fun p => .bk b2 p.1.2.1 :: .rd p.1.2.1 (Ar.mk p.1.2.2 : Ar 48 Bool) :: Δ) := ⟨fun s w0 => occurs_spec s⟩

/-! ### A term with all bindings -/
structure ResP (a : List Int) (bs : List (List Int)) (t : List Int) : Prop where
  tri : TriE a bs
  ok : termOk a t = true
noncomputable def resOk (a : List Int) (bs : List (List Int)) (o t : List Int) : Bool := decide (o.length + (fm (sg a bs) t).length ≤ 60)
theorem res_yes {a : List Int} {bs : List (List Int)} {o t : List Int} (h : o.length + (fm (sg a bs) t).length ≤ 60) : resOk a bs o t = true := decide_eq_true h
theorem res_no {a : List Int} {bs : List (List Int)} {o t : List Int} (h : 60 < o.length + (fm (sg a bs) t).length) : resOk a bs o t = false := decide_eq_false (by omega)
theorem fm_take {f : Int → List Int} {t : List Int} {k : Nat} (h : k < t.length) : fm f (t.take (k + 1)) = fm f (t.take k) ++ f (t.getD k 0) := by
  rw [List.take_succ_eq_append_getElem h, fm_app, fm_one, List.getD_eq_getElem?_getD, List.getElem?_eq_getElem h]; rfl
theorem fm_take_le {f : Int → List Int} {t : List Int} (k : Nat) : (fm f (t.take k)).length ≤ (fm f t).length := by
  conv => rhs; rw [← List.take_append_drop k t, fm_app, List.length_append]
  omega
noncomputable def resL (a : List Int) (bs : List (List Int)) (o t : List Int) : List Int := if resOk a bs o t = true then o ++ fm (sg a bs) t else []
theorem resolve_rec (N : Nat) : ∀ {w0 : World} {Γ Δ : List Atom} {b : Nat} {vs v vo : Value} {cs : List Value} {xs : List (NE Int)} {a t o : List Int} [ho : PullOw (List Int) repList Γ [vo] o Δ] [hb : HasBk Δ b (vs :: cs)] [hv : HasRd (List Int) repList Δ [vs] a] [hr : HasIm (Ar 48 (NE Int)) repAr Δ cs (Ar.mk xs)] [h2 : HasIm (List Int) repList Δ [v] t] (ht : ResP a (bsO xs) t ∧ o.length ≤ 60 ∧ rkT (sg a (bsO xs)) t < N),
    CJ Try.prog 138 [.pointer (some ⟨b, 0, none⟩), vo, v] w0 Γ (fun p : Value => .tuple #[p, .bool (resOk a (bsO xs) o t)]) (fun p => .ow [p] (resL a (bsO xs) o t) :: Δ) := by
  induction N with
  | zero =>
    intro w0 Γ Δ b vs v vo cs xs a t o ho hb hv hr h2 ht
    omega
  | succ N ih =>
    intro w0 Γ Δ b vs v vo cs xs a t o ho hb hv hr h2 ht
    haveI hI : ∀ (Γ Δ : List Atom) (b : Nat) (vs v vo : Value) (cs : List Value) (xs : List (NE Int)) (a t o : List Int) [PullOw (List Int) repList Γ [vo] o Δ] [HasBk Δ b (vs :: cs)] [HasRd (List Int) repList Δ [vs] a] [HasIm (Ar 48 (NE Int)) repAr Δ cs (Ar.mk xs)] [HasIm (List Int) repList Δ [v] t], CtrC Try.prog 138 [.pointer (some ⟨b, 0, none⟩), vo, v] Γ (ResP a (bsO xs) t ∧ o.length ≤ 60 ∧ rkT (sg a (bsO xs)) t < N) Value (fun p => .tuple #[p, .bool (resOk a (bsO xs) o t)]) (fun p => .ow [p] (resL a (bsO xs) o t) :: Δ) := fun Γ Δ b vs v vo cs xs a t o _ _ _ _ _ => ⟨fun s w0 => ih s⟩
    refine cj_perm ho.perm ?_
    obtain ⟨hO, hol, hN⟩ := ht
    have hT2 := tri_sg hO.tri
    have htl := termOk_len hO.ok
    refine cj_enter Try.func138 Try.ntmps138 ?_
    repeat' (first | refine red ?_ | refine redf fun hbi => ?_ | refine reds ?_ | refine redc fun r => ?_ | refine redp (fun r => ?_) (fun r => ?_) | refine redv fun sv => ?_ | refine redn fun b => ?_ | refine redz fun zs => ?_ | refine redq (fun hc => ?_) (fun hc => ?_) | with_reducible refine wq_blk_o rfl ?_ | (refine redd fun p cs as_ hcs has hf => ?_; simp only [Un.cells, Un.atoms, Un.fact, List.cons_append, List.nil_append] at hcs has hf; subst hcs has) | (refine redi (fun hc => ?_) (fun hc => ?_) <;> try first | (exfalso; omega) | exact absurd rfl hc) | fail)
    refine wc_loop_p [1, 13] [14, 15, 16, 9, 17, 18, 19, 20, 21, 22, 23, 24, 25, 26, 27, 28, 10, 30, 31, 32, 33, 34, 35, 36, 37, 38, 39, 29, 40, 41, 42, 43, 6, 7, 44, 45, 46, 47, 48, 49, 50, 51] (ι := Value × Nat) (fun k => [k.1, .int .i64 k.2]) (fun k => [.ow [k.1] (o ++ fm (sg a (bsO xs)) (t.take k.2))]) (fun k => k.2 ≤ t.length ∧ o.length + (fm (sg a (bsO xs)) (t.take k.2)).length ≤ 60) (fun k => t.length - k.2) (vo, 0) [.ow [vo] o] (by kernel_rfl) ⟨Nat.zero_le _, by simpa [fm] using hol⟩ (by simp [fm]) ?_
    intro ⟨wo, k⟩ u l' hl' ⟨hk, hkk⟩
    simp only [patch, List.map_cons, List.map_nil, List.set_cons_zero, List.set_cons_succ] at hl'
    subst hl'
    simp only [List.cons_append, List.nil_append] at hk hkk ⊢
    have htk : k < t.length → -24 ≤ t.getD k 0 := fun h => (termOk_get hO.ok h).1
    have hfl := fm_take_le (f := sg a (bsO xs)) (t := t) (k + 1)
    have hla : (o ++ fm (sg a (bsO xs)) (t.take k)).length = o.length + (fm (sg a (bsO xs)) (t.take k)).length := List.length_append
    have hone : k < t.length → sg a (bsO xs) (t.getD k 0) = [t.getD k 0] → fm (sg a (bsO xs)) (t.take (k + 1)) = fm (sg a (bsO xs)) (t.take k) ++ [t.getD k 0] := fun h e => by rw [fm_take h, e]
    have hfull : k < t.length → sg a (bsO xs) (t.getD k 0) = [t.getD k 0] → (o ++ fm (sg a (bsO xs)) (t.take k)).length = 60 → resOk a (bsO xs) o t = false := fun h e h60 => by
      refine res_no ?_
      rw [hone h e, List.length_append] at hfl
      simp only [List.length_singleton] at hfl
      omega
    have happ : k < t.length → sg a (bsO xs) (t.getD k 0) = [t.getD k 0] → o ++ fm (sg a (bsO xs)) (t.take k) ++ [t.getD k 0] = o ++ fm (sg a (bsO xs)) (t.take (k + 1)) := fun h e => by rw [hone h e, List.append_assoc]
    have hlen2 : k < t.length → sg a (bsO xs) (t.getD k 0) = [t.getD k 0] → (fm (sg a (bsO xs)) (t.take (k + 1))).length = (fm (sg a (bsO xs)) (t.take k)).length + 1 := fun h e => by rw [hone h e, List.length_append]; rfl
    have hpos : 0 ≤ t.getD k 0 → sg a (bsO xs) (t.getD k 0) = [t.getD k 0] := hT2.io.sb.pos _
    have hunb : k < t.length → t.getD k 0 < 0 → (xs.getD (-1 - t.getD k 0).toNat default).xs = [] → sg a (bsO xs) (t.getD k 0) = [t.getD k 0] := fun h h0 e => hT2.un _ (htk h) h0 (by rw [bd_ne]; exact e)
    have hnil : resOk a (bsO xs) o t = false → resL a (bsO xs) o t = [] := fun h => by unfold resL; rw [h]; rfl
    repeat' (first | refine red ?_ | refine redf fun hbi => ?_ | refine reds ?_ | refine redc fun r => ?_ | refine redp (fun r => ?_) (fun r => ?_) | refine redv fun sv => ?_ | refine redn fun b => ?_ | refine redz fun zs => ?_ | refine redq (fun hc => ?_) (fun hc => ?_) | with_reducible refine wq_blk_o rfl ?_ | (refine redd fun p cs as_ hcs has hf => ?_; simp only [Un.cells, Un.atoms, Un.fact, List.cons_append, List.nil_append] at hcs has hf; subst hcs has) | (refine redi (fun hc => ?_) (fun hc => ?_) <;> try first | (exfalso; omega) | exact absurd rfl hc) | fail)
    · have h0 : t.getD k 0 < 0 := by assumption
      have hkt : k < t.length := by omega
      have hmr : -24 ≤ t.getD k 0 ∧ t.getD k 0 < 0 := ⟨htk hkt, h0⟩
      have hbd : bdF (bsO xs) (t.getD k 0) ≠ [] := by rw [bd_ne]; exact hc
      obtain ⟨b1, b2', b3⟩ := hT2.bo _ hmr.1 h0 hbd
      have hrm := rkT_mem (σ := sg a (bsO xs)) (getD_mem hkt) h0
      have hrb := rkT_bd hT2 hmr.1 h0 hbd
      rw [fm_take hkt, b2', List.length_append] at hfl
      have hft : fm (sg a (bsO xs)) (t.take (k + 1)) = fm (sg a (bsO xs)) (t.take k) ++ fm (sg a (bsO xs)) (bdF (bsO xs) (t.getD k 0)) := by rw [fm_take hkt, b2']
      rw [bd_ne] at b1 hrb hfl hft
      refine redc (fun r => ?_) ⟨⟨hO.tri, b1⟩, by rw [hla]; exact hkk, by omega⟩
      repeat' (first | refine red ?_ | refine redf fun hbi => ?_ | refine reds ?_ | refine redc fun r => ?_ | refine redp (fun r => ?_) (fun r => ?_) | refine redv fun sv => ?_ | refine redn fun b => ?_ | refine redz fun zs => ?_ | refine redq (fun hc => ?_) (fun hc => ?_) | with_reducible refine wq_blk_o rfl ?_ | (refine redd fun p cs as_ hcs has hf => ?_; simp only [Un.cells, Un.atoms, Un.fact, List.cons_append, List.nil_append] at hcs has hf; subst hcs has) | (refine redi (fun hc => ?_) (fun hc => ?_) <;> try first | (exfalso; omega) | exact absurd rfl hc) | fail)
      · have e : resOk a (bsO xs) o t = false := by
          refine res_no ?_
          unfold resOk at hc
          rw [decide_eq_false_iff_not, hla] at hc
          omega
        rw [hnil e, e]
        exact ⟨_, rfl, ent_e⟩
      · have hres : resL a (bsO xs) (o ++ fm (sg a (bsO xs)) (t.take k)) (xs.getD (-1 - t.getD k 0).toNat default).xs = o ++ fm (sg a (bsO xs)) (t.take (k + 1)) := by
          unfold resL
          rw [if_pos (by assumption), hft, List.append_assoc]
        rw [hres]
        refine wq_next (r, k + 1) ⟨by simp only; omega, ?_⟩ (by simp only; omega) (by kernel_rfl) ent_e
        simp only
        have hc2 : resOk a (bsO xs) (o ++ fm (sg a (bsO xs)) (t.take k)) (xs.getD (-1 - t.getD k 0).toNat default).xs = true := by assumption
        unfold resOk at hc2
        rw [decide_eq_true_iff, hla] at hc2
        rw [hft, List.length_append]
        omega
    · have e := hfull (by omega) (hunb (by omega) (by assumption) (by assumption)) (by omega)
      rw [hnil e, e]
      exact ⟨_, rfl, ent_e⟩
    · have e1 := hunb (by omega) (by assumption) (by assumption)
      rw [happ (by omega) e1]
      refine wq_next (sv, k + 1) ⟨by simp only; omega, ?_⟩ (by simp only; omega) (by kernel_rfl) ent_e
      simp only
      rw [hlen2 (by omega) e1]
      omega
    · have e := hfull (by omega) (hpos (by assumption)) (by omega)
      rw [hnil e, e]
      exact ⟨_, rfl, ent_e⟩
    · have e1 := hpos (by assumption)
      rw [happ (by omega) e1]
      refine wq_next (sv, k + 1) ⟨by simp only; omega, ?_⟩ (by simp only; omega) (by kernel_rfl) ent_e
      simp only
      rw [hlen2 (by omega) e1]
      omega
    · rw [List.take_of_length_le (by omega)] at hkk ⊢
      have e := res_yes hkk
      have e2 : resL a (bsO xs) o t = o ++ fm (sg a (bsO xs)) t := by unfold resL; rw [if_pos e]
      rw [e, e2]
      exact ⟨_, rfl, ent_e⟩
theorem resolve_spec {w0 : World} {Γ Δ : List Atom} {b : Nat} {vs v vo : Value} {cs : List Value} {xs : List (NE Int)} {a t o : List Int} [ho : PullOw (List Int) repList Γ [vo] o Δ] [hb : HasBk Δ b (vs :: cs)] [hv : HasRd (List Int) repList Δ [vs] a] [hr : HasIm (Ar 48 (NE Int)) repAr Δ cs (Ar.mk xs)] [h2 : HasIm (List Int) repList Δ [v] t] (ht : ResP a (bsO xs) t ∧ o.length ≤ 60) :
    CJ Try.prog 138 [.pointer (some ⟨b, 0, none⟩), vo, v] w0 Γ (fun p : Value => .tuple #[p, .bool (resOk a (bsO xs) o t)]) (fun p => .ow [p] (resL a (bsO xs) o t) :: Δ) := by
  exact resolve_rec _ ⟨ht.1, ht.2, Nat.lt_succ_self _⟩
instance resolve_ctr {Γ Δ : List Atom} {b : Nat} {vs v vo : Value} {cs : List Value} {xs : List (NE Int)} {a t o : List Int} [ho : PullOw (List Int) repList Γ [vo] o Δ] [hb : HasBk Δ b (vs :: cs)] [hv : HasRd (List Int) repList Δ [vs] a] [hr : HasIm (Ar 48 (NE Int)) repAr Δ cs (Ar.mk xs)] [h2 : HasIm (List Int) repList Δ [v] t] :
    CtrC Try.prog 138 [.pointer (some ⟨b, 0, none⟩), vo, v] Γ (ResP a (bsO xs) t ∧ o.length ≤ 60) (Value) (fun p : Value => .tuple #[p, .bool (resOk a (bsO xs) o t)]) (fun p => .ow [p] (resL a (bsO xs) o t) :: Δ) := ⟨fun s w0 => resolve_spec s⟩

/-- Into nothing. -/
theorem resolve0_spec {w0 : World} {Γ : List Atom} {b : Nat} {vs v : Value} {cs : List Value} {xs : List (NE Int)} {a t : List Int} [hb : HasBk Γ b (vs :: cs)] [hv : HasRd (List Int) repList Γ [vs] a] [hr : HasIm (Ar 48 (NE Int)) repAr Γ cs (Ar.mk xs)] [h2 : HasIm (List Int) repList Γ [v] t] (ht : ResP a (bsO xs) t) :
    CJ Try.prog 138 [.pointer (some ⟨b, 0, none⟩), .slice none 0 0, v] w0 Γ (fun p : Value => .tuple #[p, .bool (resOk a (bsO xs) [] t)]) (fun p => .ow [p] (resL a (bsO xs) [] t) :: Γ) := by
  have h1 : CJ Try.prog 138 [.pointer (some ⟨b, 0, none⟩), .slice none 0 0, v] w0 (.ow [.slice none 0 0] ([] : List Int) :: Γ) (fun p : Value => .tuple #[p, .bool (resOk a (bsO xs) [] t)]) (fun p => .ow [p] (resL a (bsO xs) [] t) :: Γ) := resolve_rec _ ⟨ht, by simp, Nat.lt_succ_self _⟩
  intro w hs
  have ht : TakeL Γ [.ow [.slice none 0 0] ([] : List Int)] Γ := inferInstance
  exact h1 w (SepEnt.sat ht.ent hs)
instance resolve0_ctr {Γ : List Atom} {b : Nat} {vs v : Value} {cs : List Value} {xs : List (NE Int)} {a t : List Int} [hb : HasBk Γ b (vs :: cs)] [hv : HasRd (List Int) repList Γ [vs] a] [hr : HasIm (Ar 48 (NE Int)) repAr Γ cs (Ar.mk xs)] [h2 : HasIm (List Int) repList Γ [v] t] :
    CtrC Try.prog 138 [.pointer (some ⟨b, 0, none⟩), .slice none 0 0, v] Γ (ResP a (bsO xs) t) (Value) (fun p : Value => .tuple #[p, .bool (resOk a (bsO xs) [] t)]) (fun p => .ow [p] (resL a (bsO xs) [] t) :: Γ) := ⟨fun s w0 => resolve0_spec s⟩

end Go.Proofs.Ytcpfcnjchlbapaa
