/- The sentence of a claim. -/
import Derived.Test.YtfpjpbkilahopaaDoorTxtI
namespace Go.Proofs.YtfpjpbkilahopaaDoor
open Go Go.Eng
set_option linter.unusedVariables false
set_option linter.unusedSimpArgs false
set_option synthInstance.maxHeartbeats 400000
set_option synthInstance.maxSize 1000
set_option maxHeartbeats 2000000
set_option maxRecDepth 20000

/-- The sentence of kind k about the texts A and B. -/
def ctOf (k : Int) (A B : ByteArray) : ByteArray :=
  if k = 3 then ({ data := #[101, 97, 99, 104, 32, 119, 97, 108, 107, 32, 101, 110, 100, 115] } : ByteArray) else if k = 5 then ({ data := #[111, 110, 101, 32, 111, 117, 116, 99, 111, 109, 101] } : ByteArray) else
  if A = { data := #[] } then { data := #[] } else
  if k = 4 then ({ data := #[102, 114, 111, 109, 32] } : ByteArray) ++ A ++ ({ data := #[32, 97, 32, 119, 97, 108, 107, 32, 103, 111, 101, 115, 32, 111, 110] } : ByteArray) else if k = 6 then ({ data := #[102, 114, 111, 109, 32] } : ByteArray) ++ A ++ ({ data := #[32, 116, 119, 111, 32, 111, 117, 116, 99, 111, 109, 101, 115] } : ByteArray) else
  if B = { data := #[] } then { data := #[] } else
  if k = 1 then A ++ ({ data := #[32, 119, 97, 108, 107, 115, 32, 116, 111, 32] } : ByteArray) ++ B ++ ({ data := #[44, 32, 110, 111, 114, 109, 97, 108] } : ByteArray) else if k = 2 then A ++ ({ data := #[32, 97, 110, 100, 32] } : ByteArray) ++ B ++ ({ data := #[32, 106, 111, 105, 110] } : ByteArray) else if k = 7 then A ++ ({ data := #[32, 97, 110, 100, 32] } : ByteArray) ++ B ++ ({ data := #[32, 97, 114, 101, 32, 117, 110, 101, 113, 117, 97, 108] } : ByteArray) else if k = 8 then A ++ ({ data := #[32, 97, 110, 100, 32] } : ByteArray) ++ B ++ ({ data := #[32, 97, 114, 101, 32, 101, 113, 117, 97, 108] } : ByteArray) else { data := #[] }
theorem spec_ClaimText_spec {w0 : World} {Γ : List Atom} {v vt vs : Value} {a t s : List Int} {k : Int} [h : HasRd (List Int) repList Γ [v] a] [h1 : HasRd (List Int) repList Γ [vt] t] [h2 : HasRd (List Int) repList Γ [vs] s] (hk : -9223372036854775808 ≤ k ∧ k ≤ 9223372036854775807) :
    CJ Tryd.prog 7 [.agg #[v], .agg #[.int .i64 k, vt, vs]] w0 Γ (fun _ : Unit => .string (ctOf k (S (TT a t)) (S (TT a s)))) (fun _ => Γ) := by
  refine cj_lift (R := [.rd [v] a, .rd [vt] t, .rd [vs] s]) (A := fun _ => []) (fun w1 => ?_) (reads_cons h (reads_cons h1 (reads_cons h2 (inferInstance)))) (fun _ => inferInstance)
  simp only [List.cons_append, List.nil_append]
  have ha := TT_len a t
  have hb := TT_len a s
  have sa := S_size (TT a t)
  have sb := S_size (TT a s)
  have c0 : ({ data := #[32, 119, 97, 108, 107, 115, 32, 116, 111, 32] } : ByteArray).size = 10 := rfl
  have c1 : ({ data := #[44, 32, 110, 111, 114, 109, 97, 108] } : ByteArray).size = 8 := rfl
  have c2 : ({ data := #[32, 97, 110, 100, 32] } : ByteArray).size = 5 := rfl
  have c3 : ({ data := #[32, 106, 111, 105, 110] } : ByteArray).size = 5 := rfl
  have c4 : ({ data := #[101, 97, 99, 104, 32, 119, 97, 108, 107, 32, 101, 110, 100, 115] } : ByteArray).size = 14 := rfl
  have c5 : ({ data := #[102, 114, 111, 109, 32] } : ByteArray).size = 5 := rfl
  have c6 : ({ data := #[32, 97, 32, 119, 97, 108, 107, 32, 103, 111, 101, 115, 32, 111, 110] } : ByteArray).size = 15 := rfl
  have c7 : ({ data := #[111, 110, 101, 32, 111, 117, 116, 99, 111, 109, 101] } : ByteArray).size = 11 := rfl
  have c8 : ({ data := #[32, 116, 119, 111, 32, 111, 117, 116, 99, 111, 109, 101, 115] } : ByteArray).size = 13 := rfl
  have c9 : ({ data := #[32, 97, 114, 101, 32, 117, 110, 101, 113, 117, 97, 108] } : ByteArray).size = 12 := rfl
  have c10 : ({ data := #[32, 97, 114, 101, 32, 101, 113, 117, 97, 108] } : ByteArray).size = 10 := rfl
  have hap : ∀ x y : ByteArray, (x ++ y).size = x.size + y.size := fun x y => by simp [ByteArray.size_append]
  have ap1 := hap (S (TT a t)) ({ data := #[32, 119, 97, 108, 107, 115, 32, 116, 111, 32] } : ByteArray)
  have ap2 := hap (S (TT a t)) ({ data := #[32, 97, 110, 100, 32] } : ByteArray)
  have ap3 := hap ({ data := #[102, 114, 111, 109, 32] } : ByteArray) (S (TT a t))
  have ap4 := hap (S (TT a t) ++ ({ data := #[32, 119, 97, 108, 107, 115, 32, 116, 111, 32] } : ByteArray)) (S (TT a s))
  have ap5 := hap (S (TT a t) ++ ({ data := #[32, 97, 110, 100, 32] } : ByteArray)) (S (TT a s))
  clear hap
  refine cj_enter Tryd.func7 Tryd.ntmps7 ?_
  repeat' (first | refine red ?_ | refine redf fun hbi => ?_ | refine reds ?_ | refine redc fun r => ?_ | refine redp (fun r => ?_) (fun r => ?_) | refine redv fun sv => ?_ | refine redn fun b => ?_ | refine redz fun zs => ?_ | refine redq (fun hc => ?_) (fun hc => ?_) | with_reducible refine wq_blk_o rfl ?_ | (refine redi (fun hc => ?_) (fun hc => ?_) <;> try first | (exfalso; omega) | with_reducible first | exact absurd rfl hc | exact absurd hc Bool.false_ne_true | exact absurd hc Bool.false_ne_true.symm) | fail)
  all_goals refine ⟨(), congrArg Value.string ?_, ent_e⟩
  all_goals unfold ctOf
  all_goals (repeat' split) <;> first | with_reducible rfl | contradiction | (exfalso; omega)
instance spec_ClaimText_ctr {Γ : List Atom} {v vt vs : Value} {a t s : List Int} {k : Int} [h : HasRd (List Int) repList Γ [v] a] [h1 : HasRd (List Int) repList Γ [vt] t] [h2 : HasRd (List Int) repList Γ [vs] s] :
    CtrC Tryd.prog 7 [.agg #[v], .agg #[.int .i64 k, vt, vs]] Γ (-9223372036854775808 ≤ k ∧ k ≤ 9223372036854775807) (Unit) (fun _ : Unit => .string (ctOf k (S (TT a t)) (S (TT a s)))) (fun _ => Γ) := ⟨fun s w0 => spec_ClaimText_spec s⟩

theorem impl_ClaimText_spec {w0 : World} {Γ : List Atom} {v vt vs : Value} {a t s : List Int} {k : Int} [h : HasRd (List Int) repList Γ [v] a] [h1 : HasRd (List Int) repList Γ [vt] t] [h2 : HasRd (List Int) repList Γ [vs] s] (hk : -9223372036854775808 ≤ k ∧ k ≤ 9223372036854775807) :
    CJ Tryd.prog 10 [.agg #[v], .agg #[.int .i64 k, vt, vs]] w0 Γ (fun _ : Unit => .string (ctOf k (S (TT a t)) (S (TT a s)))) (fun _ => Γ) := by
  refine cj_lift (R := [.rd [v] a, .rd [vt] t, .rd [vs] s]) (A := fun _ => []) (fun w1 => ?_) (reads_cons h (reads_cons h1 (reads_cons h2 (inferInstance)))) (fun _ => inferInstance)
  simp only [List.cons_append, List.nil_append]
  have ha := TT_len a t
  have hb := TT_len a s
  have sa := S_size (TT a t)
  have sb := S_size (TT a s)
  have c0 : ({ data := #[32, 119, 97, 108, 107, 115, 32, 116, 111, 32] } : ByteArray).size = 10 := rfl
  have c1 : ({ data := #[44, 32, 110, 111, 114, 109, 97, 108] } : ByteArray).size = 8 := rfl
  have c2 : ({ data := #[32, 97, 110, 100, 32] } : ByteArray).size = 5 := rfl
  have c3 : ({ data := #[32, 106, 111, 105, 110] } : ByteArray).size = 5 := rfl
  have c4 : ({ data := #[101, 97, 99, 104, 32, 119, 97, 108, 107, 32, 101, 110, 100, 115] } : ByteArray).size = 14 := rfl
  have c5 : ({ data := #[102, 114, 111, 109, 32] } : ByteArray).size = 5 := rfl
  have c6 : ({ data := #[32, 97, 32, 119, 97, 108, 107, 32, 103, 111, 101, 115, 32, 111, 110] } : ByteArray).size = 15 := rfl
  have c7 : ({ data := #[111, 110, 101, 32, 111, 117, 116, 99, 111, 109, 101] } : ByteArray).size = 11 := rfl
  have c8 : ({ data := #[32, 116, 119, 111, 32, 111, 117, 116, 99, 111, 109, 101, 115] } : ByteArray).size = 13 := rfl
  have c9 : ({ data := #[32, 97, 114, 101, 32, 117, 110, 101, 113, 117, 97, 108] } : ByteArray).size = 12 := rfl
  have c10 : ({ data := #[32, 97, 114, 101, 32, 101, 113, 117, 97, 108] } : ByteArray).size = 10 := rfl
  have hap : ∀ x y : ByteArray, (x ++ y).size = x.size + y.size := fun x y => by simp [ByteArray.size_append]
  have ap1 := hap (S (TT a t)) ({ data := #[32, 119, 97, 108, 107, 115, 32, 116, 111, 32] } : ByteArray)
  have ap2 := hap (S (TT a t)) ({ data := #[32, 97, 110, 100, 32] } : ByteArray)
  have ap3 := hap ({ data := #[102, 114, 111, 109, 32] } : ByteArray) (S (TT a t))
  have ap4 := hap (S (TT a t) ++ ({ data := #[32, 119, 97, 108, 107, 115, 32, 116, 111, 32] } : ByteArray)) (S (TT a s))
  have ap5 := hap (S (TT a t) ++ ({ data := #[32, 97, 110, 100, 32] } : ByteArray)) (S (TT a s))
  clear hap
  refine cj_enter Tryd.func10 Tryd.ntmps10 ?_
  repeat' (first | refine red ?_ | refine redf fun hbi => ?_ | refine reds ?_ | refine redc fun r => ?_ | refine redp (fun r => ?_) (fun r => ?_) | refine redv fun sv => ?_ | refine redn fun b => ?_ | refine redz fun zs => ?_ | refine redq (fun hc => ?_) (fun hc => ?_) | with_reducible refine wq_blk_o rfl ?_ | (refine redi (fun hc => ?_) (fun hc => ?_) <;> try first | (exfalso; omega) | with_reducible first | exact absurd rfl hc | exact absurd hc Bool.false_ne_true | exact absurd hc Bool.false_ne_true.symm) | ((refine wa_begin 1 [false, false, false, false, false, false, false, false, false, false] [] ?_ <;> refine wa_p 0 ?_ <;> (first | refine wa_p 1 ?_ | refine wa_p0 1 ?_ | fail) <;> (first | refine wa_f 2 fun hbi => ?_ | refine wa_p 2 ?_ | fail) <;> refine wa_p 4 ?_ <;> (first | refine wa_p 5 ?_ | refine wa_p0 5 ?_ | fail) <;> (first | refine wa_f 6 fun hbi => ?_ | refine wa_p 6 ?_ | fail) <;> (refine wa_do 3 ?_ <;> (repeat' (first | refine red ?_ | refine redc fun r => ?_ | refine redv fun sv => ?_ | refine redf fun hbi => ?_ | refine redn fun b => ?_ | refine reds ?_ | refine redi (fun hc => ?_) (fun hc => ?_) | refine redq (fun hc => ?_) (fun hc => ?_) | refine redp (fun r => ?_) (fun r => ?_) | fail))) <;> (refine wa_do 7 ?_ <;> (repeat' (first | refine red ?_ | refine redc fun r => ?_ | refine redv fun sv => ?_ | refine redf fun hbi => ?_ | refine redn fun b => ?_ | refine reds ?_ | refine redi (fun hc => ?_) (fun hc => ?_) | refine redq (fun hc => ?_) (fun hc => ?_) | refine redp (fun r => ?_) (fun r => ?_) | fail))) <;> (first | refine wa_p 8 ?_ | refine wa_p0 8 ?_) <;> (first | refine wa_p 9 ?_ | refine wa_p0 9 ?_)) <;> (first | refine wa_end ?_ | with_reducible refine wq_keep ?_)) | fail)
  all_goals refine ⟨(), congrArg Value.string ?_, ent_e⟩
  all_goals unfold ctOf
  all_goals (repeat' split) <;> first | with_reducible rfl | contradiction | (exfalso; omega)
instance impl_ClaimText_ctr {Γ : List Atom} {v vt vs : Value} {a t s : List Int} {k : Int} [h : HasRd (List Int) repList Γ [v] a] [h1 : HasRd (List Int) repList Γ [vt] t] [h2 : HasRd (List Int) repList Γ [vs] s] :
    CtrC Tryd.prog 10 [.agg #[v], .agg #[.int .i64 k, vt, vs]] Γ (-9223372036854775808 ≤ k ∧ k ≤ 9223372036854775807) (Unit) (fun _ : Unit => .string (ctOf k (S (TT a t)) (S (TT a s)))) (fun _ => Γ) := ⟨fun s w0 => impl_ClaimText_spec s⟩

theorem ct_len (k : Int) (a t s : List Int) : (ctOf k (S (TT a t)) (S (TT a s))).size ≤ 9223372036854775807 := by
  have ha := TT_len a t
  have hb := TT_len a s
  have sa := S_size (TT a t)
  have sb := S_size (TT a s)
  unfold ctOf
  (repeat' split) <;> (try simp only [ByteArray.size_append, sa, sb]) <;> simp [ByteArray.size] <;> omega
set_option maxHeartbeats 0 in
set_option synthInstance.maxHeartbeats 400000 in
set_option synthInstance.maxSize 1000 in
theorem FnExactClaimText_law {w0 : World} {Γ : List Atom} {x0 : SSig} {x1 : SClaim} {v0_0 v1_1 v1_2 : Value} [h0_0 : HasRd (List Int) repList Γ [v0_0] x0] [h1_1 : HasRd (List Int) repList Γ [v1_1] x1.2.1] [h1_2 : HasRd (List Int) repList Γ [v1_2] x1.2.2] (hf0 : x0.length ≤ 9223372036854775807) (hf1 : (-9223372036854775808 ≤ x1.1 ∧ x1.1 ≤ 9223372036854775807) ∧ (x1.2.1.length ≤ 9223372036854775807) ∧ x1.2.2.length ≤ 9223372036854775807) :
    CJ Tryd.prog 3 [.agg #[v0_0], .agg #[.int .i64 x1.1, v1_1, v1_2]] w0 Γ (fun _ : Unit => .bool true) (fun _ => Γ) := by
  have hz0 := lft_spec 1048576 (Siz.size x0)
  have hz1 := lft_spec (lft 1048576 (Siz.size x0)) (Siz.size x1)
  have hb0_0 := cntL_le x0
  have hl0_0 := siz_ints x0
  have hs1 : Siz.size x1 = Siz.size x1.2.1 + Siz.size x1.2.2 := by simp only [siz_pair, siz_int, siz_bool, siz_str] <;> omega
  have hb1_1 := cntL_le x1.2.1
  have hl1_1 := siz_ints x1.2.1
  have hb1_2 := cntL_le x1.2.2
  have hl1_2 := siz_ints x1.2.2
  have hct := ct_len x1.1 x0 x1.2.1 x1.2.2
  refine cj_enter Tryd.func3 Tryd.ntmps3 ?_
  repeat' (first | refine red ?_ | refine redf fun hbi => ?_ | refine reds ?_ | refine redc fun r => ?_ | refine redp (fun r => ?_) (fun r => ?_) | refine redv fun sv => ?_ | refine redn fun b => ?_ | refine redz fun zs => ?_ | refine redq (fun hc => ?_) (fun hc => ?_) | with_reducible refine wq_blk_o rfl ?_ | (refine redi (fun hc => ?_) (fun hc => ?_) <;> try first | (exfalso; omega) | with_reducible first | exact absurd rfl hc | exact absurd hc Bool.false_ne_true | exact absurd hc Bool.false_ne_true.symm) | ((refine wa_begin 8 [false, false, false, false, false, false] [] ?_ <;> refine wa_p 0 ?_ <;> (first | refine wa_f 2 fun hbi => ?_ | refine wa_p 2 ?_ | fail) <;> (refine wa_do 1 ?_ <;> (repeat' (first | refine red ?_ | refine redc fun r => ?_ | refine redv fun sv => ?_ | refine redf fun hbi => ?_ | refine redn fun b => ?_ | refine reds ?_ | refine redi (fun hc => ?_) (fun hc => ?_) | refine redq (fun hc => ?_) (fun hc => ?_) | refine redp (fun r => ?_) (fun r => ?_) | fail))) <;> (refine wa_do 3 ?_ <;> (repeat' (first | refine red ?_ | refine redc fun r => ?_ | refine redv fun sv => ?_ | refine redf fun hbi => ?_ | refine redn fun b => ?_ | refine reds ?_ | refine redi (fun hc => ?_) (fun hc => ?_) | refine redq (fun hc => ?_) (fun hc => ?_) | refine redp (fun r => ?_) (fun r => ?_) | fail))) <;> (refine wa_do 4 ?_ <;> (repeat' (first | refine red ?_ | refine redc fun r => ?_ | refine redv fun sv => ?_ | refine redf fun hbi => ?_ | refine redn fun b => ?_ | refine reds ?_ | refine redi (fun hc => ?_) (fun hc => ?_) | refine redq (fun hc => ?_) (fun hc => ?_) | refine redp (fun r => ?_) (fun r => ?_) | fail))) <;> (first | refine wa_p 5 ?_ | refine wa_p0 5 ?_)) <;> (first | refine wa_end ?_ | with_reducible refine wq_keep ?_)) | ((refine wa_begin 14 [false, false, false, false, false] [] ?_ <;> refine wa_p 0 ?_ <;> refine wa_p 1 ?_ <;> (refine wa_do 2 ?_ <;> (repeat' (first | refine red ?_ | refine redc fun r => ?_ | refine redv fun sv => ?_ | refine redf fun hbi => ?_ | refine redn fun b => ?_ | refine reds ?_ | refine redi (fun hc => ?_) (fun hc => ?_) | refine redq (fun hc => ?_) (fun hc => ?_) | refine redp (fun r => ?_) (fun r => ?_) | fail))) <;> (refine wa_do 3 ?_ <;> (repeat' (first | refine red ?_ | refine redc fun r => ?_ | refine redv fun sv => ?_ | refine redf fun hbi => ?_ | refine redn fun b => ?_ | refine reds ?_ | refine redi (fun hc => ?_) (fun hc => ?_) | refine redq (fun hc => ?_) (fun hc => ?_) | refine redp (fun r => ?_) (fun r => ?_) | fail))) <;> (first | refine wa_p 4 ?_ | refine wa_p0 4 ?_ | (refine wa_do 4 ?_ <;> (repeat' (first | refine red ?_ | refine redc fun r => ?_ | refine redv fun sv => ?_ | refine redf fun hbi => ?_ | refine redn fun b => ?_ | refine reds ?_ | refine redi (fun hc => ?_) (fun hc => ?_) | refine redq (fun hc => ?_) (fun hc => ?_) | refine redp (fun r => ?_) (fun r => ?_) | fail))) | fail)) <;> (first | refine wa_end ?_ | with_reducible refine wq_keep ?_)) | ((refine wa_begin 16 [false, false, false, false, false] [] ?_ <;> (first | refine wa_f 0 fun hbi => ?_ | refine wa_p 0 ?_ | fail) <;> (first | refine wa_f 1 fun hbi => ?_ | refine wa_p 1 ?_ | (refine wa_do 1 ?_ <;> (repeat' (first | refine red ?_ | refine redc fun r => ?_ | refine redv fun sv => ?_ | refine redf fun hbi => ?_ | refine redn fun b => ?_ | refine reds ?_ | refine redi (fun hc => ?_) (fun hc => ?_) | refine redq (fun hc => ?_) (fun hc => ?_) | refine redp (fun r => ?_) (fun r => ?_) | fail))) | fail) <;> (refine wa_do 2 ?_ <;> (repeat' (first | refine red ?_ | refine redc fun r => ?_ | refine redv fun sv => ?_ | refine redf fun hbi => ?_ | refine redn fun b => ?_ | refine reds ?_ | refine redi (fun hc => ?_) (fun hc => ?_) | refine redq (fun hc => ?_) (fun hc => ?_) | refine redp (fun r => ?_) (fun r => ?_) | fail))) <;> (refine wa_do 3 ?_ <;> (repeat' (first | refine red ?_ | refine redc fun r => ?_ | refine redv fun sv => ?_ | refine redf fun hbi => ?_ | refine redn fun b => ?_ | refine reds ?_ | refine redi (fun hc => ?_) (fun hc => ?_) | refine redq (fun hc => ?_) (fun hc => ?_) | refine redp (fun r => ?_) (fun r => ?_) | fail))) <;> (first | refine wa_p 4 ?_ | refine wa_p0 4 ?_ | (refine wa_do 4 ?_ <;> (repeat' (first | refine red ?_ | refine redc fun r => ?_ | refine redv fun sv => ?_ | refine redf fun hbi => ?_ | refine redn fun b => ?_ | refine reds ?_ | refine redi (fun hc => ?_) (fun hc => ?_) | refine redq (fun hc => ?_) (fun hc => ?_) | refine redp (fun r => ?_) (fun r => ?_) | fail))) | fail)) <;> (first | refine wa_end ?_ | with_reducible refine wq_keep ?_)) | fail)
  all_goals exact ⟨(), rfl, ent_e⟩

end Go.Proofs.YtfpjpbkilahopaaDoor
