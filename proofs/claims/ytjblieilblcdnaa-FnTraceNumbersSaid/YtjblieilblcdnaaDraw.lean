/- Draws: what the numbers and terms of a draw come to. -/
import Derived.Test.YtjblieilblcdnaaEngW
import Derived.Test.YtjblieilblcdnaaL06
namespace Go.Proofs.Ytjblieilblcdnaa
open Go Go.Eng
set_option linter.unusedVariables false
set_option linter.unusedSimpArgs false
set_option synthInstance.maxHeartbeats 400000
set_option synthInstance.maxSize 1000

instance : U8T Try.prog 5 := ⟨Try.underlying5⟩
instance : Op_ Try.prog 5 UInt8 repU8 := op_u8 Try.underlying5 (by kernel_rfl)
instance : Op_ Try.prog 22 (List UInt8) repList := op_slice Try.underlying22 (by kernel_rfl) inferInstance
section w
attribute [local instance 2000] Go.Eng.addW Go.Eng.mulW
theorem l1New_spec {w0 : World} {Γ : List Atom} {v : Value} {code : List UInt8} [h : HasRd (List UInt8) repList Γ [v] code] :
    CJ Try.prog 10 [v] w0 Γ (fun p : Nat × CurS code => .pointer (some ⟨p.1, 0, none⟩)) (fun p => .bk p.1 (cur v p.2) :: Γ) := by
  refine cj_len v fun hlx => ?_
  refine cj_enter Try.func10 Try.ntmps10 ?_
  repeat' (first | refine red ?_ | refine reds ?_ | fail)
  refine wc_loop_c [3, 4] [8, 9, 10, 11, 14, 15, 16, 17, 18, 19, 20, 21, 22, 23, 12, 13] (ι := Int × Nat) (fun k => [.int .i64 k.1, .int .i64 k.2]) (fun k => k.2 ≤ code.length) (fun k => code.length - k.2) (wr (570029 + (code.length : Int)), 0) (by kernel_rfl) (Nat.zero_le _) ?_
  intro ⟨h0, k⟩ u l' hl' hk
  simp only [patch, List.map_cons, List.map_nil, List.set_cons_zero, List.set_cons_succ] at hl'
  subst hl'
  simp only at hk ⊢
  repeat' (first | refine red ?_ | refine reds ?_ | refine redn fun b => ?_ | (refine redi (fun hc => ?_) (fun hc => ?_) <;> try first | (exfalso; omega) | exact absurd rfl hc) | fail)
  · rw [wr_in (n := (k : Int) + 1) (by omega)]
    exact wq_next (wr (wr (wr (h0 * 317) + ((code.getD k 0).toNat : Int)) + 11) % 1073741824, k + 1) (by simp only; omega) (by simp only; omega) (by kernel_rfl) ent_e
  · exact ⟨(b, ⟨(0, h0), Nat.zero_le _⟩), rfl, by show Ent _ _ (.bk b [v, .int .i64 0, .int .i64 h0] :: _); exact ent_e⟩
instance l1New_ctr {Γ : List Atom} {v : Value} {code : List UInt8} [h : HasRd (List UInt8) repList Γ [v] code] :
    CtrC Try.prog 10 [v] Γ (True) (Nat × CurS code) (fun p : Nat × CurS code => .pointer (some ⟨p.1, 0, none⟩)) (fun p => .bk p.1 (cur v p.2) :: Γ) := ⟨fun s w0 => l1New_spec⟩

theorem l1Byte_spec {w0 : World} {Γ Δ : List Atom} {bc : Nat} {vb : Value} {code : List UInt8} {p : CurS code} [hb : PullBk Γ bc (cur vb p) Δ] [hv : HasRd (List UInt8) repList Δ [vb] code] :
    CJ Try.prog 34 [.pointer (some ⟨bc, 0, none⟩)] w0 Γ (fun q : Int × CurS code => .int .i64 (q.1 % 256)) (fun q => .bk bc (cur vb q.2) :: Δ) := by
  refine cj_perm hb.perm ?_
  obtain ⟨⟨i, h⟩, hi⟩ := p
  refine cj_len vb fun hlx => ?_
  simp only at hi
  unfold cur
  simp only
  refine cj_enter Try.func34 Try.ntmps34 ?_
  repeat' (first | refine red ?_ | refine reds ?_ | (refine redi (fun hc => ?_) (fun hc => ?_) <;> try first | (exfalso; omega) | exact absurd rfl hc) | ((refine wa_beginc 2 [false, false, false, false, false, false, false, false, false, false, false, false, false] [] ?_ <;> refine wa_p 0 ?_ <;> (first | refine wa_p 1 ?_ | fail) <;> (first | refine wa_p 2 ?_ | fail) <;> (first | refine wa_p 3 ?_ | fail) <;> (first | refine wa_p 4 ?_ | fail) <;> refine wa_p 5 ?_ <;> (first | refine wa_p 6 ?_ | fail) <;> (first | refine wa_p 7 ?_ | fail) <;> (first | refine wa_p 8 ?_ | fail) <;> (first | refine wa_p 9 ?_ | fail) <;> (first | refine wa_p 10 ?_ | fail) <;> (first | refine wa_p 11 ?_ | fail) <;> refine wa_p 12 ?_) <;> (refine wa_end ?_)) | ((refine wa_beginc 3 [false, false, false, false, false, false, false, false, false, false] [] ?_ <;> refine wa_p 0 ?_ <;> (first | refine wa_p 1 ?_ | fail) <;> (first | refine wa_p 2 ?_ | fail) <;> (first | refine wa_p 3 ?_ | fail) <;> refine wa_p 4 ?_ <;> (first | refine wa_p 5 ?_ | fail) <;> (first | refine wa_p 6 ?_ | fail) <;> (first | refine wa_p 7 ?_ | fail) <;> (first | refine wa_p 8 ?_ | fail) <;> refine wa_p 9 ?_) <;> (refine wa_end ?_)) | ((refine wa_beginc 4 [false, false, false, false, false, false, false, false, false, false, false, false, false, false, false] [] ?_ <;> refine wa_p 0 ?_ <;> refine wa_p 1 ?_ <;> (first | refine wa_p 2 ?_ | fail) <;> (first | refine wa_p 3 ?_ | fail) <;> (first | refine wa_p 4 ?_ | fail) <;> refine wa_p 5 ?_ <;> (first | refine wa_p 6 ?_ | fail) <;> (first | refine wa_p 7 ?_ | fail) <;> (first | refine wa_p 8 ?_ | fail) <;> refine wa_p 9 ?_ <;> (first | refine wa_p 10 ?_ | fail) <;> (first | refine wa_p 11 ?_ | fail) <;> (first | refine wa_p 12 ?_ | fail) <;> (first | refine wa_p 13 ?_ | fail) <;> refine wa_p 14 ?_) <;> (refine wa_end ?_)) | fail)
  · rw [wr_in (n := (i : Int) + 1) (by omega), show (i : Int) + 1 = ((i + 1 : Nat) : Int) by omega]
    exact ⟨(_, ⟨(i + 1, wr (wr (h * 6364136223846793005) + 1442695040888963407)), by simp only; omega⟩), rfl, by show Ent _ _ (.bk bc [vb, .int .i64 ((i + 1 : Nat) : Int), .int .i64 (wr (wr (h * 6364136223846793005) + 1442695040888963407))] :: _); exact ent_e⟩
  · exact ⟨(_, ⟨(i, wr (wr (h * 6364136223846793005) + 1442695040888963407)), hi⟩), rfl, by show Ent _ _ (.bk bc [vb, .int .i64 ((i : Nat) : Int), .int .i64 (wr (wr (h * 6364136223846793005) + 1442695040888963407))] :: _); exact ent_e⟩
instance l1Byte_ctr {Γ Δ : List Atom} {bc : Nat} {vb : Value} {code : List UInt8} {p : CurS code} [hb : PullBk Γ bc (cur vb p) Δ] [hv : HasRd (List UInt8) repList Δ [vb] code] :
    CtrC Try.prog 34 [.pointer (some ⟨bc, 0, none⟩)] Γ (True) (Int × CurS code) (fun q : Int × CurS code => .int .i64 (q.1 % 256)) (fun q => .bk bc (cur vb q.2) :: Δ) := ⟨fun s w0 => l1Byte_spec⟩

end w
theorem l1Below_spec {w0 : World} {Γ Δ : List Atom} {bc : Nat} {vb : Value} {code : List UInt8} {p : CurS code} {n : Int} [hb : PullBk Γ bc (cur vb p) Δ] [hv : HasRd (List UInt8) repList Δ [vb] code] :
    CJ Try.prog 20 [.pointer (some ⟨bc, 0, none⟩), .int .i64 n] w0 Γ (fun q : { q : Int × CurS code // (0 < n → 0 ≤ q.1 ∧ q.1 < n) ∧ (n ≤ 0 → q.1 = 0) } => .int .i64 q.1.1) (fun q => .bk bc (cur vb q.1.2) :: Δ) := by
  refine cj_perm hb.perm ?_
  refine cj_enter Try.func20 Try.ntmps20 ?_
  repeat' (first | refine red ?_ | refine reds ?_ | (refine redc fun r => ?_; try have hr := Subtype.property r) | (refine redi (fun hc => ?_) (fun hc => ?_) <;> try first | (exfalso; omega) | exact absurd rfl hc) | fail)
  · exact ⟨⟨(0, p), fun h => by omega, fun _ => rfl⟩, rfl, ent_e⟩
  · have h1 := Int.emod_nonneg (r.1 % 256) (b := n) (by omega)
    have h2 := Int.emod_lt_of_pos (r.1 % 256) (b := n) (by omega)
    rw [Int.tmod_eq_emod_of_nonneg (by omega)]
    exact ⟨⟨(r.1 % 256 % n, r.2), fun _ => ⟨h1, h2⟩, fun h => by omega⟩, rfl, ent_e⟩
  · rename_i r1 r2 r3
    have h1 := Int.emod_nonneg (r1.1 % 256 * 16777216 + r2.1 % 256 * 65536 + r3.1 % 256 * 256 + r.1 % 256) (b := n) (by omega)
    have h2 := Int.emod_lt_of_pos (r1.1 % 256 * 16777216 + r2.1 % 256 * 65536 + r3.1 % 256 * 256 + r.1 % 256) (b := n) (by omega)
    rw [Int.tmod_eq_emod_of_nonneg (by omega)]
    exact ⟨⟨(_, r.2), fun _ => ⟨h1, h2⟩, fun h => by omega⟩, rfl, ent_e⟩
instance l1Below_ctr {Γ Δ : List Atom} {bc : Nat} {vb : Value} {code : List UInt8} {p : CurS code} {n : Int} [hb : PullBk Γ bc (cur vb p) Δ] [hv : HasRd (List UInt8) repList Δ [vb] code] :
    CtrC Try.prog 20 [.pointer (some ⟨bc, 0, none⟩), .int .i64 n] Γ (True) ({ q : Int × CurS code // (0 < n → 0 ≤ q.1 ∧ q.1 < n) ∧ (n ≤ 0 → q.1 = 0) }) (fun q : { q : Int × CurS code // (0 < n → 0 ≤ q.1 ∧ q.1 < n) ∧ (n ≤ 0 → q.1 = 0) } => .int .i64 q.1.1) (fun q => .bk bc (cur vb q.1.2) :: Δ) := ⟨fun s w0 => l1Below_spec⟩

theorem l1Once_spec {w0 : World} {Γ Δ : List Atom} {bc : Nat} {vb : Value} {code : List UInt8} {p : CurS code} {n : Int} [hb : PullBk Γ bc (cur vb p) Δ] [hv : HasRd (List UInt8) repList Δ [vb] code] :
    CJ Try.prog 19 [.pointer (some ⟨bc, 0, none⟩), .int .i64 n] w0 Γ (fun q : Bool × CurS code => .bool q.1) (fun q => .bk bc (cur vb q.2) :: Δ) := by
  refine cj_perm hb.perm ?_
  refine cj_enter Try.func19 Try.ntmps19 ?_
  repeat' (first | refine red ?_ | (refine redc fun r => ?_; try have hr := Subtype.property r) | fail)
  exact ⟨(_, r.1.2), rfl, ent_e⟩
instance l1Once_ctr {Γ Δ : List Atom} {bc : Nat} {vb : Value} {code : List UInt8} {p : CurS code} {n : Int} [hb : PullBk Γ bc (cur vb p) Δ] [hv : HasRd (List UInt8) repList Δ [vb] code] :
    CtrC Try.prog 19 [.pointer (some ⟨bc, 0, none⟩), .int .i64 n] Γ (True) (Bool × CurS code) (fun q : Bool × CurS code => .bool q.1) (fun q => .bk bc (cur vb q.2) :: Δ) := ⟨fun s w0 => l1Once_spec⟩

theorem l1From_spec {w0 : World} {Γ Δ : List Atom} {bc : Nat} {vb : Value} {code : List UInt8} {p : CurS code} {lo hi : Int} [hb : PullBk Γ bc (cur vb p) Δ] [hv : HasRd (List UInt8) repList Δ [vb] code] (h : -1048576 ≤ lo ∧ lo ≤ hi ∧ hi ≤ 1048576) :
    CJ Try.prog 49 [.pointer (some ⟨bc, 0, none⟩), .int .i64 lo, .int .i64 hi] w0 Γ (fun q : { q : Int × CurS code // lo ≤ q.1 ∧ q.1 ≤ hi } => .int .i64 q.1.1) (fun q => .bk bc (cur vb q.1.2) :: Δ) := by
  refine cj_perm hb.perm ?_
  refine cj_enter Try.func49 Try.ntmps49 ?_
  repeat' (first | refine red ?_ | refine reds ?_ | (refine redc fun r => ?_; try have hr := Subtype.property r) | fail)
  exact ⟨⟨(lo + r.1.1, r.1.2), by simp only; omega⟩, rfl, ent_e⟩
instance l1From_ctr {Γ Δ : List Atom} {bc : Nat} {vb : Value} {code : List UInt8} {p : CurS code} {lo hi : Int} [hb : PullBk Γ bc (cur vb p) Δ] [hv : HasRd (List UInt8) repList Δ [vb] code] :
    CtrC Try.prog 49 [.pointer (some ⟨bc, 0, none⟩), .int .i64 lo, .int .i64 hi] Γ (-1048576 ≤ lo ∧ lo ≤ hi ∧ hi ≤ 1048576) ({ q : Int × CurS code // lo ≤ q.1 ∧ q.1 ≤ hi }) (fun q : { q : Int × CurS code // lo ≤ q.1 ∧ q.1 ≤ hi } => .int .i64 q.1.1) (fun q => .bk bc (cur vb q.1.2) :: Δ) := ⟨fun s w0 => l1From_spec s⟩

theorem l1Odd_spec {w0 : World} {Γ Δ : List Atom} {bc : Nat} {vb : Value} {code : List UInt8} {p : CurS code} [hb : PullBk Γ bc (cur vb p) Δ] [hv : HasRd (List UInt8) repList Δ [vb] code] :
    CJ Try.prog 21 [.pointer (some ⟨bc, 0, none⟩)] w0 Γ (fun q : { q : Int × CurS code // -9223372036854775808 ≤ q.1 ∧ q.1 ≤ 9223372036854775807 } => .int .i64 q.1.1) (fun q => .bk bc (cur vb q.1.2) :: Δ) := by
  refine cj_perm hb.perm ?_
  refine cj_enter Try.func21 Try.ntmps21 ?_
  repeat' (first | refine red ?_ | refine redf fun hbi => ?_ | refine reds ?_ | (refine redc fun r => ?_; try have hr := Subtype.property r) | refine redv fun sv => ?_ | fail)
  exact ⟨⟨(_, r.1.2), hbi⟩, rfl, ent_e⟩

instance l1Odd_ctr {Γ Δ : List Atom} {bc : Nat} {vb : Value} {code : List UInt8} {p : CurS code} [hb : PullBk Γ bc (cur vb p) Δ] [hv : HasRd (List UInt8) repList Δ [vb] code] :
    CtrC Try.prog 21 [.pointer (some ⟨bc, 0, none⟩)] Γ (True) ({ q : Int × CurS code // -9223372036854775808 ≤ q.1 ∧ q.1 ≤ 9223372036854775807 }) (fun q : { q : Int × CurS code // -9223372036854775808 ≤ q.1 ∧ q.1 ≤ 9223372036854775807 } => .int .i64 q.1.1) (fun q => .bk bc (cur vb q.1.2) :: Δ) := ⟨fun s w0 => l1Odd_spec⟩

/-! ### Signatures -/
theorem l1DrawSig_spec {w0 : World} {Γ Δ : List Atom} {bc : Nat} {vb : Value} {code : List UInt8} {p : CurS code} [hb : PullBk Γ bc (cur vb p) Δ] [hv : HasRd (List UInt8) repList Δ [vb] code] :
    CJ Try.prog 46 [.pointer (some ⟨bc, 0, none⟩)] w0 Γ (fun q : { q : Value × List Int × CurS code // q.2.1.length ≤ 4 } => .agg #[q.1.1]) (fun q => .ow [q.1.1] q.1.2.1 :: .bk bc (cur vb q.1.2.2) :: Δ) := by
  refine cj_perm hb.perm ?_
  refine cj_enter Try.func46 Try.ntmps46 ?_
  repeat' (first | refine red ?_ | (refine redc fun r => ?_; try have hr := Subtype.property r) | refine redv fun sv => ?_ | refine redn fun b => ?_ | (refine redi (fun hc => ?_) (fun hc => ?_) <;> try first | (exfalso; omega) | exact absurd rfl hc) | fail)
  · refine wc_loop_p [4] [13, 14, 17, 18, 19, 20, 21, 22, 23, 15, 16] (ι := Int × Value × List Int × CurS code) (fun k => [.int .i64 k.1]) (fun k => [.bk b [k.2.1], .ow [k.2.1] k.2.2.1, .bk bc (cur vb k.2.2.2)]) (fun k => k.1 + k.2.2.1.length ≤ 4 ∧ k.2.2.1.length ≤ 4) (fun k => k.1.toNat) (r.1.1, sv, [0], r.1.2) [.bk b [sv], .ow [sv] ([0] : List Int), .bk bc (cur vb r.1.2)] (by kernel_rfl) (by simp only [List.length_cons, List.length_nil]; omega) rfl ?_
    intro ⟨n, sw, a, p0⟩ u l' hl' ⟨hk, hk2⟩
    simp only [patch, List.map_cons, List.map_nil, List.set_cons_zero, List.set_cons_succ] at hl'
    subst hl'
    simp only [List.cons_append, List.nil_append] at hk hk2 ⊢
    repeat' (first | refine red ?_ | refine reds ?_ | (refine redi (fun hc => ?_) (fun hc => ?_) <;> try first | (exfalso; omega) | exact absurd rfl hc) | ((refine wa_beginc 7 [false, false, false, false, false, false, false, false] [5, 7] ?_ <;> (first | refine wa_p 0 ?_ | fail) <;> (first | refine wa_p 1 ?_ | fail) <;> refine wa_p 2 ?_ <;> (refine wa_do 3 ?_ <;> (repeat' (first | refine red ?_ | (refine redc fun r => ?_; try have hr := Subtype.property r) | fail))) <;> (refine wa_do 4 ?_ <;> (repeat' (first | refine red ?_ | refine redv fun sv => ?_ | fail))) <;> (refine wa_do 5 ?_ <;> (repeat' (first | refine red ?_ | refine redv fun sv => ?_ | fail))) <;> (first | refine wa_p0 6 ?_ | fail) <;> (refine wa_do 7 ?_ <;> (repeat' (first | refine red ?_ | fail)))) <;> (refine wa_end ?_)) | fail)
    · exact wq_next (n - 1, sv, a ++ [r.1.1], r.1.2) (by simp only [List.length_append, List.length_cons, List.length_nil]; omega) (by simp only; omega) (by kernel_rfl) ent_e
    · exact ⟨⟨(sw, a, p0), hk2⟩, rfl, ent_e⟩
  · exact ⟨⟨(sv, [2, 1, 0], r.2), by simp⟩, rfl, ent_e⟩
instance l1DrawSig_ctr {Γ Δ : List Atom} {bc : Nat} {vb : Value} {code : List UInt8} {p : CurS code} [hb : PullBk Γ bc (cur vb p) Δ] [hv : HasRd (List UInt8) repList Δ [vb] code] :
    CtrC Try.prog 46 [.pointer (some ⟨bc, 0, none⟩)] Γ (True) ({ q : Value × List Int × CurS code // q.2.1.length ≤ 4 }) (fun q : { q : Value × List Int × CurS code // q.2.1.length ≤ 4 } => .agg #[q.1.1]) (fun q => .ow [q.1.1] q.1.2.1 :: .bk bc (cur vb q.1.2.2) :: Δ) := ⟨fun s w0 => l1DrawSig_spec⟩

theorem l1DrawSigAny_spec {w0 : World} {Γ Δ : List Atom} {bc : Nat} {vb : Value} {code : List UInt8} {p : CurS code} [hb : PullBk Γ bc (cur vb p) Δ] [hv : HasRd (List UInt8) repList Δ [vb] code] :
    CJ Try.prog 33 [.pointer (some ⟨bc, 0, none⟩)] w0 Γ (fun q : { q : Value × List Int × CurS code // q.2.1.length ≤ 9 } => .agg #[q.1.1]) (fun q => .ow [q.1.1] q.1.2.1 :: .bk bc (cur vb q.1.2.2) :: Δ) := by
  refine cj_perm hb.perm ?_
  refine cj_enter Try.func33 Try.ntmps33 ?_
  repeat' (first | refine red ?_ | refine reds ?_ | (refine redc fun r => ?_; try have hr := Subtype.property r) | refine redv fun sv => ?_ | refine redn fun b => ?_ | (refine redi (fun hc => ?_) (fun hc => ?_) <;> try first | (exfalso; omega) | exact absurd rfl hc) | ((refine wa_beginc 5 [false, false, false, false, false, false, false, false] [5, 7] ?_ <;> (first | refine wa_p 0 ?_ | fail) <;> (first | refine wa_p 1 ?_ | fail) <;> refine wa_p 2 ?_ <;> (refine wa_do 3 ?_ <;> (repeat' (first | refine red ?_ | (refine redc fun r => ?_; try have hr := Subtype.property r) | fail))) <;> (refine wa_do 4 ?_ <;> (repeat' (first | refine red ?_ | refine redv fun sv => ?_ | fail))) <;> (refine wa_do 5 ?_ <;> (repeat' (first | refine red ?_ | refine redv fun sv => ?_ | fail))) <;> (first | refine wa_p0 6 ?_ | fail) <;> (refine wa_do 7 ?_ <;> (repeat' (first | refine red ?_ | fail)))) <;> (refine wa_end ?_)) | fail)
  · rename_i r1 hr1 _ _ _ _ _
    exact ⟨⟨(sv, r1.1.2.1 ++ [r.1.1], r.1.2), by simp only [List.length_append, List.length_cons, List.length_nil]; omega⟩, rfl, ent_e⟩
  · exact ⟨⟨(sv, [], r.1.2), by simp⟩, rfl, ent_e⟩
  · exact ⟨⟨(sv, List.replicate (8 + r.1.1).toNat 0, r.1.2), by simp only [List.length_replicate]; omega⟩, rfl, ent_e⟩
  · rename_i r1
    exact ⟨⟨(r1.1.1, r1.1.2.1, r.2), by simp only; omega⟩, rfl, ent_e⟩

instance l1DrawSigAny_ctr {Γ Δ : List Atom} {bc : Nat} {vb : Value} {code : List UInt8} {p : CurS code} [hb : PullBk Γ bc (cur vb p) Δ] [hv : HasRd (List UInt8) repList Δ [vb] code] :
    CtrC Try.prog 33 [.pointer (some ⟨bc, 0, none⟩)] Γ (True) ({ q : Value × List Int × CurS code // q.2.1.length ≤ 9 }) (fun q : { q : Value × List Int × CurS code // q.2.1.length ≤ 9 } => .agg #[q.1.1]) (fun q => .ow [q.1.1] q.1.2.1 :: .bk bc (cur vb q.1.2.2) :: Δ) := ⟨fun s w0 => l1DrawSigAny_spec⟩

/-! ### Terms -/
structure DrT (N : Nat) (d : Int) (a : List Int) (v : Int) : Prop where
  ok : sigOk a = true
  dp : 1 ≤ d ∧ d ≤ N ∧ N ≤ 5
  vs : 0 ≤ v ∧ v ≤ 24
theorem DrT.len {N : Nat} {d : Int} {a : List Int} {v : Int} (h : DrT N d a v) : 1 ≤ a.length ∧ a.length ≤ 8 := sigOk_len h.ok
theorem l1DrawTerm_rec (N : Nat) : ∀ {w0 : World} {Γ Δ : List Atom} {bc : Nat} {vb va : Value} {code : List UInt8} {p : CurS code} {a : List Int} {d v : Int} [hb : PullBk Γ bc (cur vb p) Δ] [hv : HasRd (List UInt8) repList Δ [vb] code] [ha : HasRd (List Int) repList Δ [va] a] (h : DrT N d a v),
    CJ Try.prog 50 [.pointer (some ⟨bc, 0, none⟩), .agg #[va], .int .i64 d, .int .i64 v] w0 Γ (fun q : { q : Value × List Int × CurS code // 1 ≤ q.2.1.length ∧ 2 * q.2.1.length + 1 ≤ 3 ^ N } => q.1.1) (fun q => .ow [q.1.1] q.1.2.1 :: .bk bc (cur vb q.1.2.2) :: Δ) := by
  induction N with
  | zero =>
    intro w0 Γ Δ bc vb va code p a d v hb hv ha h
    have := h.dp
    omega
  | succ N ih =>
    intro w0 Γ Δ bc vb va code p a d v hb hv ha h
    haveI hI : ∀ (Γ Δ : List Atom) (bc : Nat) (vb va : Value) (code : List UInt8) (p : CurS code) (a : List Int) (d v : Int) [PullBk Γ bc (cur vb p) Δ] [HasRd (List UInt8) repList Δ [vb] code] [HasRd (List Int) repList Δ [va] a], CtrC Try.prog 50 [.pointer (some ⟨bc, 0, none⟩), .agg #[va], .int .i64 d, .int .i64 v] Γ (DrT N d a v) { q : Value × List Int × CurS code // 1 ≤ q.2.1.length ∧ 2 * q.2.1.length + 1 ≤ 3 ^ N } (fun q => q.1.1) (fun q => .ow [q.1.1] q.1.2.1 :: .bk bc (cur vb q.1.2.2) :: Δ) := fun Γ Δ bc vb va code p a d v _ _ _ => ⟨fun h _ => ih h⟩
    refine cj_perm hb.perm ?_
    have hdp := h.dp
    have hvs := h.vs
    have hal := h.len
    have hM : 3 ^ N ≤ 81 := Nat.le_trans (Nat.pow_le_pow_right (by omega) (show N ≤ 4 by omega)) (by decide)
    have hM1 : 1 ≤ 3 ^ N := Nat.one_le_pow _ _ (by omega)
    rw [Nat.pow_succ]
    generalize hMe : 3 ^ N = M at *
    refine cj_enter Try.func50 Try.ntmps50 ?_
    repeat' (first | refine red ?_ | refine redf fun hbi => ?_ | refine reds ?_ | (refine redc fun r => ?_; try have hr := Subtype.property r) | refine redv fun sv => ?_ | refine redn fun b => ?_ | (refine redi (fun hc => ?_) (fun hc => ?_) <;> try first | (exfalso; omega) | exact absurd rfl hc) | fail)
    · exact ⟨⟨(sv, [-1 - r.1.1], r.1.2), by simp only [List.length_cons, List.length_nil]; omega⟩, rfl, ent_e⟩
    · refine wc_loop_c [9] [34, 35, 38, 39, 40, 41, 42, 43, 44, 45, 8, 36, 37] (ι := Int) (fun k => [.int .i64 k]) (fun k => -1 ≤ k ∧ k < a.length) (fun k => (k + 1).toNat) ((a.length : Int) - 1) (by kernel_rfl) (by omega) ?_
      intro k u l' hl' hk
      simp only [patch, List.map_cons, List.map_nil, List.set_cons_zero, List.set_cons_succ] at hl'
      subst hl'
      repeat' (first | refine red ?_ | refine redf fun hbi => ?_ | refine reds ?_ | refine redv fun sv => ?_ | (refine redi (fun hc => ?_) (fun hc => ?_) <;> try first | (exfalso; omega) | exact absurd rfl hc) | fail)
      · exact ⟨⟨(sv, [k], r.2), by simp only [List.length_cons, List.length_nil]; omega⟩, rfl, ent_e⟩
      · exact wq_next (k - 1) (by omega) (by omega) (by kernel_rfl) ent_e
      · exact ⟨⟨(sv, [-1], r.2), by simp only [List.length_cons, List.length_nil]; omega⟩, rfl, ent_e⟩
    · refine wc_loop_c [9] [34, 35, 38, 39, 40, 41, 42, 43, 44, 45, 8, 36, 37] (ι := Int) (fun k => [.int .i64 k]) (fun k => -1 ≤ k ∧ k < a.length) (fun k => (k + 1).toNat) ((a.length : Int) - 1) (by kernel_rfl) (by omega) ?_
      intro k u l' hl' hk
      simp only [patch, List.map_cons, List.map_nil, List.set_cons_zero, List.set_cons_succ] at hl'
      subst hl'
      repeat' (first | refine red ?_ | refine redf fun hbi => ?_ | refine reds ?_ | refine redv fun sv => ?_ | (refine redi (fun hc => ?_) (fun hc => ?_) <;> try first | (exfalso; omega) | exact absurd rfl hc) | fail)
      · exact ⟨⟨(sv, [k], p), by simp only [List.length_cons, List.length_nil]; omega⟩, rfl, ent_e⟩
      · exact wq_next (k - 1) (by omega) (by omega) (by kernel_rfl) ent_e
      · exact ⟨⟨(sv, [-1], p), by simp only [List.length_cons, List.length_nil]; omega⟩, rfl, ent_e⟩
    · exact ⟨⟨(sv, [-1 - r.1.1], r.1.2), by simp only [List.length_cons, List.length_nil]; omega⟩, rfl, ent_e⟩
    · refine wc_loop_c [9] [34, 35, 38, 39, 40, 41, 42, 43, 44, 45, 8, 36, 37] (ι := Int) (fun k => [.int .i64 k]) (fun k => -1 ≤ k ∧ k < a.length) (fun k => (k + 1).toNat) ((a.length : Int) - 1) (by kernel_rfl) (by omega) ?_
      intro k u l' hl' hk
      simp only [patch, List.map_cons, List.map_nil, List.set_cons_zero, List.set_cons_succ] at hl'
      subst hl'
      repeat' (first | refine red ?_ | refine redf fun hbi => ?_ | refine reds ?_ | refine redv fun sv => ?_ | (refine redi (fun hc => ?_) (fun hc => ?_) <;> try first | (exfalso; omega) | exact absurd rfl hc) | fail)
      · exact ⟨⟨(sv, [k], r.2), by simp only [List.length_cons, List.length_nil]; omega⟩, rfl, ent_e⟩
      · exact wq_next (k - 1) (by omega) (by omega) (by kernel_rfl) ent_e
      · exact ⟨⟨(sv, [-1], r.2), by simp only [List.length_cons, List.length_nil]; omega⟩, rfl, ent_e⟩
    · refine wc_loop_c [9] [34, 35, 38, 39, 40, 41, 42, 43, 44, 45, 8, 36, 37] (ι := Int) (fun k => [.int .i64 k]) (fun k => -1 ≤ k ∧ k < a.length) (fun k => (k + 1).toNat) ((a.length : Int) - 1) (by kernel_rfl) (by omega) ?_
      intro k u l' hl' hk
      simp only [patch, List.map_cons, List.map_nil, List.set_cons_zero, List.set_cons_succ] at hl'
      subst hl'
      repeat' (first | refine red ?_ | refine redf fun hbi => ?_ | refine reds ?_ | refine redv fun sv => ?_ | (refine redi (fun hc => ?_) (fun hc => ?_) <;> try first | (exfalso; omega) | exact absurd rfl hc) | fail)
      · exact ⟨⟨(sv, [k], r.2), by simp only [List.length_cons, List.length_nil]; omega⟩, rfl, ent_e⟩
      · exact wq_next (k - 1) (by omega) (by omega) (by kernel_rfl) ent_e
      · exact ⟨⟨(sv, [-1], r.2), by simp only [List.length_cons, List.length_nil]; omega⟩, rfl, ent_e⟩
    · have hak := sigOk_get h.ok (k := r.1.1.toNat) (by omega)
      have hD : DrT N (d - 1) a v := ⟨h.ok, by omega, h.vs⟩
      have hm : a.getD r.1.1.toNat 0 * ((M : Int) - 1) ≤ 3 * ((M : Int) - 1) := Int.mul_le_mul_of_nonneg_right hak.2 (by omega)
      refine wc_loop_p [11, 12] [59, 60, 63, 64, 65, 66, 67, 68, 69, 70, 61, 62] (ι := Value × List Int × Int × CurS code) (fun k => [k.1, .int .i64 k.2.2.1]) (fun k => [.ow [k.1] k.2.1, .bk bc (cur vb k.2.2.2)]) (fun k => 0 ≤ k.2.2.1 ∧ k.2.2.1 ≤ 3 ∧ 1 ≤ k.2.1.length ∧ 2 * (k.2.1.length : Int) + k.2.2.1 * ((M : Int) - 1) ≤ 3 * M - 1) (fun k => k.2.2.1.toNat) (sv, [r.1.1], a.getD r.1.1.toNat 0, r.1.2) [.ow [sv] [r.1.1], .bk bc (cur vb r.1.2)] (by kernel_rfl) (by simp only [List.length_cons, List.length_nil]; omega) rfl ?_
      intro ⟨sw, o, k, p0⟩ u l' hl' ⟨hk0, hk3, hol, hk⟩
      simp only [patch, List.map_cons, List.map_nil, List.set_cons_zero, List.set_cons_succ] at hl'
      subst hl'
      simp only [List.cons_append, List.nil_append] at hk0 hk3 hol hk ⊢
      have hk1 : 0 ≤ k * ((M : Int) - 1) := Int.mul_nonneg hk0 (by omega)
      repeat' (first | refine red ?_ | refine reds ?_ | (refine redc fun r => ?_; try have hr := Subtype.property r) | refine redv fun sv => ?_ | (refine redi (fun hc => ?_) (fun hc => ?_) <;> try first | (exfalso; omega) | exact absurd rfl hc) | fail)
      · have e : (k - 1) * ((M : Int) - 1) = k * ((M : Int) - 1) - ((M : Int) - 1) := by rw [Int.sub_mul, Int.one_mul]
        exact wq_next (sv, o ++ r.1.2.1, k - 1, r.1.2.2) (by simp only [List.length_append]; rw [e]; omega) (by simp only; omega) (by kernel_rfl) ent_e
      · exact ⟨⟨(sw, o, p0), by simp only; omega⟩, rfl, ent_e⟩
theorem l1DrawTerm_spec {w0 : World} {Γ Δ : List Atom} {bc : Nat} {vb va : Value} {code : List UInt8} {p : CurS code} {a : List Int} {d v : Int} [hb : PullBk Γ bc (cur vb p) Δ] [hv : HasRd (List UInt8) repList Δ [vb] code] [ha : HasRd (List Int) repList Δ [va] a] (h : sigOk a = true ∧ 1 ≤ d ∧ d ≤ 4 ∧ 0 ≤ v ∧ v ≤ 24) :
    CJ Try.prog 50 [.pointer (some ⟨bc, 0, none⟩), .agg #[va], .int .i64 d, .int .i64 v] w0 Γ (fun q : { q : Value × List Int × CurS code // 1 ≤ q.2.1.length ∧ q.2.1.length ≤ 40 } => q.1.1) (fun q => .ow [q.1.1] q.1.2.1 :: .bk bc (cur vb q.1.2.2) :: Δ) := by
  exact cj_mono (l1DrawTerm_rec 4 (p := p) ⟨h.1, by omega, by omega⟩) (fun q => ⟨⟨q.1, q.2.1, by have := q.2.2; omega⟩, rfl, fun w h => h⟩)
instance l1DrawTerm_ctr {Γ Δ : List Atom} {bc : Nat} {vb va : Value} {code : List UInt8} {p : CurS code} {a : List Int} {d v : Int} [hb : PullBk Γ bc (cur vb p) Δ] [hv : HasRd (List UInt8) repList Δ [vb] code] [ha : HasRd (List Int) repList Δ [va] a] :
    CtrC Try.prog 50 [.pointer (some ⟨bc, 0, none⟩), .agg #[va], .int .i64 d, .int .i64 v] Γ (sigOk a = true ∧ 1 ≤ d ∧ d ≤ 4 ∧ 0 ≤ v ∧ v ≤ 24) ({ q : Value × List Int × CurS code // 1 ≤ q.2.1.length ∧ q.2.1.length ≤ 40 }) (fun q : { q : Value × List Int × CurS code // 1 ≤ q.2.1.length ∧ q.2.1.length ≤ 40 } => q.1.1) (fun q => .ow [q.1.1] q.1.2.1 :: .bk bc (cur vb q.1.2.2) :: Δ) := ⟨fun s w0 => l1DrawTerm_spec s⟩

end Go.Proofs.Ytjblieilblcdnaa
