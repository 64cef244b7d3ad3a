/- The rules of the walk: wrapping numbers of 64 bits, masks, and bytes. -/
import Derived.Test.YtjblieilblcdnaaEngU
import Derived.Laws.Bits128
namespace Go.Eng
open Go Go.RowKit
set_option linter.unusedVariables false
set_option linter.unusedSimpArgs false
set_option synthInstance.maxHeartbeats 400000
set_option synthInstance.maxSize 1000
section s
variable {P : Program} {w0 : World} {l : List Value} {Γ : List Atom} {ty : TypeId}

/-- The number of 64 bits that a number comes to. -/
def wr (n : Int) : Int := IntKind.i64.wrap n
def xr (a b : Int) : Int := bits .xor .i64 a b
def sh64 (a : Int) (m : Nat) : Int := a / 2 ^ min m 64
theorem wr_in {n : Int} (h : -9223372036854775808 ≤ n ∧ n ≤ 9223372036854775807) : wr n = n := IntWalk.i64_in _ (by omega)
theorem i64_mask (n : Int) (k : Nat) (hk : k < 63) : bits .and .i64 n ((2 ^ k - 1 : Nat) : Int) = n % ((2 ^ k : Nat) : Int) := by
  have hlt : 2 ^ k < 2 ^ 63 := Nat.pow_lt_pow_right (by omega) hk
  have hp : 0 < 2 ^ k := Nat.two_pow_pos k
  have h127 : (BitVec.ofInt 64 ((2 ^ k - 1 : Nat) : Int)).toNat = 2 ^ k - 1 := by
    rw [BitVec.toNat_ofInt]
    have h2 : (2 ^ 63 : Nat) = 9223372036854775808 := by decide
    have h3 : (2 ^ 64 : Nat) = 18446744073709551616 := by decide
    generalize 2 ^ k = z at *
    omega
  have key : (BitVec.ofInt 64 n &&& BitVec.ofInt 64 ((2 ^ k - 1 : Nat) : Int)).toNat = (n % ((2 ^ 64 : Nat) : Int)).toNat % 2 ^ k := by
    rw [BitVec.toNat_and, BitVec.toNat_ofInt, h127, Nat.and_two_pow_sub_one_eq_mod]
  show IntKind.i64.wrap ((BitVec.ofInt 64 n &&& BitVec.ofInt 64 ((2 ^ k - 1 : Nat) : Int)).toNat : Nat) = n % ((2 ^ k : Nat) : Int)
  rw [key]
  have h1 : (n % ((2 ^ 64 : Nat) : Int)).toNat % 2 ^ k < 2 ^ k := Nat.mod_lt _ hp
  have h2 : (2 ^ 63 : Nat) = 9223372036854775808 := by decide
  rw [IntWalk.i64_in _ (by generalize 2 ^ k = z at *; omega)]
  rw [Int.natCast_emod, Int.toNat_of_nonneg (Int.emod_nonneg _ (by decide))]
  exact Int.emod_emod_of_dvd _ (Int.natCast_dvd_natCast.2 (Nat.pow_dvd_pow 2 (by omega)))
section ops
variable {T U : TypeId} {x y : Operand} {a b : Int} {m : Nat} {k : Int} {yk : IntKind}
theorem pu_add_w [hx : Ev l x (.int .i64 a)] [hy : Ev l y (.int .i64 b)] : Pu P w0 l Γ (.binOp .add T x y U) ty (.int .i64 (wr (a + b))) :=
  pu_bin eqGuard_int (fun w => by simp only [binOp, Op.intArith, ne_eq, not_true_eq_false, if_false]; rfl)
theorem pu_mul_w [hx : Ev l x (.int .i64 a)] [hy : Ev l y (.int .i64 b)] : Pu P w0 l Γ (.binOp .mul T x y U) ty (.int .i64 (wr (a * b))) :=
  pu_bin eqGuard_int (fun w => by simp only [binOp, Op.intArith, ne_eq, not_true_eq_false, if_false]; rfl)
theorem pu_xor64 [hx : Ev l x (.int .i64 a)] [hy : Ev l y (.int .i64 b)] : Pu P w0 l Γ (.binOp .xor T x y U) ty (.int .i64 (xr a b)) :=
  pu_bin eqGuard_int (fun w => by rw [binOp_xor, intBits_xor, Sem.run_pure]; rfl)
theorem pu_shr64 [hx : Ev l x (.int .i64 a)] [hy : Ev l y (.int yk k)] [hm : ToN k m] (h : 0 ≤ k) : Pu P w0 l Γ (.binOp .shr T x y U) ty (.int .i64 (sh64 a m)) :=
  pu_bin eqGuard_int (fun w => by
    have e : binOp .shr T (.int .i64 a) (.int yk k) = Op.shift .shr .i64 a yk k := rfl
    rw [e, shift_shr_any _ _ _ _ h, hm.eq, Sem.run_pure]
    rfl)
theorem pu_and255 [hx : Ev l x (.int .i64 a)] [hy : Ev l y (.int .i64 255)] : Pu P w0 l Γ (.binOp .and T x y U) ty (.int .i64 (a % 256)) :=
  pu_bin eqGuard_int (fun w => by
    rw [binOp_and, intBits_and, show (255 : Int) = ((2 ^ 8 - 1 : Nat) : Int) from rfl, i64_mask _ _ (by omega), Sem.run_pure]
    rfl)
theorem pu_and30 [hx : Ev l x (.int .i64 a)] [hy : Ev l y (.int .i64 1073741823)] : Pu P w0 l Γ (.binOp .and T x y U) ty (.int .i64 (a % 1073741824)) :=
  pu_bin eqGuard_int (fun w => by
    rw [binOp_and, intBits_and, show (1073741823 : Int) = ((2 ^ 30 - 1 : Nat) : Int) from rfl, i64_mask _ _ (by omega), Sem.run_pure]
    rfl)
instance [hx : Ev l x (.int .i64 a)] [hy : Ev l y (.int .i64 b)] : PuS P l Γ (.binOp .xor T x y U) ty (.int .i64 (xr a b)) True := ⟨fun _ _ => pu_xor64⟩
instance [hx : Ev l x (.int .i64 a)] [hy : Ev l y (.int yk k)] [hm : ToN k m] : PuS P l Γ (.binOp .shr T x y U) ty (.int .i64 (sh64 a m)) (0 ≤ k) := ⟨fun h _ => pu_shr64 h⟩
instance [hx : Ev l x (.int .i64 a)] [hy : Ev l y (.int .i64 255)] : PuS P l Γ (.binOp .and T x y U) ty (.int .i64 (a % 256)) True := ⟨fun _ _ => pu_and255⟩
instance [hx : Ev l x (.int .i64 a)] [hy : Ev l y (.int .i64 1073741823)] : PuS P l Γ (.binOp .and T x y U) ty (.int .i64 (a % 1073741824)) True := ⟨fun _ _ => pu_and30⟩
/-- The wrapping sum and product; where they overflow these stand before the others. -/
theorem addW [hx : Ev l x (.int .i64 a)] [hy : Ev l y (.int .i64 b)] : PuS P l Γ (.binOp .add T x y U) ty (.int .i64 (wr (a + b))) True := ⟨fun _ _ => pu_add_w⟩
theorem mulW [hx : Ev l x (.int .i64 a)] [hy : Ev l y (.int .i64 b)] : PuS P l Γ (.binOp .mul T x y U) ty (.int .i64 (wr (a * b))) True := ⟨fun _ _ => pu_mul_w⟩
end ops
/-- T is the type of bytes. -/
class U8T (P : Program) (T : TypeId) : Prop where
  eq : P.underlying T = some (.int .u8)
theorem pu_conv_8 {S T : TypeId} {x : Operand} {n : Nat} [hx : Ev l x (.int .u8 (n : Int))] [hS : U8T P S] [hT : I64T P T] (h : n < 256) : Pu P w0 l Γ (.convert S T x) ty (.int .i64 (n : Int)) :=
  pu_of (s := convert S T (.int .u8 (n : Int))) (fun o ho _ => by unfold execOp; rw [ho]; simp only [hx.eq]) (fun w _ => by
    simp only [convert, Sem.run_bind, run_underlying hS.eq, run_underlying hT.eq, Result.andThen_ok, Conv.intToInt, Sem.run_pure]
    rw [IntWalk.i64_in _ (by omega)])
instance {S T : TypeId} {x : Operand} {b : UInt8} [hx : Ev l x (.int .u8 ((b.toNat : Nat) : Int))] [hS : U8T P S] [hT : I64T P T] : PuS P l Γ (.convert S T x) ty (.int .i64 ((b.toNat : Nat) : Int)) True := ⟨fun _ _ => pu_conv_8 b.toNat_lt⟩
theorem pu_load_u8 {T : TypeId} {x : Operand} {sv : Value} {n : Int} {xs : List UInt8} [h : Ev l x (.pointer (some (elemA sv n 1)))] [hT : Sc P T] [hr : HasRd (List UInt8) repList Γ [sv] xs]
    (hi : 0 ≤ n ∧ n < xs.length) : Pu P w0 l Γ (.load T x) ty (.int .u8 ((((xs.getD n.toNat 0).toNat : Nat)) : Int)) :=
  pu_of (s := Instr.loadAt T (.pointer (some (elemA sv n 1)))) (fun o ho _ => by unfold execOp; rw [ho]; simp only [h.eq]) (fun w hs => by
    obtain ⟨a, cap, b, off, p, c, s, rfl, _, _, hca, hp, he, hrd⟩ := elem_cells (hs.rd (hr := hr)) hi.1 hi.2
    have hrd' : c = [.int .u8 _] := hrd
    subst hrd'
    have he' : elemA (.slice (some ⟨b, off, none⟩) xs.length cap) n 1 = ⟨b, off + p.length, none⟩ := he
    have := hca.part 0 (by simp)
    simp only [Nat.add_zero, List.getElem?_cons_zero] at this
    rw [he', List.getD_eq_getElem?_getD, List.getElem?_eq_getElem (by omega), Option.getD_some]
    simp [Instr.loadAt, Instr.sureAddr, loadVar, Sem.run_bind, hT.agg, load, Sem.run, this])
instance {T : TypeId} {x : Operand} {sv : Value} {n : Int} {m : Nat} {xs : List UInt8} [h : Ev l x (.pointer (some (elemA sv n 1)))] [hm : ToN n m] [hT : Sc P T] [hr : HasRd (List UInt8) repList Γ [sv] xs] : PuS P l Γ (.load T x) ty (.int .u8 (((xs.getD m 0).toNat : Nat) : Int)) (0 ≤ n ∧ n < xs.length) := ⟨fun h _ => hm.eq ▸ pu_load_u8 h⟩
end s
attribute [irreducible] wr xr sh64

/-- What is owned may be read. -/
theorem ent_rd {w0 : World} {Γ Δ Ε : List Atom} {α : Type} {iα : Rep α} (sv : Value) {x : α} [hp : PullOw α iα Γ [sv] x Δ] (h : Ent w0 (.rd [sv] x :: Δ) Ε) : Ent w0 Γ Ε := fun w hs => h w (hs.perm hp.perm).share
theorem OwL.toSh {β : Type} [Rep β] {ok ok' : Nat → Prop} {w : World} (ho : ∀ b, ok b → ok' b) : ∀ {G : List Nat} {cells : List Value} {xs : List β}, OwL ok w G cells xs → (∀ b ∈ G, ok' b) → OwL ok' w [] cells (xs.map Sh.mk)
  | _, _, [], h, _ => ⟨rfl, h.2⟩
  | _, _, x :: xs, ⟨f, g, c, d, e, e', h, h'⟩, hG => ⟨[], [], c, d, rfl, e', ⟨rfl, Rep.ow_rd h ho (fun b hb => hG b (by rw [e]; exact List.mem_append_left _ hb))⟩, OwL.toSh ho h' (fun b hb => hG b (by rw [e]; exact List.mem_append_right _ hb))⟩
/-- The elements of an owned list may be shared. -/
theorem ent_toSh {w0 : World} {Γ Δ : List Atom} {β : Type} {iβ : Rep β} (sv : Value) {xs : List β} [hp : PullOw (List β) repList Γ [sv] xs Δ] : Ent w0 Γ (@Atom.ow (List (Sh β)) repList [sv] (xs.map Sh.mk) :: Δ) := by
  intro w hs
  obtain ⟨hb, F, hnd, hl, f, g, rfl, hA, hsep⟩ := hs.perm hp.perm
  have how : Rep.ow (· ∉ f ++ g) w f [sv] xs := hA
  rw [ow_list] at how
  rcases how with ⟨h0, rfl, rfl⟩ | ⟨b, cap, cur, ee, G, cells, h0, rfl, h1, h2, h3, h4, h5, h6, h7⟩
  · refine ⟨hb, [] ++ g, hnd, hl, [], g, rfl, ?_, hsep⟩
    show Rep.ow (α := List (Sh β)) _ w [] [sv] _
    rw [ow_list]
    exact .inl ⟨h0, rfl, rfl⟩
  · have hp2 : ([b] ++ (G ++ g)).Perm ((b :: G) ++ g) := by simp
    have hmem : ∀ c, c ∈ [b] ++ g → c ∈ (b :: G) ++ g := fun c hc => by
      rcases List.mem_append.1 hc with h | h
      · exact List.mem_append_left _ (by rw [List.mem_singleton] at h; simp [h])
      · exact List.mem_append_right _ h
    have hnd' := hnd
    rw [List.cons_append, List.nodup_cons, List.nodup_append] at hnd'
    have hn2 : ([b] ++ g).Nodup := by
      rw [List.cons_append, List.nil_append, List.nodup_cons]
      exact ⟨fun h => hnd'.1 (List.mem_append_right _ h), hnd'.2.2.1⟩
    refine ⟨hb, [b] ++ g, hn2, fun c hc => hl c (hmem c hc), [b], g, rfl, ?_, hsep.mono (fun c hc _ => ⟨fun hm => hc (hmem c hm), rfl⟩) (Nat.le_refl _) (fun _ _ => rfl)⟩
    show Rep.ow (α := List (Sh β)) _ w [b] [sv] _
    rw [ow_list]
    refine .inr ⟨b, cap, cur, ee, [], cells, by rw [List.length_map]; exact h0, rfl, h1, by rw [List.length_map]; exact h2, h3, by rw [List.length_map]; exact h4, h5, by rw [List.length_map]; exact h6, ?_⟩
    refine h7.toSh (fun c hc hm => hc (hmem c hm)) (fun c hc hm => ?_)
    rcases List.mem_append.1 hm with h | h
    · rw [List.mem_singleton] at h
      exact hnd'.1 (by rw [← h]; exact List.mem_append_left _ hc)
    · exact hnd'.2.2.2 c hc c h rfl
theorem wl_toSh {P : Program} {ops : Array Oper} {Q : Exit → Act → World → Prop} {w0 : World} {rest : List Oper} {l : List Value} {Γ Δ : List Atom} {β : Type} {iβ : Rep β} (sv : Value) {xs : List β} [hp : PullOw (List β) repList Γ [sv] xs Δ] (h : WL P ops Q w0 rest l (@Atom.ow (List (Sh β)) repList [sv] (xs.map Sh.mk) :: Δ)) : WL P ops Q w0 rest l Γ := fun w hs => h w (ent_toSh sv w hs)
/-- Where a cursor over bytes stands. -/
abbrev CurS (code : List UInt8) : Type := { p : Nat × Int // p.1 ≤ code.length }
def cur {code : List UInt8} (vb : Value) (p : CurS code) : List Value := [vb, .int .i64 (p.1.1 : Int), .int .i64 p.1.2]
/-- The atoms but those of a cursor, that calls move. -/
class KeepC (Γ : List Atom) (Δ : outParam (List Atom)) : Prop where
  sub : Sub Γ Δ
instance : KeepC [] [] := ⟨Sub.nil⟩
instance (priority := 2000) {Γ Δ : List Atom} {code : List UInt8} {b : Nat} {vb : Value} {p : CurS code} [h : KeepC Γ Δ] : KeepC (.bk b (cur vb p) :: Γ) Δ := ⟨sub_skip h.sub⟩
instance (priority := 500) {Γ Δ : List Atom} {A : Atom} [h : KeepC Γ Δ] : KeepC (A :: Γ) (A :: Δ) := ⟨sub_keep h.sub⟩
instance (priority := 50) {Γ : List Atom} : KeepC Γ Γ := ⟨Sub.refl⟩
theorem wa_beginc {P : Program} {Q : Exit → Act → World → Prop} {w0 : World} {l : List Value} {Γ Γb : List Atom} [hm : Mixed P] {n : Nat} {ol : List Oper} (id : Nat) (bl : List Bool) (lt : List Nat) [hk : KeepC Γ Γb] (h : WA P ol.toArray Q w0 lt Γb n bl l Γ) (hn : ol.length = n := by rfl) (hbl : List.replicate n false = bl := by rfl) : WC P Q w0 (.region id ol.toArray true) l Γ :=
  wa_start_on lt Γb (fun _ hs => hs.sub hk.sub) hn hbl h
/-- The atoms but those of a cursor, and of a place for an answer that is not there yet. -/
class KeepD (Γ : List Atom) (Δ : outParam (List Atom)) : Prop where
  sub : Sub Γ Δ
instance : KeepD [] [] := ⟨Sub.nil⟩
instance (priority := 2000) {Γ Δ : List Atom} {code : List UInt8} {b : Nat} {vb : Value} {p : CurS code} [h : KeepD Γ Δ] : KeepD (.bk b (cur vb p) :: Γ) Δ := ⟨sub_skip h.sub⟩
instance (priority := 2000) {Γ Δ : List Atom} {b : Nat} [h : KeepD Γ Δ] : KeepD (.bk b [.slice none 0 0] :: Γ) Δ := ⟨sub_skip h.sub⟩
instance (priority := 500) {Γ Δ : List Atom} {A : Atom} [h : KeepD Γ Δ] : KeepD (A :: Γ) (A :: Δ) := ⟨sub_keep h.sub⟩
instance (priority := 50) {Γ : List Atom} : KeepD Γ Γ := ⟨Sub.refl⟩
theorem wa_begind {P : Program} {Q : Exit → Act → World → Prop} {w0 : World} {l : List Value} {Γ Γb : List Atom} [hm : Mixed P] {n : Nat} {ol : List Oper} (id : Nat) (bl : List Bool) (lt : List Nat) [hk : KeepD Γ Γb] (h : WA P ol.toArray Q w0 lt Γb n bl l Γ) (hn : ol.length = n := by rfl) (hbl : List.replicate n false = bl := by rfl) : WC P Q w0 (.region id ol.toArray true) l Γ :=
  wa_start_on lt Γb (fun _ hs => hs.sub hk.sub) hn hbl h
theorem op_u8 {P : Program} {T : TypeId} (h : P.underlying T = some (.int .u8)) (hs : P.cellsOf T = 1) : Op_ P T UInt8 repU8 := ⟨fun ht => by
  obtain ⟨n, rfl, _, hw⟩ := DataW.trod_int h ht
  have h1 : 0 ≤ n ∧ n < 256 := by
    simp [Lit.wf, IntKind.min, IntKind.max, IntKind.signed, IntKind.bits] at hw
    omega
  refine ⟨UInt8.ofNat n.toNat, ?_⟩
  show [Value.int .u8 n] = [Value.int .u8 (((UInt8.ofNat n.toNat).toNat : Nat) : Int)]
  rw [UInt8.toNat_ofNat', Nat.mod_eq_of_lt (by omega), Int.toNat_of_nonneg h1.1], hs⟩
end Go.Eng
namespace Go.Eng
open Go
set_option linter.unusedVariables false
set_option linter.unusedSimpArgs false
theorem OwL.unsh {β : Type} [Rep β] {ok : Nat → Prop} {w : World} : ∀ {G : List Nat} {cells : List Value} {xs : List (Sh β)}, OwL ok w G cells xs → RdL ok w cells (xs.map Sh.v)
  | _, _, [], h => h.2
  | _, _, x :: xs, ⟨f, g, c, d, _, e', h, h'⟩ => ⟨c, d, e', h.2, OwL.unsh h'⟩
section
variable {P : Program} {ops : Array Oper} {Q : Exit → Act → World → Prop} {w0 : World} {rest : List Oper} {l l' : List Value} {Γ Δ : List Atom} {ty : TypeId} {pos : String} {after : Array Edge} {d : Nat}
theorem wl_load_sh {T : TypeId} {x : Operand} {sv : Value} {n : Int} {m : Nat} {xs : List (Sh (List Int))} [h : Ev l x (.pointer (some (elemA sv n 1)))] [hm : ToN n m] [hT : Sc P T] [hp : PullOw (List (Sh (List Int))) repList Γ [sv] xs Δ] [hr : HasRd (List (Sh (List Int))) repList Γ [sv] xs] (hi : 0 ≤ n ∧ n < xs.length)
    (g : ∀ p, WL P ops Q w0 rest (l.set d p) (.rd [p] (xs.getD m default).v :: Γ)) : WL P ops Q w0 (⟨some d, .load T x, ty, pos, after, none⟩ :: rest) l Γ := by
  intro w hs
  have hn : n.toNat = m := by have := hm.eq; omega
  obtain ⟨a, cap, b, off, p, c, s, rfl, _, _, hca, hp1, he, hrd⟩ := elem_cells (hs.rd (hr := hr)) hi.1 hi.2
  have hs2 := hs.perm hp.perm
  obtain ⟨hb, F, hnd, hl, f, g2, rfl, hf, hrest⟩ := hs2
  have hf := ow_list.1 hf
  rcases hf with ⟨h1, h2, _⟩ | ⟨g0, cap', cur, e, G, cells, h1, h2, h3, h4, h5, h6, h7, h8, h9⟩
  · subst h2; simp at hi; omega
  · obtain ⟨p1, c1, s1, e1, e2, e3⟩ := RdL.get h9.unsh m (by rw [List.length_map]; omega)
    simp only [List.cons.injEq, and_true, Value.slice.injEq, Option.some.injEq, Addr.mk.injEq] at h1
    obtain ⟨⟨rfl, rfl, _⟩, _, _⟩ := h1
    have hsz : Rep.sz (Sh (List Int)) = 1 := rfl
    have hsz2 : Rep.sz (List Int) = 1 := rfl
    obtain ⟨v1, rfl⟩ := List.length_eq_one_iff.1 (show c1.length = 1 from (Rep.rd_len e3).trans hsz2)
    obtain ⟨v2, rfl⟩ := List.length_eq_one_iff.1 (show c.length = 1 from (Rep.rd_len hrd).trans hsz)
    have hcell : w.cell? ⟨b, 0 + p.length, none⟩ = some v2 := by
      have := hca.part 0 (by simp)
      simpa using this
    have hcur : w.cell? ⟨b, 0 + p.length, none⟩ = some v1 := by
      rw [hsz] at hp1
      rw [hsz2] at e2
      have h10 : cur.toList[m]? = some v1 := by
        have : cells[m]? = some v1 := by
          rw [e1, List.append_assoc, List.getElem?_append_right (by omega), e2]; simp
        rw [← h8] at this
        rw [List.getElem?_take] at this
        split at this
        · exact this
        · cases this
      rw [show 0 + p.length = m by omega]
      simp [World.cell?, h3] at h10 ⊢
      exact h10
    rw [hcell] at hcur
    injection hcur with hcur
    subst hcur
    have he' : elemA (.slice (some ⟨b, 0, none⟩) xs.length cap) n 1 = ⟨b, 0 + p.length, none⟩ := he
    have hrun : (execOp (E l).eval (⟨some d, .load T x, ty, pos, after, none⟩ : Oper)).run P w = .ok (.value v2) w := by
      simp only [execOp, h.eq]
      rw [he']
      have hcell' : w.cell? ⟨b, p.length, none⟩ = some v2 := by simpa using hcell
      simp [hcell', Result.andThen, Instr.loadAt, Instr.sureAddr, loadVar, Sem.run_bind, hT.agg, load, Sem.run, hcell]
    refine wl_op rfl hrun ?_
    rw [E_put]
    have e4 : Rep.rd (fun b => b ∉ f ++ g2) w [v2] (xs.getD m default).v := by
      rw [List.getD_eq_getElem?_getD, List.getElem?_eq_getElem (by omega), Option.getD_some]
      rw [List.getElem_map] at e3
      exact e3
    have hsat : Sat w0 w (@Atom.rd (List Int) repList [v2] (xs.getD m default).v :: @Atom.ow (List (Sh (List Int))) repList [.slice (some ⟨b, 0, none⟩) xs.length cap] xs :: Δ) := ⟨hb, f ++ g2, hnd, hl, [], f ++ g2, rfl, ⟨rfl, e4⟩, f, g2, rfl, hf, hrest⟩
    exact g v2 w (hsat.perm (hp.perm.symm.cons _))
instance {T : TypeId} {x : Operand} {sv : Value} {n : Int} {m : Nat} {xs : List (Sh (List Int))} [h : Ev l x (.pointer (some (elemA sv n 1)))] [hm : ToN n m] [hT : Sc P T] [hp : PullOw (List (Sh (List Int))) repList Γ [sv] xs Δ] [hr : HasRd (List (Sh (List Int))) repList Γ [sv] xs] :
    RedV (WL P ops Q w0 (⟨some d, .load T x, ty, pos, after, none⟩ :: rest) l Γ) (0 ≤ n ∧ n < xs.length) (fun p => WL P ops Q w0 rest (l.set d p) (.rd [p] (xs.getD m default).v :: Γ)) := ⟨fun s g => wl_load_sh s g⟩
end
end Go.Eng
