/- Elements that an owned list shares with others are read. -/
import Derived.Test.YtfdpmkilhllkoaaEngV
namespace Go.Eng
open Go
set_option linter.unusedVariables false
set_option linter.unusedSimpArgs false
theorem OwL.unsh {β : Type} [Rep β] {ok : Nat → Prop} {w : World} : ∀ {G : List Nat} {cells : List Value} {xs : List (Sh β)}, OwL ok w G cells xs → RdL ok w cells (xs.map Sh.v)
  | _, _, [], h => h.2
  | _, _, x :: xs, ⟨f, g, c, d, _, e', h, h'⟩ => ⟨c, d, e', h.2, OwL.unsh h'⟩
section
variable {P : Program} {ops : Array Oper} {Q : Exit → Act → World → Prop} {w0 : World} {rest : List Oper} {l l' : List Value} {Γ Δ : List Atom} {ty : TypeId} {pos : String} {after : Array Edge} {d : Nat}
theorem wl_load_sh {T : TypeId} {x : Operand} {sv : Value} {n : Int} {m : Nat} {xs : List (Sh (List Int))} [h : Ev l x (.pointer (some (elemA sv n 1)))] [hm : ToN n m] [hT : Sc P T] [hp : PullOw (List (Sh (List Int))) repList Γ [sv] xs Δ] [hr : HasRd (List (Sh (List Int))) repList Γ [sv] xs] (hi : 0 ≤ n ∧ n < xs.length)
    (g : ∀ p, WL P ops Q w0 rest (l.set d p) (.rd [p] (xs.getD m default).v :: Γ)) : WL P ops Q w0 (⟨some d, .load T x, ty, pos, after, none⟩ :: rest) l Γ := by
  intro w hs
  have hn : n.toNat = m := by have := hm.eq; omega
  obtain ⟨a, cap, b, off, p, c, s, rfl, _, _, hca, hp1, he, hrd⟩ := elem_cells (hs.rd (hr := hr)) hi.1 hi.2
  have hs2 := hs.perm hp.perm
  obtain ⟨hb, F, hnd, hl, f, g2, rfl, hf, hrest⟩ := hs2
  have hf := ow_list.1 hf
  rcases hf with ⟨h1, h2, _⟩ | ⟨g0, cap', cur, e, G, cells, h1, h2, h3, h4, h5, h6, h7, h8, h9⟩
  · subst h2; simp at hi; omega
  · obtain ⟨p1, c1, s1, e1, e2, e3⟩ := RdL.get h9.unsh m (by rw [List.length_map]; omega)
    simp only [List.cons.injEq, and_true, Value.slice.injEq, Option.some.injEq, Addr.mk.injEq] at h1
    obtain ⟨⟨rfl, rfl, _⟩, _, _⟩ := h1
    have hsz : Rep.sz (Sh (List Int)) = 1 := rfl
    have hsz2 : Rep.sz (List Int) = 1 := rfl
    obtain ⟨v1, rfl⟩ := List.length_eq_one_iff.1 (show c1.length = 1 from (Rep.rd_len e3).trans hsz2)
    obtain ⟨v2, rfl⟩ := List.length_eq_one_iff.1 (show c.length = 1 from (Rep.rd_len hrd).trans hsz)
    have hcell : w.cell? ⟨b, 0 + p.length, none⟩ = some v2 := by
      have := hca.part 0 (by simp)
      simpa using this
    have hcur : w.cell? ⟨b, 0 + p.length, none⟩ = some v1 := by
      rw [hsz] at hp1
      rw [hsz2] at e2
      have h10 : cur.toList[m]? = some v1 := by
        have : cells[m]? = some v1 := by
          rw [e1, List.append_assoc, List.getElem?_append_right (by omega), e2]; simp
        rw [← h8] at this
        rw [List.getElem?_take] at this
        split at this
        · exact this
        · cases this
      rw [show 0 + p.length = m by omega]
      simp [World.cell?, h3] at h10 ⊢
      exact h10
    rw [hcell] at hcur
    injection hcur with hcur
    subst hcur
    have he' : elemA (.slice (some ⟨b, 0, none⟩) xs.length cap) n 1 = ⟨b, 0 + p.length, none⟩ := he
    have hrun : (execOp (E l).eval (⟨some d, .load T x, ty, pos, after, none⟩ : Oper)).run P w = .ok (.value v2) w := by
      simp only [execOp, h.eq]
      rw [he']
      have hcell' : w.cell? ⟨b, p.length, none⟩ = some v2 := by simpa using hcell
      simp [hcell', Result.andThen, Instr.loadAt, Instr.sureAddr, loadVar, Sem.run_bind, hT.agg, load, Sem.run, hcell]
    refine wl_op rfl hrun ?_
    rw [E_put]
    have e4 : Rep.rd (fun b => b ∉ f ++ g2) w [v2] (xs.getD m default).v := by
      rw [List.getD_eq_getElem?_getD, List.getElem?_eq_getElem (by omega), Option.getD_some]
      rw [List.getElem_map] at e3
      exact e3
    have hsat : Sat w0 w (@Atom.rd (List Int) repList [v2] (xs.getD m default).v :: @Atom.ow (List (Sh (List Int))) repList [.slice (some ⟨b, 0, none⟩) xs.length cap] xs :: Δ) := ⟨hb, f ++ g2, hnd, hl, [], f ++ g2, rfl, ⟨rfl, e4⟩, f, g2, rfl, hf, hrest⟩
    exact g v2 w (hsat.perm (hp.perm.symm.cons _))
instance {T : TypeId} {x : Operand} {sv : Value} {n : Int} {m : Nat} {xs : List (Sh (List Int))} [h : Ev l x (.pointer (some (elemA sv n 1)))] [hm : ToN n m] [hT : Sc P T] [hp : PullOw (List (Sh (List Int))) repList Γ [sv] xs Δ] [hr : HasRd (List (Sh (List Int))) repList Γ [sv] xs] :
    RedV (WL P ops Q w0 (⟨some d, .load T x, ty, pos, after, none⟩ :: rest) l Γ) (0 ≤ n ∧ n < xs.length) (fun p => WL P ops Q w0 rest (l.set d p) (.rd [p] (xs.getD m default).v :: Γ)) := ⟨fun s g => wl_load_sh s g⟩
end
end Go.Eng
