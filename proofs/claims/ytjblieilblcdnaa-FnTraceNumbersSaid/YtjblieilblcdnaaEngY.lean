/- The rules of the walk: an element of an owned list, shared or changed in place; answers that are only read. -/
import Derived.Test.YtjblieilblcdnaaEngX
namespace Go.Eng
open Go Go.RowKit
set_option linter.unusedVariables false
set_option linter.unusedSimpArgs false
set_option synthInstance.maxHeartbeats 400000
/-- An element that is shared: where its parts lie. -/
instance unoSh {α : Type} [Rep α] [un : Un α] : UnO (Sh α) := ⟨un.Pr, fun p x => un.cells p x.v, fun p x => .rd (un.cells p x.v) x.v :: un.atoms p x.v, fun x => un.fact x.v, fun {ok w F cs x} h => by
  obtain ⟨rfl, hr⟩ := (show F = [] ∧ Rep.rd ok w cs x.v from h)
  obtain ⟨p, rfl, hs, hf⟩ := un.law hr
  exact ⟨p, rfl, ⟨[], [], rfl, ⟨rfl, hr⟩, hs⟩, hf⟩⟩
section
variable {P : Program} {ops : Array Oper} {Q : Exit → Act → World → Prop} {w0 : World} {rest : List Oper} {l l' : List Value} {Γ Γb Δ Ε : List Atom} {ty : TypeId} {v : Value} {pos : String} {after : Array Edge} {d : Nat}
/-- append closes the list first. -/
instance (priority := 1300) {α : Type} {iα : Rep α} {T U : TypeId} {x y : Operand} {sv : Value} {xs : List α} {i : Nat} {ec : List Value} {e : α} {S : Prop} {G : Value → Prop} [hx : Ev l x sv] [hp : PullOw (Hole α) repHole Γ [sv] (Hole.mk xs i ec) Δ] [ho : OwnC α Δ ec e Ε True]
    [hr : RedV (WL P ops Q w0 (⟨some d, .call { callee := .builtin .append, args := #[x, y], argTypes := #[T, U] }, ty, pos, after, none⟩ :: rest) l (.ow [sv] (xs.set i e) :: Ε)) S G] :
    RedV (WL P ops Q w0 (⟨some d, .call { callee := .builtin .append, args := #[x, y], argTypes := #[T, U] }, ty, pos, after, none⟩ :: rest) l Γ) S G := ⟨fun s h => wl_unfocus (hp := hp) sv e (ho.run trivial) (hr.run s h)⟩
/-- What an owned or shared value reads as, once it may be shared. -/
class ToRd (α : Type) (i : Rep α) (Γ : List Atom) (c : Value) (x : outParam α) (Δ : outParam (List Atom)) (S : outParam Prop) : Prop where
  ent : S → ∀ w0, Ent w0 Γ (@Atom.rd α i [c] x :: Δ)
instance (priority := 1000) {α : Type} {i : Rep α} {c : Value} {x : α} [hp : PullOw α i Γ [c] x Δ] : ToRd α i Γ c x Δ True := ⟨fun _ w0 w hs => (hs.perm hp.perm).share⟩
instance (priority := 500) {α : Type} {i : Rep α} {c : Value} {x : α} [hp : HasIm α i Γ [c] x] : ToRd α i Γ c x Γ True := ⟨fun _ w0 w hs => hs.addrd (fun F h => hp.get h)⟩
instance (priority := 900) {α : Type} {iα : Rep α} {c : Value} {xs : List (Sh α)} [hp : PullOw (List (Sh α)) repList Γ [c] xs Δ] : ToRd (List α) repList Γ c (xs.map Sh.v) Δ True := ⟨fun _ w0 w hs => by
  have e : (xs.map Sh.v).map Sh.mk = xs := by rw [List.map_map]; exact List.map_id _
  haveI : PullOw (List (Sh α)) repList Γ [c] ((xs.map Sh.v).map Sh.mk) Δ := ⟨by rw [e]; exact hp.perm⟩
  exact ent_unsh (ys := xs.map Sh.v) c (fun w h => h) w hs⟩
instance (priority := 900) {α : Type} {iα : Rep α} {c : Value} {xs : List α} {i : Nat} {ec : List Value} {e : α} {S : Prop} [hp : PullOw (Hole α) repHole Γ [c] (Hole.mk xs i ec) Δ] [ho : OwnC α Δ ec e Ε S] : ToRd (List α) repList Γ c (xs.set i e) Ε S := ⟨fun s w0 w hs => by
  have h1 := sat_unfocus (hp := hp) (ho.run s) hs
  exact h1.share⟩
end
/-- The atoms but those of a cursor, and of owned lists of numbers. -/
class KeepI (Γ : List Atom) (Δ : outParam (List Atom)) : Prop where
  sub : Sub Γ Δ
instance : KeepI [] [] := ⟨Sub.nil⟩
instance (priority := 2000) {Γ Δ : List Atom} {code : List UInt8} {b : Nat} {vb : Value} {p : CurS code} [h : KeepI Γ Δ] : KeepI (.bk b (cur vb p) :: Γ) Δ := ⟨sub_skip h.sub⟩
instance (priority := 2000) {Γ Δ : List Atom} {cs : List Value} {xs : List Int} [h : KeepI Γ Δ] : KeepI (.ow cs xs :: Γ) Δ := ⟨sub_skip h.sub⟩
instance (priority := 500) {Γ Δ : List Atom} {A : Atom} [h : KeepI Γ Δ] : KeepI (A :: Γ) (A :: Δ) := ⟨sub_keep h.sub⟩
instance (priority := 50) {Γ : List Atom} : KeepI Γ Γ := ⟨Sub.refl⟩
theorem wa_begini {P : Program} {Q : Exit → Act → World → Prop} {w0 : World} {l : List Value} {Γ Γb : List Atom} [hm : Mixed P] {n : Nat} {ol : List Oper} (id : Nat) (bl : List Bool) (lt : List Nat) [hk : KeepI Γ Γb] (h : WA P ol.toArray Q w0 lt Γb n bl l Γ) (hn : ol.length = n := by rfl) (hbl : List.replicate n false = bl := by rfl) : WC P Q w0 (.region id ol.toArray true) l Γ :=
  wa_start_on lt Γb (fun _ hs => hs.sub hk.sub) hn hbl h
end Go.Eng
