/- Strings joined. -/
import Derived.Test.YtogmjihokkdcfaaGreatDoorStr
import Derived.Test.YtogmjihokkdcfaaGreatDoorBase
namespace Go.Proofs.YtogmjihokkdcfaaGreatDoor
open Go Go.Eng
set_option linter.unusedVariables false
set_option linter.unusedSimpArgs false
/-- The first k strings, joined. -/
def jnT (c : UInt8) (ss : List ByteArray) : Nat → List UInt8
  | 0 => []
  | k + 1 => jnT c ss k ++ ((if k = 0 then [] else [c]) ++ (ss.getD k ByteArray.empty).data.toList)
def szT (ss : List ByteArray) : Nat → Nat
  | 0 => 0
  | k + 1 => szT ss k + (ss.getD k ByteArray.empty).size
theorem jnT_len (c : UInt8) (ss : List ByteArray) : ∀ k, (jnT c ss k).length ≤ szT ss k + k ∧ k ≤ (jnT c ss k).length + 1
  | 0 => ⟨Nat.le_refl _, Nat.zero_le _⟩
  | k + 1 => by
    have h := jnT_len c ss k
    have h2 : (ss.getD k ByteArray.empty).data.toList.length = (ss.getD k ByteArray.empty).size := Array.length_toList
    unfold jnT szT
    simp only [List.length_append, h2]
    split <;> simp only [List.length_nil, List.length_singleton] <;> omega
theorem szT_mono (ss : List ByteArray) (k : Nat) : ∀ j, szT ss k ≤ szT ss (k + j)
  | 0 => Nat.le_refl _
  | j + 1 => Nat.le_trans (szT_mono ss k j) (Nat.le_add_right _ _)
end Go.Proofs.YtogmjihokkdcfaaGreatDoor
