/- The laws' own helpers for the types: size, copy, comparison, marks. Printed by a program. -/
import Derived.Test.YtcpfcnjchlbapaaBase
namespace Go.Proofs.Ytcpfcnjchlbapaa
open Go Go.Eng
set_option linter.unusedVariables false
set_option linter.unusedSimpArgs false

abbrev SSig := List Int
abbrev SSubst := List (List Int)
abbrev SRule := List Int × List Int
abbrev SSystem := SSig × List SRule
abbrev SStep := Int × Int × List Int
abbrev SWalk := List Int × List SStep
abbrev SPeak := List Int × List Int × List Int × Int × Int × Int
abbrev SWeights := Int × List Int × List Int
abbrev SPoly := Int × List Int
abbrev SDepPair := List Int × List Int × Int × Int
abbrev SPairStep := List Int × List Int × List SPoly × List Int
abbrev SLoop := SWalk × Int × SSubst
abbrev SEq := List Int × List Int
abbrev SMove := Int × Int × Bool × List Int
abbrev SChain := List Int × List SMove
abbrev SWork := SSig × List Int × List SEq × List SRule
abbrev STrans := Int × List Int × Int
abbrev SAuto := Int × List STrans × List Int
abbrev SLine := Int × List (List Int) × List Int
abbrev SFront := SSig × List Int × List SLine
abbrev SCRule := List Int × List Int × List SEq
abbrev SCSystem := SSig × List SCRule
abbrev SNode := Int × List Int × List (List Int) × List Int
abbrev SProof := List SNode
abbrev SClaim := Int × List Int × List Int
end Go.Proofs.Ytcpfcnjchlbapaa
