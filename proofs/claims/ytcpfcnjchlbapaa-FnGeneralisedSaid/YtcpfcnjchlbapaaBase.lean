/- The laws' own helpers for []int64. -/
import Derived.Test.YtcpfcnjchlbapaaInst
namespace Go.Proofs.Ytcpfcnjchlbapaa
open Go Go.Eng
set_option linter.unusedVariables false
set_option linter.unusedSimpArgs false

end Go.Proofs.Ytcpfcnjchlbapaa
