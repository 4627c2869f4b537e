/- Contracts: draws of two values for the symbols. -/
import Derived.Test.YtaielmibofnddaaNe
namespace Go.Proofs.Ytaielmibofnddaa
open Go.RowKit
set_option linter.unusedVariables false
set_option linter.unusedSimpArgs false

end Go.Proofs.Ytaielmibofnddaa
