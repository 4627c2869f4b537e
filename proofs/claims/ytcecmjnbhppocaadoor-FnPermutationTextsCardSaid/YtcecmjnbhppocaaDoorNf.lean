/- Contracts: draws of two values for the symbols. -/
import Derived.Test.YtcecmjnbhppocaaDoorNe
namespace Go.Proofs.YtcecmjnbhppocaaDoor
open Go.RowKit
set_option linter.unusedVariables false
set_option linter.unusedSimpArgs false

end Go.Proofs.YtcecmjnbhppocaaDoor
