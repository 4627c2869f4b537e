/- Contracts: draws of two values for the symbols. -/
import Derived.Test.YtdgigkbfekbkkaaNe
namespace Go.Proofs.Ytdgigkbfekbkkaa
open Go.RowKit
set_option linter.unusedVariables false
set_option linter.unusedSimpArgs false

end Go.Proofs.Ytdgigkbfekbkkaa
