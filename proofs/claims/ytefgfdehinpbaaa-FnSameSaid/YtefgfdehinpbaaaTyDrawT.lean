
/- The walk of what draws trays. -/
import Derived.Test.YtefgfdehinpbaaaTyDrawL
import Derived.Test.YtefgfdehinpbaaaTy10
namespace Go.Proofs.Ytefgfdehinpbaaa
open Go.RowKit
set_option linter.unusedVariables false

end Go.Proofs.Ytefgfdehinpbaaa
