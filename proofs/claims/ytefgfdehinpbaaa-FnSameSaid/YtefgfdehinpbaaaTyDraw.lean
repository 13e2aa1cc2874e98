
/- The walks of the drawing functions of numbers. -/
import Derived.Test.YtefgfdehinpbaaaDraw2
import Derived.Test.YtefgfdehinpbaaaTy5
namespace Go.Proofs.Ytefgfdehinpbaaa
open Go.RowKit
set_option linter.unusedVariables false

end Go.Proofs.Ytefgfdehinpbaaa
