
/- The walk of what draws trays. -/
import Derived.Test.YtaadjjadpacclaaTyDrawL
import Derived.Test.YtaadjjadpacclaaTy10
namespace Go.Proofs.Ytaadjjadpacclaa
open Go.RowKit
set_option linter.unusedVariables false

end Go.Proofs.Ytaadjjadpacclaa
