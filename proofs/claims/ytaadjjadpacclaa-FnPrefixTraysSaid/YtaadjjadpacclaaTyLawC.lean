
/- The walks of the laws on labels, on emptied trays and on where a letter is. -/
import Derived.Test.YtaadjjadpacclaaTyLawB
import Derived.Deep.RegionWith
import Derived.Deep.RegionHeld3
namespace Go.Proofs.Ytaadjjadpacclaa
open Go.RowKit
set_option linter.unusedVariables false

/- Emptied trays. -/
end Go.Proofs.Ytaadjjadpacclaa
