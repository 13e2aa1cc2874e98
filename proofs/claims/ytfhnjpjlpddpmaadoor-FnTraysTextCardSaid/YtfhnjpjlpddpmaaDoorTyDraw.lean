
/- The walks of the drawing functions of numbers. -/
import Derived.Test.YtfhnjpjlpddpmaaDoorDraw2
import Derived.Test.YtfhnjpjlpddpmaaDoorTy5
namespace Go.Proofs.YtfhnjpjlpddpmaaDoor
open Go.RowKit
set_option linter.unusedVariables false

end Go.Proofs.YtfhnjpjlpddpmaaDoor
