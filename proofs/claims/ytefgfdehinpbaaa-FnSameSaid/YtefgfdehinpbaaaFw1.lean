
/- Orders in memory. -/
import Derived.Test.YtefgfdehinpbaaaRows
import Derived.Test.YtefgfdehinpbaaaFwMath
import Derived.Test.YtefgfdehinpbaaaTy4
import Derived.Test.YtefgfdehinpbaaaMem2
import Derived.Test.YtefgfdehinpbaaaStr
namespace Go.Proofs.Ytefgfdehinpbaaa
open Go.RowKit
set_option linter.unusedVariables false

def ftf (x : Fwd) : Value × Value := (.string x.1, .string x.2)
abbrev fcs (xs : List Fwd) : List Value := cs2 ftf xs
theorem fcs_oneCell (xs : List Fwd) : ∀ u ∈ fcs xs, u.oneCell' = true := cs2_oneCell (fun _ => ⟨rfl, rfl⟩) xs
/-- A slice of orders that reads xs. -/
abbrev Ft (w : World) (v : Value) (xs : List Fwd) : Prop := Sl w v xs.length (fcs xs)
/-- Codes that are strings of Go's. -/
def Szf (xs : List Fwd) : Prop := ∀ x ∈ xs, x.1.size ≤ maxLen ∧ x.2.size ≤ maxLen

end Go.Proofs.Ytefgfdehinpbaaa
