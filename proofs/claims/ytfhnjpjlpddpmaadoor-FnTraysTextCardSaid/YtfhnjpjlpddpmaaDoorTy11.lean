
/- The contracts of FillByPrefix, FillTrays, RepackTrays. -/
import Derived.Test.YtfhnjpjlpddpmaaDoorTy10
namespace Go.Proofs.YtfhnjpjlpddpmaaDoor
open Go.RowKit
set_option linter.unusedVariables false

theorem fbp_own {w : World} {lo hi : Nat} {u : Value} {xs : List Ltr} {size d : Int} (he : fok xs size d = false) (h : OLL w lo hi u []) : OLL w lo hi u (fbp xs size d) := by rw [fbp_no he]; exact h
end Go.Proofs.YtfhnjpjlpddpmaaDoor
