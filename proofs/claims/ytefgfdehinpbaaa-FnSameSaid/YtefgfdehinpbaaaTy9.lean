
/- The walk of the program's filling of trays. -/
import Derived.Test.YtefgfdehinpbaaaTy8
namespace Go.Proofs.Ytefgfdehinpbaaa
open Go.RowKit
set_option linter.unusedVariables false

/-- A tray of one letter in a block of its own, and the block that holds it. -/
theorem new_one (wq : World) (x : Ltr) : Below wq.heap.size wq ((wq.alloc (.cells #[.int .i64 x.1, .string x.2] 44)).alloc (.cells #[.slice (some ⟨wq.heap.size, 0, none⟩) 1 1] 36)) ∧
    Own ((wq.alloc (.cells #[.int .i64 x.1, .string x.2] 44)).alloc (.cells #[.slice (some ⟨wq.heap.size, 0, none⟩) 1 1] 36)) wq.heap.size ((wq.alloc (.cells #[.int .i64 x.1, .string x.2] 44)).alloc (.cells #[.slice (some ⟨wq.heap.size, 0, none⟩) 1 1] 36)).heap.size 44 2 (.slice (some ⟨wq.heap.size, 0, none⟩) 1 1) 1 (lcs [x]) ∧
    Rd ((wq.alloc (.cells #[.int .i64 x.1, .string x.2] 44)).alloc (.cells #[.slice (some ⟨wq.heap.size, 0, none⟩) 1 1] 36)) (some ⟨wq.heap.size + 1, 0, none⟩) [.slice (some ⟨wq.heap.size, 0, none⟩) 1 1] := by
  refine ⟨below2 _ _ _, ?_, ?_⟩
  · have h0 : (wq.alloc (.cells #[.int .i64 x.1, .string x.2] 44)).ownsRow wq.heap.size 44 2 (.slice (some ⟨wq.heap.size, 0, none⟩) 1 1) 1 (lcs [x]) := World.ownsRow_lit wq #[.int .i64 x.1, .string x.2] 1 (Nat.le_refl _) (by unfold maxLen; omega) rfl
    exact ((own_of h0).below ((Below.refl _ _).alloc (Nat.le_refl _) _)).wide (Nat.le_refl _) (by simp)
  · have := rd_new (wq.alloc (.cells #[.int .i64 x.1, .string x.2] 44)) [.slice (some ⟨wq.heap.size, 0, none⟩) 1 1] 36
    simpa using this

end Go.Proofs.Ytefgfdehinpbaaa
