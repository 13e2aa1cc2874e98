
/- The walk of the program's filling of trays. -/
import Derived.Test.YtfhnjpjlpddpmaaDoorTy8
namespace Go.Proofs.YtfhnjpjlpddpmaaDoor
open Go.RowKit
set_option linter.unusedVariables false

/-- A tray of one letter in a block of its own, and the block that holds it. -/
theorem new_one (wq : World) (x : Ltr) : Below wq.heap.size wq ((wq.alloc (.cells #[.int .i64 x.1, .string x.2] 35)).alloc (.cells #[.slice (some ⟨wq.heap.size, 0, none⟩) 1 1] 33)) ∧
    Own ((wq.alloc (.cells #[.int .i64 x.1, .string x.2] 35)).alloc (.cells #[.slice (some ⟨wq.heap.size, 0, none⟩) 1 1] 33)) wq.heap.size ((wq.alloc (.cells #[.int .i64 x.1, .string x.2] 35)).alloc (.cells #[.slice (some ⟨wq.heap.size, 0, none⟩) 1 1] 33)).heap.size 35 2 (.slice (some ⟨wq.heap.size, 0, none⟩) 1 1) 1 (lcs [x]) ∧
    Rd ((wq.alloc (.cells #[.int .i64 x.1, .string x.2] 35)).alloc (.cells #[.slice (some ⟨wq.heap.size, 0, none⟩) 1 1] 33)) (some ⟨wq.heap.size + 1, 0, none⟩) [.slice (some ⟨wq.heap.size, 0, none⟩) 1 1] := by
  refine ⟨below2 _ _ _, ?_, ?_⟩
  · have h0 : (wq.alloc (.cells #[.int .i64 x.1, .string x.2] 35)).ownsRow wq.heap.size 35 2 (.slice (some ⟨wq.heap.size, 0, none⟩) 1 1) 1 (lcs [x]) := World.ownsRow_lit wq #[.int .i64 x.1, .string x.2] 1 (Nat.le_refl _) (by unfold maxLen; omega) rfl
    exact ((own_of h0).below ((Below.refl _ _).alloc (Nat.le_refl _) _)).wide (Nat.le_refl _) (by simp)
  · have := rd_new (wq.alloc (.cells #[.int .i64 x.1, .string x.2] 35)) [.slice (some ⟨wq.heap.size, 0, none⟩) 1 1] 33
    simpa using this

end Go.Proofs.YtfhnjpjlpddpmaaDoor
