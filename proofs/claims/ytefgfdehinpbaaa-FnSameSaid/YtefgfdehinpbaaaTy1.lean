
/- The walks of the small functions on letters: copies, comparisons, sizes, marks. -/
import Derived.Test.YtefgfdehinpbaaaTyMem
import Derived.Test.YtefgfdehinpbaaaApp
import Derived.Test.YtefgfdehinpbaaaStr
import Derived.Laws.IdiomStrings
namespace Go.Proofs.Ytefgfdehinpbaaa
open Go.RowKit
set_option linter.unusedVariables false

theorem ltr_info : (Try.prog.info? 44).map (fun i => (i.zero, i.size, i.bytes)) = some (some (.agg #[.int .i64 0, .string ⟨#[]⟩]), 2, 24) := by kernel_rfl
theorem ltr_elem : ElemInfo Try.prog 36 44 2 24 := elemInfo_of Try.underlying36 ltr_info rfl (by decide)
theorem below_alloc {B : Nat} {a w : World} (h : Below B a w) (hB : B ≤ w.heap.size) (o : Obj) : Below B a (w.alloc o) := h.alloc hB o

theorem below2 (w : World) (a b : Obj) : Below w.heap.size w ((w.alloc a).alloc b) := ((Below.refl _ _).alloc (Nat.le_refl _) _).alloc (by simp) _
/-- The bytes of all codes. -/
def szs (xs : List Ltr) : Nat := (xs.map fun x => x.2.size).sum
theorem szs_snoc {xs : List Ltr} {k : Nat} {x : Ltr} (h : xs[k]? = some x) : szs (xs.take (k + 1)) = szs (xs.take k) + x.2.size := by
  rw [szs, take_snoc h, List.map_append, List.sum_append]; simp [szs]
/-- A string of one byte. -/
theorem conv_one (w : World) (n : Nat) (x : Int) (hx : x = (n : Int)) (hn : n < 256) :
    (convert 22 9 (.slice (some ⟨w.heap.size, 0, none⟩) 1 1)).run Try.prog (w.alloc (.cells #[.int .u8 x] 5)) = .ok (.string (one8 n)) (w.alloc (.cells #[.int .u8 x] 5)) := by
  refine run_convert_bytes_back _ _ _ 5 _ 1 [n.toUInt8] Try.underlying22 Try.underlying5 Try.underlying9 (fun j hj => ?_)
  have hj0 : j = 0 := by simp at hj; omega
  subst hj0
  have e1 : (⟨w.heap.size, 0, none⟩ : Addr).add 0 = ⟨w.heap.size, 0, none⟩ := by simp [Addr.add]
  rw [e1, World.cell?_alloc_at _ _ _ _ rfl, hx]
  have : n.toUInt8.toNat = n := by rw [UInt8.toNat_ofNat']; omega
  simp [this]
theorem mtD_zero (f : Nat) (out : ByteArray) : mtD f out 0 = out := by cases f <;> simp [mtD]
theorem mtD_go {f k : Nat} (out : ByteArray) (hk : k ≠ 0) : mtD (f + 1) out k = mtD f (one8 (48 + k % 10) ++ out) (k / 10) := by rw [mtD, if_neg hk]
end Go.Proofs.Ytefgfdehinpbaaa
