
/- Strings as cells. -/
import Derived.Test.YthmngaioimohaaaNt6
namespace Go.Proofs.Ythmngaioimohaaa
open Go.RowKit
set_option linter.unusedVariables false

def strs (xs : List ByteArray) : List Value := xs.map Value.string
theorem strs_get {xs : List ByteArray} {k : Nat} {x : ByteArray} (h : xs[k]? = some x) : (strs xs)[k]? = some (.string x) := by simp [strs, h]
theorem strs_set (xs : List ByteArray) (k : Nat) (x : ByteArray) : (strs xs).set k (.string x) = strs (xs.set k x) := by simp [strs, List.map_set]
theorem str_info : (Try.prog.info? 9).map (fun i => (i.zero, i.size, i.bytes)) = some (some (.string ⟨#[]⟩), 1, 16) := by kernel_rfl
theorem made_strs (n : Nat) : (madeCells (Value.string ⟨#[]⟩).cells (n * 1)).toList = strs (List.replicate n ⟨#[]⟩) := by
  have : (Value.string ⟨#[]⟩).cells = #[.string ⟨#[]⟩] := rfl
  rw [this, Nat.mul_one, made_toList, strs, List.map_replicate]

end Go.Proofs.Ythmngaioimohaaa
