
/- Strings: how the walk asks whether two are equal; lengths; digits of a code. No program in sight. -/
import Derived.Test.YthmngaioimohaaaMem
import Derived.Lib.Strings
namespace Go.Proofs.Ythmngaioimohaaa
open Go.RowKit
set_option linter.unusedVariables false

theorem tl_data (s : ByteArray) : s.toList = s.data.toList := ByteArray.toList_eq s
theorem ba_inj {a b : ByteArray} (h : a.data.toList = b.data.toList) : a = b := by
  obtain ⟨⟨x⟩⟩ := a
  obtain ⟨⟨y⟩⟩ := b
  simp only at h
  subst h; rfl
theorem str_same {a b : ByteArray} (h : a = b) : (a.toList == b.toList) = true := by subst h; simp
theorem str_diff {a b : ByteArray} (h : a ≠ b) : (a.toList == b.toList) = false := by
  rw [beq_eq_false_iff_ne]
  intro e
  rw [tl_data, tl_data] at e
  exact h (ba_inj e)
theorem str_eq (a b : ByteArray) : (a.toList == b.toList) = decide (a = b) := by
  by_cases h : a = b
  · rw [str_same h, decide_eq_true h]
  · rw [str_diff h, decide_eq_false h]

end Go.Proofs.Ythmngaioimohaaa
