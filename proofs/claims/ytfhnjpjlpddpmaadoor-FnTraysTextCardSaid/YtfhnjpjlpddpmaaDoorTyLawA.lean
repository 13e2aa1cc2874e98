
/- The walk of the law on the least number of trays. -/
import Derived.Test.YtfhnjpjlpddpmaaDoorTyDraw
namespace Go.Proofs.YtfhnjpjlpddpmaaDoor
open Go.RowKit
set_option linter.unusedVariables false

theorem least_facts {c s : Int} (h : 0 ≤ least c s) : (0 ≤ c ∧ c ≤ 60) ∧ (1 ≤ s ∧ s ≤ 20) ∧ c ≤ least c s * s ∧ (least c s - 1) * s < c ∧ least c s ≤ 79 ∧ least c s * s ≤ 79 := by
  cases h1 : inB c 0 60 with
  | false => rw [least_no1 h1] at h; omega
  | true =>
    cases h2 : inB s 1 20 with
    | false => rw [least_no2 h2] at h; omega
    | true =>
      have b1 := inB_true.1 h1
      have b2 := inB_true.1 h2
      rw [least_yes h1 h2] at h ⊢
      have e1 := Int.mul_ediv_add_emod (c + s - 1) s
      have e2 := Int.emod_nonneg (c + s - 1) (show s ≠ 0 by omega)
      have e3 := Int.emod_lt_of_pos (c + s - 1) (show 0 < s by omega)
      generalize (c + s - 1) / s = q at *
      have e4 : s * q = q * s := Int.mul_comm _ _
      have e5 : (q - 1) * s = q * s - s := by rw [Int.sub_mul, Int.one_mul]
      have e6 : q ≤ q * s := by
        have := Int.mul_le_mul_of_nonneg_left (show (1 : Int) ≤ s by omega) h
        omega
      omega
theorem least_neg {c s : Int} (h : ¬ 0 ≤ least c s) : least c s < 0 := by omega

end Go.Proofs.YtfhnjpjlpddpmaaDoor
