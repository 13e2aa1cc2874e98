
/- The contracts of RepackTrays. -/
import Derived.Test.YtfhnjpjlpddpmaaDoorTy11
namespace Go.Proofs.YtfhnjpjlpddpmaaDoor
open Go.RowKit
set_option linter.unusedVariables false

/-- Trays repacked, and whether. -/
def rok (xss : List (List Ltr)) (size : Int) : Bool := tv xss 20 && inB size 1 20
def rpk (xss : List (List Ltr)) (size : Int) : List (List Ltr) := if rok xss size then fbp xss.flatten size 0 else []
theorem rok_tv {xss : List (List Ltr)} {size : Int} (h : tv xss 20 = false) : rok xss size = false := by simp [rok, h]
theorem rok_size {xss : List (List Ltr)} {size : Int} (h : inB size 1 20 = false) : rok xss size = false := by simp [rok, h]
theorem rok_mk {xss : List (List Ltr)} {size : Int} (h : tv xss 20 = true) (h2 : inB size 1 20 = true) : rok xss size = true := by simp [rok, h, h2]
theorem rpk_no {xss : List (List Ltr)} {size : Int} (h : rok xss size = false) : rpk xss size = [] := by simp [rpk, h]
theorem rpk_yes {xss : List (List Ltr)} {size : Int} (h : rok xss size = true) : rpk xss size = fbp xss.flatten size 0 := by simp [rpk, h]
theorem rpk_fok {xss : List (List Ltr)} {size : Int} (h : tv xss 20 = true) (h2 : inB size 1 20 = true) : fok xss.flatten size 0 = true := fok_mk (tv_parts h).2.2.2 h2 (by decide)
theorem rpk_own {w : World} {lo hi : Nat} {u : Value} {xss : List (List Ltr)} {size : Int} (he : rok xss size = false) (h : OLL w lo hi u []) : OLL w lo hi u (rpk xss size) := by rw [rpk_no he]; exact h
theorem rpk_small {xss : List (List Ltr)} {size : Int} : (rpk xss size).length ≤ 60 ∧ (∀ t ∈ rpk xss size, t.length ≤ 60) ∧ (rpk xss size).flatten.length ≤ 60 := by
  cases h : rok xss size with
  | false => rw [rpk_no h]; simp
  | true => rw [rpk_yes h]; exact fbp_small

end Go.Proofs.YtfhnjpjlpddpmaaDoor
