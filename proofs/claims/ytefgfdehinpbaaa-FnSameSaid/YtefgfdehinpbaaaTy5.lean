
/- The walks of LeastTrays, LabelOf and FindLetter. -/
import Derived.Test.YtefgfdehinpbaaaTy4
import Derived.Test.YtefgfdehinpbaaaTyLaw
namespace Go.Proofs.Ytefgfdehinpbaaa
open Go.RowKit
set_option linter.unusedVariables false

/-- The least number of trays. -/
def least (count size : Int) : Int := if inB count 0 60 && inB size 1 20 then (count + size - 1) / size else -1
theorem least_no1 {count size : Int} (h : inB count 0 60 = false) : least count size = -1 := by simp [least, h]
theorem least_no2 {count size : Int} (h : inB size 1 20 = false) : least count size = -1 := by simp [least, h]
theorem least_yes {count size : Int} (h : inB count 0 60 = true) (h2 : inB size 1 20 = true) : least count size = (count + size - 1) / size := by simp [least, h, h2]
/-- The label of letters. -/
def dash : ByteArray := ⟨#[45]⟩
def label (xs : List Ltr) : ByteArray := if bv xs then (match xs.head?, xs.getLast? with | some x, some y => x.2 ++ dash ++ y.2 | _, _ => ⟨#[]⟩) else ⟨#[]⟩
theorem label_no {xs : List Ltr} (h : bv xs = false) : label xs = ⟨#[]⟩ := by simp [label, h]
theorem label_nil : label [] = ⟨#[]⟩ := by unfold label; split <;> rfl
theorem label_yes {xs : List Ltr} (h : bv xs = true) {x y : Ltr} (hx : xs[0]? = some x) (hy : xs[xs.length - 1]? = some y) : label xs = x.2 ++ dash ++ y.2 := by
  rw [← List.getLast?_eq_getElem?] at hy
  rw [← List.head?_eq_getElem?] at hx
  simp [label, h, hx, hy]


theorem ends_at {xs : List Ltr} (h : 0 < xs.length) : ∃ x y, xs[0]? = some x ∧ xs[xs.length - 1]? = some y := ⟨_, _, List.getElem?_eq_getElem h, List.getElem?_eq_getElem (by omega)⟩
/-- The two codes of a label. -/
theorem label_cells {w : World} {A : Option Addr} {xs : List Ltr} {x y : Ltr} (hA : Rd w A (lcs xs)) (h : 0 < xs.length) (hx : xs[0]? = some x) (hy : xs[xs.length - 1]? = some y) :
    ∃ ad, A = some ad ∧ w.cell? ⟨ad.block, ad.off + 1, none⟩ = some (.string x.2) ∧ w.cell? ⟨(ad.add ((xs.length - 1) * 2)).block, (ad.add ((xs.length - 1) * 2)).off + 1, none⟩ = some (.string y.2) := by
  obtain ⟨ad, x', rfl, hx', _, hc⟩ := hA.two h
  obtain ⟨ad2, y', e, hy', _, hc2⟩ := hA.two (k := xs.length - 1) (by omega)
  injection e with e
  subst e
  rw [hx] at hx'
  rw [hy] at hy'
  injection hx' with hx'
  injection hy' with hy'
  subst hx' hy'
  refine ⟨ad, rfl, ?_, hc2⟩
  simpa [ltf, Addr.add_zero'] using hc

end Go.Proofs.Ytefgfdehinpbaaa
