
/- The walk of the exact law on ParseRules. -/
import Derived.Test.YtebplaaneeekdaaDoorNtPrI
namespace Go.Proofs.YtebplaaneeekdaaDoor
open Go.RowKit
set_option linter.unusedVariables false

theorem prL_small (t : ByteArray) : SmR (prL t) := by
  have h := prL_rv (t := t)
  have hb := szs_le (m := 15) fun x hx => by have := rv_sizes h x hx; omega
  have hl := (rv_parts h).len
  exact ⟨by omega, by omega⟩
set_option maxHeartbeats 1600000 in
theorem law_ExactParseRules (t : ByteArray) (w : World) (q1 : t.size ≤ maxLen) :
    Calls Tryd.prog 3 #[.string t] w fun e w' => e = .returned (.bool true) ∧ Below w.heap.size w w' := by
  have q1' := q1
  unfold maxLen at q1'
  by_cases b1 : 1048576 < t.size
  · go_enter Tryd.func3, Tryd.ntmps3
    go_wp2_with fail
    go_ret
    exact ⟨rfl, Below.refl _ _⟩
  have t1 : ((prB t) != (prB t)) = false := by simp
  have cR : SmR (prL t) := prL_small t
  have cRc := cR.cnt
  go_enter Tryd.func3, Tryd.ntmps3
  go_wp2_with fail
  refine (spec_pr t _ (by omega)).mono ?_
  rintro e w3 ⟨uW, rfl, oW, hb3⟩
  have HB := hb3
  have z3 := HB.size
  clear hb3
  go_wp2_with fail
  refine (impl_pr t _ (by omega)).mono ?_
  rintro e w5 ⟨uG, rfl, oG, hb5⟩
  replace oW := oW.below hb5
  replace HB := below_trans' HB hb5
  have z5 := HB.size
  have y5 := hb5.size
  clear hb5
  go_wp2_with fail
  refine (eqR_c _ _ (prL t) _ oG.in_ oW.in_).mono ?_
  rintro e w6 ⟨rfl, hb6⟩
  replace oW := oW.below hb6
  replace oG := oG.below hb6
  replace HB := below_trans' HB hb6
  have z6 := HB.size
  have y6 := hb6.size
  clear hb6
  go_wp2_with fail
  refine (markR_c _ (prL t) _ _ _ 1 (by omega) _ oG cR (by omega)).mono ?_
  rintro e w11 ⟨rfl, M, on11⟩
  replace oW := oW.only on11 (by omega)
  replace HB := on11.below HB (by omega) (by omega)
  have z11 := HB.size
  have y11 := on11.size
  clear oG on11
  have tq : ((((1 : Nat) : Int) + 2 * (cntR (prL t) : Int)) != (((1 : Nat) : Int) + 2 * (cntR (prL t) : Int))) = false := by simp
  go_wp2_with fail
  refine (heldR_c _ (prL t) _ 1 (by omega) _ M.in_ cR (by omega)).mono ?_
  rintro e w12 ⟨rfl, hb12⟩
  replace oW := oW.below hb12
  replace M := M.below hb12
  replace HB := below_trans' HB hb12
  have z12 := HB.size
  have y12 := hb12.size
  clear hb12
  go_wp2_with fail
  refine (impl_pr t _ (by omega)).mono ?_
  rintro e w14 ⟨uH, rfl, oH, hb14⟩
  replace oW := oW.below hb14
  replace M := M.below hb14
  replace HB := below_trans' HB hb14
  have z14 := HB.size
  have y14 := hb14.size
  clear hb14
  go_wp2_with fail
  refine (eqR_c _ _ (prL t) _ oH.in_ oW.in_).mono ?_
  rintro e w15 ⟨rfl, hb15⟩
  replace oW := oW.below hb15
  replace M := M.below hb15
  replace oH := oH.below hb15
  replace HB := below_trans' HB hb15
  have z15 := HB.size
  have y15 := hb15.size
  clear hb15
  go_wp2_with fail
  refine (heldR_c _ (prL t) _ 1 (by omega) _ M.in_ cR (by omega)).mono ?_
  rintro e w16 ⟨rfl, hb16⟩
  replace HB := below_trans' HB hb16
  clear hb16
  go_wp2_with fail
  go_ret
  exact ⟨rfl, HB⟩
end Go.Proofs.YtebplaaneeekdaaDoor
