/- The walk of the exact law on SameRules. -/
import Derived.Test.YtnlgbfdgjfekoaaNt10
namespace Go.Proofs.Ytnlgbfdgjfekoaa
open Go.RowKit
set_option linter.unusedVariables false

set_option maxHeartbeats 1600000 in
theorem law_ExactSameRules (v0 : Value) (x0 : List Rul) (v1 : Value) (x1 : List Rul) (w : World) (h0 : IR w v0 x0) (d0 : SzR x0) (h1 : IR w v1 x1) (d1 : SzR x1) :
    Calls Try.prog 11 #[v0, v1] w fun e w' => e = .returned (.bool true) ∧ Below w.heap.size w w' := by
  have t0 : ((sameR x0 x1) != (sameR x0 x1)) = false := by simp
  go_enter Try.func11, Try.ntmps11
  go_wp2_with fail
  refine (szR_c v0 x0 1048576 _ h0 d0 (by omega) (by omega)).mono ?_
  rintro e w1 ⟨⟨l0, rfl, l0a, l0b, l0c⟩, hb1⟩
  have HB := hb1
  have z1 := HB.size
  have y1 := hb1.size
  clear hb1
  by_cases l0n : l0 < 0
  · clear l0c
    go_wp2_with fail
    go_ret
    exact ⟨rfl, HB⟩
  have c0 := l0c (by omega)
  clear l0c
  go_wp2_with fail
  refine (szR_c v1 x1 l0 _ (h1.below HB) d1 (by omega) (by omega)).mono ?_
  rintro e w2 ⟨⟨l1, rfl, l1a, l1b, l1c⟩, hb2⟩
  replace HB := below_trans' HB hb2
  have z2 := HB.size
  have y2 := hb2.size
  clear hb2
  by_cases l1n : l1 < 0
  · clear l1c
    go_wp2_with fail
    go_ret
    exact ⟨rfl, HB⟩
  have c1 := l1c (by omega)
  clear l1c
  go_wp2_with fail
  refine (toR_c v0 x0 _ (h0.below HB) c0).mono ?_
  rintro e w3 ⟨ua0, rfl, oa0, hb3⟩
  replace HB := below_trans' HB hb3
  have z3 := HB.size
  have y3 := hb3.size
  clear hb3
  go_wp2_with fail
  refine (toR_c v1 x1 _ (h1.below HB) c1).mono ?_
  rintro e w4 ⟨ua1, rfl, oa1, hb4⟩
  replace oa0 := oa0.below hb4
  replace HB := below_trans' HB hb4
  have z4 := HB.size
  have y4 := hb4.size
  clear hb4
  go_wp2_with fail
  refine (spec_sameR ua0 ua1 x0 x1 _ oa0.in_ oa1.in_ d0 d1).mono ?_
  rintro e w5 ⟨rfl, hb5⟩
  replace oa0 := oa0.below hb5
  replace oa1 := oa1.below hb5
  replace HB := below_trans' HB hb5
  have z5 := HB.size
  have y5 := hb5.size
  clear hb5
  clear oa0
  clear oa1
  go_wp2_with fail
  refine (toR_c v0 x0 _ (h0.below HB) c0).mono ?_
  rintro e w6 ⟨ux0, rfl, ox0, hb6⟩
  replace HB := below_trans' HB hb6
  have z6 := HB.size
  have y6 := hb6.size
  clear hb6
  go_wp2_with fail
  refine (toR_c v1 x1 _ (h1.below HB) c1).mono ?_
  rintro e w7 ⟨ux1, rfl, ox1, hb7⟩
  replace ox0 := ox0.below hb7
  replace HB := below_trans' HB hb7
  have z7 := HB.size
  have y7 := hb7.size
  clear hb7
  go_wp2_with fail
  refine (impl_sameR ux0 ux1 x0 x1 _ ox0.in_ ox1.in_ d0 d1).mono ?_
  rintro e w8 ⟨rfl, hb8⟩
  replace ox0 := ox0.below hb8
  replace ox1 := ox1.below hb8
  replace HB := below_trans' HB hb8
  have z8 := HB.size
  have y8 := hb8.size
  clear hb8
  go_wp2_with fail
  refine (toR_c v0 x0 _ (h0.below HB) c0).mono ?_
  rintro e w9 ⟨ub0, rfl, ob0, hb9⟩
  replace ox0 := ox0.below hb9
  replace ox1 := ox1.below hb9
  replace HB := below_trans' HB hb9
  have z9 := HB.size
  have y9 := hb9.size
  clear hb9
  go_wp2_with fail
  refine (eqR_c _ _ x0 _ ox0.in_ ob0.in_).mono ?_
  rintro e w10 ⟨rfl, hb10⟩
  replace ox0 := ox0.below hb10
  replace ox1 := ox1.below hb10
  replace ob0 := ob0.below hb10
  replace HB := below_trans' HB hb10
  have z10 := HB.size
  have y10 := hb10.size
  clear hb10
  clear ob0
  go_wp2_with fail
  refine (toR_c v1 x1 _ (h1.below HB) c1).mono ?_
  rintro e w11 ⟨ub1, rfl, ob1, hb11⟩
  replace ox0 := ox0.below hb11
  replace ox1 := ox1.below hb11
  replace HB := below_trans' HB hb11
  have z11 := HB.size
  have y11 := hb11.size
  clear hb11
  go_wp2_with fail
  refine (eqR_c _ _ x1 _ ox1.in_ ob1.in_).mono ?_
  rintro e w12 ⟨rfl, hb12⟩
  replace ox0 := ox0.below hb12
  replace ox1 := ox1.below hb12
  replace ob1 := ob1.below hb12
  replace HB := below_trans' HB hb12
  have z12 := HB.size
  have y12 := hb12.size
  clear hb12
  clear ob1
  go_wp2_with fail
  go_ret
  exact ⟨rfl, HB⟩

end Go.Proofs.Ytnlgbfdgjfekoaa
