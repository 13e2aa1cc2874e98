
/- The walk of the exact law on RoutePath. -/
import Derived.Test.YthmngaioimohaaaNtQ4
namespace Go.Proofs.Ythmngaioimohaaa
open Go.RowKit
set_option linter.unusedVariables false

set_option maxHeartbeats 1600000 in
theorem law_ExactRoutePath (v0 : Value) (x0 : List Off) (s1 : ByteArray) (s2 : ByteArray) (w : World) (q1 : s1.size ≤ maxLen) (q2 : s2.size ≤ maxLen) (h0 : IQ w v0 x0) (d0 : SzQ x0) :
    Calls Try.prog 6 #[v0, .string s1, .string s2] w fun e w' => e = .returned (.bool true) ∧ Below w.heap.size w w' := by
  have q1' := q1
  unfold maxLen at q1'
  by_cases b1 : 1048576 < s1.size
  · go_enter Try.func6, Try.ntmps6
    go_wp2_with fail
    go_ret
    exact ⟨rfl, Below.refl _ _⟩
  have q2' := q2
  unfold maxLen at q2'
  by_cases b2 : 1048576 < s2.size
  · go_enter Try.func6, Try.ntmps6
    go_wp2_with fail
    go_ret
    exact ⟨rfl, Below.refl _ _⟩
  have t1 : (((rpath x0 s1 s2).2) != ((rpath x0 s1 s2).2)) = false := by simp
  go_enter Try.func6, Try.ntmps6
  go_wp2_with fail
  refine (szQ_c v0 x0 1048576 _ h0 d0 (by omega) (by omega)).mono ?_
  rintro e w1 ⟨⟨l0, rfl, l0a, l0b, l0c⟩, hb1⟩
  have HB := hb1
  have z1 := HB.size
  have y1 := hb1.size
  clear hb1
  by_cases l0n : l0 < 0
  · clear l0c
    go_wp2_with fail
    go_ret
    exact ⟨rfl, HB⟩
  have c0 := l0c (by omega)
  clear l0c
  go_wp2_with fail
  refine (toQ_c v0 x0 _ (h0.below HB) c0).mono ?_
  rintro e w2 ⟨ua0, rfl, oa0, hb2⟩
  replace HB := below_trans' HB hb2
  have z2 := HB.size
  have y2 := hb2.size
  clear hb2
  go_wp2_with fail
  refine (spec_rp ua0 x0 s1 s2 _ oa0.in_ d0 q1 q2).mono ?_
  rintro e w3 ⟨uW, rfl, oW, hb3⟩
  replace oa0 := oa0.below hb3
  replace HB := below_trans' HB hb3
  have z3 := HB.size
  have y3 := hb3.size
  clear hb3
  clear oa0
  go_wp2_with fail
  refine (toQ_c v0 x0 _ (h0.below HB) c0).mono ?_
  rintro e w4 ⟨ux0, rfl, ox0, hb4⟩
  replace oW := oW.below hb4
  replace HB := below_trans' HB hb4
  have z4 := HB.size
  have y4 := hb4.size
  clear hb4
  go_wp2_with fail
  refine (impl_rp ux0 x0 s1 s2 _ ox0.in_ d0 q1 q2).mono ?_
  rintro e w5 ⟨uG, rfl, oG, hb5⟩
  replace oW := oW.below hb5
  replace ox0 := ox0.below hb5
  replace HB := below_trans' HB hb5
  have z5 := HB.size
  have y5 := hb5.size
  clear hb5
  go_wp2_with fail
  refine (eqS_c _ _ ((rpath x0 s1 s2).1) _ oG.in_ oW.in_).mono ?_
  rintro e w6 ⟨rfl, hb6⟩
  replace oW := oW.below hb6
  replace ox0 := ox0.below hb6
  replace oG := oG.below hb6
  replace HB := below_trans' HB hb6
  have z6 := HB.size
  have y6 := hb6.size
  clear hb6
  go_wp2_with fail
  refine (toQ_c v0 x0 _ (h0.below HB) c0).mono ?_
  rintro e w7 ⟨ub0, rfl, ob0, hb7⟩
  replace oW := oW.below hb7
  replace ox0 := ox0.below hb7
  replace oG := oG.below hb7
  replace HB := below_trans' HB hb7
  have z7 := HB.size
  have y7 := hb7.size
  clear hb7
  go_wp2_with fail
  refine (eqQ_c _ _ x0 _ ox0.in_ ob0.in_).mono ?_
  rintro e w8 ⟨rfl, hb8⟩
  replace oW := oW.below hb8
  replace ox0 := ox0.below hb8
  replace oG := oG.below hb8
  replace ob0 := ob0.below hb8
  replace HB := below_trans' HB hb8
  have z8 := HB.size
  have y8 := hb8.size
  clear hb8
  clear ob0
  have cR : SmS ((rpath x0 s1 s2).1) := rp_small x0 s1 s2
  go_wp2_with fail
  refine (markQ_c _ x0 _ _ _ (1) (by omega) _ ox0 c0 (by have := c0.cnt; omega)).mono ?_
  rintro e w9 ⟨rfl, m9, on9⟩
  have := c0.cnt
  replace oW := oW.only on9 (by omega)
  replace oG := oG.only on9 (by omega)
  replace HB := on9.below HB (by omega) (by omega)
  have z9 := HB.size
  have y9 := on9.size
  clear ox0 m9 on9
  go_wp2_with fail
  refine (eqS_c _ _ ((rpath x0 s1 s2).1) _ oG.in_ oW.in_).mono ?_
  rintro e w10 ⟨rfl, hb10⟩
  replace oW := oW.below hb10
  replace oG := oG.below hb10
  replace HB := below_trans' HB hb10
  have z10 := HB.size
  have y10 := hb10.size
  clear hb10
  have cRc := cR.cnt
  go_wp2_with fail
  refine (markS_c _ ((rpath x0 s1 s2).1) _ _ _ 1 (by omega) _ oG cR (by omega)).mono ?_
  rintro e w11 ⟨rfl, M, on11⟩
  replace oW := oW.only on11 (by omega)
  replace HB := on11.below HB (by omega) (by omega)
  have z11 := HB.size
  have y11 := on11.size
  clear oG on11
  have tq : ((((1 : Nat) : Int) + (cntS ((rpath x0 s1 s2).1) : Int)) != (((1 : Nat) : Int) + (cntS ((rpath x0 s1 s2).1) : Int))) = false := by simp
  go_wp2_with fail
  refine (heldS_c _ ((rpath x0 s1 s2).1) _ 1 (by omega) _ M.in_ cR (by omega)).mono ?_
  rintro e w12 ⟨rfl, hb12⟩
  replace oW := oW.below hb12
  replace M := M.below hb12
  replace HB := below_trans' HB hb12
  have z12 := HB.size
  have y12 := hb12.size
  clear hb12
  go_wp2_with fail
  refine (toQ_c v0 x0 _ (h0.below HB) c0).mono ?_
  rintro e w13 ⟨ue0, rfl, oe0, hb13⟩
  replace oW := oW.below hb13
  replace M := M.below hb13
  replace HB := below_trans' HB hb13
  have z13 := HB.size
  have y13 := hb13.size
  clear hb13
  go_wp2_with fail
  refine (impl_rp ue0 x0 s1 s2 _ oe0.in_ d0 q1 q2).mono ?_
  rintro e w14 ⟨uH, rfl, oH, hb14⟩
  replace oW := oW.below hb14
  replace M := M.below hb14
  replace oe0 := oe0.below hb14
  replace HB := below_trans' HB hb14
  have z14 := HB.size
  have y14 := hb14.size
  clear hb14
  clear oe0
  go_wp2_with fail
  refine (eqS_c _ _ ((rpath x0 s1 s2).1) _ oH.in_ oW.in_).mono ?_
  rintro e w15 ⟨rfl, hb15⟩
  replace oW := oW.below hb15
  replace M := M.below hb15
  replace oH := oH.below hb15
  replace HB := below_trans' HB hb15
  have z15 := HB.size
  have y15 := hb15.size
  clear hb15
  go_wp2_with fail
  refine (heldS_c _ ((rpath x0 s1 s2).1) _ 1 (by omega) _ M.in_ cR (by omega)).mono ?_
  rintro e w16 ⟨rfl, hb16⟩
  replace oW := oW.below hb16
  replace M := M.below hb16
  replace oH := oH.below hb16
  replace HB := below_trans' HB hb16
  have z16 := HB.size
  have y16 := hb16.size
  clear hb16
  go_wp2_with fail
  go_ret
  exact ⟨rfl, HB⟩

end Go.Proofs.Ythmngaioimohaaa
