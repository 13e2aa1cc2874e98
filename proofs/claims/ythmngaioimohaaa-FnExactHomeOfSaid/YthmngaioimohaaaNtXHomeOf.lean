
/- The walk of the exact law on HomeOf. -/
import Derived.Test.YthmngaioimohaaaNtP5
import Derived.Test.YthmngaioimohaaaNtO2
namespace Go.Proofs.Ythmngaioimohaaa
open Go.RowKit
set_option linter.unusedVariables false

set_option maxHeartbeats 1600000 in
theorem law_ExactHomeOf (v0 : Value) (x0 : List Off) (s1 : ByteArray) (s2 : ByteArray) (w : World) (q1 : s1.size ≤ maxLen) (q2 : s2.size ≤ maxLen) (h0 : InO w v0 x0) (d0 : SzO x0) :
    Calls Try.prog 5 #[v0, .string s1, .string s2] w fun e w' => e = .returned (.bool true) ∧ Below w.heap.size w w' := by
  have q1' := q1
  unfold maxLen at q1'
  by_cases b1 : 1048576 < s1.size
  · go_enter Try.func5, Try.ntmps5
    go_wp2_with fail
    go_ret
    exact ⟨rfl, Below.refl _ _⟩
  have q2' := q2
  unfold maxLen at q2'
  by_cases b2 : 1048576 < s2.size
  · go_enter Try.func5, Try.ntmps5
    go_wp2_with fail
    go_ret
    exact ⟨rfl, Below.refl _ _⟩
  have t0 : ((orE (homeO x0 s1 s2)).toList == (orE (homeO x0 s1 s2)).toList) = true := str_same rfl
  have t1 : (((homeO x0 s1 s2).isSome) != ((homeO x0 s1 s2).isSome)) = false := by simp
  go_enter Try.func5, Try.ntmps5
  go_wp2_with fail
  refine (szO_c v0 x0 1048576 _ h0 d0 (by omega) (by omega)).mono ?_
  rintro e w1 ⟨⟨l0, rfl, l0a, l0b, l0c⟩, hb1⟩
  have HB := hb1
  have z1 := HB.size
  have y1 := hb1.size
  clear hb1
  by_cases l0n : l0 < 0
  · clear l0c
    go_wp2_with fail
    go_ret
    exact ⟨rfl, HB⟩
  have c0 := l0c (by omega)
  clear l0c
  go_wp2_with fail
  refine (toO_c v0 x0 _ (h0.below HB) c0).mono ?_
  rintro e w2 ⟨ua0, rfl, oa0, hb2⟩
  replace HB := below_trans' HB hb2
  have z2 := HB.size
  have y2 := hb2.size
  clear hb2
  go_wp2_with fail
  refine (spec_home ua0 x0 s1 s2 _ oa0.in_ d0 q1 q2).mono ?_
  rintro e w3 ⟨rfl, hb3⟩
  replace oa0 := oa0.below hb3
  replace HB := below_trans' HB hb3
  have z3 := HB.size
  have y3 := hb3.size
  clear hb3
  clear oa0
  go_wp2_with fail
  refine (toO_c v0 x0 _ (h0.below HB) c0).mono ?_
  rintro e w4 ⟨ux0, rfl, ox0, hb4⟩
  replace HB := below_trans' HB hb4
  have z4 := HB.size
  have y4 := hb4.size
  clear hb4
  go_wp2_with fail
  refine (impl_home ux0 x0 s1 s2 _ ox0.in_ d0 q1 q2).mono ?_
  rintro e w5 ⟨rfl, hb5⟩
  replace ox0 := ox0.below hb5
  replace HB := below_trans' HB hb5
  have z5 := HB.size
  have y5 := hb5.size
  clear hb5
  go_wp2_with fail
  refine (toO_c v0 x0 _ (h0.below HB) c0).mono ?_
  rintro e w6 ⟨ub0, rfl, ob0, hb6⟩
  replace ox0 := ox0.below hb6
  replace HB := below_trans' HB hb6
  have z6 := HB.size
  have y6 := hb6.size
  clear hb6
  go_wp2_with fail
  refine (eqO_c _ _ x0 _ ox0.in_ ob0.in_).mono ?_
  rintro e w7 ⟨rfl, hb7⟩
  replace ox0 := ox0.below hb7
  replace ob0 := ob0.below hb7
  replace HB := below_trans' HB hb7
  have z7 := HB.size
  have y7 := hb7.size
  clear hb7
  clear ob0
  go_wp2_with fail
  go_ret
  exact ⟨rfl, HB⟩

end Go.Proofs.Ythmngaioimohaaa
