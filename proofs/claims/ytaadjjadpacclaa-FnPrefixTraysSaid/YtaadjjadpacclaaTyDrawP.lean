
/- The walk of what draws the arguments of the filling by prefix. -/
import Derived.Test.YtaadjjadpacclaaTySort
import Derived.Test.YtaadjjadpacclaaTyDrawD
namespace Go.Proofs.Ytaadjjadpacclaa
open Go.RowKit
set_option linter.unusedVariables false

set_option maxRecDepth 100000 in
set_option maxHeartbeats 3200000 in
theorem draw_fbp (A : Option Addr) (c : Nat) (bs : List Int) (w : World) (h : Coded w A bs c) :
    Calls Try.prog 5 #[.slice A bs.length c] w fun e w' => ∃ (v : Value) (xs : List Ltr) (size dg : Int), e = .returned (.tuple #[v, .int .i64 size, .int .i64 dg]) ∧ Lt w' v xs ∧ xs.length ≤ 61 ∧ Szs xs ∧ Below w.heap.size w w' := by
  have HC := Lib.hid (coded_open h)
  clear h
  go_enter Try.func5, Try.ntmps5
  go_wp2_with fail
  refine HC.out.mono ?_
  rintro e w1 ⟨rfl, hr, hb, hl⟩
  have Hd1 := Lib.hid (Dst.start hr)
  have Hb := Lib.hid hb
  have Hl := Lib.hid hl
  have H1 := Lib.hid (open2_any w.heap.size 0 w1 hr (by omega))
  clear hr hb hl HC
  go_wp2_with fail
  refine H1.out.mono ?_
  rintro e w2 ⟨v, xs, q, rfl, ho, hxl, hxs, hq, hd2⟩
  have Hd2 := Lib.hid (Hd1.out.step hd2.grown hd2.reader)
  have Ho2 := Lib.hid ho
  have hsz : Szs xs := fun x hx => by have := hxs x hx; unfold maxLen; omega
  have H2 := Lib.hid (pick_any w.heap.size q 2 w2 hd2.reader (by omega) (by omega))
  have HsX := Lib.hid hsz
  clear ho hxs hd2 hsz H1 Hd1
  go_wp2_with fail
  refine H2.out.mono ?_
  rintro e w3 ⟨a, rfl, ha, hr3, hg3⟩
  have ha2 := ha.pos (by omega)
  have Hd3 := Lib.hid (Hd2.out.step hg3 hr3)
  have Ho3 := Lib.hid (own_past Ho2.out Hl.out hg3)
  clear ha hr3 hg3 H2 Hd2 Ho2
  by_cases h0 : a = 0
  · subst h0
    have H3 := Lib.hid (spec_bv v xs w3 (sl_own Ho3.out) HsX.out)
    cases hv : bv xs with
    | false =>
      rw [hv] at H3
      clear hv
      go_wp2_with fail
      refine H3.out.mono ?_
      rintro e w4 ⟨rfl, hb4⟩
      have Hd4 := Lib.hid (Hd3.out.below hb4)
      have Ho4 := Lib.hid (own_below Ho3.out hb4)
      have HsY := HsX
      clear hb4 H3 Hd3 Ho3
      go_wp2_with fail
      have H5 := Lib.hid (number_any w.heap.size (q + 1) w4 Hd4.out.reader (by omega))
      go_wp2_with fail
      refine H5.out.mono ?_
      rintro e w5 ⟨sz, q5, rfl, hq5, hr5, hg5⟩
      have Hd5 := Lib.hid (Hd4.out.step hg5 hr5)
      have Ho5 := Lib.hid (own_past Ho4.out Hl.out hg5)
      have H6 := Lib.hid (pick_any w.heap.size q5 12 w5 hr5 (by omega) (by omega))
      clear hr5 hg5 H5
      go_wp2_with fail
      refine H6.out.mono ?_
      rintro e w6 ⟨a6, rfl, ha6, hr6, hg6⟩
      have hb6 := ha6.pos (by omega)
      have Hd6 := Lib.hid (Hd5.out.step hg6 hr6)
      have Ho6 := Lib.hid (own_past Ho5.out Hl.out hg6)
      clear ha6 hg6 H6 Hd5 Ho5
      by_cases h60 : a6 = 0
      · subst h60
        have H7 := Lib.hid (num_lit w.heap.size (q5 + 1) w6.heap.size 3 #[.int .i64 (-1), .int .i64 8, .int .i64 9223372036854775807] [-1, 8, 9223372036854775807] w6 hr6 (by omega) rfl rfl rfl (by simp) (by simp))
        go_wp2_with fail
        refine H7.out.mono ?_
        rintro e w7 ⟨dg, rfl, _, hr7, hg7⟩
        have Hd7 := Lib.hid (Hd6.out.step hg7 hr7)
        have Ho7 := Lib.hid (own_past Ho6.out Hl.out hg7)
        clear hr7 hg7 H7
        go_wp2_with fail
        go_ret3
        exact ⟨_, xs, sz, dg, rfl, sl_own Ho7.out, by omega, HsY.out, dst_below Hb.out Hl.out Hd7.out⟩
      · have e60 : (a6 == 0) = false := by simp [h60]
        have H7 := Lib.hid (pick_any w.heap.size (q5 + 1) 8 w6 hr6 (by omega) (by omega))
        go_wp2_with fail
        refine H7.out.mono ?_
        rintro e w7 ⟨dg, rfl, _, hr7, hg7⟩
        have Hd7 := Lib.hid (Hd6.out.step hg7 hr7)
        have Ho7 := Lib.hid (own_past Ho6.out Hl.out hg7)
        clear hr7 hg7 H7
        go_wp2_with fail
        go_ret3
        exact ⟨_, xs, sz, dg, rfl, sl_own Ho7.out, by omega, HsY.out, dst_below Hb.out Hl.out Hd7.out⟩
    | true =>
      rw [hv] at H3
      have Hv := Lib.hid hv
      clear hv
      go_wp2_with fail
      refine H3.out.mono ?_
      rintro e w4 ⟨rfl, hb4⟩
      have Hd4 := Lib.hid (Hd3.out.below hb4)
      have Ho4 := Lib.hid (own_below Ho3.out hb4)
      have H4 := Lib.hid (sortbatch_any v xs w4 (sl_own Ho4.out) HsX.out hxl Hv.out)
      clear hb4 H3 Hd3 Ho3
      go_wp2_with fail
      refine H4.out.mono ?_
      rintro e wz ⟨u, ys, rfl, hoy, hsub, hbz⟩
      have Hdz := Lib.hid (Hd4.out.below hbz)
      have Hoz := Lib.hid (own_base hoy.row Hd4.out.size)
      have HsY : Hid (Szs ys) := Lib.hid fun y hy => HsX.out y (hsub.mem y hy)
      have hyl : ys.length ≤ 61 := by have := hsub.len; omega
      clear hbz hoy hsub H4 Hd4 Ho4
      go_wp2_with fail
      have H5 := Lib.hid (number_any w.heap.size (q + 1) wz Hdz.out.reader (by omega))
      go_wp2_with fail
      refine H5.out.mono ?_
      rintro e w5 ⟨sz, q5, rfl, hq5, hr5, hg5⟩
      have Hd5 := Lib.hid (Hdz.out.step hg5 hr5)
      have Ho5 := Lib.hid (own_past Hoz.out Hl.out hg5)
      have H6 := Lib.hid (pick_any w.heap.size q5 12 w5 hr5 (by omega) (by omega))
      clear hr5 hg5 H5
      go_wp2_with fail
      refine H6.out.mono ?_
      rintro e w6 ⟨a6, rfl, ha6, hr6, hg6⟩
      have hb6 := ha6.pos (by omega)
      have Hd6 := Lib.hid (Hd5.out.step hg6 hr6)
      have Ho6 := Lib.hid (own_past Ho5.out Hl.out hg6)
      clear ha6 hg6 H6 Hd5 Ho5
      by_cases h60 : a6 = 0
      · subst h60
        have H7 := Lib.hid (num_lit w.heap.size (q5 + 1) w6.heap.size 3 #[.int .i64 (-1), .int .i64 8, .int .i64 9223372036854775807] [-1, 8, 9223372036854775807] w6 hr6 (by omega) rfl rfl rfl (by simp) (by simp))
        go_wp2_with fail
        refine H7.out.mono ?_
        rintro e w7 ⟨dg, rfl, _, hr7, hg7⟩
        have Hd7 := Lib.hid (Hd6.out.step hg7 hr7)
        have Ho7 := Lib.hid (own_past Ho6.out Hl.out hg7)
        clear hr7 hg7 H7
        go_wp2_with fail
        go_ret3
        exact ⟨_, ys, sz, dg, rfl, sl_own Ho7.out, by omega, HsY.out, dst_below Hb.out Hl.out Hd7.out⟩
      · have e60 : (a6 == 0) = false := by simp [h60]
        have H7 := Lib.hid (pick_any w.heap.size (q5 + 1) 8 w6 hr6 (by omega) (by omega))
        go_wp2_with fail
        refine H7.out.mono ?_
        rintro e w7 ⟨dg, rfl, _, hr7, hg7⟩
        have Hd7 := Lib.hid (Hd6.out.step hg7 hr7)
        have Ho7 := Lib.hid (own_past Ho6.out Hl.out hg7)
        clear hr7 hg7 H7
        go_wp2_with fail
        go_ret3
        exact ⟨_, ys, sz, dg, rfl, sl_own Ho7.out, by omega, HsY.out, dst_below Hb.out Hl.out Hd7.out⟩
  · have e0 : (a == 0) = false := by simp [h0]
    have HsY := HsX
    go_wp2_with fail
    have H5 := Lib.hid (number_any w.heap.size (q + 1) w3 Hd3.out.reader (by omega))
    go_wp2_with fail
    refine H5.out.mono ?_
    rintro e w5 ⟨sz, q5, rfl, hq5, hr5, hg5⟩
    have Hd5 := Lib.hid (Hd3.out.step hg5 hr5)
    have Ho5 := Lib.hid (own_past Ho3.out Hl.out hg5)
    have H6 := Lib.hid (pick_any w.heap.size q5 12 w5 hr5 (by omega) (by omega))
    clear hr5 hg5 H5
    go_wp2_with fail
    refine H6.out.mono ?_
    rintro e w6 ⟨a6, rfl, ha6, hr6, hg6⟩
    have hb6 := ha6.pos (by omega)
    have Hd6 := Lib.hid (Hd5.out.step hg6 hr6)
    have Ho6 := Lib.hid (own_past Ho5.out Hl.out hg6)
    clear ha6 hg6 H6 Hd5 Ho5
    by_cases h60 : a6 = 0
    · subst h60
      have H7 := Lib.hid (num_lit w.heap.size (q5 + 1) w6.heap.size 3 #[.int .i64 (-1), .int .i64 8, .int .i64 9223372036854775807] [-1, 8, 9223372036854775807] w6 hr6 (by omega) rfl rfl rfl (by simp) (by simp))
      go_wp2_with fail
      refine H7.out.mono ?_
      rintro e w7 ⟨dg, rfl, _, hr7, hg7⟩
      have Hd7 := Lib.hid (Hd6.out.step hg7 hr7)
      have Ho7 := Lib.hid (own_past Ho6.out Hl.out hg7)
      clear hr7 hg7 H7
      go_wp2_with fail
      go_ret3
      exact ⟨_, xs, sz, dg, rfl, sl_own Ho7.out, by omega, HsY.out, dst_below Hb.out Hl.out Hd7.out⟩
    · have e60 : (a6 == 0) = false := by simp [h60]
      have H7 := Lib.hid (pick_any w.heap.size (q5 + 1) 8 w6 hr6 (by omega) (by omega))
      go_wp2_with fail
      refine H7.out.mono ?_
      rintro e w7 ⟨dg, rfl, _, hr7, hg7⟩
      have Hd7 := Lib.hid (Hd6.out.step hg7 hr7)
      have Ho7 := Lib.hid (own_past Ho6.out Hl.out hg7)
      clear hr7 hg7 H7
      go_wp2_with fail
      go_ret3
      exact ⟨_, xs, sz, dg, rfl, sl_own Ho7.out, by omega, HsY.out, dst_below Hb.out Hl.out Hd7.out⟩

end Go.Proofs.Ytaadjjadpacclaa
