
/- The walks of the drawing functions of numbers. -/
import Derived.Test.YtaadjjadpacclaaDraw2
import Derived.Test.YtaadjjadpacclaaTy5
namespace Go.Proofs.Ytaadjjadpacclaa
open Go.RowKit
set_option linter.unusedVariables false

set_option maxHeartbeats 800000 in
theorem number_any (R p : Nat) (w : World) (h : Reader w R p) (hp : p ≤ 549755813888) :
    Calls Try.prog 20 #[.pointer (some ⟨R, 0, none⟩)] w fun e w' => ∃ (x : Int) (q : Nat), e = .returned (.int .i64 x) ∧ q ≤ p + 2 ∧ Reader w' R q ∧ w.grownBy w' (some R) := by
  have h1 := pick_any R p 12 w h (by omega) (by omega)
  have H1 := Lib.hid h1
  clear h1
  go_enter Try.func20, Try.ntmps20
  go_wp2_with fail
  refine H1.out.mono ?_
  rintro e w1 ⟨x, rfl, hx, hr1, hg1⟩
  have Hr1 := Lib.hid hr1
  have Hg1 := Lib.hid hg1
  have hxb := hx.pos (by omega)
  clear hr1 hg1 hx H1
  by_cases h0 : x = 0
  · subst h0
    have hn := num_lit R (p + 1) w1.heap.size 5 #[.int .i64 0, .int .i64 20, .int .i64 21, .int .i64 (-1), .int .i64 9223372036854775807] [0, 20, 21, -1, 9223372036854775807] w1 Hr1.out (by omega) rfl rfl rfl (by simp) (by simp)
    have Hn := Lib.hid hn
    clear hn
    go_wp2_with fail
    refine Hn.out.mono ?_
    rintro e w2 ⟨y, rfl, hy, hr2, hg2⟩
    go_wp2_with fail
    go_ret
    exact ⟨y, p + 1 + 1, rfl, by omega, hr2, drawn_step Hg1.out hg2⟩
  · have e0 : (x == 0) = false := by simp [h0]
    have hk := pick_any R (p + 1) 6 w1 Hr1.out (by omega) (by omega)
    have Hk := Lib.hid hk
    clear hk
    go_wp2_with fail
    refine Hk.out.mono ?_
    rintro e w2 ⟨y, rfl, hy, hr2, hg2⟩
    have hyb := hy.pos (by omega)
    go_wp2_with fail
    go_ret
    exact ⟨_, p + 1 + 1, rfl, by omega, hr2, drawn_step Hg1.out hg2⟩

end Go.Proofs.Ytaadjjadpacclaa
