
/- The walk of what draws trays. -/
import Derived.Test.YtfhnjpjlpddpmaaDoorTyDrawL
import Derived.Test.YtfhnjpjlpddpmaaDoorTy10
namespace Go.Proofs.YtfhnjpjlpddpmaaDoor
open Go.RowKit
set_option linter.unusedVariables false

set_option maxRecDepth 100000 in
set_option maxHeartbeats 1600000 in
theorem trays_any (R p : Nat) (w : World) (h : Reader w R p) (hp : p ≤ 137438953472) :
    Calls Tryd.prog 39 #[.pointer (some ⟨R, 0, none⟩)] w fun e w' => ∃ (v : Value) (xs : List Ltr) (size d q : Nat), e = .returned v ∧ OLL w' w.heap.size w'.heap.size v (fillT size d xs) ∧ xs.length ≤ 20 ∧ (∀ x ∈ xs, x.2.size = 7 ∧ digs x.2 = true) ∧ 1 ≤ size ∧ size ≤ 6 ∧ d ≤ 7 ∧ q ≤ p + 200 ∧ Dst w R q w' := by
  have hR := h.lt
  have h1 := pick_any R p 4 w h (by omega) (by omega)
  have H1 := Lib.hid h1
  have Hd0 := Lib.hid (Dst.start h)
  clear h1 h
  go_enter Tryd.func39, Tryd.ntmps39
  go_wp2_with fail
  refine H1.out.mono ?_
  rintro e w1 ⟨a, rfl, ha, hr1, hg1⟩
  obtain ⟨an, rfl, han⟩ := nat_of (ha.pos (by omega))
  have Hd1 := Lib.hid (Hd0.out.step hg1 hr1)
  have hl := letters_any R (p + 1) (1 + an) w1 hr1 (by omega) (by omega)
  push_cast at hl
  have Hl := Lib.hid hl
  clear hl ha hr1 hg1 H1 Hd0
  go_wp2_with fail
  refine Hl.out.mono ?_
  rintro e w2 ⟨v, xs, q, rfl, ho, hxl, hx, hq, hd2⟩
  have Hd2 := Lib.hid (Hd1.out.step hd2.grown hd2.reader)
  have Ho := Lib.hid ho
  have Hx := Lib.hid hx
  have hs1 := Hd1.out.size
  have h3 := pick_any R q 6 w2 hd2.reader (by omega) (by omega)
  have H3 := Lib.hid h3
  clear h3 ho hx hd2 Hl
  go_wp2_with fail
  refine H3.out.mono ?_
  rintro e w3 ⟨c, rfl, hc, hr3, hg3⟩
  obtain ⟨cn, rfl, hcn⟩ := nat_of (hc.pos (by omega))
  have Hd3 := Lib.hid (Hd2.out.step hg3 hr3)
  have Ho3 := Lib.hid (own_past Ho.out (by have := Hd1.out.lt; omega) hg3)
  have h4 := pick_any R (q + 1) 8 w3 hr3 (by omega) (by omega)
  have H4 := Lib.hid h4
  clear h4 hc hr3 hg3 H3 Ho
  go_wp2_with fail
  refine H4.out.mono ?_
  rintro e w4 ⟨d, rfl, hd, hr4, hg4⟩
  obtain ⟨dn, rfl, hdn⟩ := nat_of (hd.pos (by omega))
  have Hd4 := Lib.hid (Hd3.out.step hg4 hr4)
  have Ho4 := Lib.hid (own_past Ho3.out (by have := Hd1.out.lt; omega) hg4)
  have hf := spec_fill v xs (1 + cn) dn w4 (sl_own Ho4.out) (fun x hx => (Hx.out x hx).1) (by omega) (by omega) (by omega) (by omega)
  push_cast at hf
  have Hf := Lib.hid hf
  clear hf hd hr4 hg4 H4 Ho3
  go_wp2_with fail
  refine Hf.out.mono ?_
  rintro e w5 ⟨u, rfl, ho5, hb5⟩
  go_wp2_with fail
  go_ret
  exact ⟨_, xs, 1 + cn, dn, q + 1 + 1, rfl, ho5.wide Hd4.out.size (Nat.le_refl _), hxl, Hx.out, by omega, by omega, by omega, by omega, Hd4.out.below hb5⟩

end Go.Proofs.YtfhnjpjlpddpmaaDoor
