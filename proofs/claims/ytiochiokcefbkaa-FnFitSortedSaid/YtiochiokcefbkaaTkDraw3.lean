/- The walks of the drawing functions of weights: their results can be read, and nothing that was there changes. -/
import Derived.Test.YtiochiokcefbkaaTkDraw
import Derived.Test.YtiochiokcefbkaaTkL3
namespace Go.Proofs.Ytiochiokcefbkaa
open Go.RowKit
set_option linter.unusedVariables false

theorem draw_lt (A : Option Addr) (c : Nat) (bs : List Int) (w : World) (h : Coded w A bs c) :
    Calls Try.prog 33 #[.slice A bs.length c] w fun e w' => ∃ D d ws cap, e = .returned (.tuple #[.slice D ws.length d, .int .i64 cap]) ∧ Rd w' D (ints ws) ∧ ws.length ≤ d ∧ ws.length ≤ 20 ∧ Below w.heap.size w w' := by
  go_enter Try.func33, Try.ntmps33
  go_wp2_with fail
  refine (coded_open h).mono ?_
  rintro e w1 ⟨rfl, hr, hb, hl⟩
  have hw := weights_any w.heap.size 0 w1 hr (by omega)
  have Hb := Lib.hid hb
  clear hr h hb
  go_wp2_with fail
  refine hw.mono ?_
  rintro e w2 ⟨v, ws, cap, p', rfl, ⟨D, d, rfl, hr, hdl, _⟩, hl20, _, hd⟩
  have Hd := Lib.hid hd
  have Hr := Lib.hid hr
  clear hw hd hr
  go_wp2_with fail
  go_ret2
  exact ⟨D, d, ws, cap, rfl, Hr.out, hdl, hl20, dst_below Hb.out hl Hd.out⟩
theorem draw_ff (A : Option Addr) (c : Nat) (bs : List Int) (w : World) (h : Coded w A bs c) :
    Calls Try.prog 36 #[.slice A bs.length c] w fun e w' => ∃ D d ws cap, e = .returned (.tuple #[.slice D ws.length d, .int .i64 cap]) ∧ Rd w' D (ints ws) ∧ ws.length ≤ d ∧ ws.length ≤ 20 ∧ Below w.heap.size w w' := by
  go_enter Try.func36, Try.ntmps36
  go_wp2_with fail
  refine (coded_open h).mono ?_
  rintro e w1 ⟨rfl, hr, hb, hl⟩
  have hw := weights_any w.heap.size 0 w1 hr (by omega)
  have Hb := Lib.hid hb
  clear hr h hb
  go_wp2_with fail
  refine hw.mono ?_
  rintro e w2 ⟨v, ws, cap, p', rfl, ⟨D, d, rfl, hr, hdl, _⟩, hl20, _, hd⟩
  have Hd := Lib.hid hd
  have Hr := Lib.hid hr
  clear hw hd hr
  go_wp2_with fail
  go_ret2
  exact ⟨D, d, ws, cap, rfl, Hr.out, hdl, hl20, dst_below Hb.out hl Hd.out⟩
theorem draw_fs (A : Option Addr) (c : Nat) (bs : List Int) (w : World) (h : Coded w A bs c) :
    Calls Try.prog 38 #[.slice A bs.length c] w fun e w' => ∃ D d ws cap, e = .returned (.tuple #[.slice D ws.length d, .int .i64 cap]) ∧ Rd w' D (ints ws) ∧ ws.length ≤ d ∧ ws.length ≤ 20 ∧ Below w.heap.size w w' := by
  go_enter Try.func38, Try.ntmps38
  go_wp2_with fail
  refine (coded_open h).mono ?_
  rintro e w1 ⟨rfl, hr, hb, hl⟩
  have hw := weights_any w.heap.size 0 w1 hr (by omega)
  have Hb := Lib.hid hb
  clear hr h hb
  go_wp2_with fail
  refine hw.mono ?_
  rintro e w2 ⟨v, ws, cap, p', rfl, ⟨D, d, rfl, hr, hdl, _⟩, hl20, _, hd⟩
  have Hd := Lib.hid hd
  have Hr := Lib.hid hr
  clear hw hd hr
  go_wp2_with fail
  go_ret2
  exact ⟨D, d, ws, cap, rfl, Hr.out, hdl, hl20, dst_below Hb.out hl Hd.out⟩

theorem draw_tl (A : Option Addr) (c : Nat) (bs : List Int) (w : World) (h : Coded w A bs c) :
    Calls Try.prog 34 #[.slice A bs.length c] w fun e w' => ∃ D d ws G g gs, e = .returned (.tuple #[.slice D ws.length d, .slice G gs.length g]) ∧ Rd w' D (ints ws) ∧ Rd w' G (ints gs) ∧ ws.length ≤ d ∧ ws.length ≤ 20 ∧ gs.length ≤ 30 ∧ Below w.heap.size w w' := by
  go_enter Try.func34, Try.ntmps34
  go_wp2_with fail
  refine (coded_open h).mono ?_
  rintro e w1 ⟨rfl, hr, hb, hl⟩
  have hw := weights_any w.heap.size 0 w1 hr (by omega)
  have Hb := Lib.hid hb
  clear hr h hb
  go_wp2_with fail
  refine hw.mono ?_
  rintro e w2 ⟨v, ws, cap, p', rfl, ⟨D, d, rfl, hr, hdl, hD⟩, hl20, hp, hd⟩
  have ht := trucks_any w.heap.size p' ws.length w2 hd.reader (by omega) (by omega)
  have Hd := Lib.hid hd
  have Hr := Lib.hid (And.intro hr hD)
  clear hw hd hr hD
  go_wp2_with fail
  refine ht.mono ?_
  rintro e w3 ⟨v, gs, p'', rfl, hg, hgl, hp2, hd3⟩
  have Hd3 := Lib.hid (Hd.out.step hd3.grown hd3.reader)
  have Hr3 := Lib.hid (rd_drawn Hr.out hd3.grown)
  obtain ⟨G, g, rfl, hg2, _, _⟩ := hg
  have Hg := Lib.hid hg2
  clear hg2 ht hd3
  go_wp2_with fail
  go_ret2
  exact ⟨D, d, ws, G, g, gs, rfl, Hr3.out, Hg.out, hdl, hl20, by omega, dst_below Hb.out hl Hd3.out⟩

theorem draw_lv (A : Option Addr) (c : Nat) (bs : List Int) (w : World) (h : Coded w A bs c) :
    Calls Try.prog 37 #[.slice A bs.length c] w fun e w' => ∃ D d ws cap G g gs, e = .returned (.tuple #[.slice D ws.length d, .int .i64 cap, .slice G gs.length g]) ∧ Rd w' D (ints ws) ∧ Rd w' G (ints gs) ∧ ws.length ≤ d ∧ ws.length ≤ 20 ∧ gs.length ≤ 30 ∧ Below w.heap.size w w' := by
  go_enter Try.func37, Try.ntmps37
  go_wp2_with fail
  refine (coded_open h).mono ?_
  rintro e w1 ⟨rfl, hr, hb, hl⟩
  have hw := weights_any w.heap.size 0 w1 hr (by omega)
  have Hb := Lib.hid hb
  clear hr h hb
  go_wp2_with fail
  refine hw.mono ?_
  rintro e w2 ⟨v, ws, cap, p', rfl, ⟨D, d, rfl, hr, hdl, hD⟩, hl20, hp, hd⟩
  have hk := pick_any w.heap.size p' 2 w2 hd.reader (by omega) (by omega)
  have Hd := Lib.hid hd
  have Hr := Lib.hid (And.intro hr hD)
  clear hw hd hr hD
  go_wp2_with fail
  refine hk.mono ?_
  rintro e w3 ⟨x, rfl, _, hr3, hg3⟩
  have Hd3 := Lib.hid (Hd.out.step hg3 hr3)
  have hD3 := rd_drawn Hr.out hg3
  have Hr3 := Lib.hid (And.intro hD3 Hr.out.2)
  clear hk Hd Hr hr3 hg3
  by_cases hx : x = 0
  · subst hx
    have hf := spec_ff D d ws cap w3 hD3 (by unfold maxLen; omega)
    have HD3 := Lib.hid hD3
    clear hD3
    go_wp2_with fail
    refine hf.mono ?_
    rintro e w4 ⟨v4, rfl, ho4, hb4⟩
    obtain ⟨G, g, rfl, hG, _⟩ := ho4.rd
    have HG := Lib.hid hG
    have hl4 : (ff ws cap).length ≤ 30 := by have := ff_len ws cap; omega
    clear hf ho4 hG
    go_wp2_with fail
    go_ret3
    exact ⟨D, d, ws, cap, G, g, ff ws cap, rfl, HD3.out.below hb4, HG.out, hdl, hl20, hl4, dst_below Hb.out hl (Hd3.out.below hb4)⟩
  · have hz : (x == 0) = false := by simp [hx]
    have ht := trucks_any w.heap.size (p' + 1) ws.length w3 Hd3.out.reader (by omega) (by omega)
    clear hD3
    go_wp2_with fail
    refine ht.mono ?_
    rintro e w4 ⟨v4, gs, p4, rfl, hg, hgl, hp2, hd4⟩
    have Hd4 := Lib.hid (Hd3.out.step hd4.grown hd4.reader)
    have Hr4 := Lib.hid (rd_drawn Hr3.out hd4.grown)
    obtain ⟨G, g, rfl, hg2, _, _⟩ := hg
    have Hg := Lib.hid hg2
    clear hg2 ht hd4
    go_wp2_with fail
    go_ret3
    exact ⟨D, d, ws, cap, G, g, gs, rfl, Hr4.out, Hg.out, hdl, hl20, by omega, dst_below Hb.out hl Hd4.out⟩

end Go.Proofs.Ytiochiokcefbkaa
