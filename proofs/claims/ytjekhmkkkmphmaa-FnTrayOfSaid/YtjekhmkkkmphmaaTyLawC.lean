/- The walks of the laws on labels, on emptied trays and on where a letter is. -/
import Derived.Test.YtjekhmkkkmphmaaTyLawB
import Derived.Deep.RegionWith
import Derived.Deep.RegionHeld3
namespace Go.Proofs.Ytjekhmkkkmphmaa
open Go.RowKit
set_option linter.unusedVariables false

/- Emptied trays. -/
set_option maxRecDepth 100000 in
set_option maxHeartbeats 1600000 in
theorem law_FnEmptyTrays (A : Option Addr) (c : Nat) (bs : List Int) (w : World) (h0 : Coded0 w A bs c) :
    Calls Try.prog 11 #[.slice A bs.length c] w fun e w' => e = .returned (.bool true) ∧ Below w.heap.size w w' := by
  by_cases hbig : 1048576 < bs.length
  · go_enter Try.func11, Try.ntmps11
    go_wp2_with fail
    go_ret
    exact ⟨rfl, Below.refl _ _⟩
  have Hdr := Lib.hid (draw_empty A c bs w (h0.coded hbig))
  clear h0
  go_enter Try.func11, Try.ntmps11
  go_wp2_with fail
  refine Hdr.out.mono ?_
  rintro e w1 ⟨v, xss, rfl, h, hl, hs, hb⟩
  have Hs : Hid (∀ xs ∈ xss, Szs xs) := Lib.hid fun xs hx => (hs xs hx).1
  have Hb := Lib.hid hb
  have H := Lib.hid h
  have H1 := Lib.hid (impl_empty v xss w1 h Hs.out)
  clear hs hb h Hdr
  go_wp2_with fail
  refine H1.out.mono ?_
  rintro e w2 ⟨u, rfl, ho, hb2⟩
  replace H := Lib.hid (H.out.below hb2)
  replace Hb := Lib.hid (below_trans' Hb.out hb2)
  have H2 := Lib.hid (spec_empty v xss w2 H.out Hs.out)
  have Ho := Lib.hid ho
  clear H1 hb2 ho
  go_wp2_with fail
  refine H2.out.mono ?_
  rintro e w3 ⟨u2, rfl, ho2, hb3⟩
  replace H := Lib.hid (H.out.below hb3)
  replace Hb := Lib.hid (below_trans' Hb.out hb3)
  replace Ho := Lib.hid (Ho.out.below hb3)
  have Ho2 := Lib.hid ho2
  have Hc := Lib.hid (soBatch_any u u2 (emp xss) (emp xss) w3 Ho.out.sl ho2.sl)
  rw [decide_eq_true rfl] at Hc
  clear H2 hb3 ho2
  go_wp2_with fail
  refine Hc.out.mono ?_
  rintro e w4 ⟨rfl, hb4⟩
  replace H := Lib.hid (H.out.below hb4)
  replace Hb := Lib.hid (below_trans' Hb.out hb4)
  replace Ho := Lib.hid (Ho.out.below hb4)
  replace Ho2 := Lib.hid (Ho2.out.below hb4)
  have H5 := Lib.hid (impl_tv v xss 20 w4 H.out Hs.out)
  clear Hc hb4
  cases htv : tv xss 20 with
  | false =>
    rw [htv] at H5
    have Hno := Lib.hid htv
    go_wp2_with fail
    refine H5.out.mono ?_
    rintro e w5 ⟨rfl, hb5⟩
    replace H := Lib.hid (H.out.below hb5)
    replace Hb := Lib.hid (below_trans' Hb.out hb5)
    have Hc := Lib.hid (soBatch_any u u2 (emp xss) (emp xss) w5 (Ho.out.below hb5).sl (Ho2.out.below hb5).sl)
    rw [decide_eq_true rfl] at Hc
    clear H5 hb5
    go_wp2_with fail
    refine Hc.out.mono ?_
    rintro e w6 ⟨rfl, hb6⟩
    replace Hb := Lib.hid (below_trans' Hb.out hb6)
    have H7 := Lib.hid (impl_tv v xss 20 w6 (H.out.below hb6) Hs.out)
    rw [Hno.out] at H7
    clear hb6 Hc
    go_wp2_with fail
    refine H7.out.mono ?_
    rintro e w7 ⟨rfl, hb7⟩
    go_wp2_with fail
    go_ret
    exact ⟨rfl, below_trans' Hb.out hb7⟩
  | true =>
    rw [htv] at H5
    have Hyes := Lib.hid htv
    go_wp2_with fail
    refine H5.out.mono ?_
    rintro e w5 ⟨rfl, hb5⟩
    replace H := Lib.hid (H.out.below hb5)
    replace Hb := Lib.hid (below_trans' Hb.out hb5)
    replace Ho := Lib.hid (Ho.out.below hb5)
    have hfl := flat_small htv
    have He := Lib.hid (emp_yes htv)
    have H6 := impl_bv u (emp xss) w5 Ho.out.sl (by rw [He.out]; exact szs_flat Hs.out)
    rw [show bv (emp xss) = true by rw [He.out]; exact (tv_parts htv).2.2.2] at H6
    have H6 := Lib.hid H6
    clear H5 hb5 htv
    go_wp2_with fail
    refine H6.out.mono ?_
    rintro e w6 ⟨rfl, hb6⟩
    replace Hb := Lib.hid (below_trans' Hb.out hb6)
    replace Ho := Lib.hid (Ho.out.below hb6)
    have H7 := Lib.hid (soTrays_any v xss w6 (H.out.below hb6) (by omega))
    clear hb6 H6
    go_wp2_with fail
    refine H7.out.mono ?_
    rintro e w7 ⟨z, rfl, hz, hb7⟩
    replace Hb := Lib.hid (below_trans' Hb.out hb7)
    have H8 := soBatch_any z u xss.flatten (emp xss) w7 hz.sl (Ho.out.below hb7).sl
    rw [decide_eq_true He.out.symm] at H8
    have H8 := Lib.hid H8
    clear hb7 H7 hz
    go_wp2_with fail
    refine H8.out.mono ?_
    rintro e w8 ⟨rfl, hb8⟩
    go_wp2_with fail
    go_ret
    exact ⟨rfl, below_trans' Hb.out hb8⟩

end Go.Proofs.Ytjekhmkkkmphmaa
