/- The walk of the law on repacked trays. -/
import Derived.Test.YtjekhmkkkmphmaaTyLawC
namespace Go.Proofs.Ytjekhmkkkmphmaa
open Go.RowKit
set_option linter.unusedVariables false

set_option maxRecDepth 100000 in
set_option maxHeartbeats 1600000 in
theorem law_FnRepack (A : Option Addr) (c : Nat) (bs : List Int) (w : World) (h0 : Coded0 w A bs c) :
    Calls Try.prog 16 #[.slice A bs.length c] w fun e w' => e = .returned (.bool true) ∧ Below w.heap.size w w' := by
  by_cases hbig : 1048576 < bs.length
  · go_enter Try.func16, Try.ntmps16
    go_wp2_with fail
    go_ret
    exact ⟨rfl, Below.refl _ _⟩
  have Hdr := Lib.hid (draw_rp A c bs w (h0.coded hbig))
  clear h0
  go_enter Try.func16, Try.ntmps16
  go_wp2_with fail
  refine Hdr.out.mono ?_
  rintro e w1 ⟨v, xss, size, rfl, h, hl, hs, hb⟩
  have hfl0 := flat_le (xss := xss) (m := 61) fun t ht => (hs t ht).2
  have Hs : Hid (∀ xs ∈ xss, Szs xs) := Lib.hid fun xs hx => (hs xs hx).1
  have Hb := Lib.hid hb
  have H := Lib.hid h
  have H1 := Lib.hid (impl_rp v xss size w1 h Hs.out)
  clear hs hb h Hdr
  go_wp2_with fail
  refine H1.out.mono ?_
  rintro e w2 ⟨u, rfl, ho, hb2⟩
  replace H := Lib.hid (H.out.below hb2)
  replace Hb := Lib.hid (below_trans' Hb.out hb2)
  have H2 := Lib.hid (spec_rp v xss size w2 H.out Hs.out)
  have Ho := Lib.hid ho
  clear H1 hb2 ho
  go_wp2_with fail
  refine H2.out.mono ?_
  rintro e w3 ⟨u2, rfl, ho2, hb3⟩
  replace H := Lib.hid (H.out.below hb3)
  replace Hb := Lib.hid (below_trans' Hb.out hb3)
  replace Ho := Lib.hid (Ho.out.below hb3)
  have Ho2 := Lib.hid ho2
  have Hc := soBins_any u u2 (rpk xss size) (rpk xss size) w3 Ho.out.lts ho2.lts
  rw [decide_eq_true rfl] at Hc
  have Hc := Lib.hid Hc
  clear H2 hb3 ho2
  go_wp2_with fail
  refine Hc.out.mono ?_
  rintro e w4 ⟨rfl, hb4⟩
  replace H := Lib.hid (H.out.below hb4)
  replace Hb := Lib.hid (below_trans' Hb.out hb4)
  replace Ho := Lib.hid (Ho.out.below hb4)
  replace Ho2 := Lib.hid (Ho2.out.below hb4)
  clear Hc hb4
  cases hok : rok xss size with
  | false =>
    have Hc := soBins_any u u2 (rpk xss size) (rpk xss size) w4 Ho.out.lts Ho2.out.lts
    rw [decide_eq_true rfl] at Hc
    have Hc := Lib.hid Hc
    go_wp2_with fail
    refine Hc.out.mono ?_
    rintro e w5 ⟨rfl, hb5⟩
    go_wp2_with fail
    go_ret
    exact ⟨rfl, below_trans' Hb.out hb5⟩
  | true =>
    obtain ⟨f1, f2, f3, f4, f5, f6⟩ := rpk_law hok
    have F4 := Lib.hid f4
    have F5 := Lib.hid f5
    have F6 := Lib.hid f6
    have hfl60 : (rpk xss size).flatten.length ≤ 60 := rpk_small.2.2
    have H4 := impl_rp u (rpk xss size) size w4 Ho.out.lts (fun t ht x hx => szs_flat Hs.out x (by rw [← f5]; exact List.mem_flatten.2 ⟨t, ht, hx⟩))
    rw [f1, f2] at H4
    have H4 := Lib.hid H4
    have hlu := Ho.out
    have hlv := H.out
    obtain ⟨us, ⟨hru, _⟩, hr2⟩ := hlu
    obtain ⟨UA, uc, hue⟩ := own_shape hru
    obtain ⟨vs, ⟨VA, vc, hve, _, _, _⟩, hv2⟩ := hlv
    subst hue hve
    have Hlu : Hid (us.length = (rpk xss size).length) := Lib.hid hr2.len
    have Hlv : Hid (vs.length = xss.length) := Lib.hid hv2.len
    clear hru hr2 hv2 f1 f2 f4 f5 f6 hok
    go_wp2_with fail
    refine H4.out.mono ?_
    rintro e w5 ⟨a, rfl, ha, hb5⟩
    replace H := Lib.hid (H.out.below hb5)
    replace Hb := Lib.hid (below_trans' Hb.out hb5)
    replace Ho := Lib.hid (Ho.out.below hb5)
    have Ha := Lib.hid ha
    have H5 := Lib.hid (soTrays_any _ xss w5 H.out (by omega))
    clear H4 hb5 ha
    go_wp2_with fail
    refine H5.out.mono ?_
    rintro e w6 ⟨z, rfl, hz, hb6⟩
    replace H := Lib.hid (H.out.below hb6)
    replace Hb := Lib.hid (below_trans' Hb.out hb6)
    replace Ho := Lib.hid (Ho.out.below hb6)
    replace Ha := Lib.hid (Ha.out.below hb6)
    have H6 := impl_ft z xss.flatten size w6 hz.sl (szs_flat Hs.out)
    rw [F4.out] at H6
    have H6 := Lib.hid H6
    clear H5 hb6 hz
    go_wp2_with fail
    refine H6.out.mono ?_
    rintro e w7 ⟨y, rfl, hy, hb7⟩
    replace H := Lib.hid (H.out.below hb7)
    replace Hb := Lib.hid (below_trans' Hb.out hb7)
    replace Ho := Lib.hid (Ho.out.below hb7)
    replace Ha := Lib.hid (Ha.out.below hb7)
    have Hy := Lib.hid hy
    have H7 := soBins_any a _ (rpk xss size) (rpk xss size) w7 Ha.out.lts Ho.out.lts
    rw [decide_eq_true rfl] at H7
    have H7 := Lib.hid H7
    clear H6 hb7 hy
    go_wp2_with fail
    refine H7.out.mono ?_
    rintro e w8 ⟨rfl, hb8⟩
    replace H := Lib.hid (H.out.below hb8)
    replace Hb := Lib.hid (below_trans' Hb.out hb8)
    replace Ho := Lib.hid (Ho.out.below hb8)
    replace Hy := Lib.hid (Hy.out.below hb8)
    have H8 := soBins_any _ y (rpk xss size) (rpk xss size) w8 Ho.out.lts Hy.out.lts
    rw [decide_eq_true rfl] at H8
    have H8 := Lib.hid H8
    clear H7 hb8
    go_wp2_with fail
    refine H8.out.mono ?_
    rintro e w9 ⟨rfl, hb9⟩
    replace H := Lib.hid (H.out.below hb9)
    replace Hb := Lib.hid (below_trans' Hb.out hb9)
    replace Ho := Lib.hid (Ho.out.below hb9)
    have H9 := Lib.hid (soTrays_any _ (rpk xss size) w9 Ho.out.lts (by omega))
    clear H8 hb9
    go_wp2_with fail
    refine H9.out.mono ?_
    rintro e w10 ⟨z1, rfl, hz1, hb10⟩
    replace H := Lib.hid (H.out.below hb10)
    replace Hb := Lib.hid (below_trans' Hb.out hb10)
    have Hz1 := Lib.hid hz1
    have H10 := Lib.hid (soTrays_any _ xss w10 H.out (by omega))
    clear H9 hb10 hz1
    go_wp2_with fail
    refine H10.out.mono ?_
    rintro e w11 ⟨z2, rfl, hz2, hb11⟩
    replace H := Lib.hid (H.out.below hb11)
    replace Hb := Lib.hid (below_trans' Hb.out hb11)
    have H11 := soBatch_any z1 z2 (rpk xss size).flatten xss.flatten w11 (Hz1.out.below hb11).sl hz2.sl
    rw [decide_eq_true F5.out] at H11
    have H11 := Lib.hid H11
    clear H10 hb11 hz2
    go_wp2_with fail
    refine H11.out.mono ?_
    rintro e w12 ⟨rfl, hb12⟩
    replace H := Lib.hid (H.out.below hb12)
    replace Hb := Lib.hid (below_trans' Hb.out hb12)
    have H12 := impl_tv _ xss size w12 H.out Hs.out
    cases htv : tv xss size with
    | false =>
      rw [htv] at H12
      have H12 := Lib.hid H12
      go_wp2_with fail
      refine H12.out.mono ?_
      rintro e w13 ⟨rfl, hb13⟩
      go_wp2_with fail
      go_ret
      exact ⟨rfl, below_trans' Hb.out hb13⟩
    | true =>
      rw [htv] at H12
      have H12 := Lib.hid H12
      have hle := F6.out htv
      have hle' : (us.length : Int) ≤ (vs.length : Int) := by have := Hlu.out; have := Hlv.out; omega
      have t9 : decide ((us.length : Int) ≤ (vs.length : Int)) = true := decide_eq_true hle'
      go_wp2_with fail
      refine H12.out.mono ?_
      rintro e w13 ⟨rfl, hb13⟩
      go_wp2_with fail
      go_ret
      exact ⟨rfl, below_trans' Hb.out hb13⟩

end Go.Proofs.Ytjekhmkkkmphmaa
