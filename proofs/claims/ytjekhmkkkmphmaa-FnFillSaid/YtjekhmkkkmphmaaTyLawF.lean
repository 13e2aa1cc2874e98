/- The walk of the law on filled trays. -/
import Derived.Test.YtjekhmkkkmphmaaTyLawC
namespace Go.Proofs.Ytjekhmkkkmphmaa
open Go.RowKit
set_option linter.unusedVariables false

/-- Tray m of a slice of trays: its cell. -/
theorem LtS.at_ {w : World} {D : Option Addr} {n d : Nat} {xss : List (List Ltr)} (h : LtS w (.slice D n d) xss) {m : Nat} (hm : m < n) : ∃ ad u x, D = some ad ∧ xss[m]? = some x ∧ w.cell? (ad.add m) = some u ∧ Lt w u x := by
  obtain ⟨us, ⟨A, c, e, hA, _, _⟩, hus⟩ := h
  injection e with e1 e2 e3
  subst e1
  have hl := hus.len
  obtain ⟨p, x, hp, hx, hpx⟩ := hus.at_ (k := m) (by omega)
  obtain ⟨ad, e4, hc⟩ := hA m _ hp
  exact ⟨ad, p, x, e4, hx, hc, hpx⟩
theorem LtS.num {w : World} {D : Option Addr} {n d : Nat} {xss : List (List Ltr)} (h : LtS w (.slice D n d) xss) : n = xss.length := by
  obtain ⟨us, ⟨A, c, e, hA, _, _⟩, hus⟩ := h
  injection e with e1 e2 e3
  rw [e2, hus.len]
set_option maxRecDepth 100000 in
set_option maxHeartbeats 1600000 in
theorem law_FnFill (A : Option Addr) (c : Nat) (bs : List Int) (w : World) (h0 : Coded0 w A bs c) :
    Calls Try.prog 12 #[.slice A bs.length c] w fun e w' => e = .returned (.bool true) ∧ Below w.heap.size w w' := by
  by_cases hbig : 1048576 < bs.length
  · go_enter Try.func12, Try.ntmps12
    go_wp2_with fail
    go_ret
    exact ⟨rfl, Below.refl _ _⟩
  have Hdr := Lib.hid (draw_fill A c bs w (h0.coded hbig))
  clear h0
  go_enter Try.func12, Try.ntmps12
  go_wp2_with fail
  refine Hdr.out.mono ?_
  rintro e w1 ⟨v, xs, size, rfl, h, hl, hs, hb⟩
  have Hs := Lib.hid hs
  have Hb := Lib.hid hb
  have H := Lib.hid h
  have H1 := Lib.hid (impl_ft v xs size w1 h hs)
  clear hs hb h Hdr
  go_wp2_with fail
  refine H1.out.mono ?_
  rintro e w2 ⟨u, rfl, ho, hb2⟩
  replace H := Lib.hid (H.out.below hb2)
  replace Hb := Lib.hid (below_trans' Hb.out hb2)
  have H2 := Lib.hid (spec_ft v xs size w2 H.out Hs.out)
  have Ho := Lib.hid ho
  clear H1 hb2 ho
  go_wp2_with fail
  refine H2.out.mono ?_
  rintro e w3 ⟨u2, rfl, ho2, hb3⟩
  replace H := Lib.hid (H.out.below hb3)
  replace Hb := Lib.hid (below_trans' Hb.out hb3)
  replace Ho := Lib.hid (Ho.out.below hb3)
  have Ho2 := Lib.hid ho2
  have Hc := soBins_any u u2 (fbp xs size 0) (fbp xs size 0) w3 Ho.out.lts ho2.lts
  rw [decide_eq_true rfl] at Hc
  have Hc := Lib.hid Hc
  clear H2 hb3 ho2
  go_wp2_with fail
  refine Hc.out.mono ?_
  rintro e w4 ⟨rfl, hb4⟩
  replace H := Lib.hid (H.out.below hb4)
  replace Hb := Lib.hid (below_trans' Hb.out hb4)
  replace Ho := Lib.hid (Ho.out.below hb4)
  replace Ho2 := Lib.hid (Ho2.out.below hb4)
  clear Hc hb4
  cases hok : fok xs size 0 with
  | false =>
    have Hc := soBins_any u u2 (fbp xs size 0) (fbp xs size 0) w4 Ho.out.lts Ho2.out.lts
    rw [decide_eq_true rfl] at Hc
    have Hc := Lib.hid Hc
    go_wp2_with fail
    refine Hc.out.mono ?_
    rintro e w5 ⟨rfl, hb5⟩
    go_wp2_with fail
    go_ret
    exact ⟨rfl, below_trans' Hb.out hb5⟩
  | true =>
    obtain ⟨f1, f2, f3, f4, f5, f6⟩ := fbp_full hok
    obtain ⟨hbv, hsz, _⟩ := fok_parts hok
    have hx60 := (bv_parts hbv).1
    have F1 := Lib.hid f1
    have F2 := Lib.hid f2
    have F3 := Lib.hid f3
    have F4 := Lib.hid f4
    have F5 := Lib.hid f5
    have F6 := Lib.hid f6
    have hlts := Ho.out.lts
    generalize fbp xs size 0 = ts at *
    have hts : Hid (∀ t ∈ ts, Szs t) := Lib.hid fun t ht x hx => Hs.out x (by rw [← F5.out]; exact List.mem_flatten.2 ⟨t, ht, hx⟩)
    obtain ⟨us, ⟨D, d, rfl, hD, hd1, hd2⟩, hus⟩ := hlts
    have hl' := H.out
    obtain ⟨VA, vc, rfl, _, hv1, hv2⟩ := hl'
    unfold maxLen at hd2 hv2
    have Hul := Lib.hid hus.len
    clear hD hus f1 f2 f3 f4 f5 f6 hok
    go_wp2_with fail
    go_loopw [9] (fun i wr => ∃ m : Nat, (m = 0 ∨ m + 1 ≤ us.length) ∧ i = .int .i64 m ∧ w4 = wr) (fun i _ => us.length + 1 - (intOf i).toNat)
    case atStart => exact ⟨0, .inl rfl, rfl, rfl⟩
    case round =>
      obtain ⟨m, hm, rfl, rfl⟩ := hrel
      by_cases hlt : m + 1 < us.length
      · obtain ⟨ad, p, x, rfl, hx, hcA, hpx⟩ := Ho.out.lts.at_ (m := m) (by omega)
        have hxl := F1.out m x hx (by have := Hul.out; omega)
        obtain ⟨PA, pc, rfl, _, _, _⟩ := hpx
        have hlt' : (m : Int) + 1 < (us.length : Int) := by omega
        have t3 : ((x.length : Int) != size) = false := by simp [hxl]
        clear hx
        go_wp2_with fail
        go_roundw
        case rel => exact ⟨m + 1, by omega, by go_num, by first | rfl | trivial⟩
        case measure => simp [intOf]; omega
      · have hlt' : ¬ (m : Int) + 1 < (us.length : Int) := by omega
        have H8 := impl_empty _ ts w4 Ho.out.lts hts.out
        rw [F2.out] at H8
        have H8 := Lib.hid H8
        go_wp2_with fail
        refine H8.out.mono ?_
        rintro e w8 ⟨b, rfl, ho8, hb8⟩
        replace Ho := Lib.hid (Ho.out.below hb8)
        have H9 := soBatch_any b _ (emp ts) xs w8 ho8.sl (H.out.below hb8)
        rw [decide_eq_true F4.out] at H9
        have H9 := Lib.hid H9
        replace Hb := Lib.hid (below_trans' Hb.out hb8)
        clear H8 hb8 ho8
        go_wp2_with fail
        refine H9.out.mono ?_
        rintro e w9 ⟨rfl, hb9⟩
        replace Ho := Lib.hid (Ho.out.below hb9)
        replace Hb := Lib.hid (below_trans' Hb.out hb9)
        have H10 := impl_least (xs.length : Int) size w9
        have t5 : ((us.length : Int) == least xs.length size) = true := by
          have h1 := F6.out
          have h2 := Hul.out
          simp only [beq_iff_eq]; omega
        generalize least xs.length size = ls at *
        have H10 := Lib.hid H10
        clear H9 hb9
        go_wp2_with fail
        refine H10.out.mono ?_
        rintro e w10 ⟨rfl, rfl⟩
        have H11 := impl_tv _ ts size w9 Ho.out.lts hts.out
        rw [F3.out] at H11
        have H11 := Lib.hid H11
        go_wp2_with fail
        refine H11.out.mono ?_
        rintro e w11 ⟨rfl, hb11⟩
        go_wp2_with fail
        go_ret
        exact ⟨rfl, below_trans' Hb.out hb11⟩

end Go.Proofs.Ytjekhmkkkmphmaa
