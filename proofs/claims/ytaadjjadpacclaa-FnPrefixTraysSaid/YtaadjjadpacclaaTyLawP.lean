
/- The walk of the law on trays filled by prefix. -/
import Derived.Test.YtaadjjadpacclaaTyDrawP
import Derived.Test.YtaadjjadpacclaaTyLawF
namespace Go.Proofs.Ytaadjjadpacclaa
open Go.RowKit
set_option linter.unusedVariables false

/-- What the law asks of trays that are filled by prefix. -/
structure Fbp (s d : Nat) (xs : List Ltr) (ts : List (List Ltr)) : Prop where
  ok : FillOk s d ts
  flat : ts.flatten = xs
  tv20 : tv ts (s : Int) = true
theorem fbp_facts {xs : List Ltr} {size dg : Int} (h : fok xs size dg = true) : ∃ s d : Nat, size = (s : Int) ∧ dg = (d : Int) ∧ 1 ≤ s ∧ s ≤ 20 ∧ d ≤ 7 ∧ Fbp s d xs (fbp xs size dg) := by
  obtain ⟨h1, h2, h3⟩ := fok_parts h
  obtain ⟨s, hs⟩ : ∃ s : Nat, size = (s : Int) := ⟨size.toNat, by omega⟩
  obtain ⟨d, hd⟩ : ∃ d : Nat, dg = (d : Int) := ⟨dg.toNat, by omega⟩
  subst hs hd
  refine ⟨s, d, rfl, rfl, by omega, by omega, by omega, ?_⟩
  rw [fbp_yes h]
  obtain ⟨f1, f2⟩ := fill_all (size := s) (d := d) (by omega) xs
  exact ⟨f1, f2, fill_tv (by omega) (by omega) h1⟩

/-- Tray m of a slice of trays, and its letters. -/
theorem LtS.tray {w : World} {D : Option Addr} {n d : Nat} {xss : List (List Ltr)} (h : LtS w (.slice D n d) xss) {m : Nat} (hm : m < n) : ∃ ad x PA pc, D = some ad ∧ xss[m]? = some x ∧ w.cell? (ad.add m) = some (.slice PA x.length pc) ∧ Rd w PA (lcs x) ∧ x.length ≤ maxLen := by
  obtain ⟨ad, u, x, e, hx, hc, hl⟩ := h.at_ hm
  obtain ⟨PA, pc, rfl, hr, h1, h2⟩ := hl
  exact ⟨ad, x, PA, pc, e, hx, hc, hr, Nat.le_trans h1 h2⟩

set_option maxRecDepth 100000 in
set_option maxHeartbeats 3200000 in
theorem law_FnFillByPrefix (A : Option Addr) (c : Nat) (bs : List Int) (w : World) (h0 : Coded0 w A bs c) :
    Calls Try.prog 3 #[.slice A bs.length c] w fun e w' => e = .returned (.bool true) ∧ Below w.heap.size w w' := by
  by_cases hbig : 1048576 < bs.length
  · go_enter Try.func3, Try.ntmps3
    go_wp2_with fail
    go_ret
    exact ⟨rfl, Below.refl _ _⟩
  have Hdr := Lib.hid (draw_fbp A c bs w (h0.coded hbig))
  clear h0
  go_enter Try.func3, Try.ntmps3
  go_wp2_with fail
  refine Hdr.out.mono ?_
  rintro e w1 ⟨v, xs, size, dg, rfl, h, hl, hs, hb⟩
  have Hs := Lib.hid hs
  have Hb := Lib.hid hb
  have H := Lib.hid h
  obtain ⟨ts, hts⟩ : ∃ ts, ts = fbp xs size dg := ⟨_, rfl⟩
  obtain ⟨B, hB⟩ : ∃ B, B = fok xs size dg := ⟨_, rfl⟩
  have H1 := Lib.hid (impl_fbp v xs size dg w1 h hs)
  rw [← hts, ← hB] at H1
  have H2 : Hid (∀ W, Below w1.heap.size w1 W → Calls Try.prog 7 #[v, .int .i64 size, .int .i64 dg] W fun e w' => ∃ u, e = .returned (.tuple #[u, .bool B]) ∧ OLL w' W.heap.size w'.heap.size u ts ∧ Below W.heap.size W w') := Lib.hid fun W hW => by rw [hts, hB]; exact spec_fbp v xs size dg W (h.below hW) hs
  have HF : Hid (B = true → ∃ s d : Nat, size = (s : Int) ∧ dg = (d : Int) ∧ 1 ≤ s ∧ s ≤ 20 ∧ d ≤ 7 ∧ Fbp s d xs ts) := Lib.hid fun hh => by rw [hts]; exact fbp_facts (hB.symm.trans hh)
  have HV : Hid (B = true → ∀ x ∈ xs, x.2.size = 7) := Lib.hid fun hh x hx => codeB_size ((bv_parts (fok_parts (hB.symm.trans hh)).1).2.1 x hx).1
  have t2 : (B != B) = false := by simp
  have t3 : (B == B) = true := by simp
  clear hs hb h Hdr hts hB
  go_wp2_with fail
  refine H1.out.mono ?_
  rintro e w2 ⟨u, rfl, ho, hb2⟩
  have Hb2 := Lib.hid hb2
  have H3 := Lib.hid (H2.out w2 hb2)
  have Ho := Lib.hid ho.lts
  clear H1 hb2 ho
  go_wp2_with fail
  refine H3.out.mono ?_
  rintro e w3 ⟨u2, rfl, ho2, hb3⟩
  replace Hb2 := Lib.hid (below_trans' Hb2.out hb3)
  replace Ho := Lib.hid (LtS.below Ho.out hb3)
  have Ho2 := Lib.hid ho2.lts
  have Hc := soBins_any u u2 ts ts w3 Ho.out ho2.lts
  rw [decide_eq_true rfl] at Hc
  have Hc := Lib.hid Hc
  clear H2 H3 hb3 ho2
  go_wp2_with fail
  refine Hc.out.mono ?_
  rintro e w4 ⟨rfl, hb4⟩
  replace Hb2 := Lib.hid (below_trans' Hb2.out hb4)
  replace Ho := Lib.hid (LtS.below Ho.out hb4)
  replace Ho2 := Lib.hid (LtS.below Ho2.out hb4)
  clear Hc hb4
  cases B with
  | false =>
    have Hc := soBins_any u u2 ts ts w4 Ho.out Ho2.out
    rw [decide_eq_true rfl] at Hc
    have Hc := Lib.hid Hc
    go_wp2_with fail
    refine Hc.out.mono ?_
    rintro e w5 ⟨rfl, hb5⟩
    go_wp2_with fail
    go_ret
    exact ⟨rfl, below_trans' Hb.out (below_trans' Hb2.out hb5)⟩
  | true =>
    obtain ⟨s, d, rfl, rfl, hs1, hs20, hd7, hF⟩ := HF.out rfl
    have HFF := Lib.hid hF
    have HVV := Lib.hid (HV.out rfl)
    obtain ⟨us, ⟨D, dc, hue, hDr, hd1, hd2⟩, hus⟩ := Ho.out
    subst hue
    unfold maxLen at hd2
    have Hul := Lib.hid hus.len
    have d0 : (0 : Int) ≤ (d : Int) := by omega
    clear hF HF HV hDr hus Ho2
    go_wp2_with fail
    go_loopw [10] (fun i wr => ∃ m : Nat, m ≤ us.length ∧ i = .int .i64 m ∧ w4 = wr) (fun i _ => us.length - (intOf i).toNat)
    case atStart => exact ⟨0, Nat.zero_le _, rfl, rfl⟩
    case round =>
      obtain ⟨m, hm, rfl, rfl⟩ := hrel
      by_cases hlt : m < us.length
      · obtain ⟨ad, x, PA, pc, hDa, hx, hcA, hPr, hPl⟩ := Ho.out.tray hlt
        subst hDa
        unfold maxLen at hPl
        have hxm : ∀ y ∈ x, y ∈ xs := fun y hy => by rw [← HFF.out.flat]; exact List.mem_flatten.2 ⟨x, List.mem_of_getElem? hx, hy⟩
        have hx1 := (HFF.out.ok.one x (List.mem_of_getElem? hx)).1
        obtain ⟨pa, x0, hPa, hx0, hc0, hc1⟩ := hPr.two (k := 0) (by omega)
        subst hPa
        have hz0 := HVV.out x0 (hxm x0 (List.mem_of_getElem? hx0))
        have hdx0 : (d : Int) ≤ (x0.2.size : Int) := by omega
        have hxp : 0 < x.length := by omega
        simp only [ltf, Nat.zero_mul, Addr.add_zero'] at hc0 hc1
        have Halike : Hid (∀ y ∈ x, pre d y.2 = pre d x0.2) := Lib.hid fun y hy => HFF.out.ok.alike x (List.mem_of_getElem? hx) y hy x0 (List.mem_of_getElem? hx0)
        have Hxm := Lib.hid hxm
        have HPr := Lib.hid hPr
        have Hx := Lib.hid hx
        have Hx0 := Lib.hid (List.mem_of_getElem? hx0)
        clear hxm hPr hx hx0 hx1
        go_wp2_with fail
        go_loopw [12] (fun i wr => ∃ k : Nat, k ≤ x.length ∧ i = .int .i64 k ∧ w4 = wr) (fun i _ => x.length - (intOf i).toNat)
        case atStart => exact ⟨0, Nat.zero_le _, rfl, by first | rfl | trivial⟩
        case round =>
          obtain ⟨k, hk, rfl, rfl⟩ := hrel
          by_cases hkl : k < x.length
          · obtain ⟨pb, y, hPb, hy, hcy, hcz⟩ := HPr.out.two hkl
            injection hPb with hPb
            subst hPb
            have hym := List.mem_of_getElem? hy
            have hzy := HVV.out y (Hxm.out y hym)
            have hdy : (d : Int) ≤ (y.2.size : Int) := by omega
            have e1 : ((y.2.extract 0 d).toList == (x0.2.extract 0 d).toList) = true := str_same (Halike.out y hym)
            simp only [ltf] at hcy hcz
            clear hy hym
            go_wp2_with fail
            go_roundw
            case rel => exact ⟨k + 1, by omega, by go_num, by first | rfl | trivial⟩
            case measure => simp [intOf]; omega
          · have hk' : k = x.length := by omega
            subst hk'
            rcases Nat.eq_zero_or_pos m with hm0 | hmpos
            · subst hm0
              rw [show ad.add 0 = ad from by simp [Addr.add]] at hcA
              go_wp2_with fail
              go_roundw
              case rel => exact ⟨0 + 1, by omega, by go_num, by first | rfl | trivial⟩
              case measure => simp [intOf]; omega
            · obtain ⟨m2, hm2⟩ : ∃ m2, m = m2 + 1 := ⟨m - 1, by omega⟩
              obtain ⟨ad2, t, TA, tc, hDa2, ht, hcT, hTr, hTl⟩ := Ho.out.tray (m := m2) (by omega)
              injection hDa2 with hDa2
              subst hDa2
              unfold maxLen at hTl
              have ht1 := (HFF.out.ok.one t (List.mem_of_getElem? ht)).1
              obtain ⟨ta, z0, hTa, hz, hc2, hc3⟩ := hTr.two (k := 0) (by omega)
              subst hTa
              have htm : ∀ y ∈ t, y ∈ xs := fun y hy => by rw [← HFF.out.flat]; exact List.mem_flatten.2 ⟨t, List.mem_of_getElem? ht, hy⟩
              have hzz := HVV.out z0 (htm z0 (List.mem_of_getElem? hz))
              have hdz : (d : Int) ≤ (z0.2.size : Int) := by omega
              have htp : 0 < t.length := by omega
              have hm1 : (m : Int) - 1 = (m2 : Int) := by omega
              have hmp : (0 : Int) < (m : Int) := by omega
              have hm2u : (m2 : Int) < (us.length : Int) := by omega
              simp only [ltf, Nat.zero_mul, Addr.add_zero'] at hc2 hc3
              have hnext := HFF.out.ok.next m2 t x ht (by rw [← hm2]; exact Hx.out)
              by_cases hts : t.length < s
              · have e2 : ((z0.2.extract 0 d).toList == (x0.2.extract 0 d).toList) = false := str_diff (by
                  rcases hnext with h | h
                  · omega
                  · exact h z0 (List.mem_of_getElem? hz) x0 Hx0.out)
                have htsi : (t.length : Int) < (s : Int) := by omega
                clear hnext ht hTr hz htm hm2
                go_wp2_with fail
                go_roundw
                case rel => exact ⟨m + 1, by omega, by go_num, by first | rfl | trivial⟩
                case measure => simp [intOf]; omega
              · have htsi : ¬ (t.length : Int) < (s : Int) := by omega
                clear hnext ht hTr hz htm hm2
                go_wp2_with fail
                go_roundw
                case rel => exact ⟨m + 1, by omega, by go_num, by first | rfl | trivial⟩
                case measure => simp [intOf]; omega
      · have hm' : m = us.length := by omega
        subst hm'
        have hflat := HFF.out.flat
        have H7 := Lib.hid (soTrays_any _ ts w4 Ho.out (by rw [hflat]; omega))
        rw [hflat] at H7
        have Htv := Lib.hid HFF.out.tv20
        have Hsz : Hid (∀ t ∈ ts, Szs t) := Lib.hid fun t ht x hx => Hs.out x (by rw [← hflat]; exact List.mem_flatten.2 ⟨t, ht, hx⟩)
        clear hflat
        go_wp2_with fail
        refine H7.out.mono ?_
        rintro e w7 ⟨z, rfl, hz, hb7⟩
        have Hb7 := Lib.hid (below_trans' Hb2.out hb7)
        have H8 := soBatch_any z v xs xs w7 hz.sl (H.out.below Hb7.out)
        rw [decide_eq_true rfl] at H8
        have H8 := Lib.hid H8
        have Ho7 := Lib.hid (LtS.below Ho.out hb7)
        clear H7 hz hb7
        go_wp2_with fail
        refine H8.out.mono ?_
        rintro e w8 ⟨rfl, hb8⟩
        have H9 := impl_tv _ ts (s : Int) w8 (LtS.below Ho7.out hb8) Hsz.out
        rw [Htv.out] at H9
        have H9 := Lib.hid H9
        have Hb8 := Lib.hid (below_trans' Hb7.out hb8)
        clear H8 hb8
        go_wp2_with fail
        refine H9.out.mono ?_
        rintro e w9 ⟨rfl, hb9⟩
        go_wp2_with fail
        go_ret
        exact ⟨rfl, below_trans' Hb.out (below_trans' Hb8.out hb9)⟩

end Go.Proofs.Ytaadjjadpacclaa
