/- The walk of the law on loadings. -/
import Derived.Test.YtiochiokcefbkaaTkLawB
namespace Go.Proofs.Ytiochiokcefbkaa
open Go.RowKit
set_option linter.unusedVariables false

set_option maxHeartbeats 1600000 in
theorem law_FnLoading (A : Option Addr) (c : Nat) (bs : List Int) (w : World) (h0 : Coded0 w A bs c) :
    Calls Try.prog 13 #[.slice A bs.length c] w fun e w' => e = .returned (.bool true) ∧ Below w.heap.size w w' := by
  by_cases hbig : 1048576 < bs.length
  · go_enter Try.func13, Try.ntmps13
    go_wp2_with fail
    go_ret
    exact ⟨rfl, Below.refl _ _⟩
  have hdr := draw_lv A c bs w (h0.coded hbig)
  have Hdr := Lib.hid hdr
  clear hdr h0
  go_enter Try.func13, Try.ntmps13
  go_wp2_with fail
  refine Hdr.out.mono ?_
  rintro e w1 ⟨D, d, ws, cap, G, g, gs, rfl, hD, hG, hwd, hwl, hgl, hb1⟩
  have hwm : ws.length ≤ maxLen := by unfold maxLen; omega
  have hgm : gs.length ≤ maxLen := by unfold maxLen; omega
  clear Hdr
  have h2 := impl_lv D G d g ws gs cap w1 hD hG hwm hgm
  have HD := Lib.hid hD
  have HG := Lib.hid hG
  have Hb := Lib.hid hb1
  clear hD hG hb1
  go_wp2_with fail
  refine h2.mono ?_
  rintro e w2 ⟨rfl, hb⟩
  replace Hb := Lib.hid (below_trans' Hb.out hb)
  replace HD := Lib.hid (HD.out.below hb)
  replace HG := Lib.hid (HG.out.below hb)
  clear hb
  have h3 := spec_lv D G d g ws gs cap _ HD.out HG.out hwm hgm
  go_wp2_with fail
  refine h3.mono ?_
  rintro e w3 ⟨rfl, hb⟩
  replace Hb := Lib.hid (below_trans' Hb.out hb)
  replace HD := Lib.hid (HD.out.below hb)
  replace HG := Lib.hid (HG.out.below hb)
  clear hb
  have ht0 : (lv ws cap gs != lv ws cap gs) = false := by simp
  have ht1 : (lv ws cap gs == lv ws cap gs) = true := by simp
  have h4 := impl_wv D d ws cap _ HD.out hwm
  have h5 := impl_tc G g gs w3 HG.out hgm
  cases hwv : wv ws cap with
  | false =>
    rw [hwv] at h4
    clear hwv
    go_wp2_with fail
    refine h4.mono ?_
    rintro e w4' ⟨rfl, rfl⟩
    have h8 := spec_lv D G d g ws gs cap _ HD.out HG.out hwm hgm
    go_wp2_with fail
    refine h8.mono ?_
    rintro e w8 ⟨rfl, hb⟩
    replace Hb := Lib.hid (below_trans' Hb.out hb)
    replace HD := Lib.hid (HD.out.below hb)
    replace HG := Lib.hid (HG.out.below hb)
    clear hb
    go_wp2_with fail
    go_ret
    exact ⟨rfl, Hb.out⟩
  | true =>
    rw [hwv] at h4
    go_wp2_with fail
    refine h4.mono ?_
    rintro e w4' ⟨rfl, rfl⟩
    go_wp2_with fail
    refine h5.mono ?_
    rintro e w4' ⟨rfl, rfl⟩
    clear h4 h5
    cases hgv : gv gs with
    | false =>
      have htn : tc gs < 0 := by rw [tc_no hgv]; omega
      clear hgv hwv
      have h8 := spec_lv D G d g ws gs cap _ HD.out HG.out hwm hgm
      go_wp2_with fail
      refine h8.mono ?_
      rintro e w8 ⟨rfl, hb⟩
      replace Hb := Lib.hid (below_trans' Hb.out hb)
      replace HD := Lib.hid (HD.out.below hb)
      replace HG := Lib.hid (HG.out.below hb)
      clear hb
      go_wp2_with fail
      go_ret
      exact ⟨rfl, Hb.out⟩
    | true =>
      have htn : ¬ tc gs < 0 := by obtain ⟨m, _, h, _⟩ := tc_nat hgv; omega
      by_cases hl : ws.length = gs.length
      · have hln : ((gs.length : Int) != (ws.length : Int)) = false := by simp [hl]
        obtain ⟨m, hm8, htc, _⟩ := tc_nat hgv
        have h6 := impl_tl D G d g ws gs w3 HD.out HG.out hwm hgm
        rw [tl_yes (wv_1000 hwv) hgv hl] at h6
        have hbl : (lds gs ws (top gs).toNat).length ≤ 8 := by
          rw [lds_length]
          rw [tc_yes hgv] at htc
          omega
        have Hlv := Lib.hid (lv_yes hwv hgv hl)
        have Hle : Hid (lv ws cap gs = true → lt ws cap ≤ tc gs) := Lib.hid fun h => by rw [lt_val hwv]; exact lv_least h
        have H6 := Lib.hid h6
        clear h6 hwv hgv hl htc
        go_wp2_with fail
        refine H6.out.mono ?_
        rintro e w5 ⟨v, rfl, ho, hb⟩
        replace Hb := Lib.hid (below_trans' Hb.out hb)
        replace HD := Lib.hid (HD.out.below hb)
        replace HG := Lib.hid (HG.out.below hb)
        obtain ⟨V, vc, rfl, hV, _⟩ := ho.rd
        have HV := Lib.hid hV
        clear hb ho hV H6
        generalize lds gs ws (top gs).toNat = L at *
        go_wp2_with fail
        go_loopw [8, 9] (fun f i wr => ∃ (k : Nat) (b : Bool), k ≤ L.length ∧ i = .int .i64 k ∧ f = .bool b ∧ (∃ n, wr = w5.drewN n) ∧ Hid (b = (L.take k).all (fun x => decide (x ≤ cap)))) (fun _ i _ => L.length - (intOf i).toNat)
        case atStart => exact ⟨0, true, Nat.zero_le _, rfl, rfl, ⟨0, rfl⟩, Lib.hid rfl⟩
        case round =>
          obtain ⟨k, b, hk, rfl, rfl, ⟨n, rfl⟩, hb⟩ := hrel
          by_cases hlt : k < L.length
          · obtain ⟨ad, x, rfl, hx, hc⟩ := HV.out.int hlt
            have Hx := Lib.hid hx
            clear hx
            cases b with
            | false =>
              go_wp2_with fail
              go_roundw
              case rel => exact ⟨k + 1, false, by omega, by go_num, rfl, ⟨_, rfl⟩, Lib.hid (by rw [take_snoc Hx.out, List.all_append, ← hb.out]; rfl)⟩
              case measure => simp [intOf]; omega
            | true =>
              go_wp2_with fail
              go_roundw
              case rel => exact ⟨k + 1, decide (x ≤ cap), by omega, by go_num, rfl, ⟨_, rfl⟩, Lib.hid (by rw [take_snoc Hx.out, List.all_append, ← hb.out]; simp)⟩
              case measure => simp [intOf]; omega
          · have hk' : k = L.length := by omega
            subst hk'
            have hbl2 : b = lv ws cap gs := by have := hb.out; rw [List.take_length] at this; rw [this, Hlv.out]
            subst hbl2
            generalize hlv : lv ws cap gs = b at *
            have h7 := impl_tc G g gs _ (HG.out.below (below_of_drewN w5 n)) hgm
            have h8 := impl_lt D d ws cap _ (HD.out.below (below_of_drewN w5 n)) hwm hwd
            have hbn := Lib.hid (below_drewN Hb.out n)
            cases b with
            | false =>
              clear hlv
              go_wp2_with fail
              go_ret
              exact ⟨rfl, hbn.out⟩
            | true =>
              have hle := Hle.out rfl
              clear hlv
              go_wp2_with fail
              refine h7.mono ?_
              rintro e w6 ⟨rfl, rfl⟩
              go_wp2_with fail
              refine h8.mono ?_
              rintro e w7 ⟨rfl, hb7⟩
              go_wp2_with fail
              go_ret
              exact ⟨rfl, below_trans' hbn.out hb7⟩
      · have hln : ((gs.length : Int) != (ws.length : Int)) = true := by simp; omega
        clear hwv hgv hl
        have h8 := spec_lv D G d g ws gs cap _ HD.out HG.out hwm hgm
        go_wp2_with fail
        refine h8.mono ?_
        rintro e w8 ⟨rfl, hb⟩
        replace Hb := Lib.hid (below_trans' Hb.out hb)
        replace HD := Lib.hid (HD.out.below hb)
        replace HG := Lib.hid (HG.out.below hb)
        clear hb
        go_wp2_with fail
        go_ret
        exact ⟨rfl, Hb.out⟩

end Go.Proofs.Ytiochiokcefbkaa
