
/- The law on forwarded letters. -/
import Derived.Test.YtefgfdehinpbaaaFwDrawC
import Derived.Test.YtefgfdehinpbaaaFwLawD
import Derived.Test.YtefgfdehinpbaaaFw10
namespace Go.Proofs.Ytefgfdehinpbaaa
open Go.RowKit
set_option linter.unusedVariables false

theorem fb_ok {xs : List Fwd} {ys : List Ltr} (h : fbOk xs ys = true) : fv xs = true ∧ bv ys = true := by simpa [fbOk] using h
theorem fbS_szs {xs : List Fwd} {ys : List Ltr} : Szs (fbS xs ys) := by
  unfold fbS
  split
  · rename_i h
    obtain ⟨h1, h2⟩ := fb_ok h
    intro x hx
    have := (bv_parts (sent_bv h1 h2)).2.1 x hx
    have := (codeB_parts this.1).1
    unfold maxLen; omega
  · intro x hx; simp at hx
theorem fbT_szs {xs : List Fwd} {ys : List Ltr} (h : Szs ys) : Szs (fbT xs ys) := by
  unfold fbT
  split
  · intro x hx; exact h x (List.mem_filter.1 hx).1
  · intro x hx; simp at hx
/-- What is known where letters are forwarded. -/
structure Sent (xs : List Fwd) (ys S T : List Ltr) : Prop where
  good : fv xs = true
  batch : bv ys = true
  s_eq : S = sentT xs ys
  t_eq : T = stuckT xs ys
theorem sent_of {xs : List Fwd} {ys : List Ltr} (h : fbOk xs ys = true) : Sent xs ys (fbS xs ys) (fbT xs ys) := by
  obtain ⟨h1, h2⟩ := fb_ok h
  exact ⟨h1, h2, (fb_yes h1 h2).2.1, (fb_yes h1 h2).2.2⟩
theorem Sent.again {xs : List Fwd} {ys S T : List Ltr} (h : Sent xs ys S T) : fbOk xs S = true ∧ fbS xs S = S ∧ fbT xs S = [] := by
  have hb : bv S = true := by rw [h.s_eq]; exact sent_bv h.good h.batch
  obtain ⟨h1, h2, h3⟩ := fb_yes h.good hb
  refine ⟨h1, ?_, ?_⟩
  · rw [h2, h.s_eq]; exact (sent_again xs ys).1
  · rw [h3, h.s_eq]; exact (sent_again xs ys).2
theorem Sent.direct {xs : List Fwd} {ys S T : List Ltr} (h : Sent xs ys S T) : fbOk (direct xs) S = true ∧ fbS (direct xs) S = S ∧ fbT (direct xs) S = [] := by
  have hb : bv S = true := by rw [h.s_eq]; exact sent_bv h.good h.batch
  obtain ⟨h1, h2, h3⟩ := fb_yes (fv_direct h.good) hb
  refine ⟨h1, ?_, ?_⟩
  · rw [h2, h.s_eq]; exact (sent_direct h.good ys).1
  · rw [h3, h.s_eq]; exact (sent_direct h.good ys).2
theorem Sent.res {xs : List Fwd} {ys S T : List Ltr} (h : Sent xs ys S T) {y : Ltr} (hy : y ∈ ys) : resO xs y.2 = resolve xs y.2 := resO_yes ((bv_parts h.batch).2.1 y hy).1 h.good
theorem Sent.get {xs : List Fwd} {ys S T : List Ltr} (h : Sent xs ys S T) {k : Nat} {y : Ltr} {p : ByteArray × Nat} (hy : ys[k]? = some y) (hr : resolve xs y.2 = some p) : S[(sentT xs (ys.take k)).length]? = some (y.1, p.1) := by rw [h.s_eq]; exact sent_get hy hr
theorem Sent.place {xs : List Fwd} {ys S T : List Ltr} (h : Sent xs ys S T) {k : Nat} {y : Ltr} (hy : ys[k]? = some y) (hr : resolve xs y.2 = none) : 0 ≤ findI T y.1 := by rw [h.t_eq]; exact stuck_place h.batch hy hr
theorem Sent.count {xs : List Fwd} {ys S T : List Ltr} (h : Sent xs ys S T) : S.length + T.length = ys.length := by rw [h.s_eq, h.t_eq]; exact sent_count xs ys

set_option maxRecDepth 100000 in
set_option maxHeartbeats 3200000 in
theorem law_FnForwardBatch (A : Option Addr) (c : Nat) (bs : List Int) (w : World) (h0 : Coded0 w A bs c) :
    Calls Try.prog 4 #[.slice A bs.length c] w fun e w' => e = .returned (.bool true) ∧ Below w.heap.size w w' := by
  by_cases hbig : 1048576 < bs.length
  · go_enter Try.func4, Try.ntmps4
    go_wp2_with fail
    go_ret
    exact ⟨rfl, Below.refl _ _⟩
  have Hdr := Lib.hid (draw_fb A c bs w (h0.coded hbig))
  clear h0
  go_enter Try.func4, Try.ntmps4
  go_wp2_with fail
  refine Hdr.out.mono ?_
  rintro e w1 ⟨v, u, xs, ys, rfl, hD, ho, hyl, hys, hb⟩
  have HD := Lib.hid hD
  have Hb := Lib.hid hb
  have Hs : Hid (Szs ys) := Lib.hid fun y hy => by have := hys y hy; unfold maxLen; omega
  obtain ⟨C, cp, rfl, _, _, _, _⟩ := own_form hD.own
  obtain ⟨YA, yc, rfl, _, _, _, _⟩ := own_form ho
  have HY : Hid (Lt w1 (.slice YA ys.length yc) ys) := Lib.hid (sl_own ho)
  have hxl := hD.len
  obtain ⟨S, hS⟩ : ∃ S, S = fbS xs ys := ⟨_, rfl⟩
  obtain ⟨T, hT⟩ : ∃ T, T = fbT xs ys := ⟨_, rfl⟩
  have HSl : Hid (S.length ≤ 61) := Lib.hid (by rw [hS]; have := fbS_len xs ys; omega)
  have HSz : Hid (Szs S) := Lib.hid (by rw [hS]; exact fbS_szs)
  have HTz : Hid (Szs T) := Lib.hid (by rw [hT]; exact fbT_szs Hs.out)
  have HS := Lib.hid hS
  have HT := Lib.hid hT
  have H1 := Lib.hid (impl_fb _ _ xs ys w1 hD.ft HY.out hD.szf Hs.out (by omega) (by omega))
  rw [← hS, ← hT] at H1
  have t1 : decide (S = S) = true := decide_eq_true rfl
  have t2 : decide (T = T) = true := decide_eq_true rfl
  clear hD hb hS hT hys ho Hdr
  cases hB : fbOk xs ys with
  | false =>
    have HB := Lib.hid hB
    rw [hB] at H1
    clear hB
    go_wp2_with fail
    refine H1.out.mono ?_
    rintro e w2 ⟨s, t, rfl, hs, ht, hb2⟩
    obtain ⟨SA, sc, rfl, _, _, _, _⟩ := own_form hs.row
    obtain ⟨TA, tc, rfl, _, _, _, _⟩ := own_form ht.row
    have HSv : Hid (Lt w2 (.slice SA S.length sc) S) := Lib.hid hs.sl
    have HTv : Hid (Lt w2 (.slice TA T.length tc) T) := Lib.hid ht.sl
    have H2 := Lib.hid (spec_fb _ _ xs ys w2 (HD.out.ft.below hb2) (HY.out.below hb2) HD.out.szf Hs.out (by omega) (by omega))
    rw [HB.out, ← HS.out, ← HT.out] at H2
    replace Hb := Lib.hid (below_trans' Hb.out hb2)
    clear H1 hs ht hb2
    go_wp2_with fail
    refine H2.out.mono ?_
    rintro e w3 ⟨s2, t2', rfl, hs, ht, hb3⟩
    obtain ⟨SA2, sc2, rfl, _, _, _, _⟩ := own_form hs.row
    obtain ⟨TA2, tc2, rfl, _, _, _, _⟩ := own_form ht.row
    replace HSv := Lib.hid (HSv.out.below hb3)
    replace HTv := Lib.hid (HTv.out.below hb3)
    have HSu : Hid (Lt w3 (.slice SA2 S.length sc2) S) := Lib.hid hs.sl
    have HTu : Hid (Lt w3 (.slice TA2 T.length tc2) T) := Lib.hid ht.sl
    replace Hb := Lib.hid (below_trans' Hb.out hb3)
    have H3 := Lib.hid (soBatch_any _ _ S S w3 HSv.out HSu.out)
    clear H2 hs ht hb3
    go_wp2_with fail
    refine H3.out.mono ?_
    rintro e w4 ⟨rfl, hb4⟩
    have H4 := Lib.hid (soBatch_any _ _ T T w4 (HTv.out.below hb4) (HTu.out.below hb4))
    replace HSv := Lib.hid (HSv.out.below hb4)
    replace HTv := Lib.hid (HTv.out.below hb4)
    replace HSu := Lib.hid (HSu.out.below hb4)
    replace HTu := Lib.hid (HTu.out.below hb4)
    replace Hb := Lib.hid (below_trans' Hb.out hb4)
    clear H3 hb4
    go_wp2_with fail
    refine H4.out.mono ?_
    rintro e w5 ⟨rfl, hb5⟩
    have H5 := Lib.hid (soBatch_any _ _ S S w5 (HSv.out.below hb5) (HSu.out.below hb5))
    replace HTv := Lib.hid (HTv.out.below hb5)
    replace HTu := Lib.hid (HTu.out.below hb5)
    replace Hb := Lib.hid (below_trans' Hb.out hb5)
    clear H4 hb5
    go_wp2_with fail
    refine H5.out.mono ?_
    rintro e w6 ⟨rfl, hb6⟩
    have H6 := Lib.hid (soBatch_any _ _ T T w6 (HTv.out.below hb6) (HTu.out.below hb6))
    replace Hb := Lib.hid (below_trans' Hb.out hb6)
    clear H5 hb6
    go_wp2_with fail
    refine H6.out.mono ?_
    rintro e w7 ⟨rfl, hb7⟩
    go_wp2_with fail
    go_ret
    exact ⟨rfl, below_trans' Hb.out hb7⟩
  | true =>
    have HB := Lib.hid hB
    have HQ : Hid (Sent xs ys S T) := Lib.hid (by rw [HS.out, HT.out]; exact sent_of hB)
    rw [hB] at H1
    clear hB
    go_wp2_with fail
    refine H1.out.mono ?_
    rintro e w2 ⟨s, t, rfl, hs, ht, hb2⟩
    obtain ⟨SA, sc, rfl, _, _, _, _⟩ := own_form hs.row
    obtain ⟨TA, tc, rfl, _, _, _, _⟩ := own_form ht.row
    have HSv : Hid (Lt w2 (.slice SA S.length sc) S) := Lib.hid hs.sl
    have HTv : Hid (Lt w2 (.slice TA T.length tc) T) := Lib.hid ht.sl
    replace HD := Lib.hid (HD.out.below hb2)
    replace HY := Lib.hid (HY.out.below hb2)
    have H2 := Lib.hid (spec_fb _ _ xs ys w2 HD.out.ft HY.out HD.out.szf Hs.out (by omega) (by omega))
    rw [HB.out, ← HS.out, ← HT.out] at H2
    replace Hb := Lib.hid (below_trans' Hb.out hb2)
    clear H1 hs ht hb2
    go_wp2_with fail
    refine H2.out.mono ?_
    rintro e w3 ⟨s2, t2', rfl, hs, ht, hb3⟩
    obtain ⟨SA2, sc2, rfl, _, _, _, _⟩ := own_form hs.row
    obtain ⟨TA2, tc2, rfl, _, _, _, _⟩ := own_form ht.row
    replace HSv := Lib.hid (HSv.out.below hb3)
    replace HTv := Lib.hid (HTv.out.below hb3)
    replace HD := Lib.hid (HD.out.below hb3)
    replace HY := Lib.hid (HY.out.below hb3)
    have HSu : Hid (Lt w3 (.slice SA2 S.length sc2) S) := Lib.hid hs.sl
    have HTu : Hid (Lt w3 (.slice TA2 T.length tc2) T) := Lib.hid ht.sl
    replace Hb := Lib.hid (below_trans' Hb.out hb3)
    have H3 := Lib.hid (soBatch_any _ _ S S w3 HSv.out HSu.out)
    clear H2 hs ht hb3
    go_wp2_with fail
    refine H3.out.mono ?_
    rintro e w4 ⟨rfl, hb4⟩
    have H4 := Lib.hid (soBatch_any _ _ T T w4 (HTv.out.below hb4) (HTu.out.below hb4))
    replace HSv := Lib.hid (HSv.out.below hb4)
    replace HTv := Lib.hid (HTv.out.below hb4)
    replace HD := Lib.hid (HD.out.below hb4)
    replace HY := Lib.hid (HY.out.below hb4)
    replace Hb := Lib.hid (below_trans' Hb.out hb4)
    clear H3 hb4 HSu HTu
    go_wp2_with fail
    refine H4.out.mono ?_
    rintro e w5 ⟨rfl, hb5⟩
    replace HSv := Lib.hid (HSv.out.below hb5)
    replace HTv := Lib.hid (HTv.out.below hb5)
    replace HD := Lib.hid (HD.out.below hb5)
    replace HY := Lib.hid (HY.out.below hb5)
    replace Hb := Lib.hid (below_trans' Hb.out hb5)
    have H5 := Lib.hid (impl_fb _ _ xs S w5 HD.out.ft HSv.out HD.out.szf HSz.out (by omega) (by have := HSl.out; omega))
    rw [HQ.out.again.1, HQ.out.again.2.1, HQ.out.again.2.2] at H5
    clear H4 hb5
    go_wp2_with fail
    refine H5.out.mono ?_
    rintro e w6 ⟨s3, t3, rfl, hs, ht, hb6⟩
    obtain ⟨SA3, sc3, rfl, _, _, _, _⟩ := own_form hs.row
    obtain ⟨TA3, tc3, rfl, _, _, _, _⟩ := own_form ht.row
    have HSw : Hid (Lt w6 (.slice SA3 S.length sc3) S) := Lib.hid hs.sl
    replace HSv := Lib.hid (HSv.out.below hb6)
    replace HTv := Lib.hid (HTv.out.below hb6)
    replace HD := Lib.hid (HD.out.below hb6)
    replace HY := Lib.hid (HY.out.below hb6)
    replace Hb := Lib.hid (below_trans' Hb.out hb6)
    have H6 := Lib.hid (impl_direct _ xs w6 HD.out.ft HD.out.szf (by omega))
    clear H5 hs ht hb6
    go_wp2_with fail
    refine H6.out.mono ?_
    rintro e w7 ⟨d, rfl, hd, hb7⟩
    replace HSw := Lib.hid (HSw.out.below hb7)
    replace HSv := Lib.hid (HSv.out.below hb7)
    replace HTv := Lib.hid (HTv.out.below hb7)
    replace HD := Lib.hid (HD.out.below hb7)
    replace HY := Lib.hid (HY.out.below hb7)
    replace Hb := Lib.hid (below_trans' Hb.out hb7)
    have H7 := Lib.hid (impl_fb _ _ (direct xs) S w7 hd.sl HSv.out (direct_szf HD.out.szf) HSz.out (by have := direct_len xs; omega) (by have := HSl.out; omega))
    rw [HQ.out.direct.1, HQ.out.direct.2.1, HQ.out.direct.2.2] at H7
    clear H6 hd hb7
    go_wp2_with fail
    refine H7.out.mono ?_
    rintro e w8 ⟨s4, t4, rfl, hs, ht, hb8⟩
    obtain ⟨SA4, sc4, rfl, _, _, _, _⟩ := own_form hs.row
    obtain ⟨TA4, tc4, rfl, _, _, _, _⟩ := own_form ht.row
    have HSx : Hid (Lt w8 (.slice SA4 S.length sc4) S) := Lib.hid hs.sl
    replace HSw := Lib.hid (HSw.out.below hb8)
    replace HSv := Lib.hid (HSv.out.below hb8)
    replace HTv := Lib.hid (HTv.out.below hb8)
    replace HD := Lib.hid (HD.out.below hb8)
    replace HY := Lib.hid (HY.out.below hb8)
    replace Hb := Lib.hid (below_trans' Hb.out hb8)
    clear H7 hs ht hb8
    go_wp2_with fail
    go_loopw [17, 18] (fun j i wr => ∃ (k n : Nat), k ≤ ys.length ∧ i = .int .i64 k ∧ j = .int .i64 n ∧ n ≤ k ∧ Hid (n = (sentT xs (ys.take k)).length) ∧ Hid (Below w8.heap.size w8 wr)) (fun _ i _ => ys.length - (intOf i).toNat)
    case atStart => exact ⟨0, 0, Nat.zero_le _, rfl, rfl, Nat.le_refl _, Lib.hid rfl, Lib.hid (Below.refl _ _)⟩
    case round =>
      obtain ⟨k, n, hk, rfl, rfl, hnk, Hn, Hb9⟩ := hrel
      by_cases hlt : k < ys.length
      · obtain ⟨A0, c0, e0, hA, _, _⟩ := (HY.out.below Hb9.out)
        injection e0 with e1 e2 e3
        subst e1 e3
        obtain ⟨ad, y, rfl, hy, hcA, hcB⟩ := hA.two hlt
        simp only [ltf] at hcA hcB
        have Hy := Lib.hid hy
        have H9 := Lib.hid (impl_resolve _ xs y.2 wr (HD.out.ft.below Hb9.out) HD.out.szf (by omega) (Hs.out y (List.mem_of_getElem? hy)))
        rw [HQ.out.res (List.mem_of_getElem? hy)] at H9
        clear hy hA e2
        cases hr : resolve xs y.2 with
        | none =>
          have Hr := Lib.hid hr
          have Hpl := Lib.hid (HQ.out.place Hy.out hr)
          rw [hr, reE_none] at H9
          clear hr
          go_wp2_with fail
          refine H9.out.mono ?_
          rintro e w10 ⟨rfl, hb10⟩
          have hcA2 := cellF_later hb10 hcA
          have Hb10 := Lib.hid (below_trans' Hb9.out hb10)
          have H10 := Lib.hid (soPlace_any _ T y.1 w10 (HTv.out.below Hb10.out) HTz.out)
          have hpl : ¬ findI T y.1 < 0 := by have := Hpl.out; omega
          generalize findI T y.1 = pl at *
          clear H9 hb10 hcA hcB
          go_wp2_with fail
          refine H10.out.mono ?_
          rintro e w11 ⟨rfl, hb11⟩
          have Hb11 := Lib.hid (below_trans' Hb10.out hb11)
          clear H10 hb11
          go_wp2_with fail
          go_roundw
          case rel => exact ⟨k + 1, n, by omega, by go_num, rfl, by omega, Lib.hid (by rw [sentT_no Hy.out Hr.out]; exact Hn.out), Hb11⟩
          case measure => simp [intOf]; omega
        | some p =>
          obtain ⟨q, m⟩ := p
          have Hr := Lib.hid hr
          have hSn : S[n]? = some (y.1, q) := by rw [Hn.out]; exact HQ.out.get Hy.out hr
          have hnl := (List.getElem?_eq_some_iff.1 hSn).1
          rw [hr, reE_some] at H9
          clear hr
          go_wp2_with fail
          refine H9.out.mono ?_
          rintro e w10 ⟨rfl, hb10⟩
          have hcA2 := cellF_later hb10 hcA
          have Hb10 := Lib.hid (below_trans' Hb9.out hb10)
          obtain ⟨A0, c0, e0, hA, _, _⟩ := (HSv.out.below Hb10.out)
          injection e0 with e1 e2 e3
          subst e1 e3
          obtain ⟨ad2, z, rfl, hz, hcC, hcD⟩ := hA.two hnl
          rw [hSn] at hz
          injection hz with hz
          subst hz
          simp only [ltf] at hcC hcD
          have t5 : (y.1 == y.1) = true := by simp
          have t6 : (q.toList == q.toList) = true := str_same rfl
          have t7 : ¬ (S.length : Int) ≤ (n : Int) := by omega
          clear H9 hb10 hcA hcB hA hSn e2
          go_wp2_with fail
          go_quiet (fail)
          go_wp2_with fail
          go_roundw
          case rel => exact ⟨k + 1, n + 1, by omega, by go_num, by go_num, by omega, Lib.hid (by rw [sentT_yes Hy.out Hr.out, List.length_append]; have := Hn.out; simp; omega), Lib.hid (below_drewN Hb10.out _)⟩
          case measure => simp [intOf]; omega
      · have hk' : k = ys.length := by omega
        subst hk'
        have hn : n = S.length := by have := Hn.out; rw [List.take_length, ← HQ.out.s_eq] at this; exact this
        have hc := HQ.out.count
        have t5 : ((n : Int) == (S.length : Int)) = true := by simp [hn]
        have t6 : ((S.length : Int) + (T.length : Int) == (ys.length : Int)) = true := by simp only [beq_iff_eq]; omega
        have b1 : S.length ≤ 61 := by omega
        have b2 : T.length ≤ 61 := by omega
        have H12 := Lib.hid (soBatch_any _ _ S S wr (HSw.out.below Hb9.out) (HSv.out.below Hb9.out))
        clear hn hc Hn
        go_wp2_with fail
        refine H12.out.mono ?_
        rintro e w12 ⟨rfl, hb12⟩
        have Hb12 := Lib.hid (below_trans' Hb9.out hb12)
        have H13 := Lib.hid (soBatch_any _ _ S S w12 (HSx.out.below Hb12.out) (HSv.out.below Hb12.out))
        clear H12 hb12
        go_wp2_with fail
        refine H13.out.mono ?_
        rintro e w13 ⟨rfl, hb13⟩
        go_wp2_with fail
        go_ret
        exact ⟨rfl, below_trans' Hb.out (below_trans' Hb12.out hb13)⟩

end Go.Proofs.Ytefgfdehinpbaaa
