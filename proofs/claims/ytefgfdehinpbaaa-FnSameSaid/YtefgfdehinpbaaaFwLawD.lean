
/- The law on direct orders. -/
import Derived.Test.YtefgfdehinpbaaaFwLawB
namespace Go.Proofs.Ytefgfdehinpbaaa
open Go.RowKit
set_option linter.unusedVariables false

theorem direct_szf {xs : List Fwd} (h : Szf xs) : Szf (direct xs) := by
  cases hv : fv xs with
  | false => rw [direct_no hv]; intro x hx; simp at hx
  | true =>
    intro x hx
    have hp := fv_parts (fv_direct hv)
    have h1 := (codeB_parts (hp.frm x hx)).1
    have h2 := (codeB_parts (hp.to x hx)).1
    unfold maxLen; omega
theorem direct_nextO {xs : List Fwd} (h : fv xs = true) {x : Fwd} (hx : x ∈ direct xs) : nextO (direct xs) x.2 = none := by
  rw [nextO_yes (fv_direct h), direct_end h hx]
theorem direct_resO {xs : List Fwd} (h : fv xs = true) {x : Fwd} (hx : x ∈ direct xs) : ∃ n, resO xs x.1 = some (x.2, n) := by
  obtain ⟨n, hn⟩ := direct_res h hx
  exact ⟨n, by rw [resO_yes (direct_code h hx) h, hn]⟩
theorem leq_not {y x : Fwd} (h : ltB y.1 x.1 = true) : Op.bytesLess x.1.toList y.1.toList = false ∧ (x.1.toList == y.1.toList) = false := by
  constructor
  · rw [bl_lt, ltB_not]
    rw [ltB_not] at h
    have := leB_total x.1 y.1
    cases h1 : leB y.1 x.1 with
    | true => rfl
    | false =>
      exfalso
      cases h2 : leB x.1 y.1 with
      | true => rw [h2] at h; cases h
      | false => rw [h1, h2] at this; cases this
  · refine str_diff fun e => ?_
    rw [e, ltB_not] at h
    have := leB_total y.1 y.1
    cases h1 : leB y.1 y.1 with
    | true => rw [h1] at h; cases h
    | false => rw [h1] at this; cases this

set_option maxRecDepth 100000 in
set_option maxHeartbeats 3200000 in
theorem law_FnDirect (A : Option Addr) (c : Nat) (bs : List Int) (w : World) (h0 : Coded0 w A bs c) :
    Calls Try.prog 5 #[.slice A bs.length c] w fun e w' => e = .returned (.bool true) ∧ Below w.heap.size w w' := by
  by_cases hbig : 1048576 < bs.length
  · go_enter Try.func5, Try.ntmps5
    go_wp2_with fail
    go_ret
    exact ⟨rfl, Below.refl _ _⟩
  have Hdr := Lib.hid (draw_direct A c bs w (h0.coded hbig))
  clear h0
  go_enter Try.func5, Try.ntmps5
  go_wp2_with fail
  refine Hdr.out.mono ?_
  rintro e w1 ⟨v, xs, rfl, hD, hb⟩
  have HD := Lib.hid hD
  have Hb := Lib.hid hb
  obtain ⟨C, cp, rfl, _, _, _, _⟩ := own_form hD.own
  have hxl := hD.len
  obtain ⟨S, hS⟩ : ∃ S, S = direct xs := ⟨_, rfl⟩
  have hSl : S.length ≤ 31 := by rw [hS]; have := direct_len xs; omega
  have HS := Lib.hid hS
  have HSz : Hid (Szf S) := Lib.hid (by rw [hS]; exact direct_szf hD.szf)
  have H1 := Lib.hid (impl_direct _ xs w1 hD.ft hD.szf (by omega))
  rw [← hS] at H1
  have t1 : decide (S = S) = true := decide_eq_true rfl
  clear hD hb hS Hdr
  go_wp2_with fail
  refine H1.out.mono ?_
  rintro e w2 ⟨u, rfl, hu, hb2⟩
  replace HD := Lib.hid (HD.out.below hb2)
  replace Hb := Lib.hid (below_trans' Hb.out hb2)
  obtain ⟨UA, uc, rfl, _, _, _, _⟩ := own_form hu.row
  have HU : Hid (Ft w2 (.slice UA S.length uc) S) := Lib.hid hu.sl
  have H2 := Lib.hid (spec_direct _ xs w2 HD.out.ft HD.out.szf (by omega))
  rw [← HS.out] at H2
  clear H1 hb2 hu
  go_wp2_with fail
  refine H2.out.mono ?_
  rintro e w3 ⟨y, rfl, hy, hb3⟩
  replace HD := Lib.hid (HD.out.below hb3)
  replace Hb := Lib.hid (below_trans' Hb.out hb3)
  replace HU := Lib.hid (HU.out.below hb3)
  have H3 := Lib.hid (soForwards_any _ _ S S w3 HU.out hy.sl)
  clear H2 hb3 hy
  go_wp2_with fail
  refine H3.out.mono ?_
  rintro e w4 ⟨rfl, hb4⟩
  replace HD := Lib.hid (HD.out.below hb4)
  replace Hb := Lib.hid (below_trans' Hb.out hb4)
  replace HU := Lib.hid (HU.out.below hb4)
  have H4 := Lib.hid (impl_fv _ xs w4 HD.out.ft HD.out.szf)
  clear H3 hb4
  go_wp2_with fail
  refine H4.out.mono ?_
  rintro e w5 ⟨rfl, hb5⟩
  replace HD := Lib.hid (HD.out.below hb5)
  replace Hb := Lib.hid (below_trans' Hb.out hb5)
  replace HU := Lib.hid (HU.out.below hb5)
  clear H4 hb5
  cases hv : fv xs with
  | false =>
    have H5 := Lib.hid (spec_direct _ xs w5 HD.out.ft HD.out.szf (by omega))
    rw [← HS.out] at H5
    clear hv
    go_wp2_with fail
    refine H5.out.mono ?_
    rintro e w6 ⟨y, rfl, hy, hb6⟩
    have H6 := Lib.hid (soForwards_any _ _ S S w6 (HU.out.below hb6) hy.sl)
    have Hb6 := Lib.hid (below_trans' Hb.out hb6)
    clear H5 hb6 hy
    go_wp2_with fail
    refine H6.out.mono ?_
    rintro e w7 ⟨rfl, hb7⟩
    go_wp2_with fail
    go_ret
    exact ⟨rfl, below_trans' Hb6.out hb7⟩
  | true =>
    have Hv := Lib.hid hv
    clear hv
    go_wp2_with fail
    go_loopw [5] (fun i wr => ∃ k : Nat, k ≤ S.length ∧ i = .int .i64 k ∧ Hid (Below w5.heap.size w5 wr)) (fun i _ => S.length - (intOf i).toNat)
    case atStart => exact ⟨0, Nat.zero_le _, rfl, Lib.hid (Below.refl _ _)⟩
    case round =>
      obtain ⟨k, hk, rfl, Hb6⟩ := hrel
      by_cases hlt : k < S.length
      · obtain ⟨A0, c0, e0, hA, _, _⟩ := (HU.out.below Hb6.out)
        injection e0 with e1 e2 e3
        subst e1 e3
        obtain ⟨ad, x, rfl, hx, hcA, hcB⟩ := hA.two hlt
        simp only [ftf] at hcA hcB
        have Hx := Lib.hid hx
        have hm : x ∈ direct xs := by rw [← HS.out]; exact List.mem_of_getElem? hx
        obtain ⟨n, hn⟩ := direct_resO Hv.out hm
        have H6 := Lib.hid (impl_resolve _ xs x.1 wr (HD.out.ft.below Hb6.out) HD.out.szf (by omega) (HSz.out x (List.mem_of_getElem? hx)).1)
        rw [hn, reE_some] at H6
        have H7 := Lib.hid fun (W : World) (hb : Below wr.heap.size wr W) => impl_next _ S x.2 W (HU.out.below (below_trans' Hb6.out hb)) HSz.out
        rw [show nextO S x.2 = none by rw [HS.out]; exact direct_nextO Hv.out hm] at H7
        simp only [orF, Option.isSome_none] at H7
        have t2 : (x.2.toList == x.2.toList) = true := str_same rfl
        have hcP : 0 < k → ∃ y : Fwd, S[k - 1]? = some y ∧ wr.cell? (ad.add ((k - 1) * 2)) = some (.string y.1) := fun hk0 => by
          obtain ⟨ad2, y, e, hy, hc, _⟩ := hA.two (k := k - 1) (by omega)
          injection e with e
          subst e
          exact ⟨y, hy, hc⟩
        have HcP := Lib.hid hcP
        clear hx hA hm hn hcP
        go_wp2_with fail
        refine H6.out.mono ?_
        rintro e w7 ⟨rfl, hb7⟩
        have hcA2 := cellF_later hb7 hcA
        have hcB2 := cellF_later hb7 hcB
        have Hb7 := Lib.hid hb7
        have H8 := Lib.hid (H7.out w7 hb7)
        clear H6 H7 hb7 hcA hcB
        go_wp2_with fail
        refine H8.out.mono ?_
        rintro e w8 ⟨rfl, hb8⟩
        have hcA3 := cellF_later hb8 hcA2
        have hcB3 := cellF_later hb8 hcB2
        have Hb8 := Lib.hid (below_trans' Hb7.out hb8)
        have Hb9 := Lib.hid (below_trans' Hb6.out Hb8.out)
        clear H8 hb8 hcA2 hcB2 Hb7
        by_cases hk0 : k = 0
        · subst hk0
          have hcB4 : w8.cell? ⟨ad.block, ad.off + 1, none⟩ = some (.string x.2) := by simpa [Addr.add] using hcB3
          clear HcP hcA3 hcB3
          go_wp2_with fail
          go_quiet (fail)
          go_wp2_with fail
          go_roundw
          case rel => exact ⟨1, by omega, by go_num, Lib.hid (below_drewN Hb9.out _)⟩
          case measure => simp [intOf]; omega
        · obtain ⟨j, rfl⟩ : ∃ j, k = j + 1 := ⟨k - 1, by omega⟩
          obtain ⟨y, hy, hcy⟩ := HcP.out (by omega)
          have hcC := cellF_later Hb8.out hcy
          rw [show j + 1 - 1 = j from rfl] at hy hcC
          have hlt2 := leq_not (direct_asc Hv.out (by rw [← HS.out]; exact hy) (by rw [← HS.out]; exact Hx.out))
          have hlt3 := hlt2.1
          have hlt4 := hlt2.2
          clear hlt2
          have hj0 : (0 : Int) < (j : Int) + 1 := by omega
          clear HcP hy hcy
          go_wp2_with fail
          go_quiet (fail)
          go_wp2_with fail
          go_roundw
          case rel => exact ⟨j + 1 + 1, by omega, by go_num, Lib.hid (below_drewN Hb9.out _)⟩
          case measure => simp [intOf]; omega
      · have hk' : k = S.length := by omega
        subst hk'
        obtain ⟨E, hE⟩ : ∃ E, E = endless xs := ⟨_, rfl⟩
        have HE := Lib.hid hE
        have H9 := Lib.hid (impl_endless _ xs wr (HD.out.ft.below Hb6.out) HD.out.szf (by omega))
        rw [← hE] at H9
        have t3 : (((S.length : Int) + (E.length : Int)) == (xs.length : Int)) = true := by
          have := direct_count Hv.out
          rw [← HS.out, ← HE.out] at this
          simp only [beq_iff_eq]; omega
        have hEl : E.length ≤ 31 := by
          have := direct_count Hv.out
          rw [← HS.out, ← HE.out] at this; omega
        have t4 : longest S ≤ 1 := by rw [HS.out]; exact direct_long Hv.out
        have t5 : ((E.length : Int) == 0) = sameF S xs := by
          rw [HS.out, direct_same Hv.out, ← HE.out]
          cases E with
          | nil => simp
          | cons a l => simp; omega
        have HT := Lib.hid t5
        clear hE t5
        go_wp2_with fail
        refine H9.out.mono ?_
        rintro e w9 ⟨ev, rfl, hev, hb9⟩
        obtain ⟨EA, ec, rfl, _, _, _, _⟩ := own_form hev.row
        have Hb9 := Lib.hid (below_trans' Hb6.out hb9)
        have H10 := Lib.hid (impl_longest _ S w9 (HU.out.below Hb9.out) HSz.out (by omega))
        generalize longest S = m at *
        clear H9 hb9 hev
        go_wp2_with fail
        refine H10.out.mono ?_
        rintro e w10 ⟨rfl, hb10⟩
        have Hb10 := Lib.hid (below_trans' Hb9.out hb10)
        have H11 := Lib.hid (impl_direct _ S w10 (HU.out.below Hb10.out) HSz.out (by omega))
        rw [show direct S = S by rw [HS.out]; exact direct_twice Hv.out] at H11
        clear H10 hb10
        go_wp2_with fail
        refine H11.out.mono ?_
        rintro e w11 ⟨z, rfl, hz, hb11⟩
        have Hb11 := Lib.hid (below_trans' Hb10.out hb11)
        have H12 := Lib.hid (soForwards_any _ _ S S w11 hz.sl (HU.out.below Hb11.out))
        clear H11 hb11 hz
        go_wp2_with fail
        refine H12.out.mono ?_
        rintro e w12 ⟨rfl, hb12⟩
        have Hb12 := Lib.hid (below_trans' Hb11.out hb12)
        have H13 := Lib.hid (impl_same _ _ S xs w12 (HU.out.below Hb12.out) (HD.out.ft.below Hb12.out) HSz.out HD.out.szf (by omega) (by omega))
        rw [← HT.out] at H13
        clear H12 hb12
        by_cases hE0 : E.length = 0
        · have e0 : ((E.length : Int) == 0) = true := by simp [hE0]
          rw [e0] at H13
          clear hE0
          go_wp2_with fail
          refine H13.out.mono ?_
          rintro e w13 ⟨rfl, hb13⟩
          go_wp2_with fail
          go_ret
          exact ⟨rfl, below_trans' Hb.out (below_trans' Hb12.out hb13)⟩
        · have e0 : ((E.length : Int) == 0) = false := by simp only [beq_eq_false_iff_ne]; omega
          rw [e0] at H13
          clear hE0
          go_wp2_with fail
          refine H13.out.mono ?_
          rintro e w13 ⟨rfl, hb13⟩
          go_wp2_with fail
          go_ret
          exact ⟨rfl, below_trans' Hb.out (below_trans' Hb12.out hb13)⟩

end Go.Proofs.Ytefgfdehinpbaaa
