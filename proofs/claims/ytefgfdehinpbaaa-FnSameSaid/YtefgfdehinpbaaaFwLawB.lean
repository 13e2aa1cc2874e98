
/- The law on sources. -/
import Derived.Test.YtefgfdehinpbaaaFwDrawB
import Derived.Test.YtefgfdehinpbaaaFwLawA
import Derived.Test.YtefgfdehinpbaaaFwLaw3
import Derived.Test.YtefgfdehinpbaaaFw8
namespace Go.Proofs.Ytefgfdehinpbaaa
open Go.RowKit
set_option linter.unusedVariables false

theorem nextO_end {xs : List Fwd} {s : ByteArray} (h : (nextO xs s).isSome = true) : sources xs s = [] := by
  cases hv : fv xs with
  | false => rw [nextO_no hv] at h; cases h
  | true =>
    rw [nextO_yes hv] at h
    cases hn : nextF xs s with
    | none => rw [hn] at h; cases h
    | some d => exact sources_stay hv hn
theorem resO_of {xs : List Fwd} {x : Fwd} (h : fv xs = true) (hx : x ∈ xs) : resO xs x.1 = resolve xs x.1 := resO_yes ((fv_parts h).frm x hx) h
theorem src_yes {xs : List Fwd} {s : ByteArray} {x : Fwd} {p : ByteArray × Nat} (h : fv xs = true) (hx : x ∈ xs) (hr : resolve xs x.1 = some p) (hp : p.1 = s) : hasB (sources xs s) x.1 = true :=
  hasB_true ((mem_sources h).2 ⟨List.mem_map.2 ⟨x, hx, rfl⟩, p.2, by rw [hr, ← hp]⟩)
theorem src_no {xs : List Fwd} {s : ByteArray} {x : Fwd} {p : ByteArray × Nat} (h : fv xs = true) (hr : resolve xs x.1 = some p) (hp : p.1 ≠ s) : hasB (sources xs s) x.1 = false :=
  hasB_false fun hm => by
    obtain ⟨_, n, hn⟩ := (mem_sources h).1 hm
    rw [hr] at hn
    injection hn with hn
    exact hp (by rw [hn])
theorem src_none {xs : List Fwd} {s : ByteArray} {x : Fwd} (h : fv xs = true) (hr : resolve xs x.1 = none) : hasB (sources xs s) x.1 = false :=
  hasB_false fun hm => by
    obtain ⟨_, n, hn⟩ := (mem_sources h).1 hm
    rw [hr] at hn; cases hn

set_option maxRecDepth 100000 in
set_option maxHeartbeats 3200000 in
theorem law_FnSources (A : Option Addr) (c : Nat) (bs : List Int) (w : World) (h0 : Coded0 w A bs c) :
    Calls Try.prog 7 #[.slice A bs.length c] w fun e w' => e = .returned (.bool true) ∧ Below w.heap.size w w' := by
  by_cases hbig : 1048576 < bs.length
  · go_enter Try.func7, Try.ntmps7
    go_wp2_with fail
    go_ret
    exact ⟨rfl, Below.refl _ _⟩
  have Hdr := Lib.hid (draw_sources A c bs w (h0.coded hbig))
  clear h0
  go_enter Try.func7, Try.ntmps7
  go_wp2_with fail
  refine Hdr.out.mono ?_
  rintro e w1 ⟨v, xs, s, rfl, hD, hs, hb⟩
  have hsl : s.size ≤ maxLen := by unfold maxLen; omega
  have HD := Lib.hid hD
  have Hb := Lib.hid hb
  obtain ⟨C, cp, rfl, _, _, _, _⟩ := own_form hD.own
  have hxl := hD.len
  obtain ⟨S, hS⟩ : ∃ S, S = sources xs s := ⟨_, rfl⟩
  have HS := Lib.hid hS
  have H1 := Lib.hid (impl_sources _ xs s w1 hD.ft hD.szf (by omega))
  rw [← hS] at H1
  have t1 : decide (S = S) = true := decide_eq_true rfl
  clear hD hb hS Hdr
  go_wp2_with fail
  refine H1.out.mono ?_
  rintro e w2 ⟨u, rfl, hu, hb2⟩
  replace HD := Lib.hid (HD.out.below hb2)
  replace Hb := Lib.hid (below_trans' Hb.out hb2)
  obtain ⟨UA, uc, rfl, _, _, _, _⟩ := own_form hu.row
  have HU := Lib.hid hu.sl
  have H2 := Lib.hid (spec_sources _ xs s w2 HD.out.ft HD.out.szf (by omega))
  rw [← HS.out] at H2
  clear H1 hb2 hu
  go_wp2_with fail
  refine H2.out.mono ?_
  rintro e w3 ⟨y, rfl, hy, hb3⟩
  replace HD := Lib.hid (HD.out.below hb3)
  replace Hb := Lib.hid (below_trans' Hb.out hb3)
  replace HU := Lib.hid (HU.out.below hb3)
  have H3 := Lib.hid (soTexts_any _ _ S S w3 HU.out hy.sl)
  clear H2 hb3 hy
  go_wp2_with fail
  refine H3.out.mono ?_
  rintro e w4 ⟨rfl, hb4⟩
  replace HD := Lib.hid (HD.out.below hb4)
  replace Hb := Lib.hid (below_trans' Hb.out hb4)
  replace HU := Lib.hid (HU.out.below hb4)
  have H4 := Lib.hid (impl_fv _ xs w4 HD.out.ft HD.out.szf)
  clear H3 hb4
  go_wp2_with fail
  refine H4.out.mono ?_
  rintro e w5 ⟨rfl, hb5⟩
  replace HD := Lib.hid (HD.out.below hb5)
  replace Hb := Lib.hid (below_trans' Hb.out hb5)
  replace HU := Lib.hid (HU.out.below hb5)
  clear H4 hb5
  cases hv : fv xs with
  | false =>
    have H5 := Lib.hid (spec_sources _ xs s w5 HD.out.ft HD.out.szf (by omega))
    rw [← HS.out] at H5
    clear hv
    go_wp2_with fail
    refine H5.out.mono ?_
    rintro e w6 ⟨y, rfl, hy, hb6⟩
    have H6 := Lib.hid (soTexts_any _ _ S S w6 (HU.out.below hb6) hy.sl)
    have Hb6 := Lib.hid (below_trans' Hb.out hb6)
    clear H5 hb6 hy
    go_wp2_with fail
    refine H6.out.mono ?_
    rintro e w7 ⟨rfl, hb7⟩
    go_wp2_with fail
    go_ret
    exact ⟨rfl, below_trans' Hb6.out hb7⟩
  | true =>
    have Hv := Lib.hid hv
    clear hv
    go_wp2_with fail
    go_loopw [6] (fun i wr => ∃ k : Nat, k ≤ xs.length ∧ i = .int .i64 k ∧ Hid (Below w5.heap.size w5 wr)) (fun i _ => xs.length - (intOf i).toNat)
    case atStart => exact ⟨0, Nat.zero_le _, rfl, Lib.hid (Below.refl _ _)⟩
    case round =>
      obtain ⟨k, hk, rfl, Hb6⟩ := hrel
      by_cases hlt : k < xs.length
      · obtain ⟨A0, c0, e0, hA, _, _⟩ := (HD.out.ft.below Hb6.out)
        injection e0 with e1 e2 e3
        subst e1 e3
        obtain ⟨ad, x, rfl, hx, hcA, hcB⟩ := hA.two hlt
        simp only [ftf] at hcA hcB
        have Hx := Lib.hid (List.mem_of_getElem? hx)
        have H6 := Lib.hid (impl_resolve _ xs x.1 wr (HD.out.ft.below Hb6.out) HD.out.szf (by omega) (HD.out.szf x (List.mem_of_getElem? hx)).1)
        rw [resO_of Hv.out (List.mem_of_getElem? hx)] at H6
        clear hx hA
        cases hr : resolve xs x.1 with
        | none =>
          have Hh := Lib.hid (src_none (s := s) Hv.out hr)
          rw [hr, reE_none] at H6
          clear hr
          go_wp2_with fail
          refine H6.out.mono ?_
          rintro e w7 ⟨rfl, hb7⟩
          have hcA2 := cellF_later hb7 hcA
          replace Hb6 := Lib.hid (below_trans' Hb6.out hb7)
          have H7 := Lib.hid (soHas_any _ S x.1 w7 (HU.out.below Hb6.out))
          rw [HS.out, Hh.out, ← HS.out] at H7
          clear H6 hb7 hcA hcB Hh
          go_wp2_with fail
          refine H7.out.mono ?_
          rintro e w8 ⟨rfl, rfl⟩
          clear H7
          go_wp2_with fail
          go_roundw
          case rel => exact ⟨k + 1, by omega, by go_num, Hb6⟩
          case measure => simp [intOf]; omega
        | some p =>
          obtain ⟨q, n⟩ := p
          by_cases hq : q = s
          · have Hh := Lib.hid (src_yes (s := s) Hv.out Hx.out hr hq)
            have t2 : (q.toList == s.toList) = true := str_same hq
            rw [hr, reE_some] at H6
            clear hr hq
            go_wp2_with fail
            refine H6.out.mono ?_
            rintro e w7 ⟨rfl, hb7⟩
            have hcA2 := cellF_later hb7 hcA
            replace Hb6 := Lib.hid (below_trans' Hb6.out hb7)
            have H7 := Lib.hid (soHas_any _ S x.1 w7 (HU.out.below Hb6.out))
            rw [HS.out, Hh.out, ← HS.out] at H7
            clear H6 hb7 hcA hcB Hh
            go_wp2_with fail
            refine H7.out.mono ?_
            rintro e w8 ⟨rfl, rfl⟩
            clear H7
            go_wp2_with fail
            go_roundw
            case rel => exact ⟨k + 1, by omega, by go_num, Hb6⟩
            case measure => simp [intOf]; omega
          · have Hh := Lib.hid (src_no (s := s) Hv.out hr hq)
            have t2 : (q.toList == s.toList) = false := str_diff hq
            rw [hr, reE_some] at H6
            clear hr hq
            go_wp2_with fail
            refine H6.out.mono ?_
            rintro e w7 ⟨rfl, hb7⟩
            have hcA2 := cellF_later hb7 hcA
            replace Hb6 := Lib.hid (below_trans' Hb6.out hb7)
            have H7 := Lib.hid (soHas_any _ S x.1 w7 (HU.out.below Hb6.out))
            rw [HS.out, Hh.out, ← HS.out] at H7
            clear H6 hb7 hcA hcB Hh
            go_wp2_with fail
            refine H7.out.mono ?_
            rintro e w8 ⟨rfl, rfl⟩
            clear H7
            go_wp2_with fail
            go_roundw
            case rel => exact ⟨k + 1, by omega, by go_num, Hb6⟩
            case measure => simp [intOf]; omega
      · have hk' : k = xs.length := by omega
        subst hk'
        have H8 := Lib.hid (impl_next _ xs s wr (HD.out.ft.below Hb6.out) HD.out.szf)
        cases hB : (nextO xs s).isSome with
        | false =>
          rw [hB] at H8
          generalize orF (nextO xs s) = O at *
          clear hB
          go_wp2_with fail
          refine H8.out.mono ?_
          rintro e w9 ⟨rfl, hb9⟩
          go_wp2_with fail
          go_ret
          exact ⟨rfl, below_trans' Hb.out (below_trans' Hb6.out hb9)⟩
        | true =>
          have hz : S = [] := HS.out.trans (nextO_end hB)
          rw [hB] at H8
          have t3 : ((S.length : Int) == 0) = true := by simp [hz]
          generalize orF (nextO xs s) = O at *
          clear hB hz
          go_wp2_with fail
          refine H8.out.mono ?_
          rintro e w9 ⟨rfl, hb9⟩
          go_wp2_with fail
          go_ret
          exact ⟨rfl, below_trans' Hb.out (below_trans' Hb6.out hb9)⟩

end Go.Proofs.Ytefgfdehinpbaaa
