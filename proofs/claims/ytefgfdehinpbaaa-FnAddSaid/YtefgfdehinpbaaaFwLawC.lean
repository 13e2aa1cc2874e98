
/- The law on added orders. -/
import Derived.Test.YtefgfdehinpbaaaFwLawB
namespace Go.Proofs.Ytefgfdehinpbaaa
open Go.RowKit
set_option linter.unusedVariables false

/-- What is known where an order is added. -/
structure Added (xs : List Fwd) (f t : ByteArray) (n : Nat) : Prop where
  list : addFL xs f t = putF xs f t
  old : fv xs = true
  new : fv (putF xs f t) = true
  end_ : ∃ p, resolve (putF xs f t) f = some p
  len : (putF xs f t).length = n + 1
  last : (putF xs f t)[n]? = some (f, t)
theorem added_of {xs : List Fwd} {f t : ByteArray} (h : addFB xs f t = true) : ∃ n, Added xs f t n := by
  cases h1 : fv xs with
  | false => rw [(addF_no1 h1).2] at h; cases h
  | true =>
    cases h2 : fv (putF xs f t) with
    | false => rw [(addF_no2 h2).2] at h; cases h
    | true =>
      cases h3 : resolve (putF xs f t) f with
      | none => rw [(addF_no3 h3).2] at h; cases h
      | some p => exact ⟨(woI xs (idxI xs f)).length, (addF_yes h1 h2 h3).1, h1, h2, ⟨p, h3⟩, by simp [putF], by simp [putF]⟩
theorem added_next {xs : List Fwd} {f t : ByteArray} {n : Nat} (h : Added xs f t n) : nextO (putF xs f t) f = some t := by rw [nextO_yes h.new, put_next h.new]
theorem added_stay {xs : List Fwd} {f t : ByteArray} {n : Nat} (h : Added xs f t n) {x : Fwd} (hx : x ∈ xs) (hn : x.1 ≠ f) : nextO (putF xs f t) x.1 = some x.2 := by rw [nextO_yes h.new, put_stay h.new hx hn]
theorem addFL_len (xs : List Fwd) (f t : ByteArray) : (addFL xs f t).length ≤ xs.length + 1 := by
  unfold addFL addO
  split
  · rename_i l hl
    split at hl
    · injection hl with hl
      subst hl; exact putF_len xs f t
    · cases hl
  · simp
theorem addFL_szf {xs : List Fwd} {f t : ByteArray} (h : Szf xs) (hf : f.size ≤ maxLen) (ht : t.size ≤ maxLen) : Szf (addFL xs f t) := by
  unfold addFL addO
  split
  · rename_i l hl
    split at hl
    · injection hl with hl
      subst hl; exact putF_szf h hf ht
    · cases hl
  · intro x hx; simp at hx

set_option maxRecDepth 100000 in
set_option maxHeartbeats 3200000 in
theorem law_FnAdd (A : Option Addr) (c : Nat) (bs : List Int) (w : World) (h0 : Coded0 w A bs c) :
    Calls Try.prog 6 #[.slice A bs.length c] w fun e w' => e = .returned (.bool true) ∧ Below w.heap.size w w' := by
  by_cases hbig : 1048576 < bs.length
  · go_enter Try.func6, Try.ntmps6
    go_wp2_with fail
    go_ret
    exact ⟨rfl, Below.refl _ _⟩
  have Hdr := Lib.hid (draw_add A c bs w (h0.coded hbig))
  clear h0
  go_enter Try.func6, Try.ntmps6
  go_wp2_with fail
  refine Hdr.out.mono ?_
  rintro e w1 ⟨v, xs, s, t, rfl, hD, hs, ht, hb⟩
  have hsl : s.size ≤ maxLen := by unfold maxLen; omega
  have htl : t.size ≤ maxLen := by unfold maxLen; omega
  have HD := Lib.hid hD
  have Hb := Lib.hid hb
  obtain ⟨C, cp, rfl, _, _, _, _⟩ := own_form hD.own
  have hxl := hD.len
  obtain ⟨L, hL⟩ : ∃ L, L = addFL xs s t := ⟨_, rfl⟩
  have hLl : L.length ≤ 32 := by rw [hL]; have := addFL_len xs s t; omega
  have HLs : Hid (Szf L) := Lib.hid (by rw [hL]; exact addFL_szf hD.szf hsl htl)
  have H1 := Lib.hid (impl_add _ xs s t w1 hD.ft hD.szf (by omega) hsl htl)
  have HL := Lib.hid hL
  rw [← hL] at H1
  have t1 : decide (L = L) = true := decide_eq_true rfl
  clear hD hb hL Hdr
  cases hB : addFB xs s t with
  | false =>
    have HB := Lib.hid hB
    rw [hB] at H1
    clear hB
    go_wp2_with fail
    refine H1.out.mono ?_
    rintro e w2 ⟨u, rfl, hu, hb2⟩
    replace HD := Lib.hid (HD.out.below hb2)
    replace Hb := Lib.hid (below_trans' Hb.out hb2)
    obtain ⟨UA, uc, rfl, _, _, _, _⟩ := own_form hu.row
    have HU : Hid (Ft w2 (.slice UA L.length uc) L) := Lib.hid hu.sl
    have H2 := Lib.hid (spec_add _ xs s t w2 HD.out.ft HD.out.szf (by omega) hsl htl)
    rw [HB.out, ← HL.out] at H2
    clear H1 hb2 hu
    go_wp2_with fail
    refine H2.out.mono ?_
    rintro e w3 ⟨y, rfl, hy, hb3⟩
    obtain ⟨YA, yc, rfl, _, _, _, _⟩ := own_form hy.row
    replace Hb := Lib.hid (below_trans' Hb.out hb3)
    replace HU := Lib.hid (HU.out.below hb3)
    have HY : Hid (Ft w3 (.slice YA L.length yc) L) := Lib.hid hy.sl
    have H3 := Lib.hid (soForwards_any _ _ L L w3 HU.out HY.out)
    clear H2 hb3 hy
    go_wp2_with fail
    refine H3.out.mono ?_
    rintro e w4 ⟨rfl, hb4⟩
    replace Hb := Lib.hid (below_trans' Hb.out hb4)
    have H4 := Lib.hid (soForwards_any _ _ L L w4 (HU.out.below hb4) (HY.out.below hb4))
    clear H3 hb4
    go_wp2_with fail
    refine H4.out.mono ?_
    rintro e w5 ⟨rfl, hb5⟩
    go_wp2_with fail
    go_ret
    exact ⟨rfl, below_trans' Hb.out hb5⟩
  | true =>
    have HB := Lib.hid hB
    obtain ⟨n, hA⟩ := added_of hB
    have HA := Lib.hid hA
    rw [hB] at H1
    have hLp : L = putF xs s t := HL.out.trans hA.list
    have HLp := Lib.hid hLp
    have hLn : L.length = n + 1 := by rw [hLp]; exact hA.len
    have HLn := Lib.hid hLn
    have hLx : L[n]? = some (s, t) := by rw [hLp]; exact hA.last
    have HLx := Lib.hid hLx
    have hn30 : n ≤ 31 := by omega
    have hst : s ≠ t := by obtain ⟨p, hp⟩ := hA.end_; exact put_ne hA.new hp
    have t2 : (s.toList == t.toList) = false := str_diff hst
    have t3 : (t.toList == t.toList) = true := str_same rfl
    have t4 : (s.toList == s.toList) = true := str_same rfl
    clear hB hA hLp hLx hst
    go_wp2_with fail
    refine H1.out.mono ?_
    rintro e w2 ⟨u, rfl, hu, hb2⟩
    replace HD := Lib.hid (HD.out.below hb2)
    replace Hb := Lib.hid (below_trans' Hb.out hb2)
    obtain ⟨UA, uc, hue, _, _, _, _⟩ := own_form hu.row
    rw [hLn] at hue
    subst hue
    have HU : Hid (Ft w2 (.slice UA (n + 1) uc) L) := Lib.hid hu.sl
    have H2 := Lib.hid (spec_add _ xs s t w2 HD.out.ft HD.out.szf (by omega) hsl htl)
    rw [HB.out, ← HL.out] at H2
    clear H1 hb2 hu hLn hLl
    go_wp2_with fail
    refine H2.out.mono ?_
    rintro e w3 ⟨y, rfl, hy, hb3⟩
    replace HD := Lib.hid (HD.out.below hb3)
    replace Hb := Lib.hid (below_trans' Hb.out hb3)
    replace HU := Lib.hid (HU.out.below hb3)
    have H3 := Lib.hid (soForwards_any _ _ L L w3 HU.out hy.sl)
    clear H2 hb3 hy
    go_wp2_with fail
    refine H3.out.mono ?_
    rintro e w4 ⟨rfl, hb4⟩
    replace HD := Lib.hid (HD.out.below hb4)
    replace Hb := Lib.hid (below_trans' Hb.out hb4)
    replace HU := Lib.hid (HU.out.below hb4)
    have H4 := Lib.hid (impl_next _ L s w4 HU.out HLs.out)
    rw [show nextO L s = some t by rw [HLp.out]; exact added_next HA.out] at H4
    simp only [orF, Option.isSome_some] at H4
    clear H3 hb4
    go_wp2_with fail
    refine H4.out.mono ?_
    rintro e w5 ⟨rfl, hb5⟩
    replace HD := Lib.hid (HD.out.below hb5)
    replace Hb := Lib.hid (below_trans' Hb.out hb5)
    replace HU := Lib.hid (HU.out.below hb5)
    have H5 := Lib.hid (impl_endless _ xs w5 HD.out.ft HD.out.szf (by omega))
    obtain ⟨E, hE⟩ : ∃ E, E = endless xs := ⟨_, rfl⟩
    have HE := Lib.hid hE
    rw [← hE] at H5
    clear H4 hb5 hE
    go_wp2_with fail
    refine H5.out.mono ?_
    rintro e w6 ⟨ev, rfl, he, hb6⟩
    replace HD := Lib.hid (HD.out.below hb6)
    replace Hb := Lib.hid (below_trans' Hb.out hb6)
    replace HU := Lib.hid (HU.out.below hb6)
    obtain ⟨EA, ec, rfl, _, _, _, _⟩ := own_form he.row
    have HEv : Hid (IS w6 (.slice EA E.length ec) E) := Lib.hid he.sl
    have H6 := Lib.hid (impl_endless _ L w6 HU.out HLs.out (by have := HLn.out; omega))
    obtain ⟨F, hF⟩ : ∃ F, F = endless L := ⟨_, rfl⟩
    have HF := Lib.hid hF
    rw [← hF] at H6
    clear H5 hb6 hF he
    go_wp2_with fail
    refine H6.out.mono ?_
    rintro e w7 ⟨fv', rfl, hf, hb7⟩
    replace HD := Lib.hid (HD.out.below hb7)
    replace Hb := Lib.hid (below_trans' Hb.out hb7)
    replace HU := Lib.hid (HU.out.below hb7)
    replace HEv := Lib.hid (HEv.out.below hb7)
    obtain ⟨FA, fc, rfl, hfn, hfm, _, _⟩ := own_form hf.row
    have HFv : Hid (IS w7 (.slice FA F.length fc) F) := Lib.hid hf.sl
    have hFl := HFv.out.le
    unfold maxLen at hFl
    have HIn : Hid (∀ y ∈ F, hasB E y = true) := Lib.hid fun y hy => hasB_true (by
      rw [HE.out]
      rw [HF.out, HLp.out] at hy
      obtain ⟨p, hp⟩ := HA.out.end_
      exact put_endless HA.out.old HA.out.new hp hy)
    clear H6 hb7 hf hfn hfm
    go_wp2_with fail
    go_loopw [14] (fun i wr => ∃ k : Nat, k ≤ F.length ∧ i = .int .i64 k ∧ Hid (Below w7.heap.size w7 wr)) (fun i _ => F.length - (intOf i).toNat)
    case atStart => exact ⟨0, Nat.zero_le _, rfl, Lib.hid (Below.refl _ _)⟩
    case round =>
      obtain ⟨k, hk, rfl, Hb8⟩ := hrel
      by_cases hlt : k < F.length
      · obtain ⟨A0, c0, e0, hA, _, _⟩ := (HFv.out.below Hb8.out)
        injection e0 with e1 e2 e3
        subst e1 e3
        obtain ⟨ad, y, rfl, hy, hcA⟩ := hA.str hlt
        have H7 := Lib.hid (soHas_any _ E y wr (HEv.out.below Hb8.out))
        rw [HIn.out y (List.mem_of_getElem? hy)] at H7
        clear hy hA
        go_wp2_with fail
        refine H7.out.mono ?_
        rintro e w8 ⟨rfl, rfl⟩
        clear H7
        go_wp2_with fail
        go_roundw
        case rel => exact ⟨k + 1, by omega, by go_num, Hb8⟩
        case measure => simp [intOf]; omega
      · have hk' : k = F.length := by omega
        subst hk'
        clear HEv HFv HIn
        go_wp2_with fail
        go_loopw [15] (fun i wx => ∃ k : Nat, k ≤ xs.length ∧ i = .int .i64 k ∧ Hid (Below w7.heap.size w7 wx)) (fun i _ => xs.length - (intOf i).toNat)
        case atStart => exact ⟨0, Nat.zero_le _, rfl, Hb8⟩
        case round =>
          obtain ⟨k, hk, rfl, Hb9⟩ := hrel
          by_cases hlt : k < xs.length
          · obtain ⟨A0, c0, e0, hA, _, _⟩ := (HD.out.ft.below Hb9.out)
            injection e0 with e1 e2 e3
            subst e1 e3
            obtain ⟨ad, x, rfl, hx, hcA, hcB⟩ := hA.two hlt
            simp only [ftf] at hcA hcB
            have Hx := Lib.hid (List.mem_of_getElem? hx)
            have H8 := Lib.hid (impl_next _ L x.1 wr (HU.out.below Hb9.out) HLs.out)
            clear hx hA
            by_cases hxs : x.1 = s
            · have t5 : (x.1.toList == s.toList) = true := str_same hxs
              generalize orF (nextO L x.1) = O at *
              generalize (nextO L x.1).isSome = B at *
              clear hxs
              go_wp2_with fail
              refine H8.out.mono ?_
              rintro e w10 ⟨rfl, hb10⟩
              have hcA2 := cellF_later hb10 hcA
              have hcB2 := cellF_later hb10 hcB
              have Hb10 := Lib.hid (below_trans' Hb9.out hb10)
              clear H8 hb10 hcA hcB
              go_wp2_with fail
              go_roundw
              case rel => exact ⟨k + 1, by omega, by go_num, Hb10⟩
              case measure => simp [intOf]; omega
            · have t5 : (x.1.toList == s.toList) = false := str_diff hxs
              have t6 : (x.2.toList == x.2.toList) = true := str_same rfl
              rw [show nextO L x.1 = some x.2 by rw [HLp.out]; exact added_stay HA.out Hx.out hxs] at H8
              simp only [orF, Option.isSome_some] at H8
              clear hxs
              go_wp2_with fail
              refine H8.out.mono ?_
              rintro e w10 ⟨rfl, hb10⟩
              have hcA2 := cellF_later hb10 hcA
              have hcB2 := cellF_later hb10 hcB
              have Hb10 := Lib.hid (below_trans' Hb9.out hb10)
              clear H8 hb10 hcA hcB
              go_wp2_with fail
              go_roundw
              case rel => exact ⟨k + 1, by omega, by go_num, Hb10⟩
              case measure => simp [intOf]; omega
          · have hk' : k = xs.length := by omega
            subst hk'
            have H9 := Lib.hid (impl_fv _ L wr (HU.out.below Hb9.out) HLs.out)
            rw [show fv L = true by rw [HLp.out]; exact HA.out.new] at H9
            go_wp2_with fail
            refine H9.out.mono ?_
            rintro e w11 ⟨rfl, hb11⟩
            have Hb11 := Lib.hid (below_trans' Hb9.out hb11)
            obtain ⟨A0, c0, e0, hA, _, _⟩ := (HU.out.below Hb11.out)
            injection e0 with e1 e2 e3
            subst e1 e3
            obtain ⟨ad, x, rfl, hx, hcA, hcB⟩ := hA.two (k := n) (by have := HLn.out; omega)
            rw [HLx.out] at hx
            injection hx with hx
            subst hx
            simp only [ftf] at hcA hcB
            clear H9 hb11 hA e2
            go_wp2_with fail
            go_ret
            exact ⟨rfl, below_trans' Hb.out Hb11.out⟩

end Go.Proofs.Ytefgfdehinpbaaa
