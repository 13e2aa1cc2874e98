
/- The walks of the laws on shrunk, same and removed rules. -/
import Derived.Test.YtkfbgoahppfelaaNtLawC
import Derived.Test.YtkfbgoahppfelaaNtR
namespace Go.Proofs.Ytkfbgoahppfelaa
open Go.RowKit
set_option linter.unusedVariables false

set_option maxRecDepth 100000 in
set_option maxHeartbeats 3200000 in
theorem law_FnShrink (A : Option Addr) (c : Nat) (bs : List Int) (w : World) (h0 : Coded0 w A bs c) :
    Calls Try.prog 5 #[.slice A bs.length c] w fun e w' => e = .returned (.bool true) ∧ Below w.heap.size w w' := by
  by_cases hbig : 1048576 < bs.length
  · go_enter Try.func5, Try.ntmps5
    go_wp2_with fail
    go_ret
    exact ⟨rfl, Below.refl _ _⟩
  have Hdr := Lib.hid (draw_shrink A c bs w (h0.coded hbig))
  clear h0
  go_enter Try.func5, Try.ntmps5
  go_wp2_with fail
  refine Hdr.out.mono ?_
  rintro e w1 ⟨v, xs, rfl, hD, hb⟩
  have HD := Lib.hid hD
  have Hb := Lib.hid hb
  obtain ⟨C, cp, rfl, _, _, _, _⟩ := own_form hD.own
  have hxl := hD.len
  obtain ⟨R, hR⟩ : ∃ R, R = shrink xs := ⟨_, rfl⟩
  have H1 := Lib.hid (impl_shrink _ xs w1 hD.rt hD.szr)
  rw [← hR] at H1
  have HR := Lib.hid hR
  have H2 : Hid (∀ W, Below w1.heap.size w1 W → Calls Try.prog 26 #[.slice C xs.length cp] W fun e w' => ∃ u, e = .returned u ∧ OR w' W.heap.size w'.heap.size u R ∧ Below W.heap.size W w') := Lib.hid fun W hW => by
    rw [hR]; exact spec_shrink _ xs W (hD.rt.below hW) hD.szr
  clear hD hb hR Hdr
  go_wp2_with fail
  refine H1.out.mono ?_
  rintro e w2 ⟨u, rfl, hu, hb2⟩
  have HU := Lib.hid hu.in_
  have Hb2 := Lib.hid hb2
  have H3 := Lib.hid (H2.out w2 hb2)
  obtain ⟨U, uc, rfl, _, _, _, _⟩ := own_form hu.row
  clear H1 hb2 hu
  go_wp2_with fail
  refine H3.out.mono ?_
  rintro e w3 ⟨z, rfl, hz, hb3⟩
  replace HU : Hid (Rt w3 (.slice U R.length uc) R) := Lib.hid (HU.out.below hb3)
  replace Hb2 := Lib.hid (below_trans' Hb2.out hb3)
  have H4 := Lib.hid (same_rules _ z R R rfl w3 HU.out hz.in_)
  clear H3 hb3 hz
  go_wp2_with fail
  refine H4.out.mono ?_
  rintro e w4 ⟨rfl, hb4⟩
  replace HU : Hid (Rt w4 (.slice U R.length uc) R) := Lib.hid (HU.out.below hb4)
  replace Hb2 := Lib.hid (below_trans' Hb2.out hb4)
  have H5 := Lib.hid (impl_rv _ xs w4 (HD.out.rt.below Hb2.out) HD.out.szr)
  clear H4 hb4
  go_wp2_with fail
  refine H5.out.mono ?_
  rintro e w5 ⟨rfl, hb5⟩
  replace HU : Hid (Rt w5 (.slice U R.length uc) R) := Lib.hid (HU.out.below hb5)
  replace Hb2 := Lib.hid (below_trans' Hb2.out hb5)
  clear H5 hb5
  cases hv : rv xs with
  | false =>
    have H6 := Lib.hid (H2.out w5 Hb2.out)
    clear hv
    go_wp2_with fail
    refine H6.out.mono ?_
    rintro e w6 ⟨z, rfl, hz, hb6⟩
    have H7 := Lib.hid (same_rules _ z R R rfl w6 (HU.out.below hb6) hz.in_)
    have Hb6 := Lib.hid (below_trans' Hb2.out hb6)
    clear H6 hz hb6
    go_wp2_with fail
    refine H7.out.mono ?_
    rintro e w7 ⟨rfl, hb7⟩
    go_wp2_with fail
    go_ret
    exact ⟨rfl, below_trans' Hb.out (below_trans' Hb6.out hb7)⟩
  | true =>
    have Hv := Lib.hid hv
    have HvR : Hid (rv R = true) := Lib.hid (by rw [HR.out]; exact shrink_rv hv)
    have H6 := Lib.hid (probes_any _ xs w5 (HD.out.rt.below Hb2.out) hxl HD.out.sm)
    clear hv H2
    go_wp2_with fail
    refine H6.out.mono ?_
    rintro e w6 ⟨l, ls, rfl, hl, hll, hls, hb6⟩
    replace HU : Hid (Rt w6 (.slice U R.length uc) R) := Lib.hid (HU.out.below hb6)
    replace Hb2 := Lib.hid (below_trans' Hb2.out hb6)
    have HL : Hid (IS w6 l ls) := Lib.hid hl.in_
    have Hls := Lib.hid hls
    obtain ⟨LA, lc, rfl, _, _, _, _⟩ := own_form hl.row
    clear H6 hb6 hl hls
    go_wp2_with fail
    go_loopw [6] (fun i wr => ∃ k : Nat, k ≤ ls.length ∧ i = .int .i64 k ∧ Hid (Below w6.heap.size w6 wr)) (fun i _ => ls.length - (intOf i).toNat)
    case atStart => exact ⟨0, Nat.zero_le _, rfl, Lib.hid (Below.refl _ _)⟩
    case round =>
      obtain ⟨k, hk, rfl, Hb6⟩ := hrel
      by_cases hlt : k < ls.length
      · obtain ⟨A0, c0, e0, hA, _, _⟩ := HL.out.below Hb6.out
        injection e0 with e1 e2 e3
        subst e1 e3
        obtain ⟨ad, t, rfl, ht, hcA⟩ := hA.str hlt
        have htl : t.size ≤ maxLen := by have := Hls.out t (List.mem_of_getElem? ht); unfold maxLen; omega
        clear ht hA
        obtain ⟨N, hN⟩ : ∃ N, N = orE (lookO xs t) := ⟨_, rfl⟩
        have HN1 : Hid (∀ W, Below wr.heap.size wr W → Calls Try.prog 23 #[.slice U R.length uc, .string t] W fun e w' => e = .returned (.string N) ∧ Below W.heap.size W w') := Lib.hid fun W hW => by
          have := soNext_any _ R t W ((HU.out.below Hb6.out).below hW) (rv_szr HvR.out) htl
          rw [HR.out, shrink_look Hv.out t, ← hN, ← HR.out] at this; exact this
        have HN2 : Hid (∀ W, Below wr.heap.size wr W → Calls Try.prog 23 #[.slice C xs.length cp, .string t] W fun e w' => e = .returned (.string N) ∧ Below W.heap.size W w') := Lib.hid fun W hW => by
          rw [hN]; exact soNext_any _ xs t W (((HD.out.rt.below Hb2.out).below Hb6.out).below hW) HD.out.szr htl
        have tN : (N.toList == N.toList) = true := str_same rfl
        clear hN
        go_wp2_with fail
        go_region_held3 (fun w' => Below wr.heap.size wr w' ∧ w'.cell? (ad.add k) = some (.string t)) (first | (refine ⟨(Below.refl _ _).drew, ?_⟩ <;> assumption) | (refine ⟨?_, ?_⟩ <;> assumption) | go_keep) (first | (go_at_call_of 23 (Value.slice U R.length uc); refine (HN1.out _ ?_).mono ?_; (first | exact Below.refl _ _ | exact (Below.refl _ _).drew | assumption | exact Below.drew (by assumption)); rintro e w8 ⟨rfl, hb8⟩; have hcA8 : w8.cell? (ad.add k) = some (.string t) := cell_later hb8 (by first | assumption | exact hcA); have hb8' : Below wr.heap.size wr w8 := below_trans' (by first | exact Below.refl _ _ | exact (Below.refl _ _).drew | assumption) hb8) | (go_at_call_of 23 (Value.slice C xs.length cp); refine (HN2.out _ ?_).mono ?_; (first | exact Below.refl _ _ | exact (Below.refl _ _).drew | assumption | exact Below.drew (by assumption)); rintro e w9 ⟨rfl, hb9⟩; have hcA9 : w9.cell? (ad.add k) = some (.string t) := cell_later hb9 (by first | assumption | exact hcA); have hb9' : Below wr.heap.size wr w9 := below_trans' (by first | exact Below.refl _ _ | exact (Below.refl _ _).drew | assumption) hb9))
        all_goals
          go_wp2_with fail
          go_roundw
          case rel => exact ⟨k + 1, by omega, by go_num, Lib.hid (below_trans' Hb6.out hb9')⟩
          case measure => simp [intOf]; omega
      · have hk' : k = ls.length := by omega
        subst hk'
        have H7 := Lib.hid (impl_sameR _ _ R xs wr (HU.out.below Hb6.out) ((HD.out.rt.below Hb2.out).below Hb6.out) (rv_szr HvR.out) HD.out.szr)
        have hsame : sameR R xs = true := by rw [HR.out]; exact shrink_same Hv.out
        rw [hsame] at H7
        have hle : (R.length : Int) ≤ (xs.length : Int) := by have := shrink_le Hv.out; rw [← HR.out] at this; omega
        clear hsame
        go_wp2_with fail
        refine H7.out.mono ?_
        rintro e w7 ⟨rfl, hb7⟩
        have Hb7 := Lib.hid (below_trans' Hb6.out hb7)
        have H8 := Lib.hid (impl_shrink _ R w7 (HU.out.below Hb7.out) (rv_szr HvR.out))
        have hag : shrink R = R := by rw [HR.out]; exact shrink_again Hv.out
        rw [hag] at H8
        clear H7 hb7 hag
        go_wp2_with fail
        refine H8.out.mono ?_
        rintro e w8 ⟨z, rfl, hz, hb8⟩
        have Hb8 := Lib.hid (below_trans' Hb7.out hb8)
        have H9 := Lib.hid (same_rules z _ R R rfl w8 hz.in_ (HU.out.below Hb8.out))
        clear H8 hb8 hz
        go_wp2_with fail
        refine H9.out.mono ?_
        rintro e w9 ⟨rfl, hb9⟩
        go_wp2_with fail
        go_ret
        exact ⟨rfl, below_trans' Hb.out (below_trans' Hb2.out (below_trans' Hb8.out hb9))⟩

set_option maxRecDepth 100000 in
set_option maxHeartbeats 3200000 in
theorem law_FnSameRules (A : Option Addr) (c : Nat) (bs : List Int) (w : World) (h0 : Coded0 w A bs c) :
    Calls Try.prog 7 #[.slice A bs.length c] w fun e w' => e = .returned (.bool true) ∧ Below w.heap.size w w' := by
  by_cases hbig : 1048576 < bs.length
  · go_enter Try.func7, Try.ntmps7
    go_wp2_with fail
    go_ret
    exact ⟨rfl, Below.refl _ _⟩
  have Hdr := Lib.hid (draw_same A c bs w (h0.coded hbig))
  clear h0
  go_enter Try.func7, Try.ntmps7
  go_wp2_with fail
  refine Hdr.out.mono ?_
  rintro e w1 ⟨v, u, xs, ys, rfl, hD, hE, hb⟩
  have HD := Lib.hid hD
  have HE := Lib.hid hE
  have Hb := Lib.hid hb
  obtain ⟨C, cp, rfl, _, _, _, _⟩ := own_form hD.own
  obtain ⟨U, uc, rfl, _, _, _, _⟩ := own_form hE.own
  have hxl := hD.len
  have hyl := hE.len
  obtain ⟨S, hS⟩ : ∃ S, S = sameR xs ys := ⟨_, rfl⟩
  have HS := Lib.hid hS
  have H1 := Lib.hid (impl_sameR _ _ xs ys w1 hD.rt hE.rt hD.szr hE.szr)
  rw [← hS] at H1
  have H2 : Hid (∀ W, Below w1.heap.size w1 W → Calls Try.prog 32 #[.slice C xs.length cp, .slice U ys.length uc] W fun e w' => e = .returned (.bool S) ∧ Below W.heap.size W w') := Lib.hid fun W hW => by
    rw [hS]; exact spec_sameR _ _ xs ys W (hD.rt.below hW) (hE.rt.below hW) hD.szr hE.szr
  have t2 : (S != S) = false := by simp
  have t3 : (S == S) = true := by simp
  clear hD hE hb hS Hdr
  go_wp2_with fail
  refine H1.out.mono ?_
  rintro e w2 ⟨rfl, hb2⟩
  have Hb2 := Lib.hid hb2
  have H3 := Lib.hid (H2.out w2 hb2)
  clear H1 hb2
  go_wp2_with fail
  refine H3.out.mono ?_
  rintro e w3 ⟨rfl, hb3⟩
  replace Hb2 := Lib.hid (below_trans' Hb2.out hb3)
  have H4 := Lib.hid (impl_rv _ xs w3 (HD.out.rt.below Hb2.out) HD.out.szr)
  clear H3 hb3
  go_wp2_with fail
  refine H4.out.mono ?_
  rintro e w4 ⟨rfl, hb4⟩
  replace Hb2 := Lib.hid (below_trans' Hb2.out hb4)
  clear H4 hb4
  cases hv : rv xs with
  | false =>
    have H5 := Lib.hid (H2.out w4 Hb2.out)
    go_wp2_with fail
    refine H5.out.mono ?_
    rintro e w5 ⟨rfl, hb5⟩
    go_wp2_with fail
    go_ret
    exact ⟨rfl, below_trans' Hb.out (below_trans' Hb2.out hb5)⟩
  | true =>
    have H5 := Lib.hid (impl_rv _ ys w4 (HE.out.rt.below Hb2.out) HE.out.szr)
    have Hv := Lib.hid hv
    clear hv
    go_wp2_with fail
    refine H5.out.mono ?_
    rintro e w5 ⟨rfl, hb5⟩
    replace Hb2 := Lib.hid (below_trans' Hb2.out hb5)
    clear H5 hb5
    cases hv2 : rv ys with
    | false =>
      have H6 := Lib.hid (H2.out w5 Hb2.out)
      go_wp2_with fail
      refine H6.out.mono ?_
      rintro e w6 ⟨rfl, hb6⟩
      go_wp2_with fail
      go_ret
      exact ⟨rfl, below_trans' Hb.out (below_trans' Hb2.out hb6)⟩
    | true =>
      have Hv2 := Lib.hid hv2
      have H6 := Lib.hid (probes_any _ xs w5 (HD.out.rt.below Hb2.out) hxl HD.out.sm)
      clear hv2 H2
      go_wp2_with fail
      refine H6.out.mono ?_
      rintro e w6 ⟨l, ls, rfl, hl, hll, hls, hb6⟩
      have Hb56 := Lib.hid hb6
      have Hl := Lib.hid hl
      have Hls := Lib.hid hls
      have H7 := Lib.hid (probes_any _ ys w6 ((HE.out.rt.below Hb2.out).below hb6) hyl HE.out.sm)
      obtain ⟨LA, lc, rfl, _, _, _, _⟩ := own_form hl.row
      clear H6 hb6 hl hls
      go_wp2_with fail
      refine H7.out.mono ?_
      rintro e w7 ⟨m, ms, rfl, hm, hml, hms, hb7⟩
      have Hb57 := Lib.hid (below_trans' Hb56.out hb7)
      have Hl7 := Lib.hid (OS.below Hl.out hb7)
      have Hms := Lib.hid hms
      have Hs57 : Hid (w5.heap.size ≤ w7.heap.size) := Lib.hid Hb57.out.size
      obtain ⟨MA, mc, rfl, hMr, _, _⟩ := hm.in_
      have HMr := Lib.hid hMr
      clear H7 hb7 hm hms Hl Hb56 hMr
      go_wp2_with (at_builtin; refine wpList_append_rd rfl (.tmp 40) (.tmp 42) 38 rfl str_elem (base := w5.heap.size) (.slice LA ls.length lc) ls.length (strs ls) rfl Hl7.out.row MA ms.length mc (strs ms) rfl (by rw [strs_length, Nat.mul_one]) HMr.out (strs_oneCell _) (by unfold maxLen; omega) (by omega) Hs57.out ?_; intro v8 w8 hown8 hg8 hm8)
      have Hb8 : Hid (Below w5.heap.size w5 w8) := Lib.hid (Hb57.out.grown hg8 Hs57.out (fun g e => (Hl7.out.row.lt g e).1))
      replace Hb2 := Lib.hid (below_trans' Hb2.out Hb8.out)
      have HX : Hid (∃ al : List ByteArray, al = ls ++ ms) := Lib.hid ⟨_, rfl⟩
      obtain ⟨al, has⟩ := HX.out
      have HL : Hid (IS w8 v8 al) := Lib.hid (by
        have h := sl_own hown8
        rw [← strs_append, ← List.length_append, ← has] at h
        exact h)
      have Has : Hid (Sm100 al) := Lib.hid fun x hx => by
        rw [has] at hx
        rcases List.mem_append.1 hx with h | h
        · exact Hls.out x h
        · exact Hms.out x h
      have hal0 : al.length ≤ 200 := by rw [has, List.length_append]; omega
      have hle8 : Hid (ls.length + ms.length = al.length) := Lib.hid (by rw [has, List.length_append])
      clear hown8 hg8 hm8 Hl7 HMr Hls Hms Hb57 Hb8 has HX
      obtain ⟨VA, vc, rfl, _, _, _⟩ := HL.out
      go_wp2_with fail
      go_loopw [7] (fun i wr => ∃ k : Nat, k ≤ al.length ∧ i = .int .i64 k ∧ Hid (Below w8.heap.size w8 wr)) (fun i _ => al.length - (intOf i).toNat)
      case atStart => exact ⟨0, Nat.zero_le _, rfl, Lib.hid (Below.refl _ _)⟩
      case round =>
        obtain ⟨k, hk, rfl, Hb6⟩ := hrel
        by_cases hlt : k < al.length
        · obtain ⟨A0, c0, e0, hA, _, _⟩ := HL.out.below Hb6.out
          injection e0 with e1 e2 e3
          subst e1 e3
          obtain ⟨ad, t, rfl, ht, hcA⟩ := hA.str hlt
          have htl : t.size ≤ maxLen := by have := Has.out t (List.mem_of_getElem? ht); unfold maxLen; omega
          clear ht hA
          cases S with
          | false =>
            go_wp2_with fail
            go_quiet (fail)
            go_wp2_with fail
            go_roundw
            case rel => exact ⟨k + 1, by omega, by go_num, Lib.hid (below_drewN Hb6.out _)⟩
            case measure => simp [intOf]; omega
          | true =>
            obtain ⟨N, hN⟩ : ∃ N, N = orE (lookO ys t) := ⟨_, rfl⟩
            have HN1 : Hid (∀ W, Below wr.heap.size wr W → Calls Try.prog 23 #[.slice C xs.length cp, .string t] W fun e w' => e = .returned (.string N) ∧ Below W.heap.size W w') := Lib.hid fun W hW => by
              have := soNext_any _ xs t W (((HD.out.rt.below Hb2.out).below Hb6.out).below hW) HD.out.szr htl
              rw [same_look Hv.out Hv2.out HS.out.symm t, ← hN] at this; exact this
            have HN2 : Hid (∀ W, Below wr.heap.size wr W → Calls Try.prog 23 #[.slice U ys.length uc, .string t] W fun e w' => e = .returned (.string N) ∧ Below W.heap.size W w') := Lib.hid fun W hW => by
              rw [hN]; exact soNext_any _ ys t W (((HE.out.rt.below Hb2.out).below Hb6.out).below hW) HE.out.szr htl
            have tN : (N.toList == N.toList) = true := str_same rfl
            clear hN
            go_wp2_with fail
            go_region_held3 (fun w' => Below wr.heap.size wr w' ∧ w'.cell? (ad.add k) = some (.string t)) (first | (refine ⟨(Below.refl _ _).drew, ?_⟩ <;> assumption) | (refine ⟨?_, ?_⟩ <;> assumption) | go_keep) (first | (go_at_call_of 23 (Value.slice C xs.length cp); refine (HN1.out _ ?_).mono ?_; (first | exact Below.refl _ _ | exact (Below.refl _ _).drew | assumption | exact Below.drew (by assumption)); rintro e w8 ⟨rfl, hb8⟩; have hcA8 : w8.cell? (ad.add k) = some (.string t) := cell_later hb8 (by first | assumption | exact hcA); have hb8' : Below wr.heap.size wr w8 := below_trans' (by first | exact Below.refl _ _ | exact (Below.refl _ _).drew | assumption) hb8) | (go_at_call_of 23 (Value.slice U ys.length uc); refine (HN2.out _ ?_).mono ?_; (first | exact Below.refl _ _ | exact (Below.refl _ _).drew | assumption | exact Below.drew (by assumption)); rintro e w9 ⟨rfl, hb9⟩; have hcA9 : w9.cell? (ad.add k) = some (.string t) := cell_later hb9 (by first | assumption | exact hcA); have hb9' : Below wr.heap.size wr w9 := below_trans' (by first | exact Below.refl _ _ | exact (Below.refl _ _).drew | assumption) hb9))
            all_goals
              go_wp2_with fail
              go_roundw
              case rel => exact ⟨k + 1, by omega, by go_num, Lib.hid (below_trans' Hb6.out hb9')⟩
              case measure => simp [intOf]; omega
        · have hk' : k = al.length := by omega
          subst hk'
          have H7 := Lib.hid (impl_sameR _ _ ys xs wr ((HE.out.rt.below Hb2.out).below Hb6.out) ((HD.out.rt.below Hb2.out).below Hb6.out) HE.out.szr HD.out.szr)
          rw [sameR_comm, ← HS.out] at H7
          go_wp2_with fail
          refine H7.out.mono ?_
          rintro e w9 ⟨rfl, hb9⟩
          have Hb9 := Lib.hid (below_trans' Hb2.out (below_trans' Hb6.out hb9))
          have H8 := Lib.hid (impl_sameR _ _ xs xs w9 (HD.out.rt.below Hb9.out) (HD.out.rt.below Hb9.out) HD.out.szr HD.out.szr)
          rw [sameR_self Hv.out] at H8
          clear H7 hb9
          go_wp2_with fail
          refine H8.out.mono ?_
          rintro e w10 ⟨rfl, hb10⟩
          have Hb10 := Lib.hid (below_trans' Hb9.out hb10)
          have H9 := Lib.hid (soRules_any _ _ xs ys w10 (HD.out.rt.below Hb10.out) (HE.out.rt.below Hb10.out))
          obtain ⟨Q, hQ⟩ : ∃ Q, Q = decide (xs = ys) := ⟨_, rfl⟩
          rw [← hQ] at H9
          have HQ : Hid (Q = true → S = true) := Lib.hid fun h => by
            rw [hQ, decide_eq_true_eq] at h
            rw [HS.out, ← h]; exact sameR_self Hv.out
          clear H8 hb10 hQ Hb9
          go_wp2_with fail
          refine H9.out.mono ?_
          rintro e w11 ⟨rfl, hb11⟩
          have Hb11 := Lib.hid (below_trans' Hb10.out hb11)
          have H10 := Lib.hid (impl_shrink _ xs w11 (HD.out.rt.below Hb11.out) HD.out.szr)
          have HZ : Hid (∀ z W, Rt W z (shrink xs) → Below w1.heap.size w1 W → Calls Try.prog 27 #[z, .slice U ys.length uc] W fun e w' => e = .returned (.bool S) ∧ Below W.heap.size W w') := Lib.hid fun z W hz hW => by
            have := impl_sameR z _ (shrink xs) ys W hz (HE.out.rt.below hW) (rv_szr (shrink_rv Hv.out)) HE.out.szr
            rw [sameR_shrink Hv.out, ← HS.out] at this; exact this
          generalize shrink xs = R at *
          clear H9 hb11
          cases Q with
          | true =>
            have hSt := HQ.out rfl
            subst hSt
            clear HS
            go_wp2_with fail
            refine H10.out.mono ?_
            rintro e w12 ⟨z, rfl, hz, hb12⟩
            have H12 := Lib.hid (HZ.out z w12 hz.in_ (below_trans' Hb11.out hb12))
            have Hb12 := Lib.hid (below_trans' Hb11.out hb12)
            clear hz hb12 H10
            go_wp2_with fail
            refine H12.out.mono ?_
            rintro e w13 ⟨rfl, hb13⟩
            go_wp2_with fail
            go_ret
            exact ⟨rfl, below_trans' Hb.out (below_trans' Hb12.out hb13)⟩
          | false =>
            go_wp2_with fail
            refine H10.out.mono ?_
            rintro e w12 ⟨z, rfl, hz, hb12⟩
            have H12 := Lib.hid (HZ.out z w12 hz.in_ (below_trans' Hb11.out hb12))
            have Hb12 := Lib.hid (below_trans' Hb11.out hb12)
            clear hz hb12 H10
            go_wp2_with fail
            refine H12.out.mono ?_
            rintro e w13 ⟨rfl, hb13⟩
            go_wp2_with fail
            go_ret
            exact ⟨rfl, below_trans' Hb.out (below_trans' Hb12.out hb13)⟩

end Go.Proofs.Ytkfbgoahppfelaa
