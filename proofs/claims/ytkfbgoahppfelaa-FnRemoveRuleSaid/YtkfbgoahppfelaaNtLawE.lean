
/- The walk of the law on removed rules. -/
import Derived.Test.YtkfbgoahppfelaaNtLawC
import Derived.Test.YtkfbgoahppfelaaNtR
namespace Go.Proofs.Ytkfbgoahppfelaa
open Go.RowKit
set_option linter.unusedVariables false

structure RemFacts (xs R : List Rul) (p : ByteArray) : Prop where
  v1 : rv xs = true
  v2 : rv R = true
  len : R.length + 1 = xs.length
  small : (lastN xs p).size ≤ 8
  ok : addB R p (lastN xs p) = true
  same : sameR (addL R p (lastN xs p)) xs = true
  v3 : rv (addL R p (lastN xs p)) = true
theorem rem_facts {xs : List Rul} {p : ByteArray} (h : remB xs p = true) : RemFacts xs (remL xs p) p := by
  cases h1 : rv xs with
  | false => rw [(remR_no1 h1).2] at h; cases h
  | true =>
    cases h2 : idxR xs p with
    | none => rw [(remR_no2 h2).2] at h; cases h
    | some k =>
      obtain ⟨r, hr, he, _⟩ := idxR_some h2
      obtain ⟨g1, g2, g3, g4⟩ := rem_add h1 hr
      have hl : lastN xs p = r.2 := lastN_eq h1 hr he
      rw [(remR_yes h1 h2).1]
      rw [he] at g3
      have ha : addL (dropAt xs k) p r.2 = dropAt xs k ++ [r] := by simp [addL, g3]
      refine ⟨h1, g1, g2, by rw [hl]; exact (rv_sizes h1 r (List.mem_of_getElem? hr)).2, by rw [hl]; simp [addB, g3], by rw [hl, ha]; exact g4, ?_⟩
      rw [hl, ha]
      have : addR (dropAt xs k) p r.2 = some (dropAt xs k ++ [r]) := g3
      unfold addR at this
      split at this
      · rename_i hh
        injection this with this
        rw [← this]
        simp only [Bool.and_eq_true] at hh
        exact hh.2
      · cases this

set_option maxRecDepth 100000 in
set_option maxHeartbeats 3200000 in
theorem law_FnRemoveRule (A : Option Addr) (c : Nat) (bs : List Int) (w : World) (h0 : Coded0 w A bs c) :
    Calls Try.prog 6 #[.slice A bs.length c] w fun e w' => e = .returned (.bool true) ∧ Below w.heap.size w w' := by
  by_cases hbig : 1048576 < bs.length
  · go_enter Try.func6, Try.ntmps6
    go_wp2_with fail
    go_ret
    exact ⟨rfl, Below.refl _ _⟩
  have Hdr := Lib.hid (draw_remove A c bs w (h0.coded hbig))
  clear h0
  go_enter Try.func6, Try.ntmps6
  go_wp2_with fail
  refine Hdr.out.mono ?_
  rintro e w1 ⟨v, xs, p, rfl, hD, hp, hb⟩
  have hpl : p.size ≤ maxLen := by unfold maxLen; omega
  have HD := Lib.hid hD
  have Hb := Lib.hid hb
  obtain ⟨C, cp, rfl, _, _, _, _⟩ := own_form hD.own
  have hxl := hD.len
  obtain ⟨R, hR⟩ : ∃ R, R = remL xs p := ⟨_, rfl⟩
  obtain ⟨B, hB⟩ : ∃ B, B = remB xs p := ⟨_, rfl⟩
  have H1 := Lib.hid (impl_rem _ xs p w1 hD.rt hD.szr (by omega))
  rw [← hR, ← hB] at H1
  have HF : Hid (B = true → RemFacts xs R p) := Lib.hid fun h => by rw [hR]; exact rem_facts (hB.symm.trans h)
  have H2 : Hid (∀ W, Below w1.heap.size w1 W → Calls Try.prog 30 #[.slice C xs.length cp, .string p] W fun e w' => ∃ u, e = .returned (.tuple #[u, .bool B]) ∧ OR w' W.heap.size w'.heap.size u R ∧ Below W.heap.size W w') := Lib.hid fun W hW => by
    rw [hR, hB]; exact spec_rem _ xs p W (hD.rt.below hW) hD.szr (by omega)
  have t2 : (B != B) = false := by simp
  have t3 : (B == B) = true := by simp
  clear hD hb hR hB Hdr
  go_wp2_with fail
  refine H1.out.mono ?_
  rintro e w2 ⟨u, rfl, hu, hb2⟩
  have HU := Lib.hid hu.in_
  replace HD := Lib.hid (HD.out.below hb2)
  replace Hb := Lib.hid (below_trans' Hb.out hb2)
  have H3 := Lib.hid (H2.out w2 hb2)
  obtain ⟨U, uc, rfl, _, _, _, _⟩ := own_form hu.row
  clear H1 H2 hb2 hu
  go_wp2_with fail
  refine H3.out.mono ?_
  rintro e w3 ⟨z, rfl, hz, hb3⟩
  replace HD := Lib.hid (HD.out.below hb3)
  replace HU : Hid (Rt w3 (.slice U R.length uc) R) := Lib.hid (HU.out.below hb3)
  replace Hb := Lib.hid (below_trans' Hb.out hb3)
  have HZ := Lib.hid hz.in_
  have H4 := Lib.hid (same_rules _ z R R rfl w3 HU.out hz.in_)
  clear H3 hb3 hz
  go_wp2_with fail
  refine H4.out.mono ?_
  rintro e w4 ⟨rfl, hb4⟩
  replace HD := Lib.hid (HD.out.below hb4)
  replace HU : Hid (Rt w4 (.slice U R.length uc) R) := Lib.hid (HU.out.below hb4)
  replace HZ : Hid (Rt w4 z R) := Lib.hid (HZ.out.below hb4)
  replace Hb := Lib.hid (below_trans' Hb.out hb4)
  clear H4 hb4
  cases B with
  | false =>
    have H5 := Lib.hid (same_rules _ z R R rfl w4 HU.out HZ.out)
    go_wp2_with fail
    refine H5.out.mono ?_
    rintro e w5 ⟨rfl, hb5⟩
    go_wp2_with fail
    go_ret
    exact ⟨rfl, below_trans' Hb.out hb5⟩
  | true =>
    have HFF := Lib.hid (HF.out rfl)
    clear HF HZ
    go_wp2_with fail
    go_loopw [9, 10] (fun n i wr => ∃ k : Nat, k ≤ xs.length ∧ i = .int .i64 k ∧ n = .string (lastN (xs.take k) p) ∧ wr = w4) (fun _ i _ => xs.length - (intOf i).toNat)
    case atStart => exact ⟨0, Nat.zero_le _, rfl, rfl, rfl⟩
    case round =>
      obtain ⟨k, hk, rfl, rfl, rfl⟩ := hrel
      by_cases hlt : k < xs.length
      · obtain ⟨A0, c0, e0, hA, _, _⟩ := HD.out.rt
        injection e0 with e1 e2 e3
        subst e1 e3
        obtain ⟨ad, x, rfl, hx, hcA, hcB⟩ := hA.two hlt
        simp only [rtf] at hcA hcB
        have Hx := Lib.hid (lastN_snoc (p := p) hx)
        clear hx hA
        by_cases hxe : x.1 = p
        · have t5 := str_same hxe
          have Hxe := Lib.hid hxe
          clear hxe
          go_wp2_with fail
          go_roundw
          case rel => exact ⟨k + 1, by omega, by go_num, by rw [Hx.out, if_pos Hxe.out], by first | rfl | trivial⟩
          case measure => simp [intOf]; omega
        · have t5 := str_diff hxe
          have Hxe := Lib.hid hxe
          clear hxe
          go_wp2_with fail
          go_roundw
          case rel => exact ⟨k + 1, by omega, by go_num, by rw [Hx.out, if_neg Hxe.out], by first | rfl | trivial⟩
          case measure => simp [intOf]; omega
      · have hk' : k = xs.length := by omega
        subst hk'
        have hnl : (lastN xs p).size ≤ maxLen := by have := HFF.out.small; unfold maxLen; omega
        have hRl := rv_len HFF.out.v2
        have htk : xs.take xs.length = xs := List.take_length
        obtain ⟨n, hn⟩ : ∃ n, n = lastN xs p := ⟨_, rfl⟩
        have htn : lastN (xs.take xs.length) p = n := by rw [htk, hn]
        rw [htn]
        have H7 := Lib.hid (impl_add _ R p n wr HU.out (rv_szr HFF.out.v2) (by omega) hpl (by rw [hn]; exact hnl))
        have hok : addB R p n = true := by rw [hn]; exact HFF.out.ok
        rw [hok] at H7
        obtain ⟨Z, hZ⟩ : ∃ Z, Z = addL R p n := ⟨_, rfl⟩
        rw [← hZ] at H7
        have HV3 : Hid (rv Z = true ∧ sameR Z xs = true) := Lib.hid (by rw [hZ, hn]; exact ⟨HFF.out.v3, HFF.out.same⟩)
        have en : ((R.length : Int) == (xs.length : Int) - 1) = true := by have := HFF.out.len; simp only [beq_iff_eq]; omega
        clear htk hn htn hok hZ hnl
        go_wp2_with fail
        refine H7.out.mono ?_
        rintro e w7 ⟨z, rfl, hz, hb7⟩
        have Hb7 := Lib.hid hb7
        have HZ := Lib.hid hz.in_
        have H8 := Lib.hid (impl_rv _ R w7 (HU.out.below hb7) (rv_szr HFF.out.v2))
        rw [HFF.out.v2] at H8
        clear H7 hz hb7
        go_wp2_with fail
        refine H8.out.mono ?_
        rintro e w8 ⟨rfl, hb8⟩
        have Hb8 := Lib.hid (below_trans' Hb7.out hb8)
        have H9 := Lib.hid (impl_sameR z _ Z xs w8 (HZ.out.below hb8) (HD.out.rt.below Hb8.out) (rv_szr HV3.out.1) HD.out.szr)
        rw [HV3.out.2] at H9
        clear H8 hb8
        go_wp2_with fail
        refine H9.out.mono ?_
        rintro e w9 ⟨rfl, hb9⟩
        go_wp2_with fail
        go_ret
        exact ⟨rfl, below_trans' Hb.out (below_trans' Hb8.out hb9)⟩

end Go.Proofs.Ytkfbgoahppfelaa
