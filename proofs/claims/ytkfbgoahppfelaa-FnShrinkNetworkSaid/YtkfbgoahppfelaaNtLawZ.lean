
/- The walk of the law on networks with shrunk rules. -/
import Derived.Test.YtkfbgoahppfelaaNtLawP
import Derived.Test.YtkfbgoahppfelaaNtFlt
import Derived.Test.YtkfbgoahppfelaaNt8
import Derived.Deep.RegionHeld3
import Derived.Deep.RegionLaw
namespace Go.Proofs.Ytkfbgoahppfelaa
open Go.RowKit
set_option linter.unusedVariables false

theorem small_snoc {net : List Off} {k : Nat} {o : Off} (h : net[k]? = some o) : small (net.take (k + 1)) = small (net.take k) ++ [(o.1, shrink o.2)] := by
  rw [take_snoc h, small, List.map_append]; rfl
theorem small_szo {net : List Off} (h : SmN net) : SzO (small net) := fun o ho => by
  obtain ⟨x, hx, rfl⟩ := List.mem_map.1 ho
  have h1 := h x hx
  exact ⟨by have := h1.1; show x.1.size ≤ maxLen; unfold maxLen; omega, (shrink_drawn h1.2.1).1.szr (by omega)⟩

set_option maxRecDepth 100000 in
set_option maxHeartbeats 3200000 in
theorem law_FnShrinkNetwork (A : Option Addr) (c : Nat) (bs : List Int) (w : World) (h0 : Coded0 w A bs c) :
    Calls Try.prog 11 #[.slice A bs.length c] w fun e w' => e = .returned (.bool true) ∧ Below w.heap.size w w' := by
  by_cases hbig : 1048576 < bs.length
  · go_enter Try.func11, Try.ntmps11
    go_wp2_with fail
    go_ret
    exact ⟨rfl, Below.refl _ _⟩
  have Hdr := Lib.hid (draw_route A c bs w (h0.coded hbig))
  clear h0
  go_enter Try.func11, Try.ntmps11
  go_wp2_with fail
  refine Hdr.out.mono ?_
  rintro e w1 ⟨v, net, s, t, rfl, hI, hS, hl, hs, ht, hb⟩
  have hsl : s.size ≤ maxLen := by unfold maxLen; omega
  have htl : t.size ≤ maxLen := by unfold maxLen; omega
  have HI := Lib.hid hI
  have HZ := Lib.hid hS.szo
  have HS := Lib.hid hS
  have Hb := Lib.hid hb
  obtain ⟨VA, vc, hve, _⟩ := InO.form hI
  subst hve
  obtain ⟨P, hP⟩ : ∃ P, P = (rpath net s t).1 := ⟨_, rfl⟩
  obtain ⟨E, hE⟩ : ∃ E, E = (rpath net s t).2 := ⟨_, rfl⟩
  have H1 := Lib.hid (impl_rp _ net s t w1 hI HZ.out hsl htl)
  rw [← hP, ← hE] at H1
  have HP := Lib.hid hP
  have HE := Lib.hid hE
  have t2 : (E != E) = false := by simp
  have t3 : (E == E) = true := by simp
  clear hI hS hb hP hE Hdr
  go_wp2_with fail
  refine H1.out.mono ?_
  rintro e w2 ⟨u, rfl, hu, hb2⟩
  have H2 := Lib.hid (spec_rp _ net s t w2 (HI.out.below hb2) HZ.out hsl htl)
  rw [← HP.out, ← HE.out] at H2
  have Hb2 := Lib.hid hb2
  have HU := Lib.hid hu.in_
  clear H1 hb2 hu
  go_wp2_with fail
  refine H2.out.mono ?_
  rintro e w3 ⟨z, rfl, hz, hb3⟩
  replace Hb2 := Lib.hid (below_trans' Hb2.out hb3)
  replace HU : Hid (IS w3 u P) := Lib.hid (HU.out.below hb3)
  have HZ2 := Lib.hid hz.in_
  have H3 := Lib.hid (same_texts u z P P rfl w3 HU.out hz.in_)
  clear H2 hb3 hz
  go_wp2_with fail
  refine H3.out.mono ?_
  rintro e w4 ⟨rfl, hb4⟩
  replace Hb2 := Lib.hid (below_trans' Hb2.out hb4)
  replace HU : Hid (IS w4 u P) := Lib.hid (HU.out.below hb4)
  replace HZ2 : Hid (IS w4 z P) := Lib.hid (HZ2.out.below hb4)
  clear H3 hb4
  by_cases hE3 : E = 3
  · subst hE3
    have H4 := Lib.hid (same_texts u z P P rfl w4 HU.out HZ2.out)
    go_wp2_with fail
    refine H4.out.mono ?_
    rintro e w5 ⟨rfl, hb5⟩
    go_wp2_with fail
    go_ret
    exact ⟨rfl, below_trans' Hb.out (below_trans' Hb2.out hb5)⟩
  · have e3 : (E == 3) = false := by simp [hE3]
    have hne : (rpath net s t).2 ≠ 3 := by rw [← HE.out]; exact hE3
    obtain ⟨i0, _, hnv, _, _, _⟩ := rpath_is hne
    have Hv := Lib.hid hnv
    have H0 : Hid (∃ sm, sm = small (net.take 0) ∧ ON (w4.alloc (.cells #[] 56)) w4.heap.size (.slice (some ⟨w4.heap.size, 0, none⟩) 0 0) sm) := Lib.hid ⟨[], rfl, ⟨[], World.ownsRow_lit w4 #[] 0 (Nat.le_refl _) (Nat.zero_le _) rfl, rfl, by intro i p o h; simp at h⟩⟩
    have Hb0 : Hid (Below w4.heap.size w4 (w4.alloc (.cells #[] 56))) := Lib.hid ((Below.refl _ _).alloc (Nat.le_refl _) _)
    obtain ⟨UA, uc, hUe, _, _, _⟩ := HU.out
    subst hUe
    clear hne hE3 hnv HZ2
    go_wp2_with fail
    go_loopw [10, 11] (fun o i wr => ∃ (k : Nat) (u0 : Value), k ≤ net.length ∧ i = .int .i64 k ∧ u0 = o ∧ Hid (Below w4.heap.size w4 wr) ∧ Hid (∃ sm, sm = small (net.take k) ∧ ON wr w4.heap.size u0 sm)) (fun _ i _ => net.length - (intOf i).toNat)
    case atStart => exact ⟨0, _, Nat.zero_le _, rfl, rfl, Hb0, H0⟩
    case round =>
      obtain ⟨k, u0, hk, rfl, rfl, Hb6, Hsm⟩ := hrel
      clear H0 Hb0
      by_cases hkl : k < net.length
      · obtain ⟨sm, hsm, ps, hps⟩ := Hsm.out
        obtain ⟨ad, o, ov, hoa, ho, hcA, hcB, hrt⟩ := ((HI.out.below Hb2.out).below Hb6.out).at_ hkl
        subst hoa
        have hol := (HS.out o (List.mem_of_getElem? ho)).2
        have hoz := hol.1.szr (m := 100) (by omega)
        obtain ⟨S, hS⟩ : ∃ S, S = shrink o.2 := ⟨_, rfl⟩
        have Hnx : Hid (small (net.take (k + 1)) = sm ++ [(o.1, S)]) := Lib.hid (by rw [hsm, hS]; exact small_snoc ho)
        have hpl : ps.length = sm.length := hps.len
        have hsl2 : sm.length = k := by rw [hsm, small_len, List.length_take]; omega
        have HSH : Hid (∀ W, Below wr.heap.size wr W → Calls Try.prog 25 #[ov] W fun e w' => ∃ u, e = .returned u ∧ OR w' W.heap.size w'.heap.size u S ∧ Below W.heap.size W w') := Lib.hid fun W hW => by
          rw [hS]; exact impl_shrink ov o.2 W (hrt.below hW) hoz
        have hSl : S.length ≤ 21 := by rw [hS]; have := (shrink_drawn hol.1).2; omega
        have Hps := Lib.hid hps
        have hpk : ps.length = k := by omega
        have Hpk := Lib.hid hpk
        have Hsz : Hid (w4.heap.size ≤ wr.heap.size) := Lib.hid Hb6.out.size
        obtain ⟨O0, oc0, rfl, _, _, _, _⟩ := own_form hps.own
        obtain ⟨RA, rc, rfl, _, _, _⟩ := hrt
        clear hps hsm hpl hsl2 hS ho hol hoz hpk
        go_wp2_with fail
        go_region_law (first
          | (refine step_append_rd (by rfl) (.tmp 65) (.tmp 78) 47 (by rfl) off_elem (base := w4.heap.size) (.slice O0 ps.length oc0) ps.length (cs2 otf ps) (by rfl) (own_below (own_below Hps.out.own Hb8.out) ((Below.refl _ _).alloc (Nat.le_refl _) _)) (some ⟨w8.heap.size, 0, none⟩) 1 1 (cs2 otf [(o.1, .slice XA S.length xc)]) (by rfl) (by rfl) (rd_new w8 (cs2 otf [(o.1, .slice XA S.length xc)]) 56) (ocs_oneCell _ (by intro p hp; simp at hp; subst hp; rfl)) (by unfold maxLen; have := Hpk.out; omega) (by have := Hpk.out; omega) (Nat.le_trans Hsz8.out ((Below.refl w8.heap.size w8).alloc (Nat.le_refl _) _).size) ?_; intro u6 w6 hown6 hg6 hm6)
          | (go_simp; go_at_call 25; refine (HSH.out _ ?_).mono ?_; (first | exact Below.refl _ _ | exact (Below.refl _ _).drew | exact (Below.refl _ _).drew.drew); rintro e w8 ⟨x, rfl, hx, hb8⟩; have hb8' : Below wr.heap.size wr w8 := (by first | exact hb8 | exact below_trans' (Below.refl _ _).drew hb8 | exact below_trans' (Below.refl _ _).drew.drew hb8); have hcA8 := cell_later hb8' hcA; have hcB8 := cell_later hb8' hcB; obtain ⟨XA, xc, rfl, _, _, _, _⟩ := own_form hx.row; have Hx := Lib.hid hx.row; have Hb8 := Lib.hid hb8'; have Hsz8 : Hid (w4.heap.size ≤ w8.heap.size) := Lib.hid (Nat.le_trans Hsz.out hb8'.size)))
        all_goals
          have hbn : Below w8.heap.size w8 (w8.alloc (.cells #[.string o.1, .slice XA S.length xc] 56)) := (Below.refl _ _).alloc (Nat.le_refl _) _
          have hz := ((Hps.out.below Hb8.out).below hbn).push (own_below (own_base Hx.out (by exact Hsz.out)) hbn) hown6 hg6
          have hb6 : Below w4.heap.size w4 w6 := ((below_trans' Hb6.out Hb8.out).alloc (Nat.le_trans Hsz8.out (Nat.le_refl _)) _).grown hg6 (Nat.le_trans Hsz8.out hbn.size) (fun g e => ((own_below (own_below Hps.out.own Hb8.out) hbn).lt g e).1)
          have Hz : Hid (∃ s, s = small (net.take (k + 1)) ∧ ON w6 w4.heap.size u6 s) := Lib.hid ⟨_, Hnx.out.symm, _, hz⟩
          have HbN := Lib.hid hb6
          clear hz hb6 hbn hown6 hg6 hm6
          go_wp2_with fail
          go_roundw
          case rel => exact ⟨k + 1, _, by omega, by go_num, rfl, HbN, Hz⟩
          case measure => simp [intOf]; omega
      · have hk' : k = net.length := by omega
        subst hk'
        obtain ⟨sm, hsm, hon⟩ := Hsm.out
        rw [List.take_length] at hsm
        have HSI := Lib.hid hon.io
        obtain ⟨SA, sc, rfl, _⟩ := hon.form
        have hszm : SzO sm := by rw [hsm]; exact small_szo HS.out
        have H7 := Lib.hid (impl_rp _ sm s t wr hon.io hszm hsl htl)
        have hrp : rpath sm s t = rpath net s t := by rw [hsm]; exact small_rpath Hv.out s t
        rw [hrp, ← HP.out, ← HE.out] at H7
        have Hflt : Hid (faultN sm s = faultN net s) := Lib.hid (by rw [hsm]; exact faultN_small Hv.out s)
        have Hszm := Lib.hid hszm
        clear hon hsm hrp Hsm hszm
        go_wp2_with fail
        refine H7.out.mono ?_
        rintro e w7 ⟨z, rfl, hz, hb7⟩
        have Hb7 := Lib.hid (below_trans' Hb6.out hb7)
        have HS7 := Lib.hid (HSI.out.below hb7)
        have H8 := Lib.hid (same_texts z _ P P rfl w7 hz.in_ (HU.out.below Hb7.out))
        clear H7 hz hb7
        go_wp2_with fail
        refine H8.out.mono ?_
        rintro e w8 ⟨rfl, hb8⟩
        have Hb8 := Lib.hid (below_trans' Hb7.out hb8)
        have H9 := Lib.hid (impl_faults _ sm s w8 (HS7.out.below hb8) Hszm.out)
        rw [Hflt.out] at H9
        clear H8 hb8
        go_wp2_with fail
        refine H9.out.mono ?_
        rintro e w9 ⟨y, rfl, hy, hb9⟩
        have Hb9 := Lib.hid (below_trans' Hb8.out hb9)
        have HY := Lib.hid hy.in_
        have H10 := Lib.hid (impl_faults _ net s w9 ((HI.out.below Hb2.out).below Hb9.out) HZ.out)
        clear H9 hy hb9
        go_wp2_with fail
        refine H10.out.mono ?_
        rintro e w10 ⟨y2, rfl, hy2, hb10⟩
        have Hb10 := Lib.hid (below_trans' Hb9.out hb10)
        have H11 := Lib.hid (same_texts y y2 _ _ rfl w10 (HY.out.below hb10) hy2.in_)
        clear H10 hy2 hb10
        go_wp2_with fail
        refine H11.out.mono ?_
        rintro e w11 ⟨rfl, hb11⟩
        go_wp2_with fail
        go_ret
        exact ⟨rfl, below_trans' Hb.out (below_trans' Hb2.out (below_trans' Hb10.out hb11))⟩

end Go.Proofs.Ytkfbgoahppfelaa
