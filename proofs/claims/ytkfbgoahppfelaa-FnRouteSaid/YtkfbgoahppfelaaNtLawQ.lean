
/- The walk of the law on paths. -/
import Derived.Test.YtkfbgoahppfelaaNtLawP
import Derived.Test.YtkfbgoahppfelaaNtLawA
import Derived.Deep.QuietTactic
import Derived.BigQuiet
namespace Go.Proofs.Ytkfbgoahppfelaa
open Go.RowKit
set_option linter.unusedVariables false

def hasB (xs : List ByteArray) (p : ByteArray) : Bool := xs.any fun y => decide (y = p)
theorem hasB_true {xs : List ByteArray} {p : ByteArray} (h : p ∈ xs) : hasB xs p = true := by rw [hasB, List.any_eq_true]; exact ⟨p, h, by simp⟩
theorem hasB_false {xs : List ByteArray} {p : ByteArray} (h : p ∉ xs) : hasB xs p = false := by
  rw [hasB, List.any_eq_false]
  intro y hy
  simp only [decide_eq_true_eq]
  rintro rfl
  exact h hy
set_option maxRecDepth 100000 in
set_option maxHeartbeats 800000 in
theorem soHas_any (v : Value) (xs : List ByteArray) (p : ByteArray) (w : World) (h : IS w v xs) :
    Calls Try.prog 40 #[v, .string p] w fun e w' => e = .returned (.bool (hasB xs p)) ∧ w' = w := by
  obtain ⟨A, c, rfl, hA, hc1, hc2⟩ := h
  unfold maxLen at hc2
  have HA := Lib.hid hA
  clear hA
  go_enter Try.func40, Try.ntmps40
  go_wp2_with fail
  go_loopw [5] (fun i wr => ∃ k : Nat, k ≤ xs.length ∧ i = .int .i64 k ∧ wr = w ∧ Hid (∀ m, m < k → ∀ y, xs[m]? = some y → y ≠ p)) (fun i _ => xs.length - (intOf i).toNat)
  case atStart => exact ⟨0, Nat.zero_le _, rfl, rfl, Lib.hid (by intro m hm; omega)⟩
  case round =>
    obtain ⟨k, hk, rfl, rfl, hne⟩ := hrel
    by_cases hlt : k < xs.length
    · have hx := List.getElem?_eq_getElem hlt
      generalize xs[k] = x at hx
      obtain ⟨ad, rfl, hcA⟩ := HA.out k _ (strs_get hx)
      have Hx := Lib.hid hx
      clear hx
      by_cases he : x = p
      · have e1 := str_same he
        have Hin : Hid (p ∈ xs) := Lib.hid (he ▸ List.mem_of_getElem? Hx.out)
        clear he hne
        go_wp2_with fail
        go_ret
        exact ⟨ret_bool (hasB_true Hin.out).symm, by first | rfl | trivial⟩
      · have e1 := str_diff he
        have Hne := Lib.hid (not_upto hne.out Hx.out he)
        clear he hne
        go_wp2_with fail
        go_roundw
        case rel => exact ⟨k + 1, by omega, by go_num, by first | rfl | trivial, Hne⟩
        case measure => simp [intOf]; omega
    · have hk' : k = xs.length := by omega
      subst hk'
      have Hno : Hid (p ∉ xs) := Lib.hid fun hp => by
        obtain ⟨j, hj⟩ := List.getElem?_of_mem hp
        exact hne.out j (List.getElem?_eq_some_iff.1 hj).1 p hj rfl
      clear hne
      go_wp2_with fail
      go_ret
      exact ⟨ret_bool (hasB_false Hno.out).symm, by first | rfl | trivial⟩

set_option maxRecDepth 100000 in
set_option maxHeartbeats 3200000 in
theorem law_FnRoute (A : Option Addr) (c : Nat) (bs : List Int) (w : World) (h0 : Coded0 w A bs c) :
    Calls Try.prog 10 #[.slice A bs.length c] w fun e w' => e = .returned (.bool true) ∧ Below w.heap.size w w' := by
  by_cases hbig : 1048576 < bs.length
  · go_enter Try.func10, Try.ntmps10
    go_wp2_with fail
    go_ret
    exact ⟨rfl, Below.refl _ _⟩
  have Hdr := Lib.hid (draw_route A c bs w (h0.coded hbig))
  clear h0
  go_enter Try.func10, Try.ntmps10
  go_wp2_with fail
  refine Hdr.out.mono ?_
  rintro e w1 ⟨v, net, s, t, rfl, hI, hS, hl, hs, ht, hb⟩
  have hsl : s.size ≤ maxLen := by unfold maxLen; omega
  have htl : t.size ≤ maxLen := by unfold maxLen; omega
  have HI := Lib.hid hI
  have HZ := Lib.hid hS.szo
  have HS := Lib.hid hS
  have Hb := Lib.hid hb
  obtain ⟨VA, vc, hve, _⟩ := InO.form hI
  subst hve
  obtain ⟨P, hP⟩ : ∃ P, P = (rpath net s t).1 := ⟨_, rfl⟩
  obtain ⟨E, hE⟩ : ∃ E, E = (rpath net s t).2 := ⟨_, rfl⟩
  have H1 := Lib.hid (impl_rp _ net s t w1 hI HZ.out hsl htl)
  rw [← hP, ← hE] at H1
  have HP := Lib.hid hP
  have HE := Lib.hid hE
  have t2 : (E != E) = false := by simp
  have t3 : (E == E) = true := by simp
  clear hI hS hb hP hE Hdr
  go_wp2_with fail
  refine H1.out.mono ?_
  rintro e w2 ⟨u, rfl, hu, hb2⟩
  have H2 := Lib.hid (spec_rp _ net s t w2 (HI.out.below hb2) HZ.out hsl htl)
  rw [← HP.out, ← HE.out] at H2
  have Hb2 := Lib.hid hb2
  have HU := Lib.hid hu.in_
  clear H1 hb2 hu
  go_wp2_with fail
  refine H2.out.mono ?_
  rintro e w3 ⟨z, rfl, hz, hb3⟩
  replace Hb2 := Lib.hid (below_trans' Hb2.out hb3)
  replace HU : Hid (IS w3 u P) := Lib.hid (HU.out.below hb3)
  have HZ2 := Lib.hid hz.in_
  have H3 := Lib.hid (same_texts u z P P rfl w3 HU.out hz.in_)
  clear H2 hb3 hz
  go_wp2_with fail
  refine H3.out.mono ?_
  rintro e w4 ⟨rfl, hb4⟩
  replace Hb2 := Lib.hid (below_trans' Hb2.out hb4)
  replace HU : Hid (IS w4 u P) := Lib.hid (HU.out.below hb4)
  replace HZ2 : Hid (IS w4 z P) := Lib.hid (HZ2.out.below hb4)
  clear H3 hb4
  by_cases hE3 : E = 3
  · subst hE3
    have H4 := Lib.hid (same_texts u z P P rfl w4 HU.out HZ2.out)
    go_wp2_with fail
    refine H4.out.mono ?_
    rintro e w5 ⟨rfl, hb5⟩
    go_wp2_with fail
    go_ret
    exact ⟨rfl, below_trans' Hb.out (below_trans' Hb2.out hb5)⟩
  · have e3 : (E == 3) = false := by simp [hE3]
    have hne : (rpath net s t).2 ≠ 3 := by rw [← HE.out]; exact hE3
    have hends := rpath_ends hne
    have HRA : Hid (∀ k q, P[k]? = some q → RouteAt net s t k q) := Lib.hid fun k q h => route_at hne (by rw [← HP.out]; exact h)
    rw [← HP.out, ← HE.out] at hends
    have hP1 : 1 ≤ P.length := hends.2.1
    have hPn : P.length ≤ net.length + 1 := hends.2.2.1
    have HP0 := Lib.hid hends.2.2.2.2
    have HE012 := Lib.hid hends.1
    obtain ⟨UA, uc, hUe, hUr, hU1, hU2⟩ := HU.out
    subst hUe
    unfold maxLen at hU2
    have HUr := Lib.hid hUr
    clear hends hne hUr HZ2 hE3
    go_wp2_with fail
    go_loopw [10] (fun i wr => ∃ k : Nat, k ≤ P.length ∧ i = .int .i64 k ∧ Hid (Below w4.heap.size w4 wr)) (fun i _ => P.length - (intOf i).toNat)
    case atStart => exact ⟨0, Nat.zero_le _, rfl, Lib.hid (Below.refl _ _)⟩
    case round =>
      obtain ⟨k, hk, rfl, Hb6⟩ := hrel
      by_cases hlt : k < P.length
      · obtain ⟨pa, q, hUA, hq, hcq⟩ := (HUr.out.below Hb6.out).str hlt
        subst hUA
        have Hq := Lib.hid hq
        have Hcq : Hid (∀ W, Below w4.heap.size w4 W → W.cell? (pa.add k) = some (.string q)) := Lib.hid fun W hW => by
          obtain ⟨pa2, q2, e, h1, h2⟩ := (HUr.out.below hW).str hlt
          injection e with e
          subst e
          rw [Hq.out] at h1
          injection h1 with h1
          subst h1; exact h2
        have HR := Lib.hid (HRA.out k q hq)
        clear hq
        go_wp2_with fail
        go_loopw [11, 12] (fun n i wr => ∃ j : Nat, j ≤ net.length ∧ i = .int .i64 j ∧ n = .string (nextAt (net.take j) t q) ∧ Hid (Below w4.heap.size w4 wr)) (fun _ i _ => net.length - (intOf i).toNat)
        case atStart => exact ⟨0, Nat.zero_le _, rfl, rfl, Hb6⟩
        case round =>
          obtain ⟨j, hj, rfl, rfl, Hb7⟩ := hrel
          by_cases hjl : j < net.length
          · obtain ⟨oa, o, ov, hoa, ho, hco, hcv, hrt⟩ := ((HI.out.below Hb2.out).below Hb7.out).at_ hjl
            subst hoa
            have hcq2 := Hcq.out wr Hb7.out
            have Hsn := Lib.hid (nextAt_snoc (c := t) (t := q) ho)
            have hoz := (HZ.out o (List.mem_of_getElem? ho)).2
            clear ho
            by_cases he : o.1 = q
            · have e1 := str_same he
              have He := Lib.hid he
              have hrt' := fun n => hrt.below (below_of_drewN wr n)
              obtain ⟨RA, rc, rfl, _, _, _⟩ := hrt
              have HN : Hid (∀ n : Nat, Calls Try.prog 23 #[.slice RA o.2.length rc, .string t] (wr.drewN n) fun e w' => e = .returned (.string (orE (lookO o.2 t))) ∧ Below (wr.drewN n).heap.size (wr.drewN n) w') := Lib.hid fun n => soNext_any _ o.2 t _ (hrt' n) hoz htl
              clear he hrt' hoz
              go_wp2_with fail
              go_quiet (fail)
              go_wp2_with fail
              refine (HN.out _).mono ?_
              rintro e w8 ⟨rfl, hb8⟩
              have Hb8 := Lib.hid (below_trans' (below_drewN Hb7.out _) hb8)
              clear hb8
              go_wp2_with fail
              go_roundw
              case rel => exact ⟨j + 1, by omega, by go_num, by rw [Hsn.out, if_pos He.out], Hb8⟩
              case measure => simp [intOf]; omega
            · have e1 := str_diff he
              have He := Lib.hid he
              clear he hoz hrt
              go_wp2_with fail
              go_quiet (fail)
              go_wp2_with fail
              go_roundw
              case rel => exact ⟨j + 1, by omega, by go_num, by rw [Hsn.out, if_neg He.out], Lib.hid (below_drewN Hb7.out _)⟩
              case measure => simp [intOf]; omega
          · have hj' : j = net.length := by omega
            subst hj'
            obtain ⟨n, hn⟩ : ∃ n, n = nextAt net t q := ⟨_, rfl⟩
            have htn : nextAt (net.take net.length) t q = n := by rw [List.take_length, hn]
            rw [htn]
            have Hn := Lib.hid hn
            clear hn htn
            have hcq2 := Hcq.out wr Hb7.out
            have Hbq := Hb7
            obtain ⟨H, hH⟩ : ∃ H, H = hasB (P.take k) q := ⟨_, rfl⟩
            have HHas : Hid (∀ W, Below w4.heap.size w4 W → Calls Try.prog 40 #[.slice (some pa) k uc, .string q] W fun e w' => e = .returned (.bool H) ∧ w' = W) := Lib.hid fun W hW => by
              rw [hH]
              have hrd := (HUr.out.below hW).take k
              rw [show (strs P).take k = strs (P.take k) from by simp [strs, List.map_take]] at hrd
              have := soHas_any (.slice (some pa) k uc) (P.take k) q W ⟨some pa, uc, by rw [List.length_take]; congr 1; omega, hrd, by rw [List.length_take]; omega, by unfold maxLen; omega⟩
              exact this
            have HH := Lib.hid hH
            clear hH
            have hkc : (k : Int) ≤ (uc : Int) := by omega
            by_cases hlast : k + 1 = P.length
            · have el : ((k : Int) == (P.length : Int) - 1) = true := by simp only [beq_iff_eq]; omega
              have hlast' : k + 1 = (rpath net s t).1.length := by rw [← HP.out]; exact hlast
              rcases HE012.out with hE | hE | hE
              · obtain ⟨g1, g2⟩ := HR.out.home hlast' (by rw [← HE.out]; exact hE)
                have hHf : H = false := by rw [HH.out]; exact hasB_false (by rw [HP.out]; exact g2)
                have hnh : n = ⟨#[104, 101, 114, 101]⟩ := Hn.out.trans g1
                have tH : ((⟨#[104, 101, 114, 101]⟩ : ByteArray).toList == (⟨#[104, 101, 114, 101]⟩ : ByteArray).toList) = true := str_same rfl
                clear HE HE012 Hn HH g1 g2 hlast' HR
                subst hHf hE hnh
                go_wp2_with fail
                go_quiet ((go_at_call 40; exact Calls.quiet_of_same (HHas.out _ (below_drewN Hbq.out _))))
                go_wp2_with fail
                go_roundw
                case rel => exact ⟨k + 1, by omega, by go_num, Lib.hid (below_drewN Hbq.out _)⟩
                case measure => simp [intOf]; omega
              · obtain ⟨g1, g2⟩ := HR.out.lost hlast' (by rw [← HE.out]; exact hE)
                have hHf : H = false := by rw [HH.out]; exact hasB_false (by rw [HP.out]; exact g2)
                have hnh : n = ⟨#[]⟩ := Hn.out.trans g1
                clear HE HE012 Hn HH g1 g2 hlast' HR
                subst hHf hE hnh
                go_wp2_with fail
                go_quiet ((go_at_call 40; exact Calls.quiet_of_same (HHas.out _ (below_drewN Hbq.out _))))
                go_wp2_with fail
                go_roundw
                case rel => exact ⟨k + 1, by omega, by go_num, Lib.hid (below_drewN Hbq.out _)⟩
                case measure => simp [intOf]; omega
              · have g2 := HR.out.loop hlast' (by rw [← HE.out]; exact hE)
                have hHf : H = true := by rw [HH.out]; exact hasB_true (by rw [HP.out]; exact g2)
                clear HE HE012 Hn HH g2 hlast' HR
                subst hHf hE
                go_wp2_with fail
                go_quiet ((go_at_call 40; exact Calls.quiet_of_same (HHas.out _ (below_drewN Hbq.out _))))
                go_wp2_with fail
                go_roundw
                case rel => exact ⟨k + 1, by omega, by go_num, Lib.hid (below_drewN Hbq.out _)⟩
                case measure => simp [intOf]; omega
            · have el : ((k : Int) == (P.length : Int) - 1) = false := by simp only [beq_eq_false_iff_ne]; omega
              have hk1 : k + 1 < P.length := by omega
              obtain ⟨pb, q1, hUB, hq1, hcq1⟩ := (HUr.out.below Hb7.out).str hk1
              injection hUB with hUB
              subst hUB
              rw [show pa.add (k + 1) = ⟨pa.block, pa.off + (k + 1), none⟩ from by simp [Addr.add]] at hcq1
              have hq1' : (rpath net s t).1[k + 1]? = some q1 := by rw [← HP.out]; exact hq1
              obtain ⟨g1, g2⟩ := HR.out.go q1 hq1'
              have hHf : H = false := by rw [HH.out]; exact hasB_false (by rw [HP.out]; exact g2)
              have tn : (n.toList == q1.toList) = true := str_same (Hn.out.trans g1)
              have hk1i : (k : Int) + 1 < (P.length : Int) := by omega
              clear HE012 Hn HH g1 g2 HR hq1 hq1'
              subst hHf
              go_wp2_with fail
              go_quiet ((go_at_call 40; exact Calls.quiet_of_same (HHas.out _ (below_drewN Hbq.out _))))
              go_wp2_with fail
              go_roundw
              case rel => exact ⟨k + 1, by omega, by go_num, Lib.hid (below_drewN Hbq.out _)⟩
              case measure => simp [intOf]; omega
      · have hk' : k = P.length := by omega
        subst hk'
        obtain ⟨pa, q, hUA, hq, hcq⟩ := (HUr.out.below Hb6.out).str (k := 0) (by omega)
        subst hUA
        have hqs : q = s := by have := HP0.out; rw [hq] at this; injection this
        subst hqs
        have tq : (q.toList == q.toList) = true := str_same rfl
        have hle : (P.length : Int) ≤ (net.length : Int) + 1 := by omega
        clear hq
        rw [show pa.add 0 = pa from by simp [Addr.add]] at hcq
        go_wp2_with fail
        go_ret
        exact ⟨rfl, below_trans' Hb.out (below_trans' Hb2.out Hb6.out)⟩

end Go.Proofs.Ytkfbgoahppfelaa
