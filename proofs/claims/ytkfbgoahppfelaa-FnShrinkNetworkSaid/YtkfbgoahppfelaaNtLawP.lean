
/- The walks of the laws on homes and on the rest of a path. -/
import Derived.Test.YtkfbgoahppfelaaNtDrawO
import Derived.Test.YtkfbgoahppfelaaNtP5
namespace Go.Proofs.Ytkfbgoahppfelaa
open Go.RowKit
set_option linter.unusedVariables false

set_option maxRecDepth 100000 in
set_option maxHeartbeats 800000 in
theorem same_texts (v u : Value) (xs ys : List ByteArray) (e : xs = ys) (w : World) (h : IS w v xs) (hu : IS w u ys) :
    Calls Try.prog 36 #[v, u] w fun e w' => e = .returned (.bool true) ∧ Below w.heap.size w w' := by
  subst e
  obtain ⟨A, c, rfl, hA, hc1, hc2⟩ := h
  obtain ⟨D, d, rfl, hD, hd1, hd2⟩ := hu
  unfold maxLen at hc2 hd2
  have HA := Lib.hid hA
  have HD := Lib.hid hD
  have hl1 : ((xs.length : Int) != (xs.length : Int)) = false := by simp
  clear hA hD
  go_enter Try.func36, Try.ntmps36
  go_wp2_with fail
  go_loopw [5] (fun i wr => ∃ k : Nat, k ≤ xs.length ∧ i = .int .i64 k ∧ Hid (Below w.heap.size w wr)) (fun i _ => xs.length - (intOf i).toNat)
  case atStart => exact ⟨0, Nat.zero_le _, rfl, Lib.hid (Below.refl _ _)⟩
  case round =>
    obtain ⟨k, hk, rfl, Hb⟩ := hrel
    by_cases hlt : k < xs.length
    · have hx := List.getElem?_eq_getElem hlt
      generalize xs[k] = x at hx
      obtain ⟨ad, rfl, hcA⟩ := (HA.out.below Hb.out) k _ (strs_get hx)
      obtain ⟨ad2, rfl, hcB⟩ := (HD.out.below Hb.out) k _ (strs_get hx)
      have e1 := str_same (rfl : x = x)
      clear hx
      go_wp2_with fail
      go_quiet (fail)
      go_wp2_with fail
      go_roundw
      case rel => exact ⟨k + 1, by omega, by go_num, Lib.hid (below_drewN Hb.out _)⟩
      case measure => simp [intOf]; omega
    · have hk' : k = xs.length := by omega
      subst hk'
      go_wp2_with fail
      go_ret
      exact ⟨rfl, Hb.out⟩

theorem draw_home (A : Option Addr) (c : Nat) (bs : List Int) (w : World) (h : Coded w A bs c) :
    Calls Try.prog 37 #[.slice A bs.length c] w fun e w' => ∃ (v : Value) (net : List Off) (s t : ByteArray), e = .returned (.tuple #[v, .string s, .string t]) ∧ InO w' v net ∧ SmN net ∧ net.length ≤ 8 ∧ s.size ≤ 100 ∧ t.size ≤ 101 ∧ Below w.heap.size w w' := by
  have HC := Lib.hid (draw_route A c bs w h)
  clear h
  go_enter Try.func37, Try.ntmps37
  go_wp2_with fail
  refine HC.out.mono ?_
  rintro e w1 ⟨v, net, s, t, rfl, h⟩
  go_wp2_with fail
  go_ret3
  exact ⟨_, net, s, t, rfl, h⟩

theorem rpath_name {net : List Off} {s c t : ByteArray} {k : Nat} (hk : (rpath net s c).1[k]? = some t) : ∃ o ∈ net, o.1 = t := by
  by_cases h : (rpath net s c).2 = 3
  · cases hi : offI net s with
    | none => rw [rpath_no_office hi] at hk; simp at hk
    | some i =>
      cases hn : nv net with
      | false => rw [rpath_no_net hn] at hk; simp at hk
      | true =>
        cases hc : codeB c with
        | false => rw [rpath_no_code hc] at hk; simp at hk
        | true =>
          obtain ⟨_, _, _, hl, _⟩ := offI_some hi
          have := path_end (c := c) hl
          rw [rpath_yes hi hn hc] at h
          exfalso
          have h' : (pathN net c i).2 = 3 := h
          omega
  · obtain ⟨i, hi, hn, hc, hl, e⟩ := rpath_is h
    rw [e] at hk
    obtain ⟨a, o, _, ho, ht, _⟩ := rpath_at (s := s) hl hk
    exact ⟨o, List.mem_of_getElem? ho, ht⟩

set_option maxRecDepth 100000 in
set_option maxHeartbeats 1600000 in
theorem law_FnHome (A : Option Addr) (c : Nat) (bs : List Int) (w : World) (h0 : Coded0 w A bs c) :
    Calls Try.prog 9 #[.slice A bs.length c] w fun e w' => e = .returned (.bool true) ∧ Below w.heap.size w w' := by
  by_cases hbig : 1048576 < bs.length
  · go_enter Try.func9, Try.ntmps9
    go_wp2_with fail
    go_ret
    exact ⟨rfl, Below.refl _ _⟩
  have Hdr := Lib.hid (draw_home A c bs w (h0.coded hbig))
  clear h0
  go_enter Try.func9, Try.ntmps9
  go_wp2_with fail
  refine Hdr.out.mono ?_
  rintro e w1 ⟨v, net, s, t, rfl, hI, hS, hl, hs, ht, hb⟩
  have hsl : s.size ≤ maxLen := by unfold maxLen; omega
  have htl : t.size ≤ maxLen := by unfold maxLen; omega
  have HI := Lib.hid hI
  have HZ := Lib.hid hS.szo
  have HS := Lib.hid hS
  have Hb := Lib.hid hb
  obtain ⟨N, hN⟩ : ∃ N, N = orE (homeO net s t) := ⟨_, rfl⟩
  obtain ⟨B, hB⟩ : ∃ B, B = (homeO net s t).isSome := ⟨_, rfl⟩
  have H1 := Lib.hid (impl_home v net s t w1 hI HZ.out hsl htl)
  rw [← hN, ← hB] at H1
  have HN := Lib.hid hN
  have HB := Lib.hid hB
  have t1 : (N.toList == N.toList) = true := str_same rfl
  have t2 : (B != B) = false := by simp
  clear hI hS hb hN hB Hdr
  go_wp2_with fail
  refine H1.out.mono ?_
  rintro e w2 ⟨rfl, hb2⟩
  have H2 := Lib.hid (spec_home v net s t w2 (HI.out.below hb2) HZ.out hsl htl)
  rw [← HN.out, ← HB.out] at H2
  have Hb2 := Lib.hid hb2
  clear H1 hb2
  go_wp2_with fail
  refine H2.out.mono ?_
  rintro e w3 ⟨rfl, hb3⟩
  replace Hb2 := Lib.hid (below_trans' Hb2.out hb3)
  have H3 := Lib.hid (impl_rp v net s t w3 (HI.out.below Hb2.out) HZ.out hsl htl)
  clear H2 hb3
  go_wp2_with fail
  refine H3.out.mono ?_
  rintro e w4 ⟨u, rfl, hu, hb4⟩
  replace Hb2 := Lib.hid (below_trans' Hb2.out hb4)
  have Hu := Lib.hid hu
  clear H3 hb4 hu
  cases B with
  | false =>
    have hno : homeO net s t = none := by
      cases hh : homeO net s t with
      | none => rfl
      | some m => have := HB.out; rw [hh] at this; cases this
    have hne := home_none hno
    have e0 : ((rpath net s t).2 != 0) = true := by simp [hne]
    clear hno hne HB HN
    generalize (rpath net s t).2 = E at *
    go_wp2_with fail
    go_ret
    exact ⟨rfl, below_trans' Hb.out Hb2.out⟩
  | true =>
    obtain ⟨m, hm⟩ : ∃ m, homeO net s t = some m := by
      cases hh : homeO net s t with
      | none => have := HB.out; rw [hh] at this; cases this
      | some m => exact ⟨m, rfl⟩
    obtain ⟨h0, hag, k, hk, hx⟩ := home_again hm
    have hNm : N = m := by rw [HN.out, hm]; rfl
    subst hNm
    obtain ⟨o, hom, ho1⟩ := rpath_name hx
    have hNl : N.size ≤ maxLen := by rw [← ho1]; have := (HS.out o hom).1; unfold maxLen; omega
    have hrow : w4.ownsRow w3.heap.size 9 1 u (rpath net s t).1.length (strs (rpath net s t).1) := Own.row Hu.out
    rw [hk] at hrow
    obtain ⟨A', c', rfl, _, q1, q2⟩ := sl_own hrow
    unfold maxLen at q2
    obtain ⟨g, rfl⟩ := own_some hrow (by omega)
    have hcP : w4.cell? ⟨g, k, none⟩ = some (.string N) := (hrow.cellAt _ (by omega)).trans (strs_get hx)
    have H5 := Lib.hid (impl_home v net N t w4 (HI.out.below Hb2.out) HZ.out hNl htl)
    rw [hag] at H5
    rw [h0]
    have HcP := Lib.hid hcP
    clear hk hx hrow hom ho1 h0 hag hm Hu HB HN hcP
    go_wp2_with fail
    refine H5.out.mono ?_
    rintro e w5 ⟨rfl, hb5⟩
    have hcQ := cell_later hb5 HcP.out
    have e9 : orE (some N) = N := rfl
    have e8 : (some N).isSome = true := rfl
    rw [e9, e8]
    go_wp2_with fail
    go_ret
    exact ⟨rfl, below_trans' Hb.out (below_trans' Hb2.out hb5)⟩

theorem Rd.dropS {w : World} {ad : Addr} {xs : List ByteArray} (h : Rd w (some ad) (strs xs)) (k : Nat) : Rd w (some (ad.add k)) (strs (xs.drop k)) := by
  intro j u hu
  rw [show strs (xs.drop k) = (strs xs).drop k from by simp [strs, List.map_drop], List.getElem?_drop] at hu
  obtain ⟨ad2, e, hc⟩ := h _ _ hu
  injection e with e
  subst e
  refine ⟨_, rfl, ?_⟩
  rw [show ((ad.add k).add j) = ad.add (k + j) from by unfold Addr.add; split <;> split <;> simp_all <;> omega]
  exact hc

set_option maxRecDepth 100000 in
set_option maxHeartbeats 1600000 in
theorem law_FnRouteSuffix (A : Option Addr) (c : Nat) (bs : List Int) (A' : Option Addr) (c' : Nat) (ms : List Int) (w : World) (h0 : Coded0 w A bs c) (hm0 : Coded0 w A' ms c') :
    Calls Try.prog 8 #[.slice A bs.length c, .slice A' ms.length c'] w fun e w' => e = .returned (.bool true) ∧ Below w.heap.size w w' := by
  by_cases hbig : 1048576 < bs.length
  · go_enter Try.func8, Try.ntmps8
    go_wp2_with fail
    go_ret
    exact ⟨rfl, Below.refl _ _⟩
  have Hdr := Lib.hid (draw_route A c bs w (h0.coded hbig))
  clear h0 hm0
  have hbi : ¬ (1048576 : Int) < (bs.length : Int) := by omega
  by_cases hbig2 : 1048576 < ms.length
  · go_enter Try.func8, Try.ntmps8
    go_wp2_with fail
    go_ret
    exact ⟨rfl, Below.refl _ _⟩
  have hbi2 : ¬ (1048576 : Int) < (ms.length : Int) := by omega
  go_enter Try.func8, Try.ntmps8
  go_wp2_with fail
  refine Hdr.out.mono ?_
  rintro e w1 ⟨v, net, s, t, rfl, hI, hS, hl, hs, ht, hb⟩
  have hsl : s.size ≤ maxLen := by unfold maxLen; omega
  have htl : t.size ≤ maxLen := by unfold maxLen; omega
  have HI := Lib.hid hI
  have HZ := Lib.hid hS.szo
  have HS := Lib.hid hS
  have Hb := Lib.hid hb
  obtain ⟨P, hP⟩ : ∃ P, P = (rpath net s t).1 := ⟨_, rfl⟩
  obtain ⟨E, hE⟩ : ∃ E, E = (rpath net s t).2 := ⟨_, rfl⟩
  have H1 := Lib.hid (impl_rp v net s t w1 hI HZ.out hsl htl)
  rw [← hP, ← hE] at H1
  have HP := Lib.hid hP
  have HE := Lib.hid hE
  have t2 : (E != E) = false := by simp
  have t3 : (E == E) = true := by simp
  clear hI hS hb hP hE Hdr
  go_wp2_with fail
  refine H1.out.mono ?_
  rintro e w2 ⟨u, rfl, hu, hb2⟩
  have H2 := Lib.hid (spec_rp v net s t w2 (HI.out.below hb2) HZ.out hsl htl)
  rw [← HP.out, ← HE.out] at H2
  have Hb2 := Lib.hid hb2
  have HU := Lib.hid hu.in_
  clear H1 hb2 hu
  go_wp2_with fail
  refine H2.out.mono ?_
  rintro e w3 ⟨z, rfl, hz, hb3⟩
  replace Hb2 := Lib.hid (below_trans' Hb2.out hb3)
  replace HU : Hid (IS w3 u P) := Lib.hid (HU.out.below hb3)
  have HZ2 := Lib.hid hz.in_
  have H3 := Lib.hid (same_texts u z P P rfl w3 HU.out hz.in_)
  clear H2 hb3 hz
  go_wp2_with fail
  refine H3.out.mono ?_
  rintro e w4 ⟨rfl, hb4⟩
  replace Hb2 := Lib.hid (below_trans' Hb2.out hb4)
  replace HU : Hid (IS w4 u P) := Lib.hid (HU.out.below hb4)
  replace HZ2 : Hid (IS w4 z P) := Lib.hid (HZ2.out.below hb4)
  clear H3 hb4
  by_cases hE3 : E = 3
  · subst hE3
    have H4 := Lib.hid (same_texts u z P P rfl w4 HU.out HZ2.out)
    go_wp2_with fail
    refine H4.out.mono ?_
    rintro e w5 ⟨rfl, hb5⟩
    go_wp2_with fail
    go_ret
    exact ⟨rfl, below_trans' Hb.out (below_trans' Hb2.out hb5)⟩
  · have e3 : (E == 3) = false := by simp [hE3]
    have hne : (rpath net s t).2 ≠ 3 := by rw [← HE.out]; exact hE3
    have hends := rpath_ends hne
    rw [← HP.out] at hends
    have hP1 : 1 ≤ P.length := hends.2.1
    have hP9 : P.length ≤ 9 := by have := hends.2.2.1; omega
    obtain ⟨k, hk⟩ : ∃ k, k = ms.length % P.length := ⟨_, rfl⟩
    have hkl : k < P.length := by rw [hk]; exact Nat.mod_lt _ (by omega)
    have ek : ((ms.length : Int) % (P.length : Int)) = (k : Int) := by rw [hk]; omega
    obtain ⟨q, hq⟩ : ∃ q, P[k]? = some q := ⟨_, List.getElem?_eq_getElem hkl⟩
    have hq' : (rpath net s t).1[k]? = some q := by rw [← HP.out]; exact hq
    obtain ⟨o, hom, ho1⟩ := rpath_name hq'
    have hql : q.size ≤ maxLen := by rw [← ho1]; have := (HS.out o hom).1; unfold maxLen; omega
    obtain ⟨s1, s2⟩ := rpath_suffix hne hq'
    rw [← HE.out] at s1
    have Hs2 : Hid (E ≠ 2 → (rpath net q t).1 = P.drop k) := Lib.hid fun h => by rw [HP.out]; exact s2 (by rw [← HE.out]; exact h)
    have H4 := Lib.hid (impl_rp v net q t w4 (HI.out.below Hb2.out) HZ.out hql htl)
    rw [s1] at H4
    obtain ⟨UA, uc, hUe, hUr, hU1, hU2⟩ := HU.out
    subst hUe
    obtain ⟨ad, q2, hUA, hq2, hcU⟩ := hUr.str hkl
    subst hUA
    have hqq : q2 = q := by rw [hq] at hq2; injection hq2 with hq2; exact hq2.symm
    subst hqq
    have HUr := Lib.hid hUr
    have HUd : Hid (IS w4 (.slice (some (ad.add k)) (P.length - k) (uc - k)) (P.drop k)) := Lib.hid ⟨some (ad.add k), uc - k, by rw [List.length_drop], hUr.dropS k, by rw [List.length_drop]; omega, by omega⟩
    have hP0 : ((P.length : Int) == 0) = false := by simp only [beq_eq_false_iff_ne]; omega
    have huk : ¬ uc = k := by omega
    unfold maxLen at hU2
    clear hk hq hq' hom ho1 hends hne hE3 s1 s2 hUr hq2 HU HZ2 HP
    go_wp2_with fail
    refine H4.out.mono ?_
    rintro e w5 ⟨z2, rfl, hz2, hb5⟩
    by_cases hE2 : E = 2
    · subst hE2
      go_wp2_with fail
      go_ret
      exact ⟨rfl, below_trans' Hb.out (below_trans' Hb2.out hb5)⟩
    · have e2 : (E == 2) = false := by simp [hE2]
      have H6 := Lib.hid (same_texts z2 _ _ _ (Hs2.out hE2) w5 hz2.in_ (HUd.out.below hb5))
      have Hb5 := Lib.hid hb5
      clear hz2 hb5 H4
      go_wp2_with fail
      refine H6.out.mono ?_
      rintro e w6 ⟨rfl, hb6⟩
      go_wp2_with fail
      go_ret
      exact ⟨rfl, below_trans' Hb.out (below_trans' Hb2.out (below_trans' Hb5.out hb6))⟩

end Go.Proofs.Ytkfbgoahppfelaa
