
/- The walks of the laws on added, shrunk and same rules. -/
import Derived.Test.YtkfbgoahppfelaaNtLawB
import Derived.Test.YtkfbgoahppfelaaNt8
import Derived.Deep.RegionHeld3
import Derived.Deep.QuietTactic
import Derived.BigQuiet
namespace Go.Proofs.Ytkfbgoahppfelaa
open Go.RowKit
set_option linter.unusedVariables false

theorem same_rules (v u : Value) (xs ys : List Rul) (e : xs = ys) (w : World) (h : Rt w v xs) (hu : Rt w u ys) :
    Calls Try.prog 20 #[v, u] w fun e w' => e = .returned (.bool true) ∧ Below w.heap.size w w' :=
  (soRules_any v u xs ys w h hu).mono fun _ _ ⟨he, hb⟩ => ⟨by rw [he, decide_eq_true e], hb⟩
theorem rv_smt {xs : List Rul} (h : rv xs = true) : SmT 100 xs := fun x hx => by have := rv_sizes h x hx; omega
theorem rv_len {xs : List Rul} (h : rv xs = true) : xs.length ≤ 21 := by have := (rv_parts h).len; omega
structure AddFacts (xs R : List Rul) (p n : ByteArray) : Prop where
  v1 : rv xs = true
  v2 : rv R = true
  again : addL R p n = R
  ok : addB R p n = true
  look : ∀ s, begins s p = false → lookO R s = lookO xs s
  len : R.length = xs.length ∨ R.length = xs.length + 1
theorem add_facts {xs : List Rul} {p n : ByteArray} (h : addB xs p n = true) : AddFacts xs (addL xs p n) p n := by
  cases h1 : rv xs with
  | false => rw [(addR_no1 h1).2] at h; cases h
  | true =>
    cases h2 : rv (putR xs p n) with
    | false => rw [(addR_no2 h2).2] at h; cases h
    | true =>
      rw [(addR_yes h1 h2).1]
      have e := putR_again xs p n
      obtain ⟨g1, g2⟩ := addR_yes (rs := putR xs p n) (p := p) (n := n) h2 (by rw [e]; exact h2)
      exact ⟨h1, h2, by rw [g1, e], g2, fun s hs => put_look h1 h2 hs, putR_len xs p n⟩

set_option maxRecDepth 100000 in
set_option maxHeartbeats 3200000 in
theorem law_FnAddRule (A : Option Addr) (c : Nat) (bs : List Int) (w : World) (h0 : Coded0 w A bs c) :
    Calls Try.prog 4 #[.slice A bs.length c] w fun e w' => e = .returned (.bool true) ∧ Below w.heap.size w w' := by
  by_cases hbig : 1048576 < bs.length
  · go_enter Try.func4, Try.ntmps4
    go_wp2_with fail
    go_ret
    exact ⟨rfl, Below.refl _ _⟩
  have Hdr := Lib.hid (draw_add A c bs w (h0.coded hbig))
  clear h0
  go_enter Try.func4, Try.ntmps4
  go_wp2_with fail
  refine Hdr.out.mono ?_
  rintro e w1 ⟨v, xs, p, n, rfl, hD, hp, hn, hb⟩
  have hpl : p.size ≤ maxLen := by unfold maxLen; omega
  have hnl : n.size ≤ maxLen := by unfold maxLen; omega
  have HD := Lib.hid hD
  have Hb := Lib.hid hb
  obtain ⟨C, cp, rfl, _, _, _, _⟩ := own_form hD.own
  have hxl := hD.len
  obtain ⟨R, hR⟩ : ∃ R, R = addL xs p n := ⟨_, rfl⟩
  obtain ⟨B, hB⟩ : ∃ B, B = addB xs p n := ⟨_, rfl⟩
  have H1 := Lib.hid (impl_add _ xs p n w1 hD.rt hD.szr (by omega) hpl hnl)
  rw [← hR, ← hB] at H1
  have HF : Hid (B = true → AddFacts xs R p n) := Lib.hid fun h => by rw [hR]; exact add_facts (hB.symm.trans h)
  have H2 : Hid (∀ W, Below w1.heap.size w1 W → Calls Try.prog 19 #[.slice C xs.length cp, .string p, .string n] W fun e w' => ∃ u, e = .returned (.tuple #[u, .bool B]) ∧ OR w' W.heap.size w'.heap.size u R ∧ Below W.heap.size W w') := Lib.hid fun W hW => by
    rw [hR, hB]; exact spec_add _ xs p n W (hD.rt.below hW) hD.szr (by omega) hpl hnl
  have t2 : (B != B) = false := by simp
  have t3 : (B == B) = true := by simp
  clear hD hb hR hB Hdr
  go_wp2_with fail
  refine H1.out.mono ?_
  rintro e w2 ⟨u, rfl, hu, hb2⟩
  have HU := Lib.hid hu.in_
  replace HD := Lib.hid (HD.out.below hb2)
  replace Hb := Lib.hid (below_trans' Hb.out hb2)
  have H3 := Lib.hid (H2.out w2 hb2)
  obtain ⟨U, uc, rfl, _, _, _, _⟩ := own_form hu.row
  clear H1 H2 hb2 hu
  go_wp2_with fail
  refine H3.out.mono ?_
  rintro e w3 ⟨z, rfl, hz, hb3⟩
  replace HD := Lib.hid (HD.out.below hb3)
  replace HU : Hid (Rt w3 (.slice U R.length uc) R) := Lib.hid (HU.out.below hb3)
  replace Hb := Lib.hid (below_trans' Hb.out hb3)
  have HZ := Lib.hid hz.in_
  have H4 := Lib.hid (same_rules _ z R R rfl w3 HU.out hz.in_)
  clear H3 hb3 hz
  go_wp2_with fail
  refine H4.out.mono ?_
  rintro e w4 ⟨rfl, hb4⟩
  replace HD := Lib.hid (HD.out.below hb4)
  replace HU : Hid (Rt w4 (.slice U R.length uc) R) := Lib.hid (HU.out.below hb4)
  replace HZ : Hid (Rt w4 z R) := Lib.hid (HZ.out.below hb4)
  replace Hb := Lib.hid (below_trans' Hb.out hb4)
  clear H4 hb4
  cases B with
  | false =>
    have H5 := Lib.hid (same_rules _ z R R rfl w4 HU.out HZ.out)
    go_wp2_with fail
    refine H5.out.mono ?_
    rintro e w5 ⟨rfl, hb5⟩
    go_wp2_with fail
    go_ret
    exact ⟨rfl, below_trans' Hb.out hb5⟩
  | true =>
    have hF := HF.out rfl
    have hRl := rv_len hF.v2
    have H5 := Lib.hid (probes_any _ R w4 HU.out hRl (rv_smt hF.v2))
    have HFF := Lib.hid hF
    clear hF HF HZ
    go_wp2_with fail
    refine H5.out.mono ?_
    rintro e w5 ⟨l, ls, rfl, hl, hll, hls, hb5⟩
    replace HD := Lib.hid (HD.out.below hb5)
    replace HU : Hid (Rt w5 (.slice U R.length uc) R) := Lib.hid (HU.out.below hb5)
    replace Hb := Lib.hid (below_trans' Hb.out hb5)
    have HL : Hid (IS w5 l ls) := Lib.hid hl.in_
    have Hls := Lib.hid hls
    obtain ⟨LA, lc, rfl, _, _, _, _⟩ := own_form hl.row
    clear H5 hb5 hl hls
    go_wp2_with fail
    go_loopw [11] (fun i wr => ∃ k : Nat, k ≤ ls.length ∧ i = .int .i64 k ∧ Hid (Below w5.heap.size w5 wr)) (fun i _ => ls.length - (intOf i).toNat)
    case atStart => exact ⟨0, Nat.zero_le _, rfl, Lib.hid (Below.refl _ _)⟩
    case round =>
      obtain ⟨k, hk, rfl, Hb6⟩ := hrel
      by_cases hlt : k < ls.length
      · obtain ⟨A0, c0, e0, hA, _, _⟩ := HL.out.below Hb6.out
        injection e0 with e1 e2 e3
        subst e1 e3
        obtain ⟨ad, t, rfl, ht, hcA⟩ := hA.str hlt
        have htl : t.size ≤ maxLen := by have := Hls.out t (List.mem_of_getElem? ht); unfold maxLen; omega
        clear ht hA
        cases hbg : begins t p with
        | true =>
          have HBG : Hid (∀ W, Calls Try.prog 22 #[.string t, .string p] W fun e w' => e = .returned (.bool true) ∧ w' = W) := Lib.hid fun W => (soBegins_any t p W htl hpl).mono fun e w' ⟨he, hw⟩ => ⟨by rw [he, hbg], hw.symm⟩
          clear hbg
          go_wp2_with fail
          go_quiet ((go_at_call 22; exact Calls.quiet_of_same (HBG.out _)))
          go_wp2_with fail
          go_roundw
          case rel => exact ⟨k + 1, by omega, by go_num, Lib.hid (below_drewN Hb6.out _)⟩
          case measure => simp [intOf]; omega
        | false =>
          have HBG : Hid (∀ W, Calls Try.prog 22 #[.string t, .string p] W fun e w' => e = .returned (.bool false) ∧ W = w') := Lib.hid fun W => by have := soBegins_any t p W htl hpl; rw [hbg] at this; exact this
          have hlk := HFF.out.look t hbg
          obtain ⟨N, hN⟩ : ∃ N, N = orE (lookO xs t) := ⟨_, rfl⟩
          have HN1 : Hid (∀ W, Below wr.heap.size wr W → Calls Try.prog 23 #[.slice U R.length uc, .string t] W fun e w' => e = .returned (.string N) ∧ Below W.heap.size W w') := Lib.hid fun W hW => by
            rw [hN, ← hlk]; exact soNext_any _ R t W ((HU.out.below Hb6.out).below hW) (rv_szr HFF.out.v2) htl
          have HN2 : Hid (∀ W, Below wr.heap.size wr W → Calls Try.prog 23 #[.slice C xs.length cp, .string t] W fun e w' => e = .returned (.string N) ∧ Below W.heap.size W w') := Lib.hid fun W hW => by
            rw [hN]; exact soNext_any _ xs t W ((HD.out.rt.below Hb6.out).below hW) HD.out.szr htl
          have tN : (N.toList == N.toList) = true := str_same rfl
          clear hbg hlk hN
          go_wp2_with fail
          go_region_held3 (fun w' => Below wr.heap.size wr w' ∧ w'.cell? (ad.add k) = some (.string t)) (first | (refine ⟨(Below.refl _ _).drew, ?_⟩ <;> assumption) | (refine ⟨?_, ?_⟩ <;> assumption) | go_keep) (first | (go_at_call 22; refine (HBG.out _).mono ?_; rintro e w7 ⟨rfl, rfl⟩) | (go_at_call_of 23 (Value.slice U R.length uc); refine (HN1.out _ ?_).mono ?_; (first | exact Below.refl _ _ | exact (Below.refl _ _).drew | assumption | exact Below.drew (by assumption)); rintro e w8 ⟨rfl, hb8⟩; have hcA8 : w8.cell? (ad.add k) = some (.string t) := cell_later hb8 (by first | assumption | exact hcA); have hb8' : Below wr.heap.size wr w8 := below_trans' (by first | exact Below.refl _ _ | exact (Below.refl _ _).drew | assumption) hb8) | (go_at_call_of 23 (Value.slice C xs.length cp); refine (HN2.out _ ?_).mono ?_; (first | exact Below.refl _ _ | exact (Below.refl _ _).drew | assumption | exact Below.drew (by assumption)); rintro e w9 ⟨rfl, hb9⟩; have hcA9 : w9.cell? (ad.add k) = some (.string t) := cell_later hb9 (by first | assumption | exact hcA); have hb9' : Below wr.heap.size wr w9 := below_trans' (by first | exact Below.refl _ _ | exact (Below.refl _ _).drew | assumption) hb9))
          all_goals
            go_wp2_with fail
            go_roundw
            case rel => exact ⟨k + 1, by omega, by go_num, Lib.hid (below_trans' Hb6.out hb9')⟩
            case measure => simp [intOf]; omega
      · have hk' : k = ls.length := by omega
        subst hk'
        have H7 := Lib.hid (impl_add _ R p n wr (HU.out.below Hb6.out) (rv_szr HFF.out.v2) (by omega) hpl hnl)
        rw [HFF.out.again, HFF.out.ok] at H7
        go_wp2_with fail
        refine H7.out.mono ?_
        rintro e w7 ⟨z, rfl, hz, hb7⟩
        have hb7' := below_trans' Hb6.out hb7
        have H8 := Lib.hid (same_rules z _ R R rfl w7 hz.in_ (HU.out.below hb7'))
        have Hb7 := Lib.hid hb7'
        clear H7 hz hb7 hb7'
        go_wp2_with fail
        refine H8.out.mono ?_
        rintro e w8 ⟨rfl, hb8⟩
        have Hb8 := Lib.hid (below_trans' Hb7.out hb8)
        have H9 := Lib.hid (impl_rv _ R w8 (HU.out.below Hb8.out) (rv_szr HFF.out.v2))
        rw [HFF.out.v2] at H9
        clear H8 hb8
        rcases HFF.out.len with hlen | hlen
        · have en : (R.length : Int) - (xs.length : Int) = 0 := by omega
          clear hlen
          go_wp2_with fail
          refine H9.out.mono ?_
          rintro e w9 ⟨rfl, hb9⟩
          go_wp2_with fail
          go_ret
          exact ⟨rfl, below_trans' Hb.out (below_trans' Hb8.out hb9)⟩
        · have en : (R.length : Int) - (xs.length : Int) = 1 := by omega
          clear hlen
          go_wp2_with fail
          refine H9.out.mono ?_
          rintro e w9 ⟨rfl, hb9⟩
          go_wp2_with fail
          go_ret
          exact ⟨rfl, below_trans' Hb.out (below_trans' Hb8.out hb9)⟩

end Go.Proofs.Ytkfbgoahppfelaa
