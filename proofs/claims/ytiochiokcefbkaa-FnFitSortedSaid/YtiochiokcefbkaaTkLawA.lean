/- The walk of the law on loads. -/
import Derived.Test.YtiochiokcefbkaaTkDraw3
import Derived.Test.YtiochiokcefbkaaTkLoadMath
import Derived.Test.YtiochiokcefbkaaTk3
import Derived.Test.YtiochiokcefbkaaTk2
namespace Go.Proofs.Ytiochiokcefbkaa
open Go.RowKit
set_option linter.unusedVariables false

set_option maxHeartbeats 400000 in
theorem soInts_any (A B : Option Addr) (c d : Nat) (xs ys : List Int) (w : World) (h : Rd w A (ints xs)) (hy : Rd w B (ints ys)) (hn : xs.length ≤ maxLen) (hm : ys.length ≤ maxLen) :
    Calls Try.prog 35 #[.slice A xs.length c, .slice B ys.length d] w fun e w' => e = .returned (.bool (decide (xs = ys))) ∧ ∃ n, w' = w.drewN n := by
  unfold maxLen at hn hm
  by_cases hl : xs.length = ys.length
  · have Hl := Lib.hid hl
    have hl1 : ((xs.length : Int) != (ys.length : Int)) = false := by simp [hl]
    clear hl
    go_enter Try.func35, Try.ntmps35
    go_wp2_with fail
    go_loopw [5] (fun i wr => ∃ k : Nat, k ≤ xs.length ∧ i = .int .i64 k ∧ (∃ n, wr = w.drewN n) ∧ Hid (xs.take k = ys.take k)) (fun i _ => xs.length - (intOf i).toNat)
    case atStart => exact ⟨0, Nat.zero_le _, rfl, ⟨0, rfl⟩, Lib.hid rfl⟩
    case round =>
      obtain ⟨k, hk, rfl, ⟨n, rfl⟩, heq⟩ := hrel
      by_cases hlt : k < xs.length
      · obtain ⟨ad, x, rfl, hx, hc⟩ := h.int hlt
        have hlt2 : k < ys.length := by have := Hl.out; omega
        obtain ⟨ad2, y, rfl, hy', hc2⟩ := hy.int hlt2
        have Hx := Lib.hid hx
        have Hy := Lib.hid hy'
        clear hx hy'
        by_cases hxy : x = y
        · subst hxy
          go_wp2_with fail
          go_quiet (fail)
          go_wp2_with fail
          go_roundw
          case rel => exact ⟨k + 1, by omega, by go_num, ⟨_, rfl⟩, Lib.hid (by rw [take_snoc Hx.out, take_snoc Hy.out, heq.out])⟩
          case measure => simp [intOf]; omega
        · have hxy' : (x != y) = true := by simp [hxy]
          go_wp2_with fail
          go_quiet (fail)
          go_wp2_with fail
          go_ret
          exact ⟨ret_bool (by
            rw [decide_eq_false]
            rintro rfl
            have := Hx.out.symm.trans Hy.out
            injection this with this
            exact hxy this), drew_ex _ _ _⟩
      · have hk' : k = xs.length := by omega
        subst hk'
        go_wp2_with fail
        go_ret
        exact ⟨ret_bool (by
          have h1 := heq.out
          rw [List.take_length, Hl.out, List.take_length] at h1
          exact (decide_eq_true h1).symm), _, rfl⟩
  · have hl1 : ((xs.length : Int) != (ys.length : Int)) = true := by simp; omega
    go_enter Try.func35, Try.ntmps35
    go_wp2_with fail
    go_ret
    exact ⟨ret_bool (by rw [decide_eq_false]; rintro rfl; exact hl rfl), 0, rfl⟩

theorem soOwn (v u : Value) (B D : Nat) (xs : List Int) (w : World) (h : OwnI w B v xs) (hu : OwnI w D u xs) :
    Calls Try.prog 35 #[v, u] w fun e w' => e = .returned (.bool true) ∧ ∃ n, w' = w.drewN n := by
  obtain ⟨A, c, rfl, h, h2⟩ := h.rd
  obtain ⟨A', c', rfl, h', h2'⟩ := hu.rd
  refine (soInts_any A A' c c' xs xs w h h' h2 h2').mono ?_
  rintro e w' ⟨rfl, h3⟩
  exact ⟨by simp, h3⟩

theorem tl_good {ws gs : List Int} (hw : wv ws 1000 = true) (hg : gv gs = true) (hl : ws.length = gs.length) : ∃ n : Nat, tc gs = (n : Int) ∧ n ≤ 8 ∧ (∀ x ∈ gs, 0 ≤ x ∧ x < (n : Int)) ∧ (tl ws gs).length = n ∧ (∀ t : Nat, t < n → (tl ws gs)[t]? = some (tk gs ws t)) ∧ loadSum gs ws n = ws.sum ∧ (n = 0 ∨ 1 ≤ tk gs ws ((n : Int) - 1)) := by
  obtain ⟨n, h8, h1, h2, h3⟩ := tc_nat hg
  refine ⟨n, h1, h8, h3, ?_, ?_, loadSum_all gs ws n hl.symm h3, ?_⟩
  · rw [tl_yes hw hg hl, lds_length, h2]
  · intro t ht
    rw [tl_yes hw hg hl, ← h2]
    exact lds_at (fun x hx => (h3 x hx).1) ht
  · rcases top_mem gs (fun x hx => (h3 x hx).1) with h | h
    · exact .inl (by omega)
    · by_cases h0 : n = 0
      · exact .inl h0
      · refine .inr (tk_pos hl.symm (fun x hx => ((wv_parts hw).1 x hx).1) ?_)
        have : (n : Int) - 1 = top gs - 1 := by rw [tc_yes hg] at h1; omega
        rw [this]; exact h

set_option maxHeartbeats 1600000 in
theorem law_FnLoads (A : Option Addr) (c : Nat) (bs : List Int) (w : World) (h0 : Coded0 w A bs c) :
    Calls Try.prog 11 #[.slice A bs.length c] w fun e w' => e = .returned (.bool true) ∧ Below w.heap.size w w' := by
  by_cases hbig : 1048576 < bs.length
  · go_enter Try.func11, Try.ntmps11
    go_wp2_with fail
    go_ret
    exact ⟨rfl, Below.refl _ _⟩
  have hdr := draw_tl A c bs w (h0.coded hbig)
  have Hdr := Lib.hid hdr
  clear hdr h0
  go_enter Try.func11, Try.ntmps11
  go_wp2_with fail
  refine Hdr.out.mono ?_
  rintro e w1 ⟨D, d, ws, G, g, gs, rfl, hD, hG, hwd, hwl, hgl, hb1⟩
  have hwm : ws.length ≤ maxLen := by unfold maxLen; omega
  have hgm : gs.length ≤ maxLen := by unfold maxLen; omega
  clear Hdr
  have h2 := impl_tl D G d g ws gs w1 hD hG hwm hgm
  have HD := Lib.hid hD
  have HG := Lib.hid hG
  have Hb1 := Lib.hid hb1
  clear hD hG hb1
  go_wp2_with fail
  refine h2.mono ?_
  rintro e w2 ⟨v2, rfl, ho2, hb2⟩
  have h3 := impl_tc G g gs w2 (HG.out.below hb2) hgm
  have Ho2 := Lib.hid ho2
  have Hb2 := Lib.hid (below_trans' Hb1.out hb2)
  have HD2 := Lib.hid (HD.out.below hb2)
  have HG2 := Lib.hid (HG.out.below hb2)
  clear h2 ho2 hb2 HD HG Hb1
  go_wp2_with fail
  refine h3.mono ?_
  rintro e w2' ⟨rfl, rfl⟩
  have h4 := spec_tl D G d g ws gs _ HD2.out HG2.out hwm hgm
  clear h3
  go_wp2_with fail
  refine h4.mono ?_
  rintro e w3 ⟨v3, rfl, ho3, hb3⟩
  have Ho3 := Lib.hid ho3
  have Hb3 := Lib.hid (below_trans' Hb2.out hb3)
  have HD3 := Lib.hid (HD2.out.below hb3)
  have HG3 := Lib.hid (HG2.out.below hb3)
  have Ho23 := Lib.hid (Ho2.out.below hb3)
  clear h4 ho3 hb3 Ho2 HD2 HG2 Hb2
  go_wp2_with fail
  refine (soOwn v2 v3 _ _ _ _ Ho23.out Ho3.out).mono ?_
  rintro e w' ⟨rfl, n, rfl⟩
  have hbn := below_of_drewN w3 n
  have HD4 := Lib.hid (HD3.out.below hbn)
  have HG4 := Lib.hid (HG3.out.below hbn)
  have Ho4 := Lib.hid (Ho23.out.below hbn)
  have Hb4 := Lib.hid (below_drewN Hb3.out n)
  clear hbn HD3 HG3 Ho23 Hb3 Ho3
  generalize w3.drewN n = w4 at *
  have h5 := spec_tc G g gs w4 HG4.out hgm
  have h6 := impl_wv D d ws 1000 _ HD4.out hwm
  have ht0 : (tc gs != tc gs) = false := by simp
  have ht1 : (tc gs == tc gs) = true := by simp
  cases hwv : wv ws 1000 with
  | false =>
    have Hwv := Lib.hid hwv
    rw [hwv] at h6
    clear hwv
    go_wp2_with fail
    refine h5.mono ?_
    rintro e w4' ⟨rfl, rfl⟩
    go_wp2_with fail
    refine h6.mono ?_
    rintro e w4' ⟨rfl, rfl⟩
    go_wp2_with fail
    refine (spec_tl D G d g ws gs _ HD4.out HG4.out hwm hgm).mono ?_
    rintro e w5 ⟨v5, rfl, ho5, hb5⟩
    have HG5 := Lib.hid (HG4.out.below hb5)
    have Hb5 := Lib.hid (below_trans' Hb4.out hb5)
    have hso := soOwn v2 v5 _ _ _ _ (Ho4.out.below hb5) ho5
    clear ho5 hb5
    go_wp2_with fail
    refine hso.mono ?_
    rintro e w' ⟨rfl, n5, rfl⟩
    have h7 := spec_tc G g gs _ (HG5.out.below (below_of_drewN w5 n5)) hgm
    have Hb6 := Lib.hid (below_drewN Hb5.out n5)
    clear hso
    go_wp2_with fail
    refine h7.mono ?_
    rintro e w6 ⟨rfl, rfl⟩
    go_wp2_with fail
    go_ret
    exact ⟨rfl, Hb6.out⟩
  | true =>
    rw [hwv] at h6
    go_wp2_with fail
    refine h5.mono ?_
    rintro e w4' ⟨rfl, rfl⟩
    go_wp2_with fail
    refine h6.mono ?_
    rintro e w4' ⟨rfl, rfl⟩
    cases hgv : gv gs with
    | false =>
      have htn : tc gs < 0 := by rw [tc_no hgv]; omega
      have Hwv := Lib.hid hwv
      have Hgv := Lib.hid hgv
      clear hwv hgv
      go_wp2_with fail
      refine (spec_tl D G d g ws gs _ HD4.out HG4.out hwm hgm).mono ?_
      rintro e w5 ⟨v5, rfl, ho5, hb5⟩
      have HG5 := Lib.hid (HG4.out.below hb5)
      have Hb5 := Lib.hid (below_trans' Hb4.out hb5)
      have hso := soOwn v2 v5 _ _ _ _ (Ho4.out.below hb5) ho5
      clear ho5 hb5
      go_wp2_with fail
      refine hso.mono ?_
      rintro e w' ⟨rfl, n5, rfl⟩
      have h7 := spec_tc G g gs _ (HG5.out.below (below_of_drewN w5 n5)) hgm
      have Hb6 := Lib.hid (below_drewN Hb5.out n5)
      clear hso
      go_wp2_with fail
      refine h7.mono ?_
      rintro e w6 ⟨rfl, rfl⟩
      go_wp2_with fail
      go_ret
      exact ⟨rfl, Hb6.out⟩
    | true =>
      by_cases hl : ws.length = gs.length
      · have hln : ((ws.length : Int) != (gs.length : Int)) = false := by simp [hl]
        obtain ⟨m, htc, hm8, hmem, hlen, hat, hsum, hlast⟩ := tl_good hwv hgv hl
        have hpos := (wv_parts hwv).1
        have htn : ¬ tc gs < 0 := by omega
        have Hw := Lib.hid (And.intro hwv (And.intro hgv hl))
        have Htl := Lib.hid (And.intro hlen (And.intro hat (And.intro hsum hlast)))
        have Hmem := Lib.hid hmem
        have Hpos := Lib.hid hpos
        clear hwv hgv hl hlen hat hsum hlast hmem hpos
        obtain ⟨V, vc, rfl, hV, hVm⟩ := Ho4.out.rdn Htl.out.1
        clear h5 h6
        have HV := Lib.hid hV
        clear hV
        go_wp2_with fail
        go_loop [7, 8] (fun s i => ∃ (k : Nat) (y : Int), k ≤ ws.length ∧ i = .int .i64 k ∧ s = .int .i64 y ∧ 0 ≤ y ∧ y ≤ 1000 * k ∧ Hid (y = (ws.take k).sum)) (fun _ i => ws.length - (intOf i).toNat)
        case atStart => exact ⟨0, 0, Nat.zero_le _, rfl, rfl, by omega, by omega, Lib.hid rfl⟩
        case round =>
          obtain ⟨k, y, hk, rfl, rfl, hy0, hy1, hy⟩ := hrel
          by_cases hlt : k < ws.length
          · obtain ⟨ad, x, rfl, hx, hc⟩ := HD4.out.int hlt
            have hxb := Hpos.out x (List.mem_of_getElem? hx)
            have Hx := Lib.hid hx
            clear hx
            go_wp2_with fail
            go_round
            case rel => exact ⟨k + 1, y + x, by omega, by go_num, rfl, by omega, by omega, Lib.hid (by rw [sum_snoc Hx.out, hy.out])⟩
            case measure => simp [intOf]; omega
          · have hk' : k = ws.length := by omega
            subst hk'
            have hyT : y = ws.sum := by have := hy.out; rwa [List.take_length] at this
            have HyT := Lib.hid hyT
            clear hy hyT
            go_wp2_with fail
            go_loop [7, 9] (fun s i => ∃ (k : Nat) (z : Int), k ≤ m ∧ i = .int .i64 k ∧ s = .int .i64 z ∧ -100000 * (k : Int) ≤ z ∧ z ≤ 100000 ∧ Hid (z = ws.sum - loadSum gs ws k)) (fun _ i => m - (intOf i).toNat)
            case atStart => exact ⟨0, y, Nat.zero_le _, rfl, rfl, by omega, by omega, Lib.hid (by rw [HyT.out]; simp [loadSum])⟩
            case round =>
              obtain ⟨k, z, hk, rfl, rfl, hz0, hz1, hz⟩ := hrel
              by_cases hlt : k < m
              · go_wp2_with fail
                go_loop [10, 11] (fun s i => ∃ (j : Nat) (x : Int), j ≤ ws.length ∧ i = .int .i64 j ∧ s = .int .i64 x ∧ 0 ≤ x ∧ x ≤ 1000 * j ∧ Hid (x = tk (gs.take j) (ws.take j) k)) (fun _ i => ws.length - (intOf i).toNat)
                case atStart => exact ⟨0, 0, Nat.zero_le _, rfl, rfl, by omega, by omega, Lib.hid rfl⟩
                case round =>
                  obtain ⟨j, x, hj, rfl, rfl, hx0, hx1, hx⟩ := hrel
                  by_cases hjl : j < ws.length
                  · obtain ⟨ad, u, rfl, hu, hcu⟩ := HD4.out.int hjl
                    have hjg : j < gs.length := by have := Hw.out.2.2; omega
                    obtain ⟨ad2, t, rfl, ht, hct⟩ := HG4.out.int hjg
                    have hub := Hpos.out u (List.mem_of_getElem? hu)
                    have Hu := Lib.hid (And.intro ht hu)
                    clear hu ht
                    by_cases htk : t = (k : Int)
                    · subst htk
                      go_wp2_with fail
                      go_round
                      case rel => exact ⟨j + 1, x + u, by omega, by go_num, rfl, by omega, by omega, Lib.hid (by rw [tk_snoc _ Hu.out.1 Hu.out.2, hx.out, if_pos rfl])⟩
                      case measure => simp [intOf]; omega
                    · have hz : (t == (k : Int)) = false := by simp [htk]
                      go_wp2_with fail
                      go_round
                      case rel => exact ⟨j + 1, x, by omega, by go_num, rfl, by omega, by omega, Lib.hid (by rw [tk_snoc _ Hu.out.1 Hu.out.2, hx.out, if_neg htk]; simp)⟩
                      case measure => simp [intOf]; omega
                  · have hj' : j = ws.length := by omega
                    subst hj'
                    have hxT : x = tk gs ws k := by have := hx.out; rw [List.take_length, Hw.out.2.2, List.take_length] at this; exact this
                    have hat := Htl.out.2.1 k hlt
                    rw [← hxT] at hat
                    obtain ⟨ad3, x', rfl, hx', hc3⟩ := HV.out.int (k := k) (by have := Htl.out.1; omega)
                    have hxx : x' = x := by rw [hat] at hx'; injection hx' with hx'; exact hx'.symm
                    subst hxx
                    have HxT := Lib.hid hxT
                    clear hx hxT hat hx'
                    go_wp2_with fail
                    go_round
                    case rel => exact ⟨k + 1, z - x', by omega, by go_num, rfl, by omega, by omega, Lib.hid (by rw [loadSum_succ, ← HxT.out, hz.out]; omega)⟩
                    case measure => simp [intOf]; omega
              · have hk' : k = m := by omega
                subst hk'
                have hz' : z = 0 := by have := hz.out; have := Htl.out.2.2.1; omega
                subst hz'
                by_cases hk0 : k = 0
                · subst hk0
                  go_wp2_with fail
                  go_ret
                  exact ⟨rfl, Hb4.out⟩
                · have hlast := Htl.out.2.2.2.resolve_left hk0
                  have hk1 : ((k - 1 : Nat) : Int) = (k : Int) - 1 := by omega
                  have hat := Htl.out.2.1 (k - 1) (by omega)
                  obtain ⟨ad3, x', rfl, hx', hc3⟩ := HV.out.int (k := k - 1) (by have := Htl.out.1; omega)
                  have hxx : x' = tk gs ws ((k : Int) - 1) := by rw [hat, hk1] at hx'; injection hx' with hx'; exact hx'.symm
                  rw [← hxx] at hlast
                  clear hxx hat hx'
                  go_wp2_with fail
                  go_ret
                  exact ⟨ret_bool (by simp; omega), Hb4.out⟩
      · have hln : ((ws.length : Int) != (gs.length : Int)) = true := by simp; omega
        have htn : ¬ tc gs < 0 := by obtain ⟨m, _, h, _⟩ := tc_nat hgv; omega
        have Hwv := Lib.hid hwv
        have Hgv := Lib.hid hgv
        clear hwv hgv hl
        go_wp2_with fail
        refine (spec_tl D G d g ws gs _ HD4.out HG4.out hwm hgm).mono ?_
        rintro e w5 ⟨v5, rfl, ho5, hb5⟩
        have HG5 := Lib.hid (HG4.out.below hb5)
        have Hb5 := Lib.hid (below_trans' Hb4.out hb5)
        have hso := soOwn v2 v5 _ _ _ _ (Ho4.out.below hb5) ho5
        clear ho5 hb5
        go_wp2_with fail
        refine hso.mono ?_
        rintro e w' ⟨rfl, n5, rfl⟩
        have h7 := spec_tc G g gs _ (HG5.out.below (below_of_drewN w5 n5)) hgm
        have Hb6 := Lib.hid (below_drewN Hb5.out n5)
        clear hso
        go_wp2_with fail
        refine h7.mono ?_
        rintro e w6 ⟨rfl, rfl⟩
        go_wp2_with fail
        go_ret
        exact ⟨rfl, Hb6.out⟩

end Go.Proofs.Ytiochiokcefbkaa
