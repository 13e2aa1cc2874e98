/- The walk of the law on the least number of trucks. -/
import Derived.Test.YtiochiokcefbkaaTkDraw3
import Derived.Test.YtiochiokcefbkaaTkFitLaw
import Derived.Test.YtiochiokcefbkaaTk6
namespace Go.Proofs.Ytiochiokcefbkaa
open Go.RowKit
set_option linter.unusedVariables false

theorem drop_cons2 {ws : List Int} {m : Nat} {x : Int} (h : ws[m]? = some x) : ws.drop m = x :: ws.drop (m + 1) := by
  obtain ⟨h1, h2⟩ := List.getElem?_eq_some_iff.1 h
  rw [List.drop_eq_getElem_cons h1, h2]
def lrg (cap : Int) (l : List Int) : Int := (l.map (fun x => if 2 * x > cap then (1 : Int) else 0)).sum
theorem lrg_cons (cap x : Int) (l : List Int) : lrg cap (x :: l) = (if 2 * x > cap then 1 else 0) + lrg cap l := by simp [lrg]
theorem lrg_bd (cap : Int) : ∀ l : List Int, 0 ≤ lrg cap l ∧ lrg cap l ≤ l.length
  | [] => by simp [lrg]
  | x :: l => by have := lrg_bd cap l; rw [lrg_cons, List.length_cons]; split <;> omega
theorem rd_at {w : World} {ad : Addr} {xs : List Int} {k : Nat} {x : Int} (h : Rd w (some ad) (ints xs)) (hx : xs[k]? = some x) : w.cell? (ad.add k) = some (.int .i64 x) := by
  obtain ⟨ad2, e, hc⟩ := h k _ (ints_get hx)
  injection e with e
  subst e
  exact hc
theorem ints_snoc (l : List Int) (x : Int) : ints l ++ [Value.int .i64 x] = ints (l ++ [x]) := by rw [ints_append]; rfl

set_option maxHeartbeats 1600000 in
theorem law_FnLeastTrucks (A : Option Addr) (c : Nat) (bs : List Int) (w : World) (h0 : Coded0 w A bs c) :
    Calls Try.prog 10 #[.slice A bs.length c] w fun e w' => e = .returned (.bool true) ∧ Below w.heap.size w w' := by
  obtain ⟨i0, hi, hz0, hz1, hz2⟩ := info_parts int_info
  by_cases hbig : 1048576 < bs.length
  · go_enter Try.func10, Try.ntmps10
    go_wp2_with fail
    go_ret
    exact ⟨rfl, Below.refl _ _⟩
  have hdr := draw_lt A c bs w (h0.coded hbig)
  have Hdr := Lib.hid hdr
  clear hdr h0
  go_enter Try.func10, Try.ntmps10
  go_wp2_with fail
  refine Hdr.out.mono ?_
  rintro e w1 ⟨D, d, ws, cap, rfl, hD, hwd, hwl, hb1⟩
  have hwm : ws.length ≤ maxLen := by unfold maxLen; omega
  clear Hdr
  have h2 := impl_lt D d ws cap w1 hD hwm hwd
  have HD := Lib.hid hD
  have Hb1 := Lib.hid hb1
  clear hD hb1
  go_wp2_with fail
  refine h2.mono ?_
  rintro e w2 ⟨rfl, hb2⟩
  have h3 := spec_lt D d ws cap w2 (HD.out.below hb2) hwm hwd
  have Hb2 := Lib.hid (below_trans' Hb1.out hb2)
  have HD2 := Lib.hid (HD.out.below hb2)
  clear h2 hb2 HD Hb1
  go_wp2_with fail
  refine h3.mono ?_
  rintro e w3 ⟨rfl, hb3⟩
  have Hb3 := Lib.hid (below_trans' Hb2.out hb3)
  have HD3 := Lib.hid (HD2.out.below hb3)
  clear h3 hb3 HD2 Hb2
  have ht0 : (lt ws cap != lt ws cap) = false := by simp
  have ht1 : (lt ws cap == lt ws cap) = true := by simp
  cases hwv : wv ws cap with
  | false =>
    have htn : lt ws cap < 0 := by simp [lt, hwv]
    clear hwv
    have h4 := spec_lt D d ws cap w3 HD3.out hwm hwd
    go_wp2_with fail
    refine h4.mono ?_
    rintro e w4 ⟨rfl, hb4⟩
    go_wp2_with fail
    go_ret
    exact ⟨rfl, below_trans' Hb3.out hb4⟩
  | true =>
    obtain ⟨hpos, hl8, hc1, hc2⟩ := wv_parts hwv
    obtain ⟨m, hm, hme⟩ : ∃ m : Nat, lt ws cap = (m : Int) ∧ m = leastT ws cap := ⟨_, lt_val hwv, rfl⟩
    obtain ⟨hsum, hlarge, hmn, hrev, htail⟩ := least_law hwv
    rw [← hme] at hsum hlarge hmn hrev htail
    rw [hm] at ht0 ht1
    rw [hm]
    have hmul : (m : Int) * cap ≤ 8000 ∧ 0 ≤ (m : Int) * cap := by
      refine ⟨?_, Int.mul_nonneg (by omega) (by omega)⟩
      have h1 : (m : Int) * cap ≤ 8 * cap := Int.mul_le_mul_of_nonneg_right (by omega) (by omega)
      omega
    have Hfacts := Lib.hid (And.intro hsum (And.intro hlarge (And.intro hrev htail)))
    have Hpos := Lib.hid hpos
    have Hwv := Lib.hid hwv
    have Ho : Hid ((w3.alloc (.cells #[] 3)).ownsRow w3.heap.size 3 1 (.slice (some ⟨w3.heap.size, 0, none⟩) 0 0) 0 (ints [])) := Lib.hid (World.ownsRow_lit w3 #[] 0 (Nat.le_refl _) (Nat.zero_le _) rfl)
    have Hb : Hid (Below w3.heap.size w3 (w3.alloc (.cells #[] 3))) := Lib.hid ((Below.refl _ _).alloc (Nat.le_refl _) _)
    clear hsum hlarge hrev htail hpos hwv hme hm
    go_wp2_with fail
    go_loopw [6, 7, 8, 9] (fun s l v i wr => ∃ (j n : Nat) (y z : Int), j ≤ ws.length ∧ j + n = ws.length ∧ i = .int .i64 ((j : Int) - 1) ∧ s = .int .i64 y ∧ l = .int .i64 z ∧ 0 ≤ y ∧ y ≤ 1000 * n ∧ 0 ≤ z ∧ z ≤ n ∧
      Hid (y = (ws.drop j).sum ∧ z = lrg cap (ws.drop j)) ∧ Hid (Below w3.heap.size w3 wr) ∧ Hid (wr.ownsRow w3.heap.size 3 1 v n (ints (ws.drop j).reverse))) (fun _ _ _ i _ => (intOf i + 1).toNat)
    case atStart => exact ⟨ws.length, 0, 0, 0, Nat.le_refl _, rfl, rfl, rfl, rfl, by omega, by omega, by omega, by omega, Lib.hid ⟨by simp, by simp [lrg]⟩, Hb, Lib.hid (by simpa using Ho.out)⟩
    case round =>
      obtain ⟨j, n, y, z, hj, hjn, rfl, rfl, rfl, hy0, hy1, hz0', hz1', hyz, hbw, hown⟩ := hrel
      clear Ho Hb
      by_cases hj0 : 0 < j
      · obtain ⟨q, rfl⟩ : ∃ q, j = q + 1 := ⟨j - 1, by omega⟩
        have ej : ((q + 1 : Nat) : Int) - 1 = (q : Int) := by omega
        rw [ej]
        obtain ⟨ad, x, rfl, hx, hcc⟩ := (HD3.out.below hbw.out).int (k := q) (by omega)
        have hxb := Hpos.out x (List.mem_of_getElem? hx)
        have Hx := Lib.hid hx
        have hlt := hown.out.lt
        have hs := hbw.out.size
        clear hx ej
        by_cases hlg : 2 * x > cap
        · go_wp2_with (at_builtin; refine wpList_append_own _ rfl _ _ 22 rfl _ 3 i0 _ 1 8 Try.underlying22 hi hz0 hz1 hz2 rfl (by decide) _ _ _ rfl (World.ownsRow.alloc hown.out _) ⟨wr.heap.size, 0, none⟩ 1 1 [.int .i64 x] rfl rfl (cell_new1 _ _ _) (oneCell1 _) (by unfold maxLen; omega) (by omega) (by simp; omega) ?_; intro v' w4 hown4 hg4 _; have hcc4 := rd_at (HD3.out.below ((hbw.out.alloc hs _).grown hg4 (by simp; omega) (fun g e => (hlt g e).1))) Hx.out)
          have hb4 : Hid (Below w3.heap.size w3 w4) := Lib.hid ((hbw.out.alloc hs _).grown hg4 (by simp; omega) (fun g e => (hlt g e).1))
          rw [ints_snoc] at hown4
          have Hown4 := Lib.hid hown4
          clear hown4 hg4 hlt
          go_wp2_with fail
          go_roundw
          case rel => exact ⟨q, n + 1, y + x, z + 1, by omega, by omega, rfl, rfl, rfl, by omega, by omega, by omega, by omega, Lib.hid ⟨by rw [drop_cons2 Hx.out, List.sum_cons, hyz.out.1]; omega, by rw [drop_cons2 Hx.out, lrg_cons, if_pos hlg, hyz.out.2]; omega⟩, hb4, Lib.hid (by rw [drop_cons2 Hx.out, List.reverse_cons]; exact Hown4.out)⟩
          case measure => simp [intOf]
        · go_wp2_with (at_builtin; refine wpList_append_own _ rfl _ _ 22 rfl _ 3 i0 _ 1 8 Try.underlying22 hi hz0 hz1 hz2 rfl (by decide) _ _ _ rfl (World.ownsRow.alloc hown.out _) ⟨wr.heap.size, 0, none⟩ 1 1 [.int .i64 x] rfl rfl (cell_new1 _ _ _) (oneCell1 _) (by unfold maxLen; omega) (by omega) (by simp; omega) ?_; intro v' w4 hown4 hg4 _; have hcc4 := rd_at (HD3.out.below ((hbw.out.alloc hs _).grown hg4 (by simp; omega) (fun g e => (hlt g e).1))) Hx.out)
          have hb4 : Hid (Below w3.heap.size w3 w4) := Lib.hid ((hbw.out.alloc hs _).grown hg4 (by simp; omega) (fun g e => (hlt g e).1))
          rw [ints_snoc] at hown4
          have Hown4 := Lib.hid hown4
          clear hown4 hg4 hlt
          go_wp2_with fail
          go_roundw
          case rel => exact ⟨q, n + 1, y + x, z, by omega, by omega, rfl, rfl, rfl, by omega, by omega, by omega, by omega, Lib.hid ⟨by rw [drop_cons2 Hx.out, List.sum_cons, hyz.out.1]; omega, by rw [drop_cons2 Hx.out, lrg_cons, if_neg hlg, hyz.out.2]; omega⟩, hb4, Lib.hid (by rw [drop_cons2 Hx.out, List.reverse_cons]; exact Hown4.out)⟩
          case measure => simp [intOf]
      · have hj' : j = 0 := by omega
        subst hj'
        have hn : n = ws.length := by omega
        subst hn
        have hyz2 := hyz.out
        have hown2 := hown.out
        rw [List.drop_zero] at hyz2 hown2
        obtain ⟨V, vc, hV, hVc, _, hVr, _⟩ := own_form hown2
        subst hV
        have hysum : y ≤ (m : Int) * cap := by have := Hfacts.out.1; omega
        have hzm : z ≤ (m : Int) := by have := Hfacts.out.2.1; have := hyz2.2; unfold lrg at this; omega
        have hrl : ws.reverse.length = ws.length := List.length_reverse
        have hli := impl_lt V vc ws.reverse cap
        have hwr : wv ws.reverse cap = true := by rw [wv_perm (List.reverse_perm ws)]; exact Hwv.out
        rw [lt_val hwr, Hfacts.out.2.2.1, hrl] at hli
        have Hli := Lib.hid hli
        have HVr := Lib.hid hVr
        have HD4 := Lib.hid (HD3.out.below hbw.out)
        have Hbw := Lib.hid (below_trans' Hb3.out hbw.out)
        clear hyz hyz2 hown hown2 hVr hli hwr hbw HD3 hrl
        have e1 : decide (y ≤ (m : Int) * cap) = true := decide_eq_true hysum
        have e2 : decide (z ≤ (m : Int)) = true := decide_eq_true hzm
        have e3 : ((m : Int) == (m : Int)) = true := by simp
        by_cases hw0 : 0 < ws.length
        · obtain ⟨x0, l, hws⟩ : ∃ x0 l, ws = x0 :: l := by
            cases ws with
            | nil => simp at hw0
            | cons x0 l => exact ⟨x0, l, rfl⟩
          obtain ⟨hvl, hcase⟩ := Hfacts.out.2.2.2 x0 l hws
          obtain ⟨ad, hDa⟩ : ∃ ad, D = some ad := by
            obtain ⟨ad, x, e, _⟩ := HD4.out.int hw0
            exact ⟨ad, e⟩
          subst hDa
          have hll : l.length = ws.length - 1 := by rw [hws]; simp
          have hT : ∀ (A' : Option Addr) (c' : Nat) (W : World), Rd W A' (ints l) → ws.length - 1 ≤ c' → Calls Try.prog 22 #[.slice A' (ws.length - 1) c', .int .i64 cap] W fun e w' => e = .returned (.int .i64 (leastT l cap : Int)) ∧ Below W.heap.size W w' := by
            intro A' c' W h1 h2
            have := impl_lt A' c' l cap W h1 (by unfold maxLen; omega) (by omega)
            rwa [lt_val hvl, hll] at this
          have HT := Lib.hid hT
          have Htl : Hid (Rd wr (some { block := ad.block, off := ad.off + 1 }) (ints l) ∧ (ws.length = 1 → l = [])) := Lib.hid ⟨by
            have := HD4.out
            rw [hws] at this
            exact this.tail1, fun h => List.eq_nil_of_length_eq_zero (by omega)⟩
          obtain ⟨r, hr⟩ : ∃ r : Nat, r = leastT l cap := ⟨_, rfl⟩
          rw [← hr] at hT hcase
          have HT2 := Lib.hid hT
          have hq : (((r : Int) == (m : Int)) = true ∨ (((r : Int) == (m : Int)) = false ∧ ((r : Int) == (m : Int) - 1) = true)) := by
            rcases hcase with h | h
            · left; simp [h]
            · right; constructor
              · simp; omega
              · simp; omega
          have Hq := Lib.hid hq
          clear HT hT hws hll hvl hcase hr hq
          go_wp2_with fail
          · refine (HT2.out _ _ _ (by rw [Htl.out.2 (by omega)]; exact Rd.nil _ _) (by omega)).mono ?_
            rintro e w5 ⟨rfl, hb5⟩
            have HV5 := Lib.hid (HVr.out.below hb5)
            have Hb5 := Lib.hid (below_trans' Hbw.out hb5)
            clear hb5
            go_wp2_with fail
            refine (Hli.out _ HV5.out (by unfold maxLen; omega) hVc).mono ?_
            rintro e w6 ⟨rfl, hb6⟩
            rcases Hq.out with hq1 | ⟨hq1, hq2⟩
            · go_wp2_with fail
              go_ret
              exact ⟨rfl, below_trans' Hb5.out hb6⟩
            · go_wp2_with fail
              go_ret
              exact ⟨rfl, below_trans' Hb5.out hb6⟩
          · refine (HT2.out _ _ _ Htl.out.1 (by omega)).mono ?_
            rintro e w5 ⟨rfl, hb5⟩
            have HV5 := Lib.hid (HVr.out.below hb5)
            have Hb5 := Lib.hid (below_trans' Hbw.out hb5)
            clear hb5
            go_wp2_with fail
            refine (Hli.out _ HV5.out (by unfold maxLen; omega) hVc).mono ?_
            rintro e w6 ⟨rfl, hb6⟩
            rcases Hq.out with hq1 | ⟨hq1, hq2⟩
            · go_wp2_with fail
              go_ret
              exact ⟨rfl, below_trans' Hb5.out hb6⟩
            · go_wp2_with fail
              go_ret
              exact ⟨rfl, below_trans' Hb5.out hb6⟩
        · go_wp2_with fail
          refine (Hli.out _ HVr.out (by unfold maxLen; omega) hVc).mono ?_
          rintro e w6 ⟨rfl, hb6⟩
          go_wp2_with fail
          go_ret
          exact ⟨rfl, below_trans' Hbw.out hb6⟩
end Go.Proofs.Ytiochiokcefbkaa
