/- The walks of the small functions of trucks: a number between two others, weights, counts. -/
import Derived.Test.YtiochiokcefbkaaRows
import Derived.Test.YtiochiokcefbkaaTkMath
namespace Go.Proofs.Ytiochiokcefbkaa
open Go.RowKit
set_option linter.unusedVariables false

theorem in_any (n lo hi : Int) (w : World) :
    Calls Try.prog 39 #[.int .i64 n, .int .i64 lo, .int .i64 hi] w fun e w' => e = .returned (.bool (inB n lo hi)) ∧ w = w' := by
  go_enter Try.func39, Try.ntmps39
  go_wp2
  · go_ret
    rename_i h
    exact ⟨ret_bool (by simp [inB, h]), rfl⟩
  · go_ret
    rename_i h
    exact ⟨ret_bool (inB_low h).symm, rfl⟩

set_option maxHeartbeats 400000 in
theorem spec_wv (A : Option Addr) (c : Nat) (xs : List Int) (cap : Int) (w : World) (h : Rd w A (ints xs)) (hn : xs.length ≤ maxLen) :
    Calls Try.prog 15 #[.slice A xs.length c, .int .i64 cap] w fun e w' => e = .returned (.bool (wv xs cap)) ∧ w = w' := by
  unfold maxLen at hn
  go_enter Try.func15, Try.ntmps15
  go_wp2_with fail
  go_loop [5] (fun i => ∃ k : Nat, k ≤ xs.length ∧ i = .int .i64 k ∧ Hid ((xs.take k).all (fun x => inB x 1 cap) = true)) (fun i => xs.length - (intOf i).toNat)
  case atStart => exact ⟨0, Nat.zero_le _, rfl, Lib.hid rfl⟩
  case round =>
    obtain ⟨k, hk, rfl, hall⟩ := hrel
    by_cases hlt : k < xs.length
    · obtain ⟨ad, x, rfl, hx, hc⟩ := h.int hlt
      have Hx := Lib.hid hx
      clear hx
      go_wp2_with (go_at_call 39; refine (in_any _ _ _ _).mono ?_; rintro e w' ⟨rfl, rfl⟩)
      · go_ret
        rename_i hb
        exact ⟨ret_bool (wv_no Hx.out (by simpa using hb)).symm, rfl⟩
      · go_round
        rename_i hb
        case rel => exact ⟨k + 1, by omega, by go_num, Lib.hid (all_snoc hall.out Hx.out (by simpa using hb))⟩
        case measure => simp [intOf]; omega
    · have hk' : k = xs.length := by omega
      subst hk'
      go_wp2_with (go_at_call 39; refine (in_any _ _ _ _).mono ?_; rintro e w' ⟨rfl, rfl⟩)
      · go_ret
        have h8 : (xs.length : Int) ≤ 8 := by assumption
        exact ⟨ret_bool (by rw [wv_end hall, decide_eq_true (by omega), Bool.true_and]), rfl⟩
      · go_ret
        have h8 : 8 < (xs.length : Int) := by assumption
        exact ⟨ret_bool (wv_long (by omega)).symm, rfl⟩

set_option maxHeartbeats 400000 in
theorem impl_wv (A : Option Addr) (c : Nat) (xs : List Int) (cap : Int) (w : World) (h : Rd w A (ints xs)) (hn : xs.length ≤ maxLen) :
    Calls Try.prog 17 #[.slice A xs.length c, .int .i64 cap] w fun e w' => e = .returned (.bool (wv xs cap)) ∧ w = w' := by
  unfold maxLen at hn
  by_cases h1 : cap < 1
  · go_enter Try.func17, Try.ntmps17
    go_wp2_with fail
    go_ret
    exact ⟨ret_bool (wv_cap (inB_false.2 (by omega))).symm, rfl⟩
  by_cases h2 : 1000 < cap
  · go_enter Try.func17, Try.ntmps17
    go_wp2_with fail
    go_ret
    exact ⟨ret_bool (wv_cap (inB_false.2 (by omega))).symm, rfl⟩
  by_cases h3 : 8 < xs.length
  · go_enter Try.func17, Try.ntmps17
    go_wp2_with fail
    go_ret
    exact ⟨ret_bool (wv_long h3).symm, rfl⟩
  go_enter Try.func17, Try.ntmps17
  go_wp2_with fail
  go_loop [20] (fun i => ∃ k : Nat, k ≤ xs.length ∧ i = .int .i64 k ∧ Hid ((xs.take k).all (fun x => inB x 1 cap) = true)) (fun i => xs.length - (intOf i).toNat)
  case atStart => exact ⟨0, Nat.zero_le _, rfl, Lib.hid rfl⟩
  case round =>
    obtain ⟨k, hk, rfl, hall⟩ := hrel
    by_cases hlt : k < xs.length
    · obtain ⟨ad, x, rfl, hx, hc⟩ := h.int hlt
      have Hx := Lib.hid hx
      clear hx
      by_cases hx1 : x < 1
      · go_wp2_with fail
        go_ret
        exact ⟨ret_bool (wv_no Hx.out (inB_false.2 (by omega))).symm, rfl⟩
      by_cases hx2 : cap < x
      · go_wp2_with fail
        go_ret
        exact ⟨ret_bool (wv_no Hx.out (inB_false.2 (by omega))).symm, rfl⟩
      go_wp2_with fail
      go_round
      case rel => exact ⟨k + 1, by omega, by go_num, Lib.hid (all_snoc hall.out Hx.out (inB_true.2 (by omega)))⟩
      case measure => simp [intOf]; omega
    · have hk' : k = xs.length := by omega
      subst hk'
      go_wp2_with fail
      go_ret
      exact ⟨ret_bool (by rw [wv_end hall, decide_eq_true (by omega), inB_true.2 (by omega)]; rfl), rfl⟩

theorem int_info : (Try.prog.info? 3).map (fun i => (i.zero, i.size, i.bytes)) = some (some (.int .i64 0), 1, 8) := by kernel_rfl

set_option maxHeartbeats 400000 in
theorem toInts (A : Option Addr) (c : Nat) (xs : List Int) (w : World) (h : Rd w A (ints xs)) (hn : xs.length ≤ 1048576) :
    Calls Try.prog 16 #[.slice A xs.length c] w fun e w' => ∃ g, e = .returned (.slice (some ⟨g, 0, none⟩) xs.length xs.length) ∧
      w'.ownsRow w.heap.size 3 1 (.slice (some ⟨g, 0, none⟩) xs.length xs.length) xs.length (ints xs) ∧ Below w.heap.size w w' := by
  obtain ⟨i0, hi, hz0, hz1, hz2⟩ := info_parts int_info
  go_enter Try.func16, Try.ntmps16
  go_wp2_with (at_make; refine wpList_make_full _ rfl _ _ _ rfl w.heap.size 3 i0 _ 1 Try.underlying22 hi hz0 hz1 _ _ _ _ xs.length rfl rfl rfl rfl (by rw [hz2]; omega) (by unfold maxLen; omega) (Nat.le_refl _) ?_; intro w1 hown1 hg1)
  rw [made_ints] at hown1
  have hb1 : Below w.heap.size w w1 := (Below.refl _ _).grown hg1 (Nat.le_refl _) (by simp)
  have H0 : Hid (∃ ys, Filled ys xs 0 ∧ w1.ownsRow w.heap.size 3 1 (.slice (some ⟨w.heap.size, 0, none⟩) xs.length xs.length) xs.length (ints ys)) := ⟨_, Filled.start, hown1⟩
  clear hown1 hg1
  go_loopw [4] (fun i wr => ∃ k : Nat, k ≤ xs.length ∧ i = .int .i64 k ∧ Below w.heap.size w wr ∧ Hid (∃ ys, Filled ys xs k ∧ wr.ownsRow w.heap.size 3 1 (.slice (some ⟨w.heap.size, 0, none⟩) xs.length xs.length) xs.length (ints ys))) (fun i _ => xs.length - (intOf i).toNat)
  case atStart => exact ⟨0, Nat.zero_le _, rfl, hb1, H0⟩
  case round =>
    obtain ⟨k, hk, rfl, hb, hys⟩ := hrel
    obtain ⟨ys, hf, hown⟩ := hys.out
    clear hys H0 hb1
    by_cases hlt : k < xs.length
    · obtain ⟨ad, x, rfl, hx, hc⟩ := (h.below hb).int hlt
      have Hx := Lib.hid hx
      clear hx
      have hyk : k < ys.length := by rw [hf.len]; exact hlt
      have hc2 : wr.cell? ⟨w.heap.size, k, none⟩ = some (.int .i64 ys[k]) := (hown.cellAt k (by omega)).trans (ints_get (List.getElem?_eq_getElem hyk))
      have hfz : wr.frozen? ⟨w.heap.size, k, none⟩ = false := hown.frozenAt k
      have hst := hown.stored k (.int .i64 x)
      rw [ints_set] at hst
      have Hst := Lib.hid hst
      have Hf := Lib.hid hf
      clear hst hown hf
      go_wp2_with fail
      go_roundw
      case rel => exact ⟨k + 1, by omega, by go_num, hb.setCell (Nat.le_refl _) _, ⟨_, Hf.out.step Hx.out, Hst.out.1⟩⟩
      case measure => simp [intOf]; omega
    · have hk' : k = xs.length := by omega
      subst hk'
      have := hf.done
      subst this
      go_wp2_with fail
      go_ret
      exact ⟨_, rfl, hown, hb⟩

set_option maxHeartbeats 400000 in
theorem eqInts (A B : Option Addr) (c d : Nat) (xs ys : List Int) (w : World) (h : Rd w A (ints xs)) (hy : Rd w B (ints ys)) (hn : xs.length ≤ maxLen) (hm : ys.length ≤ maxLen) :
    Calls Try.prog 18 #[.slice A xs.length c, .slice B ys.length d] w fun e w' => e = .returned (.bool (decide (xs = ys))) ∧ ∃ n, w' = w.drewN n := by
  unfold maxLen at hn hm
  by_cases hl : xs.length = ys.length
  · have Hl := Lib.hid hl
    have hl1 : ((xs.length : Int) != (ys.length : Int)) = false := by simp [hl]
    clear hl
    go_enter Try.func18, Try.ntmps18
    go_wp2_with fail
    go_loopw [5] (fun i wr => ∃ k : Nat, k ≤ xs.length ∧ i = .int .i64 k ∧ (∃ n, wr = w.drewN n) ∧ Hid (xs.take k = ys.take k)) (fun i _ => xs.length - (intOf i).toNat)
    case atStart => exact ⟨0, Nat.zero_le _, rfl, ⟨0, rfl⟩, Lib.hid rfl⟩
    case round =>
      obtain ⟨k, hk, rfl, ⟨n, rfl⟩, heq⟩ := hrel
      by_cases hlt : k < xs.length
      · obtain ⟨ad, x, rfl, hx, hc⟩ := h.int hlt
        have hlt2 : k < ys.length := by have := Hl.out; omega
        obtain ⟨ad2, y, rfl, hy', hc2⟩ := hy.int hlt2
        have Hx := Lib.hid hx
        have Hy := Lib.hid hy'
        clear hx hy'
        by_cases hxy : x = y
        · subst hxy
          go_wp2_with fail
          go_quiet (fail)
          go_wp2_with fail
          go_roundw
          case rel => exact ⟨k + 1, by omega, by go_num, ⟨_, rfl⟩, Lib.hid (by rw [take_snoc Hx.out, take_snoc Hy.out, heq.out])⟩
          case measure => simp [intOf]; omega
        · have hxy' : (x != y) = true := by simp [hxy]
          go_wp2_with fail
          go_quiet (fail)
          go_wp2_with fail
          go_ret
          exact ⟨ret_bool (by
            rw [decide_eq_false]
            rintro rfl
            have := Hx.out.symm.trans Hy.out
            injection this with this
            exact hxy this), drew_ex _ _ _⟩
      · have hk' : k = xs.length := by omega
        subst hk'
        go_wp2_with fail
        go_ret
        exact ⟨ret_bool (by
          have h1 := heq.out
          rw [List.take_length, Hl.out, List.take_length] at h1
          exact (decide_eq_true h1).symm), _, rfl⟩
  · have hl1 : ((xs.length : Int) != (ys.length : Int)) = true := by simp; omega
    go_enter Try.func18, Try.ntmps18
    go_wp2_with fail
    go_ret
    exact ⟨ret_bool (by rw [decide_eq_false]; rintro rfl; exact hl rfl), 0, rfl⟩

set_option maxHeartbeats 400000 in
theorem given_any (A : Option Addr) (c : Nat) (xs : List Int) (w : World) (h : Rd w A (ints xs)) (hn : xs.length ≤ maxLen) :
    Calls Try.prog 40 #[.slice A xs.length c] w fun e w' => e = .returned (.bool (gv xs)) ∧ w = w' := by
  unfold maxLen at hn
  go_enter Try.func40, Try.ntmps40
  go_wp2_with fail
  go_loop [3] (fun i => ∃ k : Nat, k ≤ xs.length ∧ i = .int .i64 k ∧ Hid ((xs.take k).all (fun x => inB x 0 7) = true)) (fun i => xs.length - (intOf i).toNat)
  case atStart => exact ⟨0, Nat.zero_le _, rfl, Lib.hid rfl⟩
  case round =>
    obtain ⟨k, hk, rfl, hall⟩ := hrel
    by_cases hlt : k < xs.length
    · obtain ⟨ad, x, rfl, hx, hc⟩ := h.int hlt
      have Hx := Lib.hid hx
      clear hx
      go_wp2_with (go_at_call 39; refine (in_any _ _ _ _).mono ?_; rintro e w' ⟨rfl, rfl⟩)
      · go_ret
        rename_i hb
        exact ⟨ret_bool (gv_no Hx.out (by simpa using hb)).symm, rfl⟩
      · go_round
        rename_i hb
        case rel => exact ⟨k + 1, by omega, by go_num, Lib.hid (all_snoc hall.out Hx.out (by simpa using hb))⟩
        case measure => simp [intOf]; omega
    · have hk' : k = xs.length := by omega
      subst hk'
      go_wp2_with fail
      go_ret
      exact ⟨ret_bool (by rw [gv_end hall]; simp; omega), rfl⟩

set_option maxHeartbeats 400000 in
theorem spec_tc (A : Option Addr) (c : Nat) (xs : List Int) (w : World) (h : Rd w A (ints xs)) (hn : xs.length ≤ maxLen) :
    Calls Try.prog 19 #[.slice A xs.length c] w fun e w' => e = .returned (.int .i64 (tc xs)) ∧ w = w' := by
  have hn' := hn
  unfold maxLen at hn
  cases hg : gv xs
  · have Hg := Lib.hid hg
    go_enter Try.func19, Try.ntmps19
    go_wp2_with (go_at_call 40; refine (given_any _ _ _ _ h hn').mono ?_; rintro e w' ⟨rfl, rfl⟩)
    go_ret
    exact ⟨ret_int (tc_no Hg.out).symm, rfl⟩
  · have Hg := Lib.hid hg
    go_enter Try.func19, Try.ntmps19
    go_wp2_with (go_at_call 40; refine (given_any _ _ _ _ h hn').mono ?_; rintro e w' ⟨rfl, rfl⟩)
    go_loop [3, 4] (fun n i => ∃ k : Nat, k ≤ xs.length ∧ i = .int .i64 k ∧ n = .int .i64 (top (xs.take k))) (fun _ i => xs.length - (intOf i).toNat)
    case atStart => exact ⟨0, Nat.zero_le _, rfl, rfl⟩
    case round =>
      obtain ⟨k, hk, rfl, rfl⟩ := hrel
      by_cases hlt : k < xs.length
      · obtain ⟨ad, x, rfl, hx, hc⟩ := h.int hlt
        have hb := gv_mem Hg.out hx
        have Hx := Lib.hid hx
        clear hx
        clear hg
        go_wp2_with fail
        go_round
        case rel => exact ⟨k + 1, by omega, by go_num, by rw [take_snoc Hx.out, top_snoc]⟩
        case measure => simp [intOf]; omega
      · have hk' : k = xs.length := by omega
        subst hk'
        go_wp2_with fail
        go_ret
        exact ⟨ret_int (by rw [tc_yes Hg.out]), rfl⟩

set_option maxHeartbeats 400000 in
theorem impl_tc (A : Option Addr) (c : Nat) (xs : List Int) (w : World) (h : Rd w A (ints xs)) (hn : xs.length ≤ maxLen) :
    Calls Try.prog 20 #[.slice A xs.length c] w fun e w' => e = .returned (.int .i64 (tc xs)) ∧ w = w' := by
  unfold maxLen at hn
  by_cases h3 : 8 < xs.length
  · go_enter Try.func20, Try.ntmps20
    go_wp2_with fail
    go_ret
    exact ⟨ret_int (tc_no (gv_long h3)).symm, rfl⟩
  go_enter Try.func20, Try.ntmps20
  go_wp2_with fail
  go_loop [3, 11] (fun n i => ∃ k : Nat, k ≤ xs.length ∧ i = .int .i64 k ∧ Hid ((xs.take k).all (fun x => inB x 0 7) = true) ∧ n = .int .i64 (top (xs.take k))) (fun _ i => xs.length - (intOf i).toNat)
  case atStart => exact ⟨0, Nat.zero_le _, rfl, Lib.hid rfl, rfl⟩
  case round =>
    obtain ⟨k, hk, rfl, hall, rfl⟩ := hrel
    by_cases hlt : k < xs.length
    · obtain ⟨ad, x, rfl, hx, hc⟩ := h.int hlt
      have Hx := Lib.hid hx
      clear hx
      by_cases hx1 : x < 0
      · go_wp2_with fail
        go_ret
        exact ⟨ret_int (tc_no (gv_no Hx.out (inB_false.2 (by omega)))).symm, rfl⟩
      by_cases hx2 : 8 ≤ x
      · go_wp2_with fail
        go_ret
        exact ⟨ret_int (tc_no (gv_no Hx.out (inB_false.2 (by omega)))).symm, rfl⟩
      go_wp2_with fail
      go_round
      case rel => exact ⟨k + 1, by omega, by go_num, Lib.hid (all_snoc hall.out Hx.out (inB_true.2 (by omega))), by rw [take_snoc Hx.out, top_snoc]⟩
      case measure => simp [intOf]; omega
    · have hk' : k = xs.length := by omega
      subst hk'
      go_wp2_with fail
      go_ret
      exact ⟨ret_int (by rw [tc_yes (by rw [gv_end hall]; simp; omega)]), rfl⟩

end Go.Proofs.Ytiochiokcefbkaa
