/- The walk of the law on the least number of trays. -/
import Derived.Test.YtjekhmkkkmphmaaTyDraw
namespace Go.Proofs.Ytjekhmkkkmphmaa
open Go.RowKit
set_option linter.unusedVariables false

set_option maxHeartbeats 800000 in
theorem draw_least (A : Option Addr) (c : Nat) (bs : List Int) (w : World) (h : Coded w A bs c) :
    Calls Try.prog 18 #[.slice A bs.length c] w fun e w' => ∃ x y : Int, e = .returned (.tuple #[.int .i64 x, .int .i64 y]) ∧ Below w.heap.size w w' := by
  go_enter Try.func18, Try.ntmps18
  go_wp2_with fail
  refine (coded_open h).mono ?_
  rintro e w1 ⟨rfl, hr, hb, hl⟩
  have Hd1 := Lib.hid (Dst.start hr)
  have Hb := Lib.hid hb
  have Hl := Lib.hid hl
  have h1 := pick_any w.heap.size 0 61 w1 hr (by omega) (by omega)
  have H1 := Lib.hid h1
  clear h1 hr hb hl h
  go_wp2_with fail
  refine H1.out.mono ?_
  rintro e w2 ⟨x, rfl, hx, hr2, hg2⟩
  have Hd2 := Lib.hid (Hd1.out.step hg2 hr2)
  have h2 := pick_any w.heap.size (0 + 1) 12 w2 hr2 (by omega) (by omega)
  have H2 := Lib.hid h2
  clear h2 hr2 hg2 H1 Hd1
  go_wp2_with fail
  refine H2.out.mono ?_
  rintro e w3 ⟨y, rfl, hy, hr3, hg3⟩
  have Hd3 := Lib.hid (Hd2.out.step hg3 hr3)
  clear hr3 hg3 H2 Hd2 hy hx
  by_cases h0 : y = 0
  · subst h0
    have hn := num_lit w.heap.size (0 + 1 + 1) w3.heap.size 4 #[.int .i64 (-1), .int .i64 60, .int .i64 61, .int .i64 9223372036854775807] [-1, 60, 61, 9223372036854775807] w3 Hd3.out.reader (by omega) rfl rfl rfl (by simp) (by simp)
    have Hn := Lib.hid hn
    clear hn
    go_wp2_with fail
    refine Hn.out.mono ?_
    rintro e w4 ⟨z, rfl, hz, hr4, hg4⟩
    have Hd4 := Lib.hid (Hd3.out.step hg4 hr4)
    have hq := number_any w.heap.size (0 + 1 + 1 + 1) w4 hr4 (by omega)
    have Hq := Lib.hid hq
    clear hq hz hr4 hg4 Hn
    go_wp2_with fail
    refine Hq.out.mono ?_
    rintro e w5 ⟨u, q, rfl, _, hr5, hg5⟩
    go_wp2_with fail
    go_ret2
    exact ⟨_, _, rfl, dst_below Hb.out Hl.out (Hd4.out.step hg5 hr5)⟩
  · have e0 : (y == 0) = false := by simp [h0]
    have hq := number_any w.heap.size (0 + 1 + 1) w3 Hd3.out.reader (by omega)
    have Hq := Lib.hid hq
    clear hq
    go_wp2_with fail
    refine Hq.out.mono ?_
    rintro e w5 ⟨u, q, rfl, _, hr5, hg5⟩
    go_wp2_with fail
    go_ret2
    exact ⟨_, _, rfl, dst_below Hb.out Hl.out (Hd3.out.step hg5 hr5)⟩

theorem least_facts {c s : Int} (h : 0 ≤ least c s) : (0 ≤ c ∧ c ≤ 60) ∧ (1 ≤ s ∧ s ≤ 20) ∧ c ≤ least c s * s ∧ (least c s - 1) * s < c ∧ least c s ≤ 79 ∧ least c s * s ≤ 79 := by
  cases h1 : inB c 0 60 with
  | false => rw [least_no1 h1] at h; omega
  | true =>
    cases h2 : inB s 1 20 with
    | false => rw [least_no2 h2] at h; omega
    | true =>
      have b1 := inB_true.1 h1
      have b2 := inB_true.1 h2
      rw [least_yes h1 h2] at h ⊢
      have e1 := Int.mul_ediv_add_emod (c + s - 1) s
      have e2 := Int.emod_nonneg (c + s - 1) (show s ≠ 0 by omega)
      have e3 := Int.emod_lt_of_pos (c + s - 1) (show 0 < s by omega)
      generalize (c + s - 1) / s = q at *
      have e4 : s * q = q * s := Int.mul_comm _ _
      have e5 : (q - 1) * s = q * s - s := by rw [Int.sub_mul, Int.one_mul]
      have e6 : q ≤ q * s := by
        have := Int.mul_le_mul_of_nonneg_left (show (1 : Int) ≤ s by omega) h
        omega
      omega
theorem least_neg {c s : Int} (h : ¬ 0 ≤ least c s) : least c s < 0 := by omega

set_option maxHeartbeats 800000 in
theorem law_FnLeastTrays (A : Option Addr) (c : Nat) (bs : List Int) (w : World) (h0 : Coded0 w A bs c) :
    Calls Try.prog 3 #[.slice A bs.length c] w fun e w' => e = .returned (.bool true) ∧ Below w.heap.size w w' := by
  by_cases hbig : 1048576 < bs.length
  · go_enter Try.func3, Try.ntmps3
    go_wp2_with fail
    go_ret
    exact ⟨rfl, Below.refl _ _⟩
  have hdr := draw_least A c bs w (h0.coded hbig)
  have Hdr := Lib.hid hdr
  clear hdr h0
  go_enter Try.func3, Try.ntmps3
  go_wp2_with fail
  refine Hdr.out.mono ?_
  rintro e w1 ⟨x, y, rfl, hb⟩
  have Hb := Lib.hid hb
  clear hb Hdr
  have h1 := impl_least x y w1
  have h2 := spec_least x y w1
  by_cases hn : 0 ≤ least x y
  · obtain ⟨f1, f2, f3, f4, f5, f6⟩ := least_facts hn
    generalize least x y = n at *
    have e0 : (n != n) = false := by simp
    have e1 : (n == n) = true := by simp
    have f7 : (n - 1) * y ≥ -20 := by
      have e5 : (n - 1) * y = n * y - y := by rw [Int.sub_mul, Int.one_mul]
      omega
    have f8 : n * y ≥ 0 := by omega
    go_wp2_with fail
    refine h1.mono ?_
    rintro e w2 ⟨rfl, rfl⟩
    go_wp2_with fail
    refine h2.mono ?_
    rintro e w3 ⟨rfl, rfl⟩
    by_cases hz : n = 0
    · subst hz
      go_wp2_with fail
      go_ret
      exact ⟨rfl, Hb.out⟩
    · have e2 : (n == 0) = false := by simp [hz]
      go_wp2_with fail
      go_ret
      exact ⟨rfl, Hb.out⟩
  · have hneg := least_neg hn
    generalize least x y = n at *
    have e0 : (n != n) = false := by simp
    have e1 : (n == n) = true := by simp
    go_wp2_with fail
    refine h1.mono ?_
    rintro e w2 ⟨rfl, rfl⟩
    go_wp2_with fail
    refine h2.mono ?_
    rintro e w3 ⟨rfl, rfl⟩
    go_wp2_with fail
    refine h2.mono ?_
    rintro e w3 ⟨rfl, rfl⟩
    go_wp2_with fail
    go_ret
    exact ⟨rfl, Hb.out⟩

end Go.Proofs.Ytjekhmkkkmphmaa
