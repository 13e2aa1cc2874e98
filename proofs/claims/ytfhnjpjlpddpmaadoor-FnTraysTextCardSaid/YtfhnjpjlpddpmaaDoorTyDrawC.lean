
/- The walks of what draws codes. -/
import Derived.Test.YtfhnjpjlpddpmaaDoorTyDraw
import Derived.Test.YtfhnjpjlpddpmaaDoorTy1
namespace Go.Proofs.YtfhnjpjlpddpmaaDoor
open Go.RowKit
set_option linter.unusedVariables false

theorem digB_one (n : Nat) (hn : n ≤ 9) : digs (one8 (48 + n)) = true := by
  have : ∀ n : Fin 10, digs (one8 (48 + n.val)) = true := by decide
  exact this ⟨n, by omega⟩
theorem digs_append {a b : ByteArray} (ha : digs a = true) (hb : digs b = true) : digs (a ++ b) = true := by
  unfold digs at *
  rw [ByteArray.data_append, Array.toList_append, List.all_append, ha, hb]; rfl
set_option maxRecDepth 100000 in
set_option maxHeartbeats 400000 in
theorem dec_any (n : Nat) (w : World) (hn : n ≤ 9) :
    Calls Tryd.prog 16 #[.int .i64 n] w fun e w' => e = .returned (.string (one8 (48 + n))) ∧ Below w.heap.size w w' := by
  have hcv := conv_one w (48 + n) (48 + (n : Int)) (by omega) (by omega)
  have hcs := one8_size (48 + n)
  have b1 : decide ((n : Int) < -9223372036854775807) = false := decide_eq_false (by omega)
  have b2 : decide ((n : Int) < 0) = false := decide_eq_false (by omega)
  have b3 : decide ((9 : Int) < n) = false := decide_eq_false (by omega)
  go_enter Tryd.func16, Tryd.ntmps16
  go_wp2_with fail
  refine wp_loop_rounds 1 ?_
  rw [rounds_succ]
  go_wp2_with fail
  go_ret
  have e0 : one8 (48 + n) ++ (⟨#[]⟩ : ByteArray) = one8 (48 + n) := ByteArray.ext (by rw [ByteArray.data_append]; exact Array.append_empty)
  exact ⟨by simp [e0], (Below.refl _ _).alloc (Nat.le_refl _) _⟩

set_option maxRecDepth 100000 in
set_option maxHeartbeats 400000 in
theorem show_any (x m : Nat) (w : World) (hm : m ≤ 7) (hx : x ≤ 1099511627776) :
    Calls Tryd.prog 65 #[.int .i64 x, .int .i64 m] w fun e w' => (∃ s : ByteArray, e = .returned (.string s) ∧ s.size = m ∧ digs s = true) ∧ Below w.heap.size w w' := by
  go_enter Tryd.func65, Tryd.ntmps65
  go_wp2_with fail
  go_loopw [0, 5, 6] (fun v s i wr => ∃ (y k : Nat) (out : ByteArray), k ≤ m ∧ y ≤ 1099511627776 ∧ v = .int .i64 y ∧ s = .string out ∧ i = .int .i64 k ∧ out.size = k ∧ Hid (digs out = true) ∧ Hid (Below w.heap.size w wr)) (fun _ _ i _ => m - (intOf i).toNat)
  case atStart => exact ⟨x, 0, ⟨#[]⟩, Nat.zero_le _, hx, rfl, rfl, rfl, rfl, Lib.hid rfl, Lib.hid (Below.refl _ _)⟩
  case round =>
    obtain ⟨y, k, out, hk, hyb, rfl, rfl, rfl, hos, Hd, Hb⟩ := hrel
    by_cases hlt : k < m
    · have hdc := dec_any (y % 10) wr (by omega)
      have Hdc := Lib.hid hdc
      have hcs := one8_size (48 + y % 10)
      have Hd2 : Hid (digs (one8 (48 + y % 10) ++ out) = true) := Lib.hid (digs_append (digB_one _ (by omega)) Hd.out)
      have hsz : (one8 (48 + y % 10) ++ out).size = k + 1 := by rw [ByteArray.size_append, hcs]; omega
      clear hdc
      go_wp2_with fail
      refine Hdc.out.mono ?_
      rintro e w2 ⟨rfl, hb2⟩
      have Hb2 := Lib.hid (below_trans' Hb.out hb2)
      clear hb2 Hb Hdc
      go_wp2_with fail
      go_roundw
      case rel => exact ⟨y / 10, k + 1, _, by omega, by omega, by go_num, rfl, by go_num, hsz, Hd2, Hb2⟩
      case measure => simp [intOf]; omega
    · have hk' : k = m := by omega
      subst hk'
      go_wp2_with fail
      go_ret
      exact ⟨⟨_, rfl, hos, Hd.out⟩, Hb.out⟩

theorem in4 {x a b c d : Int} (h : x ∈ [a, b, c, d]) (ha : 0 ≤ a ∧ a ≤ 1000) (hb : 0 ≤ b ∧ b ≤ 1000) (hc : 0 ≤ c ∧ c ≤ 1000) (hd : 0 ≤ d ∧ d ≤ 1000) : ∃ n : Nat, x = (n : Int) ∧ n ≤ 1000 := by
  simp at h
  refine ⟨x.toNat, ?_, ?_⟩ <;> rcases h with h | h | h | h <;> omega
theorem nat_of {x n : Int} (h : 0 ≤ x ∧ x < n) : ∃ m : Nat, x = (m : Int) ∧ (m : Int) < n := ⟨x.toNat, by omega, by omega⟩
set_option maxRecDepth 100000 in
set_option maxHeartbeats 1600000 in
theorem some_any (R p : Nat) (w : World) (h : Reader w R p) (hp : p ≤ 549755813888) :
    Calls Tryd.prog 59 #[.pointer (some ⟨R, 0, none⟩)] w fun e w' => ∃ (s : ByteArray) (q : Nat), e = .returned (.string s) ∧ s.size = 7 ∧ digs s = true ∧ q ≤ p + 8 ∧ Dst w R q w' := by
  have h1 := num_lit R p w.heap.size 4 #[.int .i64 120, .int .i64 121, .int .i64 7, .int .i64 999] [120, 121, 7, 999] w h (by omega) rfl rfl rfl (by simp) (by simp)
  have H1 := Lib.hid h1
  clear h1
  go_enter Tryd.func59, Tryd.ntmps59
  go_wp2_with fail
  refine H1.out.mono ?_
  rintro e w1 ⟨x, rfl, hx, hr1, hg1⟩
  obtain ⟨xn, rfl, hxn⟩ := in4 hx (by omega) (by omega) (by omega) (by omega)
  have Hd := Lib.hid ((Dst.start h).step hg1 hr1)
  have h2 := num_lit R (p + 1) w1.heap.size 4 #[.int .i64 1, .int .i64 2, .int .i64 10, .int .i64 99] [1, 2, 10, 99] w1 hr1 (by omega) rfl rfl rfl (by simp) (by simp)
  have H2 := Lib.hid h2
  clear h2 hx hr1 hg1 H1 h
  go_wp2_with fail
  refine H2.out.mono ?_
  rintro e w2 ⟨y, rfl, hy, hr2, hg2⟩
  obtain ⟨yn, rfl, hyn⟩ := in4 hy (by omega) (by omega) (by omega) (by omega)
  replace Hd := Lib.hid (Hd.out.step hg2 hr2)
  clear hy hr2 hg2 H2
  have hs3 := show_any xn 3 w2 (by omega) (by omega)
  have Hs3 := Lib.hid hs3
  clear hs3
  go_wp2_with fail
  refine Hs3.out.mono ?_
  rintro e v3 ⟨⟨s3, rfl, z3, d3⟩, hbl3⟩
  replace Hd := Lib.hid (Hd.out.below hbl3)
  clear hbl3 Hs3
  have hs4 := show_any yn 2 v3 (by omega) (by omega)
  have Hs4 := Lib.hid hs4
  clear hs4
  go_wp2_with fail
  refine Hs4.out.mono ?_
  rintro e v4 ⟨⟨s4, rfl, z4, d4⟩, hbl4⟩
  replace Hd := Lib.hid (Hd.out.below hbl4)
  clear hbl4 Hs4
  have za : (s3 ++ s4).size = 5 := by rw [ByteArray.size_append]; omega
  have hp5 := pick_any R (p + 1 + 1) 14 v4 Hd.out.reader (by omega) (by omega)
  have Hp5 := Lib.hid hp5
  clear hp5
  go_wp2_with fail
  refine Hp5.out.mono ?_
  rintro e u5 ⟨x5, rfl, k5, r5, g5⟩
  replace Hd := Lib.hid (Hd.out.step g5 r5)
  obtain ⟨n5, rfl, kk5⟩ := nat_of (k5.pos (by omega))
  clear r5 g5 k5 Hp5
  have hs6 := show_any n5 2 u5 (by omega) (by omega)
  have Hs6 := Lib.hid hs6
  clear hs6
  go_wp2_with fail
  refine Hs6.out.mono ?_
  rintro e v6 ⟨⟨s6, rfl, z6, d6⟩, hbl6⟩
  replace Hd := Lib.hid (Hd.out.below hbl6)
  clear hbl6 Hs6
  have zb : (s3 ++ s4 ++ s6).size = 7 := by rw [ByteArray.size_append]; omega
  have Hdd := Lib.hid (digs_append (digs_append d3 d4) d6)
  have hp7 := pick_any R (p + 1 + 1 + 1) 4 v6 Hd.out.reader (by omega) (by omega)
  have Hp7 := Lib.hid hp7
  clear hp7
  go_wp2_with fail
  refine Hp7.out.mono ?_
  rintro e u7 ⟨x7, rfl, k7, r7, g7⟩
  replace Hd := Lib.hid (Hd.out.step g7 r7)
  obtain ⟨n7, rfl, kk7⟩ := nat_of (k7.pos (by omega))
  clear r7 g7 k7 Hp7
  by_cases h0 : n7 = 0
  · subst h0
    have hp8 := pick_any R (p + 1 + 1 + 1 + 1) 256 u7 Hd.out.reader (by omega) (by omega)
    have Hp8 := Lib.hid hp8
    clear hp8
    go_wp2_with fail
    refine Hp8.out.mono ?_
    rintro e u8 ⟨x8, rfl, k8, r8, g8⟩
    replace Hd := Lib.hid (Hd.out.step g8 r8)
    obtain ⟨n8, rfl, kk8⟩ := nat_of (k8.pos (by omega))
    clear r8 g8 k8 Hp8
    have hp9 := pick_any R (p + 1 + 1 + 1 + 1 + 1) 256 u8 Hd.out.reader (by omega) (by omega)
    have Hp9 := Lib.hid hp9
    clear hp9
    go_wp2_with fail
    refine Hp9.out.mono ?_
    rintro e u9 ⟨x9, rfl, k9, r9, g9⟩
    replace Hd := Lib.hid (Hd.out.step g9 r9)
    obtain ⟨n9, rfl, kk9⟩ := nat_of (k9.pos (by omega))
    clear r9 g9 k9 Hp9
    have m1 : n8 * n9 ≤ 255 * 255 := Nat.mul_le_mul (by omega) (by omega)
    have m2 : (n8 : Int) * (n9 : Int) = ((n8 * n9 : Nat) : Int) := by push_cast; rfl
    have m3 : 0 ≤ (n8 : Int) * (n9 : Int) ∧ (n8 : Int) * (n9 : Int) ≤ 65025 := by omega
    clear m2
    have hp10 := pick_any R (p + 1 + 1 + 1 + 1 + 1 + 1) 150 u9 Hd.out.reader (by omega) (by omega)
    have Hp10 := Lib.hid hp10
    clear hp10
    go_wp2_with fail
    refine Hp10.out.mono ?_
    rintro e u10 ⟨x10, rfl, k10, r10, g10⟩
    replace Hd := Lib.hid (Hd.out.step g10 r10)
    obtain ⟨n10, rfl, kk10⟩ := nat_of (k10.pos (by omega))
    clear r10 g10 k10 Hp10
    have m4 : n8 * n9 * n10 ≤ 255 * 255 * 149 := Nat.mul_le_mul m1 (by omega)
    have m5 : (n8 : Int) * (n9 : Int) * (n10 : Int) = ((n8 * n9 * n10 : Nat) : Int) := by push_cast; rfl
    have m6 : 0 ≤ (n8 : Int) * (n9 : Int) * (n10 : Int) ∧ (n8 : Int) * (n9 : Int) * (n10 : Int) ≤ 9688725 := by omega
    clear m5
    have hp11 := pick_any R (p + 1 + 1 + 1 + 1 + 1 + 1 + 1) 256 u10 Hd.out.reader (by omega) (by omega)
    have Hp11 := Lib.hid hp11
    clear hp11
    go_wp2_with fail
    refine Hp11.out.mono ?_
    rintro e u11 ⟨x11, rfl, k11, r11, g11⟩
    replace Hd := Lib.hid (Hd.out.step g11 r11)
    obtain ⟨n11, rfl, kk11⟩ := nat_of (k11.pos (by omega))
    clear r11 g11 k11 Hp11
    have hs := show_any (n8 * n9 * n10 + n11) 7 u11 (by omega) (by omega)
    push_cast at hs
    have Hs := Lib.hid hs
    clear hs m4
    go_wp2_with fail
    refine Hs.out.mono ?_
    rintro e v12 ⟨⟨s12, rfl, z12, d12⟩, hbl⟩
    replace Hd := Lib.hid (Hd.out.below hbl)
    clear hbl Hs
    go_wp2_with fail
    go_ret
    exact ⟨_, _, rfl, z12, d12, by omega, Hd.out⟩
  · have e0 : ((n7 : Int) == 0) = false := by simp only [beq_eq_false_iff_ne]; omega
    go_wp2_with fail
    go_ret
    exact ⟨_, _, rfl, zb, Hdd.out, by omega, Hd.out⟩

end Go.Proofs.YtfhnjpjlpddpmaaDoor
