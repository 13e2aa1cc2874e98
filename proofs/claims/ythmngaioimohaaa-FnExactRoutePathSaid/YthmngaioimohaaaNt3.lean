
/- The walks of the functions on codes, prefixes and names. -/
import Derived.Test.YthmngaioimohaaaNtC
namespace Go.Proofs.Ythmngaioimohaaa
open Go.RowKit
set_option linter.unusedVariables false

theorem in_any (n lo hi : Int) (w : World) :
    Calls Try.prog 26 #[.int .i64 n, .int .i64 lo, .int .i64 hi] w fun e w' => e = .returned (.bool (inB n lo hi)) ∧ w = w' := by
  go_enter Try.func26, Try.ntmps26
  go_wp2
  · go_ret
    rename_i h
    exact ⟨ret_bool (by simp [inB, h]), rfl⟩
  · go_ret
    rename_i h
    exact ⟨ret_bool (inB_low h).symm, rfl⟩
theorem byte_at (s : ByteArray) (k : Nat) (h : k < s.size) : s.data.toList[k]? = some s[k] := by
  rw [List.getElem?_eq_getElem (by simpa using h)]; rfl
theorem bytes_end {s : ByteArray} {p : UInt8 → Bool} (h : Hid ((s.data.toList.take s.size).all p = true)) : (dl s).all p = true := by
  have := h.out
  rwa [List.take_of_length_le (by simp)] at this

theorem dec20 (n : Nat) : decide ((n : Int) ≤ 20) = true ↔ n ≤ 20 := by rw [decide_eq_true_iff]; omega
theorem digs20 {s : ByteArray} {b : Bool} (h : Hid ((s.data.toList.take s.size).all digB = true)) (hb : b = true ↔ s.size ≤ 20) : b = (digs s && decide (s.size ≤ 20)) := by
  rw [show digs s = true from bytes_end h, Bool.true_and, Bool.eq_iff_iff, hb, decide_eq_true_iff]
set_option maxHeartbeats 400000 in
theorem allDigits_any (s : ByteArray) (w : World) (hs : s.size ≤ maxLen) :
    Calls Try.prog 55 #[.string s] w fun e w' => e = .returned (.bool (digs s)) ∧ w = w' := by
  unfold maxLen at hs
  go_enter Try.func55, Try.ntmps55
  go_wp2_with fail
  go_loop [3] (fun i => ∃ k : Nat, k ≤ s.size ∧ i = .int .i64 k ∧ Hid ((s.data.toList.take k).all digB = true)) (fun i => s.size - (intOf i).toNat)
  case atStart => exact ⟨0, Nat.zero_le _, rfl, Lib.hid rfl⟩
  case round =>
    obtain ⟨k, hk, rfl, hall⟩ := hrel
    by_cases hlt : k < s.size
    · have Hx := Lib.hid (byte_at s k hlt)
      by_cases h1 : s[k].toNat < 48
      · go_wp2_with fail
        go_ret
        exact ⟨ret_bool (by simp [digs, all_not Hx.out (digB_false.2 (.inl h1))]), rfl⟩
      · by_cases h2 : 57 < s[k].toNat
        · go_wp2_with fail
          go_ret
          exact ⟨ret_bool (by simp [digs, all_not Hx.out (digB_false.2 (.inr h2))]), rfl⟩
        · go_wp2_with fail
          go_round
          case rel => exact ⟨k + 1, by omega, by go_num, Lib.hid (all_snoc hall.out Hx.out (digB_true.2 (by omega)))⟩
          case measure => simp [intOf]; omega
    · have hk' : k = s.size := by omega
      subst hk'
      go_wp2_with fail
      all_goals
        go_ret
        exact ⟨ret_bool ((show digs s = true from bytes_end hall).symm), rfl⟩
set_option maxHeartbeats 400000 in
theorem digitsValid_any (s : ByteArray) (w : World) (hs : s.size ≤ maxLen) :
    Calls Try.prog 52 #[.string s] w fun e w' => e = .returned (.bool ((digs s && decide (s.size ≤ 20)))) ∧ w = w' := by
  unfold maxLen at hs
  go_enter Try.func52, Try.ntmps52
  go_wp2_with fail
  go_loop [3] (fun i => ∃ k : Nat, k ≤ s.size ∧ i = .int .i64 k ∧ Hid ((s.data.toList.take k).all digB = true)) (fun i => s.size - (intOf i).toNat)
  case atStart => exact ⟨0, Nat.zero_le _, rfl, Lib.hid rfl⟩
  case round =>
    obtain ⟨k, hk, rfl, hall⟩ := hrel
    by_cases hlt : k < s.size
    · have Hx := Lib.hid (byte_at s k hlt)
      by_cases h1 : s[k].toNat < 48
      · go_wp2_with fail
        go_ret
        exact ⟨ret_bool (by simp [digs, all_not Hx.out (digB_false.2 (.inl h1))]), rfl⟩
      · by_cases h2 : 57 < s[k].toNat
        · go_wp2_with fail
          go_ret
          exact ⟨ret_bool (by simp [digs, all_not Hx.out (digB_false.2 (.inr h2))]), rfl⟩
        · go_wp2_with fail
          go_round
          case rel => exact ⟨k + 1, by omega, by go_num, Lib.hid (all_snoc hall.out Hx.out (digB_true.2 (by omega)))⟩
          case measure => simp [intOf]; omega
    · have hk' : k = s.size := by omega
      subst hk'
      go_wp2_with fail
      all_goals
        go_ret
        exact ⟨ret_bool (digs20 hall (dec20 _)), rfl⟩
theorem nameB_bad {s : ByteArray} {k : Nat} {x : UInt8} (h : s.data.toList[k]? = some x) (hp : lowB x = false) : nameB s = false := by simp [nameB, all_not h hp]
theorem name_end {s : ByteArray} (h : Hid ((s.data.toList.take s.size).all lowB = true)) : inB (s.size : Int) 1 8 = nameB s := by simp [nameB, bytes_end h]
set_option maxHeartbeats 400000 in
theorem spec_name (s : ByteArray) (w : World) (hs : s.size ≤ maxLen) :
    Calls Try.prog 23 #[.string s] w fun e w' => e = .returned (.bool (nameB s)) ∧ w = w' := by
  unfold maxLen at hs
  go_enter Try.func23, Try.ntmps23
  go_wp2_with fail
  go_loop [3] (fun i => ∃ k : Nat, k ≤ s.size ∧ i = .int .i64 k ∧ Hid ((s.data.toList.take k).all lowB = true)) (fun i => s.size - (intOf i).toNat)
  case atStart => exact ⟨0, Nat.zero_le _, rfl, Lib.hid rfl⟩
  case round =>
    obtain ⟨k, hk, rfl, hall⟩ := hrel
    by_cases hlt : k < s.size
    · have Hx := Lib.hid (byte_at s k hlt)
      by_cases h1 : s[k].toNat < 97
      · go_wp2_with fail
        go_ret
        exact ⟨ret_bool (nameB_bad Hx.out (lowB_false.2 (.inl h1))).symm, rfl⟩
      · by_cases h2 : 122 < s[k].toNat
        · go_wp2_with fail
          go_ret
          exact ⟨ret_bool (nameB_bad Hx.out (lowB_false.2 (.inr h2))).symm, rfl⟩
        · go_wp2_with fail
          go_round
          case rel => exact ⟨k + 1, by omega, by go_num, Lib.hid (all_snoc hall.out Hx.out (lowB_true.2 (by omega)))⟩
          case measure => simp [intOf]; omega
    · have hk' : k = s.size := by omega
      subst hk'
      go_wp2_with fail
      refine (in_any _ _ _ _).mono ?_
      rintro e w' ⟨rfl, rfl⟩
      go_wp2_with fail
      go_ret
      exact ⟨ret_bool (name_end hall), rfl⟩

theorem spec_cv (s : ByteArray) (w : World) (hs : s.size ≤ maxLen) :
    Calls Try.prog 35 #[.string s] w fun e w' => e = .returned (.bool (codeB s)) ∧ w = w' := by
  have hd := digitsValid_any s w hs
  have H := Lib.hid hd
  clear hd
  by_cases h7 : s.size = 7
  · have e1 : ((s.size : Int) == 7) = true := by simp [h7]
    have hc : codeB s = (digs s && decide (s.size ≤ 20)) := by simp [codeB, h7]
    have Hc := Lib.hid hc
    clear h7 hc
    generalize (digs s && decide (s.size ≤ 20)) = g at H Hc
    go_enter Try.func35, Try.ntmps35
    go_wp2_with fail
    refine H.out.mono ?_
    rintro e w' ⟨rfl, rfl⟩
    cases g with
    | false =>
      go_wp2_with fail
      go_ret
      exact ⟨ret_bool Hc.out.symm, rfl⟩
    | true =>
      go_wp2_with fail
      go_ret
      exact ⟨ret_bool Hc.out.symm, rfl⟩
  · have e1 : ((s.size : Int) == 7) = false := by simp; omega
    have Hc := Lib.hid (codeB_len h7)
    clear h7
    generalize (digs s && decide (s.size ≤ 20)) = g at H
    go_enter Try.func35, Try.ntmps35
    go_wp2_with fail
    refine H.out.mono ?_
    rintro e w' ⟨rfl, rfl⟩
    cases g with
    | false =>
      go_wp2_with fail
      go_ret
      exact ⟨ret_bool Hc.out.symm, rfl⟩
    | true =>
      go_wp2_with fail
      go_ret
      exact ⟨ret_bool Hc.out.symm, rfl⟩
theorem impl_cv (s : ByteArray) (w : World) (hs : s.size ≤ maxLen) :
    Calls Try.prog 37 #[.string s] w fun e w' => e = .returned (.bool (codeB s)) ∧ w = w' := by
  have hd := allDigits_any s w hs
  by_cases h7 : s.size = 7
  · have e1 : ((s.size : Int) == 7) = true := by simp [h7]
    have hc : codeB s = digs s := by simp [codeB, h7]
    clear h7
    go_enter Try.func37, Try.ntmps37
    go_wp2_with fail
    refine hd.mono ?_
    rintro e w' ⟨rfl, rfl⟩
    go_wp2_with fail
    go_ret
    exact ⟨ret_bool hc.symm, rfl⟩
  · have e1 : ((s.size : Int) == 7) = false := by simp; omega
    have hc := codeB_len h7
    go_enter Try.func37, Try.ntmps37
    go_wp2_with fail
    go_ret
    exact ⟨ret_bool hc.symm, rfl⟩
theorem spec_pre (s : ByteArray) (w : World) (hs : s.size ≤ maxLen) :
    Calls Try.prog 42 #[.string s] w fun e w' => e = .returned (.bool (preB s)) ∧ w = w' := by
  have hd := digitsValid_any s w hs
  have H := Lib.hid hd
  clear hd
  by_cases h7 : s.size ≤ 7
  · have e1 : decide ((s.size : Int) ≤ 7) = true := decide_eq_true (by omega)
    have hc : preB s = (digs s && decide (s.size ≤ 20)) := by simp [preB, h7, show s.size ≤ 20 by omega]
    have Hc := Lib.hid hc
    have h7' : (s.size : Int) ≤ 7 := by omega
    clear h7 hc
    generalize (digs s && decide (s.size ≤ 20)) = g at H Hc
    go_enter Try.func42, Try.ntmps42
    go_wp2_with fail
    refine H.out.mono ?_
    rintro e w' ⟨rfl, rfl⟩
    cases g with
    | false =>
      go_wp2_with fail
      go_ret
      exact ⟨ret_bool Hc.out.symm, rfl⟩
    | true =>
      go_wp2_with fail
      go_ret
      exact ⟨ret_bool Hc.out.symm, rfl⟩
  · have e1 : decide ((s.size : Int) ≤ 7) = false := decide_eq_false (by omega)
    have Hc := Lib.hid (preB_len (c := s) (by omega))
    have h7' : ¬ (s.size : Int) ≤ 7 := by omega
    clear h7
    generalize (digs s && decide (s.size ≤ 20)) = g at H
    go_enter Try.func42, Try.ntmps42
    go_wp2_with fail
    refine H.out.mono ?_
    rintro e w' ⟨rfl, rfl⟩
    cases g with
    | false =>
      go_wp2_with fail
      go_ret
      exact ⟨ret_bool Hc.out.symm, rfl⟩
    | true =>
      go_wp2_with fail
      go_ret
      exact ⟨ret_bool Hc.out.symm, rfl⟩
theorem impl_pre (s : ByteArray) (w : World) (hs : s.size ≤ maxLen) :
    Calls Try.prog 45 #[.string s] w fun e w' => e = .returned (.bool (preB s)) ∧ w = w' := by
  have hd := allDigits_any s w hs
  by_cases h7 : s.size ≤ 7
  · have h7' : (s.size : Int) ≤ 7 := by omega
    have hc : preB s = digs s := by simp [preB, h7]
    clear h7
    go_enter Try.func45, Try.ntmps45
    go_wp2_with fail
    refine hd.mono ?_
    rintro e w' ⟨rfl, rfl⟩
    go_wp2_with fail
    go_ret
    exact ⟨ret_bool hc.symm, rfl⟩
  · have h7' : ¬ (s.size : Int) ≤ 7 := by omega
    have hc := Lib.hid (preB_len (c := s) (by omega))
    go_enter Try.func45, Try.ntmps45
    go_wp2_with fail
    go_ret
    exact ⟨ret_bool hc.out.symm, rfl⟩
theorem nameB_low {s : ByteArray} (h : s.size < 1 ∨ 8 < s.size) : nameB s = false := by
  have : inB (s.size : Int) 1 8 = false := inB_false.2 (by omega)
  simp [nameB, this]
set_option maxHeartbeats 400000 in
theorem impl_name (s : ByteArray) (w : World) (hs : s.size ≤ maxLen) :
    Calls Try.prog 28 #[.string s] w fun e w' => e = .returned (.bool (nameB s)) ∧ w = w' := by
  unfold maxLen at hs
  by_cases h1 : (s.size : Int) < 1
  · have Hn := Lib.hid (nameB_low (s := s) (by omega))
    go_enter Try.func28, Try.ntmps28
    go_wp2_with fail
    go_ret
    exact ⟨ret_bool Hn.out.symm, rfl⟩
  by_cases h8 : 8 < (s.size : Int)
  · have Hn := Lib.hid (nameB_low (s := s) (by omega))
    go_enter Try.func28, Try.ntmps28
    go_wp2_with fail
    go_ret
    exact ⟨ret_bool Hn.out.symm, rfl⟩
  have Hin : Hid (inB (s.size : Int) 1 8 = true) := Lib.hid (inB_true.2 (by omega))
  go_enter Try.func28, Try.ntmps28
  go_wp2_with fail
  go_loop [3] (fun i => ∃ k : Nat, k ≤ s.size ∧ i = .int .i64 k ∧ Hid ((s.data.toList.take k).all lowB = true)) (fun i => s.size - (intOf i).toNat)
  case atStart => exact ⟨0, Nat.zero_le _, rfl, Lib.hid rfl⟩
  case round =>
    obtain ⟨k, hk, rfl, hall⟩ := hrel
    by_cases hlt : k < s.size
    · have Hx := Lib.hid (byte_at s k hlt)
      by_cases h1 : s[k].toNat < 97
      · go_wp2_with fail
        go_ret
        exact ⟨ret_bool (nameB_bad Hx.out (lowB_false.2 (.inl h1))).symm, rfl⟩
      · by_cases h2 : 122 < s[k].toNat
        · go_wp2_with fail
          go_ret
          exact ⟨ret_bool (nameB_bad Hx.out (lowB_false.2 (.inr h2))).symm, rfl⟩
        · go_wp2_with fail
          go_round
          case rel => exact ⟨k + 1, by omega, by go_num, Lib.hid (all_snoc hall.out Hx.out (lowB_true.2 (by omega)))⟩
          case measure => simp [intOf]; omega
    · have hk' : k = s.size := by omega
      subst hk'
      go_wp2_with fail
      go_ret
      exact ⟨ret_bool (by simp [nameB, Hin.out, bytes_end hall]), rfl⟩

/-- A string begins with another one. -/
theorem begins_ext {c p : ByteArray} (h : p.size ≤ c.size) : ((c.extract 0 p.size).toList == p.toList) = begins c p := by
  rw [str_eq, begins, Bool.eq_iff_iff, decide_eq_true_iff, decide_eq_true_iff, List.prefix_iff_eq_take, dl_length]
  constructor
  · intro e
    rw [← e]
    simp [dl]
  · intro e
    apply dl_inj
    rw [e]
    simp [dl]
theorem begins_long {c p : ByteArray} (h : ¬ p.size ≤ c.size) : begins c p = false := by
  cases hb : begins c p with
  | false => rfl
  | true => exact absurd (begins_le hb) h
theorem spec_begins (s p : ByteArray) (w : World) (hs : s.size ≤ maxLen) (hp : p.size ≤ maxLen) :
    Calls Try.prog 68 #[.string s, .string p] w fun e w' => e = .returned (.bool (begins s p)) ∧ w = w' := by
  unfold maxLen at hs hp
  by_cases hl : p.size ≤ s.size
  · have Hb := Lib.hid (begins_ext hl)
    have hl' : (p.size : Int) ≤ (s.size : Int) := by omega
    go_enter Try.func68, Try.ntmps68
    go_wp2
    all_goals
      go_ret
      exact ⟨ret_bool Hb.out, rfl⟩
  · have Hb := Lib.hid (begins_long hl)
    have hl' : ¬ (p.size : Int) ≤ (s.size : Int) := by omega
    go_enter Try.func68, Try.ntmps68
    go_wp2
    all_goals
      go_ret
      exact ⟨ret_bool Hb.out.symm, rfl⟩
theorem impl_begins (s p : ByteArray) (w : World) (hs : s.size ≤ maxLen) (hp : p.size ≤ maxLen) :
    Calls Try.prog 69 #[.string s, .string p] w fun e w' => e = .returned (.bool (begins s p)) ∧ w = w' := by
  unfold maxLen at hs hp
  by_cases hl : p.size ≤ s.size
  · have Hb := Lib.hid (begins_ext hl)
    have hl' : (p.size : Int) ≤ (s.size : Int) := by omega
    go_enter Try.func69, Try.ntmps69
    go_wp2
    all_goals
      go_ret
      exact ⟨ret_bool Hb.out, rfl⟩
  · have Hb := Lib.hid (begins_long hl)
    have hl' : ¬ (p.size : Int) ≤ (s.size : Int) := by omega
    go_enter Try.func69, Try.ntmps69
    go_wp2
    all_goals
      go_ret
      exact ⟨ret_bool Hb.out.symm, rfl⟩

end Go.Proofs.Ythmngaioimohaaa
