
/- The walks of the functions on codes and batches. -/
import Derived.Test.YtfhnjpjlpddpmaaDoorTy3
namespace Go.Proofs.YtfhnjpjlpddpmaaDoor
open Go.RowKit
set_option linter.unusedVariables false

theorem in_any (n lo hi : Int) (w : World) :
    Calls Tryd.prog 27 #[.int .i64 n, .int .i64 lo, .int .i64 hi] w fun e w' => e = .returned (.bool (inB n lo hi)) ∧ w = w' := by
  go_enter Tryd.func27, Tryd.ntmps27
  go_wp2
  · go_ret
    rename_i h
    exact ⟨ret_bool (by simp [inB, h]), rfl⟩
  · go_ret
    rename_i h
    exact ⟨ret_bool (inB_low h).symm, rfl⟩
theorem byte_at (s : ByteArray) (k : Nat) (h : k < s.size) : s.data.toList[k]? = some s[k] := by
  rw [List.getElem?_eq_getElem (by simpa using h)]; rfl
theorem digs_end {s : ByteArray} (h : Hid ((s.data.toList.take s.size).all digB = true)) : digs s = true := by
  have := h.out
  rwa [List.take_of_length_le (by simp)] at this

theorem dec20 (n : Nat) : decide ((n : Int) ≤ 20) = true ↔ n ≤ 20 := by rw [decide_eq_true_iff]; omega
theorem digs20 {s : ByteArray} {b : Bool} (h : Hid ((s.data.toList.take s.size).all digB = true)) (hb : b = true ↔ s.size ≤ 20) : b = (digs s && decide (s.size ≤ 20)) := by
  rw [digs_end h, Bool.true_and, Bool.eq_iff_iff, hb, decide_eq_true_iff]
set_option maxHeartbeats 400000 in
theorem allDigits_any (s : ByteArray) (w : World) (hs : s.size ≤ maxLen) :
    Calls Tryd.prog 49 #[.string s] w fun e w' => e = .returned (.bool (digs s)) ∧ w = w' := by
  unfold maxLen at hs
  go_enter Tryd.func49, Tryd.ntmps49
  go_wp2_with fail
  go_loop [3] (fun i => ∃ k : Nat, k ≤ s.size ∧ i = .int .i64 k ∧ Hid ((s.data.toList.take k).all digB = true)) (fun i => s.size - (intOf i).toNat)
  case atStart => exact ⟨0, Nat.zero_le _, rfl, Lib.hid rfl⟩
  case round =>
    obtain ⟨k, hk, rfl, hall⟩ := hrel
    by_cases hlt : k < s.size
    · have Hx := Lib.hid (byte_at s k hlt)
      by_cases h1 : s[k].toNat < 48
      · go_wp2_with fail
        go_ret
        exact ⟨ret_bool (by simp [digs, all_not Hx.out (digB_false.2 (.inl h1))]), rfl⟩
      · by_cases h2 : 57 < s[k].toNat
        · go_wp2_with fail
          go_ret
          exact ⟨ret_bool (by simp [digs, all_not Hx.out (digB_false.2 (.inr h2))]), rfl⟩
        · go_wp2_with fail
          go_round
          case rel => exact ⟨k + 1, by omega, by go_num, Lib.hid (all_snoc hall.out Hx.out (digB_true.2 (by omega)))⟩
          case measure => simp [intOf]; omega
    · have hk' : k = s.size := by omega
      subst hk'
      go_wp2_with fail
      all_goals
        go_ret
        exact ⟨ret_bool ((digs_end hall).symm), rfl⟩
set_option maxHeartbeats 400000 in
theorem digitsValid_any (s : ByteArray) (w : World) (hs : s.size ≤ maxLen) :
    Calls Tryd.prog 50 #[.string s] w fun e w' => e = .returned (.bool ((digs s && decide (s.size ≤ 20)))) ∧ w = w' := by
  unfold maxLen at hs
  go_enter Tryd.func50, Tryd.ntmps50
  go_wp2_with fail
  go_loop [3] (fun i => ∃ k : Nat, k ≤ s.size ∧ i = .int .i64 k ∧ Hid ((s.data.toList.take k).all digB = true)) (fun i => s.size - (intOf i).toNat)
  case atStart => exact ⟨0, Nat.zero_le _, rfl, Lib.hid rfl⟩
  case round =>
    obtain ⟨k, hk, rfl, hall⟩ := hrel
    by_cases hlt : k < s.size
    · have Hx := Lib.hid (byte_at s k hlt)
      by_cases h1 : s[k].toNat < 48
      · go_wp2_with fail
        go_ret
        exact ⟨ret_bool (by simp [digs, all_not Hx.out (digB_false.2 (.inl h1))]), rfl⟩
      · by_cases h2 : 57 < s[k].toNat
        · go_wp2_with fail
          go_ret
          exact ⟨ret_bool (by simp [digs, all_not Hx.out (digB_false.2 (.inr h2))]), rfl⟩
        · go_wp2_with fail
          go_round
          case rel => exact ⟨k + 1, by omega, by go_num, Lib.hid (all_snoc hall.out Hx.out (digB_true.2 (by omega)))⟩
          case measure => simp [intOf]; omega
    · have hk' : k = s.size := by omega
      subst hk'
      go_wp2_with fail
      all_goals
        go_ret
        exact ⟨ret_bool (digs20 hall (dec20 _)), rfl⟩

theorem spec_cv (s : ByteArray) (w : World) (hs : s.size ≤ maxLen) :
    Calls Tryd.prog 41 #[.string s] w fun e w' => e = .returned (.bool (codeB s)) ∧ w = w' := by
  have hd := digitsValid_any s w hs
  by_cases h7 : s.size = 7
  · have e1 : ((s.size : Int) == 7) = true := by simp [h7]
    have H7 := Lib.hid h7
    have h20 : decide (s.size ≤ 20) = true := decide_eq_true (by omega)
    rw [h20, Bool.and_true] at hd
    clear h7 h20
    cases hdg : digs s with
    | false =>
      rw [hdg] at hd
      go_enter Tryd.func41, Tryd.ntmps41
      go_wp2_with fail
      refine hd.mono ?_
      rintro e w' ⟨rfl, rfl⟩
      go_wp2_with fail
      go_ret
      exact ⟨ret_bool (codeB_dig hdg).symm, rfl⟩
    | true =>
      rw [hdg] at hd
      go_enter Tryd.func41, Tryd.ntmps41
      go_wp2_with fail
      refine hd.mono ?_
      rintro e w' ⟨rfl, rfl⟩
      go_wp2_with fail
      go_ret
      exact ⟨ret_bool (codeB_mk H7.out hdg).symm, rfl⟩
  · have e1 : ((s.size : Int) == 7) = false := by simp; omega
    have hc := codeB_len h7
    cases hdg : (digs s && decide (s.size ≤ 20)) with
    | false =>
      rw [hdg] at hd
      go_enter Tryd.func41, Tryd.ntmps41
      go_wp2_with fail
      refine hd.mono ?_
      rintro e w' ⟨rfl, rfl⟩
      go_wp2_with fail
      go_ret
      exact ⟨ret_bool hc.symm, rfl⟩
    | true =>
      rw [hdg] at hd
      go_enter Tryd.func41, Tryd.ntmps41
      go_wp2_with fail
      refine hd.mono ?_
      rintro e w' ⟨rfl, rfl⟩
      go_wp2_with fail
      go_ret
      exact ⟨ret_bool hc.symm, rfl⟩
theorem impl_cv (s : ByteArray) (w : World) (hs : s.size ≤ maxLen) :
    Calls Tryd.prog 40 #[.string s] w fun e w' => e = .returned (.bool (codeB s)) ∧ w = w' := by
  have hd := allDigits_any s w hs
  by_cases h7 : s.size = 7
  · have e1 : ((s.size : Int) == 7) = true := by simp [h7]
    have hc : codeB s = digs s := by simp [codeB, h7]
    clear h7
    go_enter Tryd.func40, Tryd.ntmps40
    go_wp2_with fail
    refine hd.mono ?_
    rintro e w' ⟨rfl, rfl⟩
    go_wp2_with fail
    go_ret
    exact ⟨ret_bool hc.symm, rfl⟩
  · have e1 : ((s.size : Int) == 7) = false := by simp; omega
    have hc := codeB_len h7
    go_enter Tryd.func40, Tryd.ntmps40
    go_wp2_with fail
    go_ret
    exact ⟨ret_bool hc.symm, rfl⟩

/-- Codes of letters that are strings of Go's. -/
def Szs (xs : List Ltr) : Prop := ∀ x ∈ xs, x.2.size ≤ maxLen

set_option maxRecDepth 100000 in
set_option maxHeartbeats 1000000 in
theorem spec_bv (v : Value) (xs : List Ltr) (w : World) (h : Lt w v xs) (hs : Szs xs) :
    Calls Tryd.prog 29 #[v] w fun e w' => e = .returned (.bool (bv xs)) ∧ Below w.heap.size w w' := by
  obtain ⟨A, c, rfl, hA, hc1, hc2⟩ := h
  unfold maxLen at hc2
  have Hs := Lib.hid hs
  clear hs
  go_enter Tryd.func29, Tryd.ntmps29
  go_wp2_with fail
  go_loopw [3] (fun i wr => ∃ k : Nat, k ≤ xs.length ∧ i = .int .i64 k ∧ (∃ n, wr = w.drewN n) ∧ Hid (BvTo xs k)) (fun i _ => xs.length - (intOf i).toNat)
  case atStart => exact ⟨0, Nat.zero_le _, rfl, ⟨0, rfl⟩, Lib.hid (bvTo_zero _)⟩
  case round =>
    obtain ⟨k, hk, rfl, ⟨n, rfl⟩, hto⟩ := hrel
    by_cases hlt : k < xs.length
    · obtain ⟨ad, x, rfl, hx, hcA, hcB⟩ := hA.two hlt
      have hsz := Hs.out x (List.mem_of_getElem? hx)
      have Hx := Lib.hid hx
      simp only [ltf] at hcA hcB
      clear hx
      go_wp2_with fail
      refine (spec_cv x.2 _ hsz).mono ?_
      rintro e w' ⟨rfl, rfl⟩
      cases hcv : codeB x.2 with
      | false =>
        go_wp2_with fail
        go_ret
        exact ⟨ret_bool (bv_code Hx.out hcv).symm, below_of_drewN _ _⟩
      | true =>
        go_wp2_with fail
        refine (in_any _ _ _ _).mono ?_
        rintro e w' ⟨rfl, rfl⟩
        cases hid : inB x.1 1 9999 with
        | false =>
          go_wp2_with fail
          go_ret
          exact ⟨ret_bool (bv_id Hx.out hid).symm, below_of_drewN _ _⟩
        | true =>
          go_wp2_with fail
          go_loopw [4] (fun i wr => ∃ j : Nat, j ≤ k ∧ i = .int .i64 j ∧ (∃ n, wr = w.drewN n) ∧ Hid (∀ m, m < j → ∀ y, xs[m]? = some y → y.1 ≠ x.1)) (fun i _ => k - (intOf i).toNat)
          case atStart => exact ⟨0, Nat.zero_le _, rfl, ⟨n, rfl⟩, Lib.hid (by intro m hm; omega)⟩
          case round =>
            obtain ⟨j, hj, rfl, ⟨n, rfl⟩, hne⟩ := hrel
            by_cases hjk : j < k
            · obtain ⟨ad2, y, e2, hy, hcC, hcD⟩ := hA.two (k := j) (by omega)
              injection e2 with e2
              subst e2
              have Hy := Lib.hid hy
              simp only [ltf] at hcC hcD
              clear hy
              have hjl : j < xs.length := by omega
              by_cases hyx : y.1 = x.1
              · have e1 : (y.1 == x.1) = true := by simp [hyx]
                have Hyx := Lib.hid hyx
                clear hyx
                go_wp2_with fail
                go_quiet (fail)
                go_wp2_with fail
                go_ret
                exact ⟨ret_bool (bv_dup hjk Hy.out Hx.out Hyx.out).symm, below_drewN (below_of_drewN _ _) _⟩
              · have e1 : (y.1 == x.1) = false := by simp [hyx]
                go_wp2_with fail
                go_quiet (fail)
                go_wp2_with fail
                go_roundw
                case rel =>
                  refine ⟨j + 1, by omega, by go_num, ⟨_, rfl⟩, Lib.hid ?_⟩
                  intro m hm z hz
                  rcases Nat.lt_or_ge m j with h1 | h1
                  · exact hne.out m h1 z hz
                  · have : m = j := by omega
                    subst this
                    rw [Hy.out] at hz
                    injection hz with hz
                    subst hz; exact hyx
                case measure => simp [intOf]; omega
            · have hj' : j = k := by omega
              subst hj'
              go_wp2_with fail
              go_roundw
              case rel => exact ⟨j + 1, by omega, by go_num, ⟨n, rfl⟩, Lib.hid (bvTo_step hto.out Hx.out hcv (inB_true.1 hid) hne.out)⟩
              case measure => simp [intOf]; omega
    · have hk' : k = xs.length := by omega
      subst hk'
      go_wp2_with fail
      all_goals
        go_ret
        exact ⟨ret_bool (by rw [bvTo_end hto.out]; simp; omega), below_of_drewN _ _⟩


theorem addr_block (a : Addr) (m : Nat) : (a.add m).block = a.block := addr_add_block a m
set_option maxRecDepth 100000 in
set_option maxHeartbeats 1000000 in
theorem impl_bv (v : Value) (xs : List Ltr) (w : World) (h : Lt w v xs) (hs : Szs xs) :
    Calls Tryd.prog 24 #[v] w fun e w' => e = .returned (.bool (bv xs)) ∧ Below w.heap.size w w' := by
  obtain ⟨A, c, rfl, hA, hc1, hc2⟩ := h
  have hc2' := hc2
  unfold maxLen at hc2
  have Hs := Lib.hid hs
  clear hs
  by_cases hlong : 60 < xs.length
  · go_enter Tryd.func24, Tryd.ntmps24
    go_wp2_with fail
    go_ret
    exact ⟨ret_bool (bv_long hlong).symm, Below.refl _ _⟩
  go_enter Tryd.func24, Tryd.ntmps24
  go_wp2_with fail
  go_loopw [12] (fun i wr => ∃ k : Nat, k ≤ xs.length ∧ i = .int .i64 k ∧ Below w.heap.size w wr ∧ Hid (BvTo xs k)) (fun i _ => xs.length - (intOf i).toNat)
  case atStart => exact ⟨0, Nat.zero_le _, rfl, Below.refl _ _, Lib.hid (bvTo_zero _)⟩
  case round =>
    obtain ⟨k, hk, rfl, hb, hto⟩ := hrel
    by_cases hlt : k < xs.length
    · obtain ⟨ad, x, rfl, hx, hcA, hcB⟩ := (hA.below hb).two hlt
      have hsz := Hs.out x (List.mem_of_getElem? hx)
      have Hx := Lib.hid hx
      simp only [ltf] at hcA hcB
      clear hx
      by_cases hid1 : x.1 < 1
      · go_wp2_with fail
        go_ret
        exact ⟨ret_bool (bv_id Hx.out (inB_false.2 (.inl hid1))).symm, hb.alloc hb.size _⟩
      by_cases hid2 : 9999 < x.1
      · go_wp2_with fail
        go_ret
        exact ⟨ret_bool (bv_id Hx.out (inB_false.2 (.inr hid2))).symm, hb.alloc hb.size _⟩
      go_wp2_with fail
      refine (impl_cv x.2 _ hsz).mono ?_
      rintro e w' ⟨rfl, rfl⟩
      cases hcv : codeB x.2 with
      | false =>
        go_wp2_with fail
        go_ret
        exact ⟨ret_bool (bv_code Hx.out hcv).symm, hb.alloc hb.size _⟩
      | true =>
        go_wp2_with fail
        obtain ⟨wo, hwo⟩ : ∃ wo, wo = wr.alloc (.cells #[.int .i64 x.1, .string x.2] 35) := ⟨_, rfl⟩
        have hbo : Below w.heap.size w wo := by rw [hwo]; exact hb.alloc hb.size _
        have c0 : wo.cell? ⟨wr.heap.size, 0, none⟩ = some (.int .i64 x.1) := by rw [hwo]; exact World.cell?_alloc_at _ _ _ _ rfl
        rw [← hwo]
        obtain ⟨B, hB⟩ : ∃ B, B = wr.heap.size := ⟨_, rfl⟩
        rw [← hB] at c0 ⊢
        have Hbo := Lib.hid hbo
        have C0 := Lib.hid c0
        clear hbo c0 hwo hB hb hcA hcB
        go_loopw [35] (fun i wj => ∃ j : Nat, j ≤ k ∧ i = .int .i64 j ∧ Below wo.heap.size wo wj ∧ Hid (∀ m, m < j → ∀ y, xs[m]? = some y → y.1 ≠ x.1)) (fun i _ => k - (intOf i).toNat)
        case atStart => exact ⟨0, Nat.zero_le _, rfl, Below.refl _ _, Lib.hid (by intro m hm; omega)⟩
        case round =>
          obtain ⟨j, hj, rfl, hbj, hne⟩ := hrel
          have Hbj := Lib.hid (below_trans' Hbo.out hbj)
          by_cases hjk : j < k
          · obtain ⟨ad2, y, e2, hy, hcC, hcD⟩ := (hA.below Hbj.out).two (k := j) (by omega)
            injection e2 with e2
            subst e2
            have Hy := Lib.hid hy
            simp only [ltf] at hcC hcD
            have c1 := cell_later hbj C0.out
            have hBl := World.block_lt_of_cell? _ _ c1
            simp only at hBl
            have c2 : (wr.alloc (.cells #[.int .i64 y.1, .string y.2] 35)).cell? ⟨B, 0, none⟩ = some (.int .i64 x.1) := cell_later ((Below.refl _ _).alloc (Nat.le_refl _) _) c1
            clear hy
            by_cases hyx : y.1 = x.1
            · have e1 : (y.1 == x.1) = true := by simp [hyx]
              have Hyx := Lib.hid hyx
              clear hyx
              go_wp2_with fail
              go_ret
              exact ⟨ret_bool (bv_dup hjk Hy.out Hx.out Hyx.out).symm, Hbj.out.alloc Hbj.out.size _⟩
            · have e1 : (y.1 == x.1) = false := by simp [hyx]
              go_wp2_with fail
              go_roundw
              case rel =>
                refine ⟨j + 1, by omega, by go_num, hbj.alloc (Nat.le_trans (Nat.le_refl _) hbj.size) _, Lib.hid ?_⟩
                intro m hm z hz
                rcases Nat.lt_or_ge m j with h1 | h1
                · exact hne.out m h1 z hz
                · have : m = j := by omega
                  subst this
                  rw [Hy.out] at hz
                  injection hz with hz
                  subst hz; exact hyx
              case measure => simp [intOf]; omega
          · have hj' : j = k := by omega
            subst hj'
            go_wp2_with fail
            go_roundw
            case rel => exact ⟨j + 1, by omega, by go_num, Hbj.out, Lib.hid (bvTo_step hto.out Hx.out hcv (by omega) hne.out)⟩
            case measure => simp [intOf]; omega
    · have hk' : k = xs.length := by omega
      subst hk'
      go_wp2_with fail
      go_ret
      exact ⟨ret_bool (by rw [bvTo_end hto.out]; simp; omega), hb⟩

end Go.Proofs.YtfhnjpjlpddpmaaDoor
