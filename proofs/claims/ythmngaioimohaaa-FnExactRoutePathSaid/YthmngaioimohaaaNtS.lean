
/- The walks of the small functions on slices of strings: comparison, marks. -/
import Derived.Test.YthmngaioimohaaaNtP2
import Derived.Test.YthmngaioimohaaaNtC
namespace Go.Proofs.Ythmngaioimohaaa
open Go.RowKit
set_option linter.unusedVariables false

set_option maxRecDepth 100000 in
set_option maxHeartbeats 800000 in
theorem eqS_c (v u : Value) (xs : List ByteArray) (w : World) (h : IS w v xs) (hu : IS w u xs) :
    Calls Try.prog 18 #[v, u] w fun e w' => e = .returned (.bool true) ∧ Below w.heap.size w w' := by
  obtain ⟨A, c, rfl, hA, hc1, hc2⟩ := h
  obtain ⟨D, d, rfl, hD, hd1, hd2⟩ := hu
  unfold maxLen at hc2 hd2
  have HA := Lib.hid hA
  have HD := Lib.hid hD
  have hl1 : ((xs.length : Int) != (xs.length : Int)) = false := by simp
  clear hA hD
  go_enter Try.func18, Try.ntmps18
  go_wp2_with fail
  go_loopw [5] (fun i wr => ∃ k : Nat, k ≤ xs.length ∧ i = .int .i64 k ∧ Hid (Below w.heap.size w wr)) (fun i _ => xs.length - (intOf i).toNat)
  case atStart => exact ⟨0, Nat.zero_le _, rfl, Lib.hid (Below.refl _ _)⟩
  case round =>
    obtain ⟨k, hk, rfl, Hb⟩ := hrel
    by_cases hlt : k < xs.length
    · have hx := List.getElem?_eq_getElem hlt
      generalize xs[k] = x at hx
      obtain ⟨ad, rfl, hcA⟩ := (HA.out.below Hb.out) k _ (strs_get hx)
      obtain ⟨ad2, rfl, hcB⟩ := (HD.out.below Hb.out) k _ (strs_get hx)
      have e1 := str_same (rfl : x = x)
      clear hx
      go_wp2_with fail
      go_quiet (fail)
      go_wp2_with fail
      go_roundw
      case rel => exact ⟨k + 1, by omega, by go_num, Lib.hid (below_drewN Hb.out _)⟩
      case measure => simp [intOf]; omega
    · have hk' : k = xs.length := by omega
      subst hk'
      go_wp2_with fail
      go_ret
      exact ⟨rfl, Hb.out⟩

/-- n marks from k on. -/
def mkS (k0 n : Nat) : List ByteArray := (List.range n).map fun i => mt (k0 + i)
theorem mkS_length (k0 n : Nat) : (mkS k0 n).length = n := by simp [mkS]
theorem mkS_get {k0 n k : Nat} (h : k < n) : (mkS k0 n)[k]? = some (mt (k0 + k)) := by simp [mkS, h]

set_option maxRecDepth 100000 in
set_option maxHeartbeats 800000 in
theorem markS (v : Value) (B : Nat) (xs : List ByteArray) (x0 : Int) (k0 : Nat) (hx0 : x0 = (k0 : Int)) (w : World) (h : w.ownsRow B 9 1 v xs.length (strs xs)) (hn : xs.length ≤ 1048576) (h1 : k0 ≤ 1099511627) :
    Calls Try.prog 20 #[v, .int .i64 x0] w fun e w' => e = .returned (.int .i64 ((k0 : Int) + (xs.length : Int))) ∧ w'.ownsRow B 9 1 v xs.length (strs (mkS k0 xs.length)) ∧ w.grownBy w' v.ownBlock := by
  subst hx0
  obtain ⟨A, c, rfl⟩ := own_shape h
  have H0 : Hid (∃ ys, Filled ys (mkS k0 xs.length) 0 ∧ w.ownsRow B 9 1 (.slice A xs.length c) xs.length (strs ys)) := Lib.hid ⟨xs, ⟨by simp [mkS], rfl⟩, h⟩
  clear h
  go_enter Try.func20, Try.ntmps20
  go_wp2_with fail
  go_loopw [1, 5] (fun kk i wr => ∃ k : Nat, k ≤ xs.length ∧ i = .int .i64 k ∧ kk = .int .i64 ((k0 : Int) + (k : Int)) ∧ Hid (w.grownBy wr (Value.slice A xs.length c).ownBlock) ∧
      Hid (∃ ys, Filled ys (mkS k0 xs.length) k ∧ wr.ownsRow B 9 1 (.slice A xs.length c) xs.length (strs ys))) (fun _ i _ => xs.length - (intOf i).toNat)
  case atStart => exact ⟨0, Nat.zero_le _, rfl, by simp, Lib.hid (World.grownBy.refl _ _), H0⟩
  case round =>
    obtain ⟨k, hk, rfl, rfl, Hgr, Hys⟩ := hrel
    obtain ⟨ys, hf, hown⟩ := Hys.out
    clear Hys H0
    by_cases hlt : k < xs.length
    · obtain ⟨g, rfl⟩ := own_some hown (by omega)
      have hyk : k < ys.length := by rw [hf.len, mkS_length]; exact hlt
      have Hg0 := Lib.hid (strs_get (List.getElem?_eq_getElem hyk))
      have Hown := Lib.hid hown
      have Hf := Lib.hid hf
      clear hown hf
      go_wp2_with fail
      refine (markText_int _ (k0 + k) (by omega) _ (by omega)).mono ?_
      rintro e w1 ⟨rfl, hb1⟩
      have hown1 := own_below Hown.out hb1
      have hc2 : w1.cell? ⟨g, k, none⟩ = some (.string ys[k]) := (hown1.cellAt _ (by omega)).trans Hg0.out
      have hfz : w1.frozen? ⟨g, k, none⟩ = false := hown1.frozenAt _
      have hst1 := hown1.stored k (.string (mt (k0 + k)))
      rw [strs_set] at hst1
      have Hgr1 := Lib.hid ((Hgr.out.trans ⟨hb1.os, hb1.tape, hb1.output, hb1.size, fun j hj _ => hb1.block j hj⟩).trans (by simpa [Value.ownBlock] using hst1.2))
      have Hst1 := Lib.hid hst1.1
      have Hf2 := Lib.hid (Hf.out.step (mkS_get hlt))
      clear hst1 hown1 hb1 Hgr Hown
      go_wp2_with fail
      go_roundw
      case rel => exact ⟨k + 1, by omega, by go_num, by go_num, Hgr1, Lib.hid ⟨_, Hf2.out, Hst1.out⟩⟩
      case measure => simp [intOf]; omega
    · have hk' : k = xs.length := by omega
      subst hk'
      have hys : ys = mkS k0 xs.length := by
        have := hf.head
        rwa [List.take_of_length_le (by rw [hf.len, mkS_length]; exact Nat.le_refl _), List.take_of_length_le (by rw [mkS_length]; exact Nat.le_refl _)] at this
      subst hys
      have Hown := Lib.hid hown
      clear hown hf
      go_wp2_with fail
      go_ret
      exact ⟨rfl, Hown.out, Hgr.out⟩

set_option maxRecDepth 100000 in
set_option maxHeartbeats 800000 in
theorem heldS (v : Value) (n : Nat) (x0 : Int) (k0 : Nat) (hx0 : x0 = (k0 : Int)) (w : World) (h : IS w v (mkS k0 n)) (hn : n ≤ 1048576) (h1 : k0 ≤ 1099511627) :
    Calls Try.prog 21 #[v, .int .i64 x0] w fun e w' => e = .returned (.int .i64 ((k0 : Int) + (n : Int))) ∧ Below w.heap.size w w' := by
  subst hx0
  obtain ⟨A, c, rfl, hA, hc1, hc2⟩ := h
  rw [mkS_length] at hc1 ⊢
  unfold maxLen at hc2
  have HA := Lib.hid hA
  clear hA
  go_enter Try.func21, Try.ntmps21
  go_wp2_with fail
  go_loopw [1, 5] (fun kk i wr => ∃ k : Nat, k ≤ n ∧ i = .int .i64 k ∧ kk = .int .i64 ((k0 : Int) + (k : Int)) ∧ Hid (Below w.heap.size w wr)) (fun _ i _ => n - (intOf i).toNat)
  case atStart => exact ⟨0, Nat.zero_le _, rfl, by simp, Lib.hid (Below.refl _ _)⟩
  case round =>
    obtain ⟨k, hk, rfl, rfl, Hb⟩ := hrel
    by_cases hlt : k < n
    · obtain ⟨ad, rfl, hcA⟩ := (HA.out.below Hb.out) k _ (strs_get (mkS_get hlt))
      have e1 : ((mt (k0 + k)).toList == (mt (k0 + k)).toList) = true := str_same rfl
      go_wp2_with fail
      go_region_with ((go_at_call 39; refine (markText_int _ (k0 + k) (by omega) _ (by omega)).mono ?_; rintro e w1 ⟨rfl, hb1⟩; have hcA1 := cell_later hb1 hcA))
      all_goals
        replace Hb := Lib.hid (below_trans' Hb.out.drew hb1)
        clear hb1 hcA1 hcA
        go_wp2_with fail
        go_roundw
        case rel => exact ⟨k + 1, by omega, by go_num, by go_num, Hb⟩
        case measure => simp [intOf]; omega
    · have hk' : k = n := by omega
      subst hk'
      go_wp2_with fail
      go_ret
      exact ⟨rfl, Hb.out⟩

end Go.Proofs.Ythmngaioimohaaa
