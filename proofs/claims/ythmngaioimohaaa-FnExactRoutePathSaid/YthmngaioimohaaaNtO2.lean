
/- The walks of the small functions on offices: comparisons and sizes. -/
import Derived.Test.YthmngaioimohaaaNtO
namespace Go.Proofs.Ythmngaioimohaaa
open Go.RowKit
set_option linter.unusedVariables false

set_option maxRecDepth 100000 in
set_option maxHeartbeats 800000 in
theorem eqOffice_any (s : ByteArray) (v u : Value) (rs : List Rul) (w : World) (h : Rt w v rs) (hu : Rt w u rs) :
    Calls Try.prog 31 #[.agg #[.string s, v], .agg #[.string s, u]] w fun e w' => e = .returned (.bool true) ∧ Below w.heap.size w w' := by
  obtain ⟨A, c, rfl, hA, hc1, hc2⟩ := h
  obtain ⟨D, d, rfl, hD, hd1, hd2⟩ := hu
  have H := Lib.hid (show Rt w (.slice A rs.length c) rs from ⟨A, c, rfl, hA, hc1, hc2⟩)
  have Hu := Lib.hid (show Rt w (.slice D rs.length d) rs from ⟨D, d, rfl, hD, hd1, hd2⟩)
  have e2 := str_same (rfl : s = s)
  have Hb0 : Hid (∀ o1 o2, Below w.heap.size w ((w.alloc o1).alloc o2)) := Lib.hid fun o1 o2 => below2 w o1 o2
  clear hA hD
  go_enter Try.func31, Try.ntmps31
  go_wp2_with fail
  refine (eqR_c _ _ rs _ (H.out.below (Hb0.out _ _)) (Hu.out.below (Hb0.out _ _))).mono ?_
  rintro e w2 ⟨rfl, hb2⟩
  go_wp2_with fail
  go_ret
  exact ⟨rfl, below_step (Hb0.out _ _) (Hb0.out _ _).size hb2⟩

set_option maxRecDepth 100000 in
set_option maxHeartbeats 800000 in
theorem eqO_c (v u : Value) (net : List Off) (w : World) (h : InO w v net) (hu : InO w u net) :
    Calls Try.prog 11 #[v, u] w fun e w' => e = .returned (.bool true) ∧ Below w.heap.size w w' := by
  have H := Lib.hid h
  have Hu := Lib.hid hu
  obtain ⟨A, c, rfl, hc1, hc2⟩ := h.form
  obtain ⟨D, d, rfl, hd1, hd2⟩ := hu.form
  unfold maxLen at hc2 hd2
  have hl1 : ((net.length : Int) != (net.length : Int)) = false := by simp
  clear h hu
  go_enter Try.func11, Try.ntmps11
  go_wp2_with fail
  go_loopw [5] (fun i wr => ∃ k : Nat, k ≤ net.length ∧ i = .int .i64 k ∧ Below w.heap.size w wr) (fun i _ => net.length - (intOf i).toNat)
  case atStart => exact ⟨0, Nat.zero_le _, rfl, Below.refl _ _⟩
  case round =>
    obtain ⟨k, hk, rfl, hb⟩ := hrel
    by_cases hlt : k < net.length
    · obtain ⟨ad, o, x, rfl, ho, hcA, hcB, hrx⟩ := (H.out.below hb).at_ hlt
      obtain ⟨ad2, o2, y, rfl, ho2, hcC, hcD, hry⟩ := (Hu.out.below hb).at_ hlt
      rw [ho] at ho2
      injection ho2 with ho2
      subst ho2
      have Hrx := Lib.hid hrx
      have Hry := Lib.hid hry
      obtain ⟨XA, xc, rfl, _, _, _⟩ := hrx
      obtain ⟨YA, yc, rfl, _, _, _⟩ := hry
      clear ho
      go_wp2_with fail
      go_still_tail 8, (by kernel_rfl)
      go_wp2_with fail
      refine (eqOffice_any o.1 _ _ o.2 _ (Hrx.out.below (by exact (Below.refl _ _).drew)) (Hry.out.below (by exact (Below.refl _ _).drew))).mono ?_
      rintro e w2 ⟨rfl, hb2⟩
      replace hb := below_trans' hb.drew hb2
      clear hb2
      go_wp2_with fail
      go_roundw
      case rel => exact ⟨k + 1, by omega, by go_num, hb⟩
      case measure => simp [intOf]; omega
    · have hk' : k = net.length := by omega
      subst hk'
      go_wp2_with fail
      go_ret
      exact ⟨rfl, hb⟩

set_option maxRecDepth 100000 in
set_option maxHeartbeats 400000 in
theorem szOffice_any (s : ByteArray) (v : Value) (rs : List Rul) (left : Int) (w : World) (h : Rt w v rs) (h0 : 0 ≤ left) (h1 : left ≤ 1048576) (hs1 : s.size ≤ maxLen) (hs2 : Szr rs) :
    Calls Try.prog 22 #[.agg #[.string s, v], .int .i64 left] w fun e w' => (∃ z : Int, e = .returned (.int .i64 z) ∧ -1 ≤ z ∧ z ≤ left ∧ (0 ≤ z → rs.length ≤ 1048576)) ∧ Below w.heap.size w w' := by
  obtain ⟨A, c, rfl, hA, hc1, hc2⟩ := h
  have H := Lib.hid (show Rt w (.slice A rs.length c) rs from ⟨A, c, rfl, hA, hc1, hc2⟩)
  have Hs2 := Lib.hid hs2
  have Hb0 : Hid (∀ o1, Below w.heap.size w (w.alloc o1)) := Lib.hid fun o1 => (Below.refl _ _).alloc (Nat.le_refl _) o1
  unfold maxLen at hs1
  clear hA hs2
  by_cases hlt : left - s.size < 0
  · go_enter Try.func22, Try.ntmps22
    go_wp2_with fail
    go_ret
    exact ⟨⟨-1, rfl, by omega, by omega, by omega⟩, Hb0.out _⟩
  · go_enter Try.func22, Try.ntmps22
    go_wp2_with fail
    refine (szR_c _ rs _ _ (H.out.below (Hb0.out _)) Hs2.out (by omega) (by omega)).mono ?_
    rintro e w2 ⟨⟨z, rfl, z1, z2, z3⟩, hb2⟩
    have Hz : Hid (0 ≤ z → rs.length ≤ 1048576) := Lib.hid fun hz => (z3 hz).len
    have Hb2 := Lib.hid (below_step (Hb0.out _) (Hb0.out _).size hb2)
    clear z3 hb2
    by_cases hzn : z < 0
    · go_wp2_with fail
      go_ret
      exact ⟨⟨-1, rfl, by omega, by omega, by omega⟩, Hb2.out⟩
    · go_wp2_with fail
      go_ret
      exact ⟨⟨z, rfl, by omega, by omega, Hz.out⟩, Hb2.out⟩

set_option maxRecDepth 100000 in
set_option maxHeartbeats 800000 in
theorem szO_c (v : Value) (net : List Off) (left : Int) (w : World) (h : InO w v net) (hs : SzO net) (h0 : 0 ≤ left) (h1 : left ≤ 1048576) :
    Calls Try.prog 7 #[v, .int .i64 left] w fun e w' => (∃ z : Int, e = .returned (.int .i64 z) ∧ -1 ≤ z ∧ z ≤ left ∧ (0 ≤ z → SmO net)) ∧ Below w.heap.size w w' := by
  have H := Lib.hid h
  have Hs := Lib.hid hs
  obtain ⟨A, c, rfl, hc1, hc2⟩ := h.form
  unfold maxLen at hc2
  clear h hs
  by_cases hlt : left - net.length < 0
  · go_enter Try.func7, Try.ntmps7
    go_wp2_with fail
    go_ret
    exact ⟨⟨-1, rfl, by omega, by omega, by omega⟩, Below.refl _ _⟩
  · go_enter Try.func7, Try.ntmps7
    go_wp2_with fail
    go_loopw [1, 5] (fun l i wr => ∃ (k : Nat) (z : Int), k ≤ net.length ∧ i = .int .i64 k ∧ l = .int .i64 z ∧ 0 ≤ z ∧ z ≤ left ∧ Below w.heap.size w wr ∧ Hid (∀ j o, j < k → net[j]? = some o → o.2.length ≤ 1048576)) (fun _ i _ => net.length - (intOf i).toNat)
    case atStart => exact ⟨0, _, Nat.zero_le _, rfl, rfl, by omega, by omega, Below.refl _ _, Lib.hid (by intro j o hj; omega)⟩
    case round =>
      obtain ⟨k, z, hk, rfl, rfl, hz0, hz1, hb, hall⟩ := hrel
      by_cases hkl : k < net.length
      · obtain ⟨ad, o, x, rfl, ho, hcA, hcB, hrx⟩ := (H.out.below hb).at_ hkl
        have hos := Hs.out o (List.mem_of_getElem? ho)
        have Ho := Lib.hid ho
        have HX := Lib.hid (szOffice_any o.1 x o.2 z wr hrx hz0 (by omega) hos.1 hos.2)
        obtain ⟨XA, xc, rfl, _, _, _⟩ := hrx
        clear ho hos
        go_wp2_with fail
        refine HX.out.mono ?_
        rintro e w2 ⟨⟨y, rfl, hy0, hy1, hy⟩, hb2⟩
        replace hb := below_trans' hb hb2
        have Hy := Lib.hid hy
        clear hy hb2
        by_cases hyn : y < 0
        · go_wp2_with fail
          go_ret
          exact ⟨⟨-1, rfl, by omega, by omega, by omega⟩, hb⟩
        · have Hall : Hid (∀ j o, j < k + 1 → net[j]? = some o → o.2.length ≤ 1048576) := Lib.hid fun j q hj hq => by
            rcases Nat.lt_or_ge j k with h | h
            · exact hall.out j q h hq
            · have : j = k := by omega
              subst this
              rw [Ho.out] at hq
              injection hq with hq
              subst hq
              exact Hy.out (by omega)
          go_wp2_with fail
          go_roundw
          case rel => exact ⟨k + 1, y, by omega, by go_num, rfl, by omega, by omega, hb, Hall⟩
          case measure => simp [intOf]; omega
      · have hk' : k = net.length := by omega
        subst hk'
        have Hall := Lib.hid hall.out
        clear hall
        go_wp2_with fail
        go_ret
        exact ⟨⟨z, rfl, by omega, by omega, fun _ => ⟨by omega, fun o ho => by
          obtain ⟨j, hj⟩ := List.getElem?_of_mem ho
          exact Hall.out j o (List.getElem?_eq_some_iff.1 hj).1 hj⟩⟩, hb⟩

end Go.Proofs.Ythmngaioimohaaa
