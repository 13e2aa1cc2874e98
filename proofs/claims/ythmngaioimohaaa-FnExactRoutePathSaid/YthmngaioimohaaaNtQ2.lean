
/- Sizes and marks of offices. -/
import Derived.Test.YthmngaioimohaaaNtQ
import Derived.Test.YthmngaioimohaaaNtS
namespace Go.Proofs.Ythmngaioimohaaa
open Go.RowKit
set_option linter.unusedVariables false

def numR (net : List Off) : Nat := (net.map fun o => o.2.length).sum
theorem numR_snoc {net : List Off} {k : Nat} {o : Off} (h : net[k]? = some o) : numR (net.take (k + 1)) = numR (net.take k) + o.2.length := by
  rw [numR, take_snoc h, List.map_append, List.sum_append]; simp [numR]
theorem numR_le (net : List Off) (k : Nat) : numR (net.take k) ≤ numR net := by
  have : numR net = numR (net.take k) + numR (net.drop k) := by
    rw [numR, numR, numR, ← List.sum_append, ← List.map_append, List.take_append_drop]
  omega
structure SmQ (net : List Off) : Prop where
  len : net.length ≤ 1048576
  each : ∀ o ∈ net, o.2.length ≤ 1048576
  num : numR net ≤ 1048576
def cntQ (net : List Off) : Nat := net.length + 2 * numR net
theorem SmQ.cnt {net : List Off} (h : SmQ net) : cntQ net ≤ 3145728 := by
  have h1 := h.len
  have h2 := h.num
  unfold cntQ; omega

set_option maxRecDepth 100000 in
set_option maxHeartbeats 400000 in
theorem szOffice_sum (s : ByteArray) (v : Value) (rs : List Rul) (left : Int) (w : World) (h : Rt w v rs) (h0 : 0 ≤ left) (h1 : left ≤ 1048576) (hs1 : s.size ≤ maxLen) (hs2 : Szr rs) :
    Calls Try.prog 22 #[.agg #[.string s, v], .int .i64 left] w fun e w' => (∃ z : Int, e = .returned (.int .i64 z) ∧ -1 ≤ z ∧ z ≤ left ∧ (0 ≤ z → (rs.length : Int) + z ≤ left)) ∧ Below w.heap.size w w' := by
  obtain ⟨A, c, rfl, hA, hc1, hc2⟩ := h
  have H := Lib.hid (show Rt w (.slice A rs.length c) rs from ⟨A, c, rfl, hA, hc1, hc2⟩)
  have Hs2 := Lib.hid hs2
  have Hb0 : Hid (∀ o1, Below w.heap.size w (w.alloc o1)) := Lib.hid fun o1 => (Below.refl _ _).alloc (Nat.le_refl _) o1
  unfold maxLen at hs1
  clear hA hs2
  by_cases hlt : left - s.size < 0
  · go_enter Try.func22, Try.ntmps22
    go_wp2_with fail
    go_ret
    exact ⟨⟨-1, rfl, by omega, by omega, by omega⟩, Hb0.out _⟩
  · go_enter Try.func22, Try.ntmps22
    go_wp2_with fail
    refine (szR _ rs _ _ (H.out.below (Hb0.out _)) Hs2.out (by omega) (by omega)).mono ?_
    rintro e w2 ⟨⟨z, rfl, z1, z2, z3⟩, hb2⟩
    have Hz : Hid (0 ≤ z → (rs.length : Int) + z ≤ left) := Lib.hid fun hz => by have := z3 hz; omega
    have Hb2 := Lib.hid (below_step (Hb0.out _) (Hb0.out _).size hb2)
    clear z3 hb2
    by_cases hzn : z < 0
    · go_wp2_with fail
      go_ret
      exact ⟨⟨-1, rfl, by omega, by omega, by omega⟩, Hb2.out⟩
    · go_wp2_with fail
      go_ret
      exact ⟨⟨z, rfl, by omega, by omega, Hz.out⟩, Hb2.out⟩

set_option maxRecDepth 100000 in
set_option maxHeartbeats 800000 in
theorem szQ_c (v : Value) (net : List Off) (left : Int) (w : World) (h : InO w v net) (hs : SzO net) (h0 : 0 ≤ left) (h1 : left ≤ 1048576) :
    Calls Try.prog 7 #[v, .int .i64 left] w fun e w' => (∃ z : Int, e = .returned (.int .i64 z) ∧ -1 ≤ z ∧ z ≤ left ∧ (0 ≤ z → SmQ net)) ∧ Below w.heap.size w w' := by
  have H := Lib.hid h
  have Hs := Lib.hid hs
  obtain ⟨A, c, rfl, hc1, hc2⟩ := h.form
  unfold maxLen at hc2
  clear h hs
  by_cases hlt : left - net.length < 0
  · go_enter Try.func7, Try.ntmps7
    go_wp2_with fail
    go_ret
    exact ⟨⟨-1, rfl, by omega, by omega, by omega⟩, Below.refl _ _⟩
  · go_enter Try.func7, Try.ntmps7
    go_wp2_with fail
    go_loopw [1, 5] (fun l i wr => ∃ (k : Nat) (z : Int) (q : Nat), k ≤ net.length ∧ i = .int .i64 k ∧ l = .int .i64 z ∧ 0 ≤ z ∧ z ≤ left ∧ Below w.heap.size w wr ∧ (q : Int) + z ≤ left ∧ Hid (q = numR (net.take k)) ∧ Hid (∀ j o, j < k → net[j]? = some o → o.2.length ≤ 1048576)) (fun _ i _ => net.length - (intOf i).toNat)
    case atStart => exact ⟨0, _, 0, Nat.zero_le _, rfl, rfl, by omega, by omega, Below.refl _ _, by omega, Lib.hid rfl, Lib.hid (by intro j o hj; omega)⟩
    case round =>
      obtain ⟨k, z, q, hk, rfl, rfl, hz0, hz1, hb, hqz, hqe, hall⟩ := hrel
      by_cases hkl : k < net.length
      · obtain ⟨ad, o, x, rfl, ho, hcA, hcB, hrx⟩ := (H.out.below hb).at_ hkl
        have hos := Hs.out o (List.mem_of_getElem? ho)
        have Ho := Lib.hid ho
        have HX := Lib.hid (szOffice_sum o.1 x o.2 z wr hrx hz0 (by omega) hos.1 hos.2)
        obtain ⟨XA, xc, rfl, _, _, _⟩ := hrx
        clear ho hos
        go_wp2_with fail
        refine HX.out.mono ?_
        rintro e w2 ⟨⟨y, rfl, hy0, hy1, hy⟩, hb2⟩
        replace hb := below_trans' hb hb2
        have Hy := Lib.hid hy
        clear hy hb2
        by_cases hyn : y < 0
        · go_wp2_with fail
          go_ret
          exact ⟨⟨-1, rfl, by omega, by omega, by omega⟩, hb⟩
        · have hy9 := Hy.out (by omega)
          have Hqe : Hid (q + o.2.length = numR (net.take (k + 1))) := Lib.hid (by rw [numR_snoc Ho.out, hqe.out])
          have Hall : Hid (∀ j o, j < k + 1 → net[j]? = some o → o.2.length ≤ 1048576) := Lib.hid fun j q hj hq => by
            rcases Nat.lt_or_ge j k with h | h
            · exact hall.out j q h hq
            · have : j = k := by omega
              subst this
              rw [Ho.out] at hq
              injection hq with hq
              subst hq
              have := Hy.out (by omega)
              omega
          go_wp2_with fail
          go_roundw
          case rel => exact ⟨k + 1, y, q + o.2.length, by omega, by go_num, rfl, by omega, by omega, hb, by omega, Hqe, Hall⟩
          case measure => simp [intOf]; omega
      · have hk' : k = net.length := by omega
        subst hk'
        have Hall := Lib.hid hall.out
        have Hq : Hid (q = numR net) := Lib.hid (by rw [hqe.out, List.take_length])
        clear hall hqe
        go_wp2_with fail
        go_ret
        exact ⟨⟨z, rfl, by omega, by omega, fun _ => ⟨by omega, fun o ho => by
          obtain ⟨j, hj⟩ := List.getElem?_of_mem ho
          exact Hall.out j o (List.getElem?_eq_some_iff.1 hj).1 hj, by rw [← Hq.out]; omega⟩⟩, hb⟩

end Go.Proofs.Ythmngaioimohaaa
