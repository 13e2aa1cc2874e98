/- The walks of first fit. -/
import Derived.Test.YtiochiokcefbkaaTk3
import Derived.Test.YtiochiokcefbkaaTkFitMath
namespace Go.Proofs.Ytiochiokcefbkaa
open Go.RowKit
set_option linter.unusedVariables false

/-- Indices, as numbers. -/
def nats (l : List Nat) : List Int := l.map fun (i : Nat) => (i : Int)
theorem nats_length (l : List Nat) : (nats l).length = l.length := by simp [nats]
theorem nats_get {l : List Nat} {k i : Nat} (h : l[k]? = some i) : (nats l)[k]? = some (i : Int) := by simp [nats, h]

set_option maxHeartbeats 1000000 in
theorem impl_fit (A C : Option Addr) (c d : Nat) (ws : List Int) (order : List Nat) (cap : Int) (w : World) (hA : Rd w A (ints ws)) (hC : Rd w C (ints (nats order))) (hw : wv ws cap = true)
    (ho : ∀ i ∈ order, i < ws.length) (hl : order.length ≤ ws.length) :
    Calls Try.prog 44 #[.slice A ws.length c, .int .i64 cap, .slice C order.length d] w fun e w' => ∃ v, e = .returned v ∧ OwnI w' w.heap.size v (fitAll ws cap order).2 ∧ Below w.heap.size w w' := by
  obtain ⟨i0, hi, hz0, hz1, hz2⟩ := info_parts int_info
  obtain ⟨hwm, hl8, hc1, hc2⟩ := wv_parts hw
  have Hwm := Lib.hid hwm
  have Hinv := Lib.hid (fitInv_all hw order ho hl)
  have Ho := Lib.hid ho
  clear hw hwm ho
  go_enter Try.func44, Try.ntmps44
  go_wp2_with first | (at_make; refine wpList_make_full _ rfl (.tmp 13) (.tmp 13) _ rfl w.heap.size 3 i0 _ 1 Try.underlying22 hi hz0 hz1 _ _ _ _ ws.length rfl rfl rfl rfl (by rw [hz2]; omega) (by unfold maxLen; omega) (Nat.le_refl _) ?_; intro w1 hown1 hg1) | (at_make; refine wpList_make_full _ rfl (.tmp 16) (.tmp 16) _ rfl w1.heap.size 3 i0 _ 1 Try.underlying22 hi hz0 hz1 _ _ _ _ ws.length rfl rfl rfl rfl (by rw [hz2]; omega) (by unfold maxLen; omega) (Nat.le_refl _) ?_; intro w2 hown2 hg2)
  rw [made_ints] at hown1 hown2
  have hb1 : Below w.heap.size w w1 := (Below.refl _ _).grown hg1 (Nat.le_refl _) (by simp)
  have Hown1 := Lib.hid hown1
  have hb2 : Below w.heap.size w w2 := hb1.grown hg2 hb1.size (by simp)
  have hg1lt : w.heap.size < w1.heap.size := (Hown1.out.lt _ rfl).2
  have H0 : Hid (w2.ownsRow w.heap.size 3 1 (.slice (some ⟨w.heap.size, 0, none⟩) ws.length ws.length) ws.length (ints (fitAll ws cap (order.take 0)).2) ∧
      w2.ownsRow w1.heap.size 3 1 (.slice (some ⟨w1.heap.size, 0, none⟩) ws.length ws.length) ws.length (ints (fitAll ws cap (order.take 0)).1)) :=
    ⟨Hown1.out.kept hg2 (.inr (by simp [Value.ownBlock])), hown2⟩
  clear hown1 hg1 hown2 hg2 Hown1 hb1
  go_loopw [20] (fun i wr => ∃ k : Nat, k ≤ order.length ∧ i = .int .i64 k ∧ Below w.heap.size w wr ∧
    Hid (wr.ownsRow w.heap.size 3 1 (.slice (some ⟨w.heap.size, 0, none⟩) ws.length ws.length) ws.length (ints (fitAll ws cap (order.take k)).2) ∧
      wr.ownsRow w1.heap.size 3 1 (.slice (some ⟨w1.heap.size, 0, none⟩) ws.length ws.length) ws.length (ints (fitAll ws cap (order.take k)).1))) (fun i _ => order.length - (intOf i).toNat)
  case atStart => exact ⟨0, Nat.zero_le _, rfl, hb2, H0⟩
  case round =>
    obtain ⟨k, hk, rfl, hb, hown⟩ := hrel
    clear H0 hb2
    by_cases hlt : k < order.length
    · obtain ⟨i, hik⟩ : ∃ i, order[k]? = some i := ⟨_, List.getElem?_eq_getElem hlt⟩
      have hil := Ho.out i (List.mem_of_getElem? hik)
      obtain ⟨ad, x, rfl, hx, hcA⟩ := (hA.below hb).int hil
      obtain ⟨ad2, t, rfl, ht, hcC⟩ := (hC.below hb).int (k := k) (by rw [nats_length]; exact hlt)
      rw [nats_get hik] at ht
      injection ht with ht
      subst ht
      have hxb := Hwm.out x (List.mem_of_getElem? hx)
      have hxd : ws.getD i 0 = x := by rw [List.getD_eq_getElem?_getD, hx]; rfl
      have hI := Hinv.out k hk
      have hr := fitInv_room hI (by omega) hxb
      obtain ⟨hrow1, hrow2⟩ := hown.out
      obtain ⟨r, hre⟩ : ∃ r, room (fitAll ws cap (order.take k)).1 x cap = r := ⟨_, rfl⟩
      rw [hre] at hr
      have hrl : r < ws.length := by omega
      have hat := room_at (ld := (fitAll ws cap (order.take k)).1) (x := x) (cap := cap) (by rw [hre, hI.len1]; exact hrl)
      rw [hre] at hat
      obtain ⟨y, hy, hyc⟩ := hat
      have hyb := hI.bd y (List.mem_of_getElem? hy)
      have Hbef : Hid (∀ t, t < r → ∃ z, (fitAll ws cap (order.take k)).1[t]? = some z ∧ cap < z + x) := Lib.hid (by
        intro t htr
        rw [← hre] at htr
        exact room_before htr)
      have Hst : Hid (fitStep ws cap (fitAll ws cap (order.take k)) i = ((fitAll ws cap (order.take k)).1.set r (y + x), (fitAll ws cap (order.take k)).2.set i (r : Int))) := Lib.hid (by
        rw [fitStep, hxd, hre, List.getD_eq_getElem?_getD, hy]; rfl)
      have Hsn := Lib.hid (fit_snoc (w := ws) (cap := cap) hik)
      have Hy := Lib.hid hy
      have Hik := Lib.hid hik
      have HI := Lib.hid hI
      have Hrow1 := Lib.hid hrow1
      have Hrow2 := Lib.hid hrow2
      clear hx hxd hre hik hI hown hrow1 hrow2 hy
      generalize hF : fitAll ws cap (order.take k) = F at *
      have HF := Lib.hid hF
      clear hF
      obtain ⟨wo, rfl⟩ : ∃ wo : World, wo = wr := ⟨_, rfl⟩
      go_wp2_with fail
      go_loopw [11] (fun tr wr => ∃ t : Nat, t ≤ r ∧ tr = .int .i64 t ∧ ∃ n, wr = wo.drewN n) (fun tr _ => r - (intOf tr).toNat)
      case atStart => exact ⟨0, Nat.zero_le _, rfl, 0, rfl⟩
      case round =>
        obtain ⟨t, htr, rfl, n, rfl⟩ := hrel
        by_cases htr2 : t < r
        · obtain ⟨z, hz, hzc⟩ := Hbef.out t htr2
          have hzb := HI.out.bd z (List.mem_of_getElem? hz)
          have hc3 : wo.cell? ⟨w1.heap.size, t, none⟩ = some (.int .i64 z) := (Hrow2.out.cellAt t (by omega)).trans (ints_get hz)
          clear hz
          go_wp2_with fail
          go_quiet (fail)
          go_wp2_with fail
          go_roundw
          case rel => exact ⟨t + 1, by omega, by go_num, _, rfl⟩
          case measure => simp [intOf]; omega
        · have ht' : t = r := by omega
          subst ht'
          have hc3 : wo.cell? ⟨w1.heap.size, t, none⟩ = some (.int .i64 y) := (Hrow2.out.cellAt t (by omega)).trans (ints_get Hy.out)
          have hfz : wo.frozen? ⟨w1.heap.size, t, none⟩ = false := Hrow2.out.frozenAt t
          go_wp2_with fail
          go_quiet (fail)
          obtain ⟨wq, hwq⟩ : ∃ wq, wq = (wo.drewN n).drewN nq := ⟨_, rfl⟩
          have hh : wq.heap = wo.heap := by rw [hwq]; rfl
          have hbq : Below w.heap.size w wq := by rw [hwq]; exact below_drewN (below_drewN hb _) _
          rw [← hwq]
          have q1 := (cell_heap hh _).trans hc3
          have q2 := (frozen_heap hh _).trans hfz
          have q3 := (cell_heap hh _).trans hcA
          have q4 := (cell_heap hh _).trans hcC
          have Row1 := Lib.hid (own_heap hh Hrow1.out)
          have Row2 := Lib.hid (own_heap hh Hrow2.out)
          have s2 := Row2.out.stored t (.int .i64 (y + x))
          rw [ints_set] at s2
          have s1 := Row1.out.kept s2.2 (.inr (by simp [Value.ownBlock]; omega))
          have hyi : i < F.2.length := by rw [HI.out.len2]; exact hil
          have q5 : (wq.setCell ⟨w1.heap.size, t, none⟩ (.int .i64 (y + x))).cell? ⟨w.heap.size, i, none⟩ = some (.int .i64 F.2[i]) := (s1.cellAt i (by omega)).trans (ints_get (List.getElem?_eq_getElem hyi))
          have q6 : (wq.setCell ⟨w1.heap.size, t, none⟩ (.int .i64 (y + x))).frozen? ⟨w.heap.size, i, none⟩ = false := s1.frozenAt i
          have q7 : (wq.setCell ⟨w1.heap.size, t, none⟩ (.int .i64 (y + x))).cell? (ad2.add k) = some (.int .i64 (i : Int)) := by
            obtain ⟨ad3, e3, hc7⟩ := (hC.below (hbq.setCell (p := ⟨w1.heap.size, t, none⟩) (by simp; omega) (.int .i64 (y + x)))) k _ (ints_get (nats_get Hik.out))
            injection e3 with e3
            subst e3
            exact hc7
          have s3 := s1.stored i (.int .i64 (t : Int))
          rw [ints_set] at s3
          have s4 := s2.1.kept s3.2 (.inr (by simp [Value.ownBlock]; omega))
          have S := Lib.hid (And.intro s3.1 s4)
          have hbS : Below w.heap.size w ((wq.setCell ⟨w1.heap.size, t, none⟩ (.int .i64 (y + x))).setCell ⟨w.heap.size, i, none⟩ (.int .i64 (t : Int))) :=
            (hbq.setCell (by simp; omega) _).setCell (by simp) _
          have HbS := Lib.hid hbS
          clear hwq hh hc3 hfz hcA hcC Hrow1 Hrow2 Row1 Row2 s1 s2 s3 s4 hbS hbq hb
          go_wp2_with fail
          go_still_tail 10, (by kernel_rfl)
          go_wp2_with fail
          go_roundw
          case rel => exact ⟨k + 1, by omega, by go_num, HbS.out.drew, Lib.hid (by rw [Hsn.out, Hst.out]; exact ⟨S.out.1.drew, S.out.2.drew⟩)⟩
          case measure => simp [intOf]; omega
    · have hk' : k = order.length := by omega
      subst hk'
      go_wp2_with fail
      go_ret
      have h1 := hown.out.1
      rw [List.take_length] at h1
      exact ⟨_, rfl, ownI_of h1, hb⟩

set_option maxHeartbeats 1000000 in
theorem spec_fit (A C : Option Addr) (c d : Nat) (ws : List Int) (order : List Nat) (cap : Int) (w : World) (hA : Rd w A (ints ws)) (hC : Rd w C (ints (nats order))) (hw : wv ws cap = true)
    (ho : ∀ i ∈ order, i < ws.length) (hl : order.length ≤ ws.length) :
    Calls Try.prog 43 #[.slice A ws.length c, .int .i64 cap, .slice C order.length d] w fun e w' => ∃ v, e = .returned v ∧ OwnI w' w.heap.size v (fitAll ws cap order).2 ∧ Below w.heap.size w w' := by
  obtain ⟨i0, hi, hz0, hz1, hz2⟩ := info_parts int_info
  obtain ⟨hwm, hl8, hc1, hc2⟩ := wv_parts hw
  have Hwm := Lib.hid hwm
  have Hinv := Lib.hid (fitInv_all hw order ho hl)
  have Ho := Lib.hid ho
  clear hw hwm ho
  go_enter Try.func43, Try.ntmps43
  go_wp2_with first | (at_make; refine wpList_make_full _ rfl (.tmp 12) (.tmp 12) _ rfl w.heap.size 3 i0 _ 1 Try.underlying22 hi hz0 hz1 _ _ _ _ ws.length rfl rfl rfl rfl (by rw [hz2]; omega) (by unfold maxLen; omega) (Nat.le_refl _) ?_; intro w1 hown1 hg1) | (at_make; refine wpList_make_full _ rfl (.tmp 15) (.tmp 15) _ rfl w1.heap.size 3 i0 _ 1 Try.underlying22 hi hz0 hz1 _ _ _ _ ws.length rfl rfl rfl rfl (by rw [hz2]; omega) (by unfold maxLen; omega) (Nat.le_refl _) ?_; intro w2 hown2 hg2)
  rw [made_ints] at hown1 hown2
  have hb1 : Below w.heap.size w w1 := (Below.refl _ _).grown hg1 (Nat.le_refl _) (by simp)
  have Hown1 := Lib.hid hown1
  have hb2 : Below w.heap.size w w2 := hb1.grown hg2 hb1.size (by simp)
  have hg1lt : w.heap.size < w1.heap.size := (Hown1.out.lt _ rfl).2
  have H0 : Hid (w2.ownsRow w.heap.size 3 1 (.slice (some ⟨w.heap.size, 0, none⟩) ws.length ws.length) ws.length (ints (fitAll ws cap (order.take 0)).2) ∧
      w2.ownsRow w1.heap.size 3 1 (.slice (some ⟨w1.heap.size, 0, none⟩) ws.length ws.length) ws.length (ints (fitAll ws cap (order.take 0)).1)) :=
    ⟨Hown1.out.kept hg2 (.inr (by simp [Value.ownBlock])), hown2⟩
  clear hown1 hg1 hown2 hg2 Hown1 hb1
  go_loopw [9] (fun i wr => ∃ k : Nat, k ≤ order.length ∧ i = .int .i64 k ∧ Below w.heap.size w wr ∧
    Hid (wr.ownsRow w.heap.size 3 1 (.slice (some ⟨w.heap.size, 0, none⟩) ws.length ws.length) ws.length (ints (fitAll ws cap (order.take k)).2) ∧
      wr.ownsRow w1.heap.size 3 1 (.slice (some ⟨w1.heap.size, 0, none⟩) ws.length ws.length) ws.length (ints (fitAll ws cap (order.take k)).1))) (fun i _ => order.length - (intOf i).toNat)
  case atStart => exact ⟨0, Nat.zero_le _, rfl, hb2, H0⟩
  case round =>
    obtain ⟨k, hk, rfl, hb, hown⟩ := hrel
    clear H0 hb2
    by_cases hlt : k < order.length
    · obtain ⟨i, hik⟩ : ∃ i, order[k]? = some i := ⟨_, List.getElem?_eq_getElem hlt⟩
      have hil := Ho.out i (List.mem_of_getElem? hik)
      obtain ⟨ad, x, rfl, hx, hcA⟩ := (hA.below hb).int hil
      obtain ⟨ad2, t, rfl, ht, hcC⟩ := (hC.below hb).int (k := k) (by rw [nats_length]; exact hlt)
      rw [nats_get hik] at ht
      injection ht with ht
      subst ht
      have hxb := Hwm.out x (List.mem_of_getElem? hx)
      have hxd : ws.getD i 0 = x := by rw [List.getD_eq_getElem?_getD, hx]; rfl
      have hI := Hinv.out k hk
      have hr := fitInv_room hI (by omega) hxb
      obtain ⟨hrow1, hrow2⟩ := hown.out
      obtain ⟨r, hre⟩ : ∃ r, room (fitAll ws cap (order.take k)).1 x cap = r := ⟨_, rfl⟩
      rw [hre] at hr
      have hrl : r < ws.length := by omega
      have hat := room_at (ld := (fitAll ws cap (order.take k)).1) (x := x) (cap := cap) (by rw [hre, hI.len1]; exact hrl)
      rw [hre] at hat
      obtain ⟨y, hy, hyc⟩ := hat
      have hyb := hI.bd y (List.mem_of_getElem? hy)
      have Hbef : Hid (∀ t, t < r → ∃ z, (fitAll ws cap (order.take k)).1[t]? = some z ∧ cap < z + x) := Lib.hid (by
        intro t htr
        rw [← hre] at htr
        exact room_before htr)
      have Hst : Hid (fitStep ws cap (fitAll ws cap (order.take k)) i = ((fitAll ws cap (order.take k)).1.set r (y + x), (fitAll ws cap (order.take k)).2.set i (r : Int))) := Lib.hid (by
        rw [fitStep, hxd, hre, List.getD_eq_getElem?_getD, hy]; rfl)
      have Hsn := Lib.hid (fit_snoc (w := ws) (cap := cap) hik)
      have Hy := Lib.hid hy
      have Hik := Lib.hid hik
      have HI := Lib.hid hI
      have Hrow1 := Lib.hid hrow1
      have Hrow2 := Lib.hid hrow2
      clear hx hxd hre hik hI hown hrow1 hrow2 hy
      generalize hF : fitAll ws cap (order.take k) = F at *
      have HF := Lib.hid hF
      clear hF
      obtain ⟨wo, rfl⟩ : ∃ wo : World, wo = wr := ⟨_, rfl⟩
      go_wp2_with fail
      go_loopw [10] (fun tr wr => ∃ t : Nat, t ≤ r ∧ tr = .int .i64 t ∧ ∃ n, wr = wo.drewN n) (fun tr _ => r - (intOf tr).toNat)
      case atStart => exact ⟨0, Nat.zero_le _, rfl, 0, rfl⟩
      case round =>
        obtain ⟨t, htr, rfl, n, rfl⟩ := hrel
        by_cases htr2 : t < r
        · obtain ⟨z, hz, hzc⟩ := Hbef.out t htr2
          have hzb := HI.out.bd z (List.mem_of_getElem? hz)
          have hc3 : wo.cell? ⟨w1.heap.size, t, none⟩ = some (.int .i64 z) := (Hrow2.out.cellAt t (by omega)).trans (ints_get hz)
          clear hz
          go_wp2_with fail
          go_quiet (fail)
          go_wp2_with fail
          go_roundw
          case rel => exact ⟨t + 1, by omega, by go_num, _, rfl⟩
          case measure => simp [intOf]; omega
        · have ht' : t = r := by omega
          subst ht'
          have hc3 : wo.cell? ⟨w1.heap.size, t, none⟩ = some (.int .i64 y) := (Hrow2.out.cellAt t (by omega)).trans (ints_get Hy.out)
          have hfz : wo.frozen? ⟨w1.heap.size, t, none⟩ = false := Hrow2.out.frozenAt t
          go_wp2_with fail
          go_quiet (fail)
          obtain ⟨wq, hwq⟩ : ∃ wq, wq = (wo.drewN n).drewN nq := ⟨_, rfl⟩
          have hh : wq.heap = wo.heap := by rw [hwq]; rfl
          have hbq : Below w.heap.size w wq := by rw [hwq]; exact below_drewN (below_drewN hb _) _
          rw [← hwq]
          have q1 := (cell_heap hh _).trans hc3
          have q2 := (frozen_heap hh _).trans hfz
          have q3 := (cell_heap hh _).trans hcA
          have q4 := (cell_heap hh _).trans hcC
          have Row1 := Lib.hid (own_heap hh Hrow1.out)
          have Row2 := Lib.hid (own_heap hh Hrow2.out)
          have s2 := Row2.out.stored t (.int .i64 (y + x))
          rw [ints_set] at s2
          have s1 := Row1.out.kept s2.2 (.inr (by simp [Value.ownBlock]; omega))
          have hyi : i < F.2.length := by rw [HI.out.len2]; exact hil
          have q5 : (wq.setCell ⟨w1.heap.size, t, none⟩ (.int .i64 (y + x))).cell? ⟨w.heap.size, i, none⟩ = some (.int .i64 F.2[i]) := (s1.cellAt i (by omega)).trans (ints_get (List.getElem?_eq_getElem hyi))
          have q6 : (wq.setCell ⟨w1.heap.size, t, none⟩ (.int .i64 (y + x))).frozen? ⟨w.heap.size, i, none⟩ = false := s1.frozenAt i
          have q7 : (wq.setCell ⟨w1.heap.size, t, none⟩ (.int .i64 (y + x))).cell? (ad2.add k) = some (.int .i64 (i : Int)) := by
            obtain ⟨ad3, e3, hc7⟩ := (hC.below (hbq.setCell (p := ⟨w1.heap.size, t, none⟩) (by simp; omega) (.int .i64 (y + x)))) k _ (ints_get (nats_get Hik.out))
            injection e3 with e3
            subst e3
            exact hc7
          have s3 := s1.stored i (.int .i64 (t : Int))
          rw [ints_set] at s3
          have s4 := s2.1.kept s3.2 (.inr (by simp [Value.ownBlock]; omega))
          have S := Lib.hid (And.intro s3.1 s4)
          have hbS : Below w.heap.size w ((wq.setCell ⟨w1.heap.size, t, none⟩ (.int .i64 (y + x))).setCell ⟨w.heap.size, i, none⟩ (.int .i64 (t : Int))) :=
            (hbq.setCell (by simp; omega) _).setCell (by simp) _
          have HbS := Lib.hid hbS
          clear hwq hh hc3 hfz hcA hcC Hrow1 Hrow2 Row1 Row2 s1 s2 s3 s4 hbS hbq hb
          go_wp2_with fail
          go_still_tail 15, (by kernel_rfl)
          go_wp2_with fail
          go_roundw
          case rel => exact ⟨k + 1, by omega, by go_num, HbS.out.drew, Lib.hid (by rw [Hsn.out, Hst.out]; exact ⟨S.out.1.drew, S.out.2.drew⟩)⟩
          case measure => simp [intOf]; omega
    · have hk' : k = order.length := by omega
      subst hk'
      go_wp2_with fail
      go_ret
      have h1 := hown.out.1
      rw [List.take_length] at h1
      exact ⟨_, rfl, ownI_of h1, hb⟩

end Go.Proofs.Ytiochiokcefbkaa
