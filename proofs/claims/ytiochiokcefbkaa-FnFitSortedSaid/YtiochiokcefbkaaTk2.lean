/- The walks of the functions that make loads of trucks. -/
import Derived.Test.YtiochiokcefbkaaTk1
namespace Go.Proofs.Ytiochiokcefbkaa
open Go.RowKit
set_option linter.unusedVariables false

set_option maxHeartbeats 400000 in
theorem loads_any (A D : Option Addr) (c d : Nat) (ws gs : List Int) (n : Nat) (w : World) (hA : Rd w A (ints ws)) (hD : Rd w D (ints gs)) (hw : ∀ x ∈ ws, 1 ≤ x ∧ x ≤ 1000) (hl8 : ws.length ≤ 8)
    (hl : gs.length = ws.length) (htc : tc gs = (n : Int)) (hn8 : n ≤ 8) (hmem : ∀ x ∈ gs, 0 ≤ x ∧ x < (n : Int)) :
    Calls Try.prog 46 #[.slice A ws.length c, .slice D gs.length d] w fun e w' => ∃ v, e = .returned v ∧ OwnI w' w.heap.size v (lds gs ws n) ∧ Below w.heap.size w w' := by
  obtain ⟨i0, hi, hz0, hz1, hz2⟩ := info_parts int_info
  have hgm : gs.length ≤ maxLen := by unfold maxLen; omega
  have Hl := Lib.hid hl
  have Hw := Lib.hid hw
  have Hmem := Lib.hid hmem
  clear hl hw hmem
  go_enter Try.func46, Try.ntmps46
  go_wp2_with fail
  refine (spec_tc _ _ gs _ hD hgm).mono ?_
  rintro e w' ⟨rfl, rfl⟩
  go_wp2_with (at_make; refine wpList_make_full _ rfl _ _ _ rfl w.heap.size 3 i0 _ 1 Try.underlying22 hi hz0 hz1 _ _ _ _ n rfl rfl rfl rfl (by rw [hz2]; omega) (by unfold maxLen; omega) (Nat.le_refl _) ?_; intro w1 hown1 hg1)
  rw [made_ints] at hown1
  have hb1 : Below w.heap.size w w1 := (Below.refl _ _).grown hg1 (Nat.le_refl _) (by simp)
  have H0 : Hid (w1.ownsRow w.heap.size 3 1 (.slice (some ⟨w.heap.size, 0, none⟩) n n) n (ints (lds (gs.take 0) (ws.take 0) n))) := hown1
  clear hown1 hg1
  go_loopw [6] (fun i wr => ∃ k : Nat, k ≤ ws.length ∧ i = .int .i64 k ∧ Below w.heap.size w wr ∧ Hid (wr.ownsRow w.heap.size 3 1 (.slice (some ⟨w.heap.size, 0, none⟩) n n) n (ints (lds (gs.take k) (ws.take k) n)))) (fun i _ => ws.length - (intOf i).toNat)
  case atStart => exact ⟨0, Nat.zero_le _, rfl, hb1, H0⟩
  case round =>
    obtain ⟨k, hk, rfl, hb, hown⟩ := hrel
    clear H0 hb1
    by_cases hlt : k < ws.length
    · obtain ⟨ad, x, rfl, hx, hc⟩ := (hA.below hb).int hlt
      have hlt2 : k < gs.length := by have := Hl.out; omega
      obtain ⟨ad2, t, rfl, ht, hc2⟩ := (hD.below hb).int hlt2
      have hxb := Hw.out x (List.mem_of_getElem? hx)
      have htb := Hmem.out t (List.mem_of_getElem? ht)
      obtain ⟨tn, rfl⟩ := Int.eq_ofNat_of_zero_le htb.1
      have htn : tn < n := by omega
      have hll : tn < (lds (gs.take k) (ws.take k) n).length := by rw [lds_length]; exact htn
      obtain ⟨y, hy⟩ : ∃ y, (lds (gs.take k) (ws.take k) n)[tn]? = some y := ⟨_, List.getElem?_eq_getElem hll⟩
      have hyb := lds_bd Hw.out n gs Hl.out k hk y (List.mem_of_getElem? hy)
      have hc3 : wr.cell? ⟨w.heap.size, tn, none⟩ = some (.int .i64 y) := (hown.out.cellAt tn (by omega)).trans (ints_get hy)
      have hfz : wr.frozen? ⟨w.heap.size, tn, none⟩ = false := hown.out.frozenAt tn
      have Hx := Lib.hid hx
      have Ht := Lib.hid ht
      have Hy := Lib.hid hy
      have Hst := Lib.hid (hown.out.stored tn (.int .i64 (y + x)))
      clear hx ht hy hown
      go_wp2_with fail
      go_still_tail 18, (by kernel_rfl)
      go_wp2_with fail
      go_roundw
      case rel => exact ⟨k + 1, by omega, by go_num, (hb.setCell (Nat.le_refl _) _).drew, Lib.hid (by rw [← lds_put Ht.out Hx.out Hy.out]; exact Hst.out.1.drew)⟩
      case measure => simp [intOf]; omega
    · have hk' : k = ws.length := by omega
      subst hk'
      go_wp2_with fail
      go_ret
      have h1 := hown.out
      rw [← Hl.out, List.take_length, Hl.out, List.take_length] at h1
      exact ⟨_, rfl, ownI_of h1, hb⟩

/-- The loads of valid arguments; no loads of others. -/
def tl (ws gs : List Int) : List Int := if wv ws 1000 && gv gs && decide (ws.length = gs.length) then lds gs ws (top gs).toNat else []
theorem tl_w {ws gs : List Int} (h : wv ws 1000 = false) : tl ws gs = [] := by simp [tl, h]
theorem tl_g {ws gs : List Int} (h : gv gs = false) : tl ws gs = [] := by simp [tl, h]
theorem tl_l {ws gs : List Int} (h : ws.length ≠ gs.length) : tl ws gs = [] := by simp [tl, h]
theorem tl_yes {ws gs : List Int} (h : wv ws 1000 = true) (h2 : gv gs = true) (h3 : ws.length = gs.length) : tl ws gs = lds gs ws (top gs).toNat := by simp [tl, h, h2, h3]

theorem tl_len (ws gs : List Int) : (tl ws gs).length ≤ 8 := by
  unfold tl
  split
  · rename_i h
    simp only [Bool.and_eq_true] at h
    obtain ⟨n, hn8, _, hn, _⟩ := tc_nat h.1.2
    rw [lds_length, ← hn]; exact hn8
  · simp

set_option maxHeartbeats 400000 in
theorem spec_tl (A D : Option Addr) (c d : Nat) (ws gs : List Int) (w : World) (hA : Rd w A (ints ws)) (hD : Rd w D (ints gs)) (hn : ws.length ≤ maxLen) (hm : gs.length ≤ maxLen) :
    Calls Try.prog 27 #[.slice A ws.length c, .slice D gs.length d] w fun e w' => ∃ v, e = .returned v ∧ OwnI w' w.heap.size v (tl ws gs) ∧ Below w.heap.size w w' := by
  have hn' := hn
  have hm' := hm
  unfold maxLen at hn' hm'
  cases hw : wv ws 1000
  · go_enter Try.func27, Try.ntmps27
    go_wp2_with (go_at_call 15; refine (spec_wv _ _ _ _ _ hA hn).mono ?_; rintro e w' ⟨rfl, rfl⟩)
    go_ret
    exact ⟨_, rfl, by rw [tl_w hw]; exact ownI_lit0 w, (Below.refl _ _).alloc (Nat.le_refl _) _⟩
  cases hg : gv gs
  · go_enter Try.func27, Try.ntmps27
    go_wp2_with first | (go_at_call 15; refine (spec_wv _ _ _ _ _ hA hn).mono ?_; rintro e w' ⟨rfl, rfl⟩) | (go_at_call 40; refine (given_any _ _ _ _ hD hm).mono ?_; rintro e w' ⟨rfl, rfl⟩)
    go_ret
    exact ⟨_, rfl, by rw [tl_g hg]; exact ownI_lit0 w, (Below.refl _ _).alloc (Nat.le_refl _) _⟩
  by_cases hl : ws.length = gs.length
  · have Hl := Lib.hid hl
    have hl1 : ((ws.length : Int) != (gs.length : Int)) = false := by simp [hl]
    clear hl
    obtain ⟨n, hn8, htc, hntop, hmem⟩ := tc_nat hg
    have Hf := Lib.hid (tl_yes hw hg Hl.out)
    have HP := Lib.hid (wv_parts hw)
    rw [← hntop] at Hf
    have Hm := Lib.hid hmem
    clear hntop hmem
    go_enter Try.func27, Try.ntmps27
    go_wp2_with first | (go_at_call 15; refine (spec_wv _ _ _ _ _ hA hn).mono ?_; rintro e w' ⟨rfl, rfl⟩) | (go_at_call 40; refine (given_any _ _ _ _ hD hm).mono ?_; rintro e w' ⟨rfl, rfl⟩)
    refine (loads_any _ _ _ _ ws gs n _ hA hD HP.out.1 HP.out.2.1 Hl.out.symm htc hn8 Hm.out).mono ?_
    rintro e w1 ⟨v, rfl, ho, hb⟩
    go_wp2_with fail
    go_ret
    exact ⟨_, rfl, by rw [Hf.out]; exact ho, hb⟩
  · have Hl := Lib.hid hl
    have hl1 : ((ws.length : Int) != (gs.length : Int)) = true := by simp; omega
    clear hl
    go_enter Try.func27, Try.ntmps27
    go_wp2_with first | (go_at_call 15; refine (spec_wv _ _ _ _ _ hA hn).mono ?_; rintro e w' ⟨rfl, rfl⟩) | (go_at_call 40; refine (given_any _ _ _ _ hD hm).mono ?_; rintro e w' ⟨rfl, rfl⟩)
    go_ret
    exact ⟨_, rfl, by rw [tl_l Hl.out]; exact ownI_lit0 w, (Below.refl _ _).alloc (Nat.le_refl _) _⟩

set_option maxHeartbeats 400000 in
theorem impl_tl (A D : Option Addr) (c d : Nat) (ws gs : List Int) (w : World) (hA : Rd w A (ints ws)) (hD : Rd w D (ints gs)) (hn : ws.length ≤ maxLen) (hm : gs.length ≤ maxLen) :
    Calls Try.prog 28 #[.slice A ws.length c, .slice D gs.length d] w fun e w' => ∃ v, e = .returned v ∧ OwnI w' w.heap.size v (tl ws gs) ∧ Below w.heap.size w w' := by
  obtain ⟨i0, hi, hz0, hz1, hz2⟩ := info_parts int_info
  have hn' := hn
  have hm' := hm
  unfold maxLen at hn' hm'
  cases hw : wv ws 1000
  · go_enter Try.func28, Try.ntmps28
    go_wp2_with first | (go_at_call 17; refine (impl_wv _ _ _ _ _ hA hn).mono ?_; rintro e w' ⟨rfl, rfl⟩) | (go_at_call 20; refine (impl_tc _ _ _ _ hD hm).mono ?_; rintro e w' ⟨rfl, rfl⟩)
    go_ret
    exact ⟨_, rfl, by rw [tl_w hw]; exact ownI_nil _ _, Below.refl _ _⟩
  cases hg : gv gs
  · have htc := tc_no hg
    go_enter Try.func28, Try.ntmps28
    go_wp2_with first | (go_at_call 17; refine (impl_wv _ _ _ _ _ hA hn).mono ?_; rintro e w' ⟨rfl, rfl⟩) | (go_at_call 20; refine (impl_tc _ _ _ _ hD hm).mono ?_; rintro e w' ⟨rfl, rfl⟩)
    go_ret
    exact ⟨_, rfl, by rw [tl_g hg]; exact ownI_nil _ _, Below.refl _ _⟩
  obtain ⟨n, hn8, htc, hntop, hmem⟩ := tc_nat hg
  by_cases hl : ws.length = gs.length
  · have Hl := Lib.hid hl
    have hl1 : ((gs.length : Int) != (ws.length : Int)) = false := by simp [hl]
    clear hl
    have Hf := Lib.hid (tl_yes hw hg Hl.out)
    have HP := Lib.hid (wv_parts hw)
    have hl8 := HP.out.2.1
    rw [← hntop] at Hf
    have Hmem := Lib.hid hmem
    clear hntop hmem
    go_enter Try.func28, Try.ntmps28
    go_wp2_with first | (go_at_call 17; refine (impl_wv _ _ _ _ _ hA hn).mono ?_; rintro e w' ⟨rfl, rfl⟩) | (go_at_call 20; refine (impl_tc _ _ _ _ hD hm).mono ?_; rintro e w' ⟨rfl, rfl⟩) | (at_make; refine wpList_make_full _ rfl _ _ _ rfl w.heap.size 3 i0 _ 1 Try.underlying22 hi hz0 hz1 _ _ _ _ n rfl rfl rfl rfl (by rw [hz2]; omega) (by unfold maxLen; omega) (Nat.le_refl _) ?_; intro w1 hown1 hg1)
    rw [made_ints] at hown1
    have hb1 : Below w.heap.size w w1 := (Below.refl _ _).grown hg1 (Nat.le_refl _) (by simp)
    have H0 : Hid (w1.ownsRow w.heap.size 3 1 (.slice (some ⟨w.heap.size, 0, none⟩) n n) n (ints (lds (gs.take 0) (ws.take 0) n))) := hown1
    clear hown1 hg1
    go_loopw [29] (fun i wr => ∃ k : Nat, k ≤ gs.length ∧ i = .int .i64 k ∧ Below w.heap.size w wr ∧ Hid (wr.ownsRow w.heap.size 3 1 (.slice (some ⟨w.heap.size, 0, none⟩) n n) n (ints (lds (gs.take k) (ws.take k) n)))) (fun i _ => gs.length - (intOf i).toNat)
    case atStart => exact ⟨0, Nat.zero_le _, rfl, hb1, H0⟩
    case round =>
      obtain ⟨k, hk, rfl, hb, hown⟩ := hrel
      clear H0 hb1
      by_cases hlt : k < gs.length
      · have hlt2 : k < ws.length := by have := Hl.out; omega
        obtain ⟨ad, x, rfl, hx, hc⟩ := (hA.below hb).int hlt2
        obtain ⟨ad2, t, rfl, ht, hc2⟩ := (hD.below hb).int hlt
        have hxb := HP.out.1 x (List.mem_of_getElem? hx)
        have htb := Hmem.out t (List.mem_of_getElem? ht)
        obtain ⟨tn, rfl⟩ := Int.eq_ofNat_of_zero_le htb.1
        have htn : tn < n := by omega
        have hll : tn < (lds (gs.take k) (ws.take k) n).length := by rw [lds_length]; exact htn
        obtain ⟨y, hy⟩ : ∃ y, (lds (gs.take k) (ws.take k) n)[tn]? = some y := ⟨_, List.getElem?_eq_getElem hll⟩
        have hyb := lds_bd HP.out.1 n gs Hl.out.symm k (by omega) y (List.mem_of_getElem? hy)
        have hc3 : wr.cell? ⟨w.heap.size, tn, none⟩ = some (.int .i64 y) := (hown.out.cellAt tn (by omega)).trans (ints_get hy)
        have hfz : wr.frozen? ⟨w.heap.size, tn, none⟩ = false := hown.out.frozenAt tn
        have Hx := Lib.hid hx
        have Ht := Lib.hid ht
        have Hy := Lib.hid hy
        have Hst := Lib.hid (hown.out.stored tn (.int .i64 (y + x)))
        clear hx ht hy hown
        go_wp2_with fail
        go_still_tail 10, (by kernel_rfl)
        go_wp2_with fail
        go_roundw
        case rel => exact ⟨k + 1, by omega, by go_num, (hb.setCell (Nat.le_refl _) _).drew, Lib.hid (by rw [← lds_put Ht.out Hx.out Hy.out]; exact Hst.out.1.drew)⟩
        case measure => simp [intOf]; omega
      · have hk' : k = gs.length := by omega
        subst hk'
        go_wp2_with fail
        go_ret
        have h1 := hown.out
        rw [List.take_length, ← Hl.out, List.take_length] at h1
        exact ⟨_, rfl, by rw [Hf.out]; exact ownI_of h1, hb⟩
  · have Hl := Lib.hid hl
    have hl1 : ((gs.length : Int) != (ws.length : Int)) = true := by simp; omega
    clear hl
    go_enter Try.func28, Try.ntmps28
    go_wp2_with first | (go_at_call 17; refine (impl_wv _ _ _ _ _ hA hn).mono ?_; rintro e w' ⟨rfl, rfl⟩) | (go_at_call 20; refine (impl_tc _ _ _ _ hD hm).mono ?_; rintro e w' ⟨rfl, rfl⟩)
    go_ret
    exact ⟨_, rfl, by rw [tl_l Hl.out]; exact ownI_nil _ _, Below.refl _ _⟩

/-- Is no truck overloaded? -/
def lv (ws : List Int) (cap : Int) (gs : List Int) : Bool := wv ws cap && gv gs && decide (ws.length = gs.length) && (lds gs ws (top gs).toNat).all (fun x => decide (x ≤ cap))
theorem lv_w {ws gs : List Int} {cap : Int} (h : wv ws cap = false) : lv ws cap gs = false := by simp [lv, h]
theorem lv_g {ws gs : List Int} {cap : Int} (h : gv gs = false) : lv ws cap gs = false := by simp [lv, h]
theorem lv_l {ws gs : List Int} {cap : Int} (h : ws.length ≠ gs.length) : lv ws cap gs = false := by simp [lv, h]
theorem lv_yes {ws gs : List Int} {cap : Int} (h : wv ws cap = true) (h2 : gv gs = true) (h3 : ws.length = gs.length) : lv ws cap gs = (lds gs ws (top gs).toNat).all (fun x => decide (x ≤ cap)) := by simp [lv, h, h2, h3]

set_option maxHeartbeats 800000 in
theorem spec_lv (A D : Option Addr) (c d : Nat) (ws gs : List Int) (cap : Int) (w : World) (hA : Rd w A (ints ws)) (hD : Rd w D (ints gs)) (hn : ws.length ≤ maxLen) (hm : gs.length ≤ maxLen) :
    Calls Try.prog 29 #[.slice A ws.length c, .int .i64 cap, .slice D gs.length d] w fun e w' => e = .returned (.bool (lv ws cap gs)) ∧ Below w.heap.size w w' := by
  have hn' := hn
  have hm' := hm
  unfold maxLen at hn' hm'
  cases hw : wv ws cap
  · go_enter Try.func29, Try.ntmps29
    go_wp2_with (go_at_call 15; refine (spec_wv _ _ _ _ _ hA hn).mono ?_; rintro e w' ⟨rfl, rfl⟩)
    go_ret
    exact ⟨ret_bool (lv_w hw).symm, Below.refl _ _⟩
  cases hg : gv gs
  · go_enter Try.func29, Try.ntmps29
    go_wp2_with first | (go_at_call 15; refine (spec_wv _ _ _ _ _ hA hn).mono ?_; rintro e w' ⟨rfl, rfl⟩) | (go_at_call 40; refine (given_any _ _ _ _ hD hm).mono ?_; rintro e w' ⟨rfl, rfl⟩)
    go_ret
    exact ⟨ret_bool (lv_g hg).symm, Below.refl _ _⟩
  by_cases hl : ws.length = gs.length
  · have Hl := Lib.hid hl
    have hl1 : ((ws.length : Int) != (gs.length : Int)) = false := by simp [hl]
    clear hl
    obtain ⟨n, hn8, htc, hntop, hmem⟩ := tc_nat hg
    have Hf := Lib.hid (lv_yes hw hg Hl.out)
    have HP := Lib.hid (wv_parts (wv_1000 hw))
    rw [← hntop] at Hf
    have Hm := Lib.hid hmem
    clear hntop hmem
    go_enter Try.func29, Try.ntmps29
    go_wp2_with first | (go_at_call 15; refine (spec_wv _ _ _ _ _ hA hn).mono ?_; rintro e w' ⟨rfl, rfl⟩) | (go_at_call 40; refine (given_any _ _ _ _ hD hm).mono ?_; rintro e w' ⟨rfl, rfl⟩)
    refine (loads_any _ _ _ _ ws gs n _ hA hD HP.out.1 HP.out.2.1 Hl.out.symm htc hn8 Hm.out).mono ?_
    rintro e w1 ⟨v, rfl, ho, hb⟩
    obtain ⟨A1, c1, rfl, hr, hl1'⟩ := ho.rd
    have Hr := Lib.hid hr
    have hll : (lds gs ws n).length ≤ 8 := by rw [lds_length]; exact hn8
    clear ho hr htc hw hg hl1'
    go_wp2_with fail
    go_loop [8] (fun i => ∃ k : Nat, k ≤ (lds gs ws n).length ∧ i = .int .i64 k ∧ Hid (((lds gs ws n).take k).all (fun x => decide (x ≤ cap)) = true)) (fun i => (lds gs ws n).length - (intOf i).toNat)
    case atStart => exact ⟨0, Nat.zero_le _, rfl, Lib.hid rfl⟩
    case round =>
      obtain ⟨k, hk, rfl, hall⟩ := hrel
      by_cases hlt : k < (lds gs ws n).length
      · obtain ⟨ad, x, rfl, hx, hc⟩ := Hr.out.int hlt
        have Hx := Lib.hid hx
        clear hx
        by_cases hxc : cap < x
        · go_wp2_with fail
          go_ret
          exact ⟨ret_bool (by rw [Hf.out, all_not (p := fun x => decide (x ≤ cap)) Hx.out (by simp; omega)]), hb⟩
        · go_wp2_with fail
          go_round
          case rel => exact ⟨k + 1, by omega, by go_num, Lib.hid (all_snoc hall.out Hx.out (by simp; omega))⟩
          case measure => simp [intOf]; omega
      · have hk' : k = (lds gs ws n).length := by omega
        subst hk'
        go_wp2_with fail
        go_ret
        exact ⟨ret_bool (by rw [Hf.out, all_full hall.out]), hb⟩
  · have Hl := Lib.hid hl
    have hl1 : ((ws.length : Int) != (gs.length : Int)) = true := by simp; omega
    clear hl
    go_enter Try.func29, Try.ntmps29
    go_wp2_with first | (go_at_call 15; refine (spec_wv _ _ _ _ _ hA hn).mono ?_; rintro e w' ⟨rfl, rfl⟩) | (go_at_call 40; refine (given_any _ _ _ _ hD hm).mono ?_; rintro e w' ⟨rfl, rfl⟩)
    go_ret
    exact ⟨ret_bool (lv_l Hl.out).symm, Below.refl _ _⟩

set_option maxHeartbeats 800000 in
theorem impl_lv (A D : Option Addr) (c d : Nat) (ws gs : List Int) (cap : Int) (w : World) (hA : Rd w A (ints ws)) (hD : Rd w D (ints gs)) (hn : ws.length ≤ maxLen) (hm : gs.length ≤ maxLen) :
    Calls Try.prog 30 #[.slice A ws.length c, .int .i64 cap, .slice D gs.length d] w fun e w' => e = .returned (.bool (lv ws cap gs)) ∧ Below w.heap.size w w' := by
  have hn' := hn
  have hm' := hm
  unfold maxLen at hn' hm'
  cases hw : wv ws cap
  · go_enter Try.func30, Try.ntmps30
    go_wp2_with (go_at_call 17; refine (impl_wv _ _ _ _ _ hA hn).mono ?_; rintro e w' ⟨rfl, rfl⟩)
    go_ret
    exact ⟨ret_bool (lv_w hw).symm, Below.refl _ _⟩
  cases hg : gv gs
  · have htc := tc_no hg
    go_enter Try.func30, Try.ntmps30
    go_wp2_with first | (go_at_call 17; refine (impl_wv _ _ _ _ _ hA hn).mono ?_; rintro e w' ⟨rfl, rfl⟩) | (go_at_call 20; refine (impl_tc _ _ _ _ hD hm).mono ?_; rintro e w' ⟨rfl, rfl⟩)
    go_ret
    exact ⟨ret_bool (lv_g hg).symm, Below.refl _ _⟩
  obtain ⟨n, hn8, htc, hntop, hmem⟩ := tc_nat hg
  by_cases hl : ws.length = gs.length
  · have Hl := Lib.hid hl
    have hl1 : ((gs.length : Int) != (ws.length : Int)) = false := by simp [hl]
    clear hl
    have Hf := Lib.hid (lv_yes hw hg Hl.out)
    have Ht := Lib.hid (tl_yes (wv_1000 hw) hg Hl.out)
    rw [← hntop] at Hf Ht
    clear hntop hmem
    go_enter Try.func30, Try.ntmps30
    go_wp2_with first | (go_at_call 17; refine (impl_wv _ _ _ _ _ hA hn).mono ?_; rintro e w' ⟨rfl, rfl⟩) | (go_at_call 20; refine (impl_tc _ _ _ _ hD hm).mono ?_; rintro e w' ⟨rfl, rfl⟩)
    refine (impl_tl _ _ _ _ ws gs _ hA hD hn hm).mono ?_
    rintro e w1 ⟨v, rfl, ho, hb⟩
    rw [Ht.out] at ho
    obtain ⟨A1, c1, rfl, hr, hl1'⟩ := ho.rd
    have Hr := Lib.hid hr
    have hll : (lds gs ws n).length ≤ 8 := by rw [lds_length]; exact hn8
    clear ho hr htc hw hg hl1' Ht
    go_wp2_with fail
    go_loop [29] (fun i => ∃ k : Nat, k ≤ (lds gs ws n).length ∧ i = .int .i64 k ∧ Hid (((lds gs ws n).take k).all (fun x => decide (x ≤ cap)) = true)) (fun i => (lds gs ws n).length - (intOf i).toNat)
    case atStart => exact ⟨0, Nat.zero_le _, rfl, Lib.hid rfl⟩
    case round =>
      obtain ⟨k, hk, rfl, hall⟩ := hrel
      by_cases hlt : k < (lds gs ws n).length
      · obtain ⟨ad, x, rfl, hx, hc⟩ := Hr.out.int hlt
        have Hx := Lib.hid hx
        clear hx
        by_cases hxc : cap < x
        · go_wp2_with fail
          go_ret
          exact ⟨ret_bool (by rw [Hf.out, all_not (p := fun x => decide (x ≤ cap)) Hx.out (by simp; omega)]), hb⟩
        · go_wp2_with fail
          go_round
          case rel => exact ⟨k + 1, by omega, by go_num, Lib.hid (all_snoc hall.out Hx.out (by simp; omega))⟩
          case measure => simp [intOf]; omega
      · have hk' : k = (lds gs ws n).length := by omega
        subst hk'
        go_wp2_with fail
        go_ret
        exact ⟨ret_bool (by rw [Hf.out, all_full hall.out]), hb⟩
  · have Hl := Lib.hid hl
    have hl1 : ((gs.length : Int) != (ws.length : Int)) = true := by simp; omega
    clear hl
    go_enter Try.func30, Try.ntmps30
    go_wp2_with first | (go_at_call 17; refine (impl_wv _ _ _ _ _ hA hn).mono ?_; rintro e w' ⟨rfl, rfl⟩) | (go_at_call 20; refine (impl_tc _ _ _ _ hD hm).mono ?_; rintro e w' ⟨rfl, rfl⟩)
    go_ret
    exact ⟨ret_bool (lv_l Hl.out).symm, Below.refl _ _⟩

end Go.Proofs.Ytiochiokcefbkaa
