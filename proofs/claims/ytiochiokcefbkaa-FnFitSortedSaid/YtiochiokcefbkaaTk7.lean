/- The walks of the library's stable sort, on a row of indices, as FitSorted uses it. -/
import Derived.Test.YtiochiokcefbkaaTk5
import Derived.Test.YtiochiokcefbkaaTkSortMath
namespace Go.Proofs.Ytiochiokcefbkaa
open Go.RowKit
set_option linter.unusedVariables false

theorem nats_set (l : List Nat) (k i : Nat) : (ints (nats l)).set k (.int .i64 (i : Int)) = ints (nats (l.set k i)) := by rw [ints_set]; simp [nats, List.map_set]

theorem mem_of_getD' {ws : List Int} {i : Nat} (h : i < ws.length) : ws.getD i 0 ∈ ws := by rw [List.getD_eq_getElem?_getD, List.getElem?_eq_getElem h]; exact List.getElem_mem _

theorem getD_of' {ws : List Int} {i : Nat} {x : Int} (h : ws[i]? = some x) : ws.getD i 0 = x := by rw [List.getD_eq_getElem?_getD, h]; rfl

set_option maxHeartbeats 400000 in
theorem cmp_any (A : Option Addr) (c box a b : Nat) (x y : Int) (ws : List Int) (w : World) (hbox : w.cell? ⟨box, 0, none⟩ = some (.slice A ws.length c)) (hA : Rd w A (ints ws)) (hw : ∀ x ∈ ws, 0 ≤ x ∧ x ≤ 1000) (ha : ws[a]? = some x) (hb : ws[b]? = some y) (hl8 : ws.length ≤ 8) :
    Calls Try.prog 49 #[.int .i64 a, .int .i64 b, .pointer (some ⟨box, 0, none⟩)] w fun e w' => e = .returned (.int .i64 (y - x)) ∧ ∃ n, w' = w.drewN n := by
  have hal := (List.getElem?_eq_some_iff.1 ha).1
  have hbl := (List.getElem?_eq_some_iff.1 hb).1
  obtain ⟨ad, x', rfl, hx, hc1⟩ := hA.int hal
  obtain ⟨ad2, y', e2, hy, hc2⟩ := hA.int hbl
  injection e2 with e2
  subst e2
  rw [ha] at hx
  injection hx with hx
  subst hx
  rw [hb] at hy
  injection hy with hy
  subst hy
  have hxb := hw x (List.mem_of_getElem? ha)
  have hyb := hw y (List.mem_of_getElem? hb)
  clear ha hb hw
  go_enter Try.func49, Try.ntmps49
  go_wp2_with fail
  go_quiet (fail)
  go_wp2_with fail
  go_ret
  exact ⟨rfl, _, rfl⟩

set_option maxHeartbeats 1600000 in
theorem insertion_any (A : Option Addr) (c box g d B n : Nat) (ws : List Int) (w : World) (hn : n = ws.length) (hn1 : 1 ≤ n) (hl8 : n ≤ 8) (hbox : w.cell? ⟨box, 0, none⟩ = some (.slice A ws.length c)) (hA : Rd w A (ints ws)) (hw : ∀ x ∈ ws, 0 ≤ x ∧ x ≤ 1000)
    (hown : w.ownsRow B 3 1 (.slice (some ⟨g, 0, none⟩) n d) n (ints (nats (List.range n)))) (hbg : box ≠ g) (hAg : ∀ ad, A = some ad → ad.block ≠ g) :
    Calls Try.prog 56 #[.slice (some ⟨g, 0, none⟩) n d, .int .i64 0, .int .i64 n, .func (.func 49) #[] #[.pointer (some ⟨box, 0, none⟩)]] w fun e w' => e = .returned (.tuple #[]) ∧
      w'.ownsRow B 3 1 (.slice (some ⟨g, 0, none⟩) n d) n (ints (nats (sortedIx ws n))) ∧ w.grownBy w' (some g) := by
  have Hn := Lib.hid hn
  have Hw := Lib.hid hw
  have HA := Lib.hid hA
  have Hbox := Lib.hid hbox
  have Hbg := Lib.hid hbg
  have HAg := Lib.hid hAg
  have hst : List.range n = sortedIx ws 1 ++ List.range' 1 (n - 1) := by
    have : n = (n - 1) + 1 := by omega
    rw [this, List.range_eq_range', List.range'_succ]; rfl
  rw [hst] at hown
  have Hown := Lib.hid hown
  clear hn hw hA hbox hbg hAg hown hst
  go_enter Try.func56, Try.ntmps56
  go_wp2_with fail
  go_loopw [8] (fun iv wr => ∃ i : Nat, 1 ≤ i ∧ i ≤ n ∧ iv = .int .i64 i ∧ Hid (wr.ownsRow B 3 1 (.slice (some ⟨g, 0, none⟩) n d) n (ints (nats (sortedIx ws i ++ List.range' i (n - i)))) ∧ w.grownBy wr (some g))) (fun iv _ => n - (intOf iv).toNat)
  case atStart => exact ⟨1, Nat.le_refl _, hn1, rfl, Lib.hid ⟨Hown.out, World.grownBy.refl _ _⟩⟩
  case round =>
    obtain ⟨i, hi1, hin, rfl, hrow⟩ := hrel
    by_cases hlt : i < n
    · have hsl : (sortedIx ws i).length = i := sortedIx_length ws i
      rw [← midRow_start hsl hlt] at hrow
      have Hsl := Lib.hid hsl
      clear hsl Hown
      obtain ⟨wo, rfl⟩ : ∃ wo : World, wo = wr := ⟨_, rfl⟩
      go_wp2_with fail
      go_loopw [9] (fun jv wr => ∃ j : Nat, j ≤ i ∧ jv = .int .i64 j ∧ Hid (wr.ownsRow B 3 1 (.slice (some ⟨g, 0, none⟩) n d) n (ints (nats (midRow (sortedIx ws i) i j n))) ∧ w.grownBy wr (some g) ∧ downTo ws (sortedIx ws i) (ws.getD i 0) i = downTo ws (sortedIx ws i) (ws.getD i 0) j)) (fun jv _ => (intOf jv).toNat)
      case atStart => exact ⟨i, Nat.le_refl _, rfl, Lib.hid ⟨hrow.out.1, hrow.out.2, rfl⟩⟩
      case round =>
        clear hrow
        obtain ⟨j, hji, rfl, hrow⟩ := hrel
        obtain ⟨ho, hg, hd⟩ := hrow.out
        clear hrow
        have Hd := Lib.hid hd
        clear hd
        rcases Nat.eq_zero_or_pos j with rfl | hj
        · have Ho := Lib.hid ho
          have Hg := Lib.hid hg
          clear ho hg
          go_wp2_with fail
          go_quiet (fail)
          go_wp2_with fail
          go_roundw
          case rel => exact ⟨i + 1, by omega, by omega, by go_num, Lib.hid ⟨own_heap rfl (by rw [← midRow_done ws hlt, Hd.out]; exact Ho.out), grown_drewN Hg.out _⟩⟩
          case measure => simp [intOf]; omega
        · obtain ⟨k, rfl⟩ : ∃ k, j = k + 1 := ⟨j - 1, by omega⟩
          have hki : k < (sortedIx ws i).length := by rw [Hsl.out]; omega
          obtain ⟨y, hy⟩ : ∃ y, (sortedIx ws i)[k]? = some y := ⟨_, List.getElem?_eq_getElem hki⟩
          have hyi := sortedIx_lt ws i y (List.mem_of_getElem? hy)
          have hyn : y < ws.length := by have := Hn.out; omega
          have hin' : i < ws.length := by have := Hn.out; omega
          have hyg : (sortedIx ws i).getD k 0 = y := by rw [List.getD_eq_getElem?_getD, hy]; rfl
          obtain ⟨xi, hxi⟩ : ∃ xi, ws[i]? = some xi := ⟨_, List.getElem?_eq_getElem hin'⟩
          obtain ⟨xy, hxy⟩ : ∃ xy, ws[y]? = some xy := ⟨_, List.getElem?_eq_getElem hyn⟩
          have Hlt2 : Hid (ws.getD ((sortedIx ws i).getD k 0) 0 < ws.getD i 0 ↔ xy < xi) := Lib.hid (by rw [hyg, getD_of' hxi, getD_of' hxy])
          have c1 : wr.cell? ⟨g, k + 1, none⟩ = some (.int .i64 (i : Int)) := (ho.cellAt (k + 1) (by omega)).trans (ints_get (nats_get (midRow_at (by rw [Hsl.out]; exact hji))))
          have c2 : wr.cell? ⟨g, k, none⟩ = some (.int .i64 (y : Int)) := (ho.cellAt k (by omega)).trans (ints_get (nats_get ((midRow_before (by omega) (by rw [Hsl.out]; exact hji)).trans hy)))
          have f1 : wr.frozen? ⟨g, k + 1, none⟩ = false := ho.frozenAt (k + 1)
          have f2 : wr.frozen? ⟨g, k, none⟩ = false := ho.frozenAt k
          have hAr : Rd wr A (ints ws) := HA.out.grown hg (fun ad e e2 => by injection e2 with e2; exact HAg.out ad e e2)
          have hbr : wr.cell? ⟨box, 0, none⟩ = some (.slice A ws.length c) := hg.cell Hbox.out (by simp; exact Hbg.out)
          have hcmp := fun m : Nat => cmp_any A c box i y xi xy ws (wr.drewN m) hbr hAr Hw.out hxi hxy (by have := Hn.out; omega)
          have Ho := Lib.hid ho
          have Hg := Lib.hid hg
          have Hcmp := Lib.hid hcmp
          have hxib := Hw.out _ (List.mem_of_getElem? hxi)
          have hxyb := Hw.out _ (List.mem_of_getElem? hxy)
          have Hswap := Lib.hid (midRow_swap (i := i) (n := n) (by rw [Hsl.out]; exact hji) hy)
          clear ho hg hcmp hAr hbr hy hyg hxi hxy
          by_cases hlt2 : xy < xi
          · have Hlt3 := Lib.hid hlt2
            go_wp2_with fail
            go_quiet ((go_at_call 49; exact Calls.quiet_of (Hcmp.out _)))
            go_wp2_with fail
            obtain ⟨wq, hwq⟩ : ∃ wq, wq = wr.drewN nq := ⟨_, rfl⟩
            have hh : wq.heap = wr.heap := by rw [hwq]; rfl
            have gq : w.grownBy wq (some g) := by rw [hwq]; exact grown_drewN Hg.out _
            rw [← hwq]
            have d1 := (cell_heap hh _).trans c1
            have d2 := (cell_heap hh _).trans c2
            have d3 := (frozen_heap hh _).trans f1
            have d4 := (frozen_heap hh _).trans f2
            have s1 := (own_heap hh Ho.out).stored (k + 1) (.int .i64 (y : Int))
            rw [nats_set] at s1
            have s2 := s1.1.stored k (.int .i64 (i : Int))
            rw [nats_set, Hswap.out] at s2
            have S := Lib.hid s2.1
            have G := Lib.hid (gq.trans (s1.2.trans s2.2))
            clear hwq hh gq s1 s2 c1 c2 f1 f2 Ho Hg
            go_region
            all_goals (go_wp2_with fail)
            go_roundw
            case rel => exact ⟨k, by omega, rfl, Lib.hid ⟨S.out.drew, grown_drew G.out, by rw [Hd.out, downTo_go (Hlt2.out.2 Hlt3.out)]⟩⟩
            case measure => simp [intOf]
          · have Hlt3 := Lib.hid hlt2
            go_wp2_with fail
            go_quiet ((go_at_call 49; exact Calls.quiet_of (Hcmp.out _)))
            go_wp2_with fail
            go_roundw
            case rel => exact ⟨i + 1, by omega, by omega, by go_num, Lib.hid ⟨own_heap rfl (by rw [← midRow_done ws hlt, Hd.out, downTo_stop (fun h => by have := Hlt3.out; have := Hlt2.out.1 h; omega)]; exact Ho.out), grown_drewN Hg.out _⟩⟩
            case measure => simp [intOf]; omega
    · have hi : i = n := by omega
      subst hi
      have h1 := hrow.out
      rw [Nat.sub_self, List.range'_zero, List.append_nil] at h1
      have H1 := Lib.hid h1
      clear h1 hrow Hown
      go_wp2_with fail
      go_returns
      exact ⟨rfl, H1.out.1, H1.out.2⟩

set_option maxHeartbeats 400000 in
theorem stable_any (A : Option Addr) (c box g d B n : Nat) (ws : List Int) (w : World) (hn : n = ws.length) (hn1 : 1 ≤ n) (hl8 : n ≤ 8) (hbox : w.cell? ⟨box, 0, none⟩ = some (.slice A ws.length c)) (hA : Rd w A (ints ws)) (hw : ∀ x ∈ ws, 0 ≤ x ∧ x ≤ 1000)
    (hown : w.ownsRow B 3 1 (.slice (some ⟨g, 0, none⟩) n d) n (ints (nats (List.range n)))) (hbg : box ≠ g) (hAg : ∀ ad, A = some ad → ad.block ≠ g) :
    Calls Try.prog 48 #[.slice (some ⟨g, 0, none⟩) n d, .func (.func 49) #[] #[.pointer (some ⟨box, 0, none⟩)]] w fun e w' => e = .returned (.tuple #[]) ∧
      w'.ownsRow B 3 1 (.slice (some ⟨g, 0, none⟩) n d) n (ints (nats (sortedIx ws n))) ∧ w.grownBy w' (some g) := by
  have H := Lib.hid (insertion_any A c box g d B n ws w hn hn1 hl8 hbox hA hw hown hbg hAg)
  clear hn hbox hA hw hown hbg hAg
  go_enter Try.func48, Try.ntmps48
  go_wp2_with fail
  go_enter Try.func54, Try.ntmps54
  go_wp2_with fail
  refine wp_loop_rounds 1 ?_
  rw [rounds_succ]
  go_wp2_with fail
  refine (H.out).mono ?_
  rintro e w1 ⟨rfl, h1, h2⟩
  go_wp2_with fail
  refine wp_loop_rounds 1 ?_
  rw [rounds_succ]
  go_wp2_with fail
  go_returns
  exact ⟨rfl, h1, h2⟩

set_option maxHeartbeats 400000 in
theorem stable_zero (f : Value) (a : Option Addr) (d : Nat) (w : World) :
    Calls Try.prog 48 #[.slice a 0 d, f] w fun e w' => e = .returned (.tuple #[]) ∧ w = w' := by
  go_enter Try.func48, Try.ntmps48
  go_wp2_with fail
  go_enter Try.func54, Try.ntmps54
  go_wp2_with fail
  refine wp_loop_rounds 1 ?_
  rw [rounds_succ]
  go_wp2_with fail
  go_enter Try.func56, Try.ntmps56
  go_wp2_with fail
  refine wp_loop_rounds 1 ?_
  rw [rounds_succ]
  go_wp2_with fail
  refine wp_loop_rounds 1 ?_
  rw [rounds_succ]
  go_wp2_with fail
  go_returns
  exact ⟨rfl, rfl⟩

theorem stable_row (A C : Option Addr) (c box d B n : Nat) (ws : List Int) (w : World) (hn : n = ws.length) (hl8 : n ≤ 8) (hbox : w.cell? ⟨box, 0, none⟩ = some (.slice A ws.length c)) (hA : Rd w A (ints ws)) (hw : ∀ x ∈ ws, 0 ≤ x ∧ x ≤ 1000)
    (hown : w.ownsRow B 3 1 (.slice C n d) n (ints (nats (List.range n)))) (hbg : box < B) (hAg : ∀ ad, A = some ad → ws ≠ [] → ad.block < B) :
    Calls Try.prog 48 #[.slice C n d, .func (.func 49) #[] #[.pointer (some ⟨box, 0, none⟩)]] w fun e w' => e = .returned (.tuple #[]) ∧
      w'.ownsRow B 3 1 (.slice C n d) n (ints (nats (sortedIx ws n))) ∧ w.grownBy w' (Value.slice C n d).ownBlock := by
  rcases Nat.eq_zero_or_pos n with h0 | h1
  · subst h0
    exact (stable_zero _ C d w).mono fun e w' ⟨he, hw'⟩ => by subst hw'; exact ⟨he, hown, World.grownBy.refl _ _⟩
  · obtain ⟨g, rfl⟩ : ∃ g, C = some ⟨g, 0, none⟩ := by
      rcases hown.2 with ⟨hv, hz⟩ | ⟨g, cap, cur, hv, _⟩
      · omega
      · injection hv with hv; exact ⟨g, hv⟩
    have hg := (hown.lt g rfl).1
    exact stable_any A c box g d B n ws w hn h1 hl8 hbox hA hw hown (by omega) (fun ad e => by have := hAg ad e (by rintro rfl; simp at hn; omega); omega)

/-- The loading by first fit, the greatest weight first. -/
def fsd (ws : List Int) (cap : Int) : List Int := if wv ws cap then (fitAll ws cap (sortedIx ws ws.length)).2 else []
theorem fsd_no {ws : List Int} {cap : Int} (h : wv ws cap = false) : fsd ws cap = [] := by simp [fsd, h]
theorem fsd_yes {ws : List Int} {cap : Int} (h : wv ws cap = true) : fsd ws cap = (fitAll ws cap (sortedIx ws ws.length)).2 := by simp [fsd, h]

set_option maxHeartbeats 800000 in
theorem impl_fsd (A : Option Addr) (c : Nat) (ws : List Int) (cap : Int) (w : World) (hA : Rd w A (ints ws)) (hn : ws.length ≤ maxLen) :
    Calls Try.prog 32 #[.slice A ws.length c, .int .i64 cap] w fun e w' => ∃ v, e = .returned v ∧ OwnI w' w.heap.size v (fsd ws cap) ∧ Below w.heap.size w w' := by
  have hb0 : Below w.heap.size w (w.alloc (.cells #[.slice A ws.length c] 22)) := (Below.refl _ _).alloc (Nat.le_refl _) _
  have hA0 := hA.below hb0
  cases hw : wv ws cap
  · have Hf := Lib.hid (fsd_no hw)
    go_enter Try.func32, Try.ntmps32
    go_wp2_with (go_at_call 17; refine (impl_wv _ _ _ _ _ hA0 hn).mono ?_; rintro e w' ⟨rfl, rfl⟩)
    go_ret
    exact ⟨_, rfl, by rw [Hf.out]; exact ownI_nil _ _, hb0⟩
  · have Hf := Lib.hid (fsd_yes hw)
    obtain ⟨hwm, hl8, hc1, hc2⟩ := wv_parts hw
    have Hwm : Hid (∀ x ∈ ws, 0 ≤ x ∧ x ≤ 1000) := Lib.hid fun x hx => by have := hwm x hx; omega
    have Hw := Lib.hid hw
    have HA := Lib.hid hA
    clear hwm hA
    go_enter Try.func32, Try.ntmps32
    go_wp2_with (go_at_call 17; refine (impl_wv _ _ _ _ _ hA0 hn).mono ?_; rintro e w' ⟨rfl, rfl⟩)
    refine (indices_any ws.length _ (by omega)).mono ?_
    rintro e w1 ⟨v, rfl, ho, hb⟩
    have hb1 := hb0.trans (hb.mono (by simp))
    obtain ⟨C, d, rfl, hC, hcl⟩ := ho.rdn (n := ws.length) (by simp [nats])
    obtain ⟨C', d', hv, ho'⟩ := ho
    have hlen : (nats (List.range ws.length)).length = ws.length := by simp [nats]
    rw [hlen] at hv ho'
    have hbox1 : w1.cell? ⟨w.heap.size, 0, none⟩ = some (.slice A ws.length c) := by
      rw [hb.cell (by simp), cell_of_row _ _ _ _ _ _ (heap_alloc_new w _)]; rfl
    have hAb : ∀ ad, A = some ad → ws ≠ [] → ad.block < (w.alloc (.cells #[.slice A ws.length c] 22)).heap.size := by
      rintro ad rfl hws
      obtain ⟨ad1, z, e1, _, hc0⟩ := HA.out.int (k := 0) (by cases ws <;> simp_all)
      injection e1 with e1
      subst e1
      have := World.block_lt_of_cell? _ _ hc0
      rw [Addr.add_zero'] at this
      simp; omega
    have hs := stable_row A C c w.heap.size d _ ws.length ws w1 rfl hl8 hbox1 (hA0.below hb) Hwm.out ho' (by simp) hAb
    have Hs := Lib.hid hs
    have HAb := Lib.hid hAb
    have Ho' := Lib.hid ho'
    have HA1 := Lib.hid (hA0.below hb)
    clear hs hAb ho' hlen hC hA0 hw
    go_wp2_with fail
    refine (Hs.out).mono ?_
    rintro e w2 ⟨rfl, ho2, hg2⟩
    have hb2 : Below w.heap.size w w2 := hb1.grown hg2 hb1.size (fun g e => by
      have h1 := (Ho'.out.lt g e).1
      simp at h1; omega)
    have hbox2 : w2.cell? ⟨w.heap.size, 0, none⟩ = some (.slice A ws.length c) := by
      refine hg2.cell hbox1 fun e => ?_
      have h1 := (Ho'.out.lt _ e.symm).1
      simp at h1; omega
    obtain ⟨C2, d2, hv2, _, _, hC2, _⟩ := own_form ho2
    injection hv2 with e1 e2 e3
    subst e1 e3
    have hfit := impl_fit A C c d ws (sortedIx ws ws.length) cap w2 (HA.out.below hb2) hC2 Hw.out (sortedIx_lt ws ws.length) (by rw [sortedIx_length]; exact Nat.le_refl _)
    rw [sortedIx_length] at hfit
    have Hfit := Lib.hid hfit
    clear hfit hC2 ho2 hg2
    go_wp2_with fail
    refine (Hfit.out).mono ?_
    rintro e w3 ⟨v3, rfl, ho3, hb3⟩
    go_wp2_with fail
    go_ret
    exact ⟨_, rfl, by rw [Hf.out]; exact ho3.base hb2.size, below_trans' hb2 hb3⟩

end Go.Proofs.Ytiochiokcefbkaa
