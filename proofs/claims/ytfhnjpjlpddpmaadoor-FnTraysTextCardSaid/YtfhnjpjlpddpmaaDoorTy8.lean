
/- The walks of what fills trays. -/
import Derived.Test.YtfhnjpjlpddpmaaDoorTyFill
import Derived.Deep.RegionHeld3
import Derived.Deep.RegionLaw
import Derived.BigRegion
import Derived.Deep.DrawnRows
namespace Go.Proofs.YtfhnjpjlpddpmaaDoor
open Go.RowKit
set_option linter.unusedVariables false
attribute [local go_sem ↓] Go.wp_at_zero Go.wp_at_succ

/-- An empty tray in a block of its own, and the block that holds it. -/
theorem new_empty (wq : World) : Below wq.heap.size wq ((wq.alloc (.cells #[] 35)).alloc (.cells #[.slice (some ⟨wq.heap.size, 0, none⟩) 0 0] 33)) ∧
    Own ((wq.alloc (.cells #[] 35)).alloc (.cells #[.slice (some ⟨wq.heap.size, 0, none⟩) 0 0] 33)) wq.heap.size ((wq.alloc (.cells #[] 35)).alloc (.cells #[.slice (some ⟨wq.heap.size, 0, none⟩) 0 0] 33)).heap.size 35 2 (.slice (some ⟨wq.heap.size, 0, none⟩) 0 0) 0 (lcs []) ∧
    Rd ((wq.alloc (.cells #[] 35)).alloc (.cells #[.slice (some ⟨wq.heap.size, 0, none⟩) 0 0] 33)) (some ⟨wq.heap.size + 1, 0, none⟩) [.slice (some ⟨wq.heap.size, 0, none⟩) 0 0] := by
  refine ⟨below2 _ _ _, ?_, ?_⟩
  · exact ((own_lit0 wq).below ((Below.refl _ _).alloc (Nat.le_refl _) _)).wide (Nat.le_refl _) (by simp)
  · have := rd_new (wq.alloc (.cells #[] 35)) [.slice (some ⟨wq.heap.size, 0, none⟩) 0 0] 33
    simpa using this
theorem own_pos' {w : World} {base : Nat} {e : TypeId} {size : Nat} {v : Value} {n : Nat} {cs : List Value} (h : w.ownsRow base e size v n cs) (hn : 0 < n) : ∃ g cp, v = .slice (some ⟨g, 0, none⟩) n cp ∧ base ≤ g := by
  rcases h.2 with ⟨_, h0⟩ | ⟨g, cap, cur, hv, hb, _⟩
  · omega
  · exact ⟨g, cap, hv, hb⟩
theorem snoc_at {α : Type} {l : List α} {a : α} {n : Nat} (h : n = l.length) : (l ++ [a])[n]? = some a := by subst h; simp
theorem snoc_set {α : Type} {l : List α} {a b : α} {n : Nat} (h : n = l.length) : (l ++ [a]).set n b = l ++ [b] := by subst h; simp
theorem lcs_snoc (t : List Ltr) (x : Ltr) : lcs (t ++ [x]) = lcs t ++ lcs [x] := cs2_append _ _
theorem two_at {w : World} {ad : Addr} {xs : List Ltr} {k : Nat} {x : Ltr} (h : Rd w (some ad) (lcs xs)) (hx : xs[k]? = some x) : w.cell? (ad.add (k * 2)) = some (.int .i64 x.1) ∧ w.cell? ⟨(ad.add (k * 2)).block, (ad.add (k * 2)).off + 1, none⟩ = some (.string x.2) := by
  obtain ⟨ad', x', e, hx', a, b⟩ := h.two (List.getElem?_eq_some_iff.1 hx).1
  injection e with e
  subst e
  rw [hx] at hx'
  injection hx' with hx'
  subst hx'
  exact ⟨a, b⟩
/-- The cells that a round's last statement reads. -/
theorem tri {w : World} {lo g cp n m k : Nat} {us : List Value} {u : Value} {ad : Addr} {xs : List Ltr} {x : Ltr} (ho : w.ownsRow lo 33 1 (.slice (some ⟨g, 0, none⟩) n cp) n us) (hm : m < n) (hu : us[m]? = some u) (h : Rd w (some ad) (lcs xs)) (hx : xs[k]? = some x) :
    w.cell? ⟨g, m, none⟩ = some u ∧ w.cell? (ad.add (k * 2)) = some (.int .i64 x.1) ∧ w.cell? ⟨(ad.add (k * 2)).block, (ad.add (k * 2)).off + 1, none⟩ = some (.string x.2) := by
  obtain ⟨a, b⟩ := two_at h hx
  exact ⟨(ho.cellAt m (by omega)).trans hu, a, b⟩
set_option maxRecDepth 100000 in
set_option maxHeartbeats 1600000 in
theorem spec_fill (v : Value) (xs : List Ltr) (size d : Nat) (w : World) (h : Lt w v xs) (hc : ∀ x ∈ xs, x.2.size = 7) (hlen : xs.length ≤ 60) (hs1 : 1 ≤ size) (hs2 : size ≤ 20) (hd : d ≤ 7) :
    Calls Tryd.prog 47 #[v, .int .i64 size, .int .i64 d] w fun e w' => ∃ u, e = .returned u ∧ OLL w' w.heap.size w'.heap.size u (fillT size d xs) ∧ Below w.heap.size w w' := by
  obtain ⟨A, c, rfl, hA, hc1, hc2⟩ := h
  unfold maxLen at hc2
  have HA := Lib.hid hA
  have Hc := Lib.hid hc
  have hst : Hid ((w.alloc (.cells #[] 33)).ownsRow w.heap.size 33 1 (.slice (some ⟨w.heap.size, 0, none⟩) 0 0) 0 []) := Lib.hid (World.ownsRow_lit w #[] 0 (Nat.le_refl _) (Nat.zero_le _) rfl)
  have hb0 : Hid (Below w.heap.size w (w.alloc (.cells #[] 33))) := Lib.hid ((Below.refl _ _).alloc (Nat.le_refl _) _)
  clear hA hc
  go_enter Tryd.func47, Tryd.ntmps47
  go_wp2_with fail
  go_loopw [7, 8] (fun o i wr => ∃ (k n : Nat) (us : List Value) (u0 : Value), k ≤ xs.length ∧ i = .int .i64 k ∧ u0 = o ∧ Hid (Below w.heap.size w wr) ∧ n ≤ k ∧ Hid (us.length = n) ∧ Hid (wr.ownsRow w.heap.size 33 1 u0 n us ∧ RowsL wr w.heap.size wr.heap.size us (fillT size d (xs.take k)))) (fun _ i _ => xs.length - (intOf i).toNat)
  case atStart => exact ⟨0, 0, [], _, Nat.zero_le _, rfl, rfl, hb0, Nat.le_refl _, Lib.hid rfl, Lib.hid ⟨hst.out, Rows.nil⟩⟩
  case round =>
    obtain ⟨k, n, us, u0, hk, rfl, rfl, Hb, hul, Hn, Hr⟩ := hrel
    clear hst hb0
    by_cases hlt : k < xs.length
    · obtain ⟨ad, x, rfl, hx, hcA, hcB⟩ := (HA.out.below Hb.out).two hlt
      have hsz := Hc.out x (List.mem_of_getElem? hx)
      have Hx := Lib.hid hx
      simp only [ltf] at hcA hcB
      clear hx
      obtain ⟨C, cp, rfl, hcp1, hcp2, hC, hCf⟩ := own_form Hr.out.1
      have hulen := Lib.hid (Hn.out.symm.trans Hr.out.2.len)
      clear hC hCf
      rcases Nat.eq_zero_or_pos k with h0 | hpos
      · subst h0
        have hn0 : n = 0 := by omega
        subst hn0
        have Hnew : Hid (fillT size d (xs.take (0 + 1)) = fillT size d (xs.take 0) ++ [[x]]) := Lib.hid (fill_first Hx.out)
        go_wp2_with fail
        go_quiet (fail)
        obtain ⟨wq, hwq⟩ : ∃ wq, wq = wr.drewN nq := ⟨_, rfl⟩
        have hh : wq.heap = wr.heap := by rw [hwq]; rfl
        have Hq1 := Lib.hid (own_heap hh Hr.out.1)
        have Hq2 : Hid (RowsL wq w.heap.size wq.heap.size us (fillT size d (xs.take (0)))) := Lib.hid (by rw [hwq]; exact Hr.out.2.below (below_of_drewN wr nq))
        have HBq : Hid (Below w.heap.size w wq) := Lib.hid (by rw [hwq]; exact below_drewN Hb.out nq)
        rw [← hwq]
        have Hne := Lib.hid (new_empty wq)
        clear hwq hh
        go_wp2_with (at_builtin; refine wpList_append_rd rfl (.tmp 49) (.tmp 51) 25 rfl trays_elem (base := w.heap.size) (.slice C 0 cp) (0) us rfl (own_below Hq1.out Hne.out.1) (some ⟨wq.heap.size + 1, 0, none⟩) 1 1 [.slice (some ⟨wq.heap.size, 0, none⟩) 0 0] rfl rfl Hne.out.2.2 (by intro u hu; simp at hu; subst hu; rfl) (by unfold maxLen; omega) (by omega) (Nat.le_trans HBq.out.size Hne.out.1.size) ?_; intro v5 w5 hown5 hg5 hm5)
        have HN := Lib.hid (tray_new (ys := []) HBq.out.size Hq1.out Hq2.out Hne.out.1 Hne.out.2.1 hown5 hg5)
        have HTb : Hid (Below w.heap.size w w5) := Lib.hid ((below_step HBq.out HBq.out.size Hne.out.1).grown hg5 (Nat.le_trans HBq.out.size Hne.out.1.size) (fun g e => ((own_below Hq1.out Hne.out.1).lt g e).1))
        obtain ⟨g5, cp5, rfl, hg5b⟩ := own_pos' hown5 (by omega)
        have HT1 := Lib.hid HN.out.1
        have HT2 := Lib.hid HN.out.2
        have hnn := Hn.out
        have HTu : Hid ((us ++ [Value.slice (some ⟨wq.heap.size, 0, none⟩) 0 0])[0]? = some (.slice (some ⟨wq.heap.size, 0, none⟩) 0 0)) := Lib.hid (snoc_at hnn.symm)
        have HTx : Hid ((fillT size d (xs.take (0)) ++ [[]])[0]? = some []) := Lib.hid (snoc_at hulen.out)
        have HTf : Hid (fillT size d (xs.take (0 + 1)) = (fillT size d (xs.take (0)) ++ [[]]).set (0) ([] ++ [x])) := Lib.hid (by rw [snoc_set hulen.out]; exact Hnew.out)
        have HTn : Hid ((us ++ [Value.slice (some ⟨wq.heap.size, 0, none⟩) 0 0]).length = 1) := Lib.hid (by rw [List.length_append, hnn]; rfl)
        clear hown5 hg5 hm5 hcA hcB Hq1 Hq2 HBq Hne HN hnn Hr Hb
        go_wp2_with fail
        have hmn : 0 < 1 := by omega
        have B2 : Below (w5).heap.size w5 ((w5).alloc (.cells #[.int .i64 x.1, .string x.2] 35)).drew := ((Below.refl _ _).alloc (Nat.le_refl _) _).drew
        have T2 := Lib.hid (own_below HT1.out B2)
        have R2 := Lib.hid (HA.out.below (below_step HTb.out HTb.out.size B2))
        have U2 := Lib.hid ((HT2.out.row _ _ _ HTu.out HTx.out).below B2).row
        have N2 : Hid (Rd ((w5).alloc (.cells #[.int .i64 x.1, .string x.2] 35)).drew (some ⟨(w5).heap.size, 0, none⟩) (lcs [x])) := Lib.hid ((rd_new w5 (lcs [x]) 35).below (below_of_drewN _ 1))
        have Z2 := Lib.hid (Nat.le_trans HTb.out.size B2.size)
        have HB2 := Lib.hid B2
        clear B2
        obtain ⟨cU, cA, cB⟩ := tri HT1.out hmn HTu.out (HA.out.below HTb.out) Hx.out
        have cU2 : ((w5).alloc (.cells #[.int .i64 x.1, .string x.2] 35)).cell? ⟨g5, 0, none⟩ = some (.slice (some ⟨wq.heap.size, 0, none⟩) (0) 0) := (T2.out.cellAt 0 (by omega)).trans HTu.out
        have hGG : w.heap.size ≤ (⟨g5, 0, none⟩ : Addr).block := (HT1.out.lt g5 rfl).1
        clear cA cB
        have cU1 : (w5).cell? ⟨g5, 0, none⟩ = some (.slice (some ⟨wq.heap.size, 0, none⟩) (0) 0) := cU
        obtain ⟨cA, cB⟩ := two_at (HA.out.below HTb.out) Hx.out
        obtain ⟨cA2, cB2⟩ := two_at R2.out Hx.out
        have dA := cA
        have dB := cB
        have dA2 := cA2
        have dB2 := cB2
        try simp only [Nat.zero_mul, Addr.add_zero'] at dA dB dA2 dB2
        go_region_law ((refine step_append_rd (by rfl) (.tmp 60) (.tmp 65) 33 (by rfl) ltr_elem (base := w.heap.size) (.slice (some ⟨wq.heap.size, 0, none⟩) (0) 0) (0) (lcs (([] : List Ltr))) (by rfl) U2.out (some ⟨(w5).heap.size, 0, none⟩) 1 1 (lcs [x]) (by rfl) (by rfl) N2.out (lcs_oneCell _) (by unfold maxLen; omega) (by omega) Z2.out ?_; intro u6 w6 hown6 hg6 hm6; obtain ⟨g6, cp6, rfl, hg6b⟩ := own_pos' hown6 (by omega); have B6 : Hid (Below w.heap.size w w6) := Lib.hid ((below_step HTb.out HTb.out.size HB2.out).grown hg6 Z2.out (fun g e => (U2.out.lt g e).1)); have B7 := Lib.hid (B6.out.setCell hGG (.slice (some ⟨g6, 0, none⟩) (0 + 1) cp6)); have o6 := Lib.hid (T2.out.kept hg6 (apart_row (own_apart_type T2.out U2.out ne_types.symm))); have f6 : w6.frozen? ⟨g5, 0, none⟩ = false := o6.out.frozenAt _; have c6 := (o6.out.cellAt 0 (by omega)).trans HTu.out))
        all_goals
          (go_wp2_with fail
           have h3 : w6.ownsRow w.heap.size 35 2 (.slice (some ⟨g6, 0, none⟩) (0 + 1) cp6) (([] : List Ltr) ++ [x]).length (lcs (([] : List Ltr) ++ [x])) := by rw [List.length_append, lcs_snoc]; exact hown6
           have s7 := o6.out.stored 0 (.slice (some ⟨g6, 0, none⟩) (0 + 1) cp6)
           have hfin := tray_more HTb.out.size HT1.out HT2.out HTu.out HTx.out HB2.out h3 hg6 hm6 s7.1 s7.2
           have Hfin := Lib.hid hfin
           have Hlen : Hid ((((us ++ [Value.slice (some ⟨wq.heap.size, 0, none⟩) 0 0])).set 0 (.slice (some ⟨g6, 0, none⟩) (0 + 1) cp6)).length = 1) := Lib.hid (by rw [List.length_set]; exact HTn.out)
           clear h3 s7 hfin
           go_roundw
           case rel => exact ⟨(0) + 1, 1, _, _, by omega, by go_num, rfl, B7, by omega, Hlen, Lib.hid ⟨Hfin.out.1, by rw [HTf.out]; exact Hfin.out.2⟩⟩
           case measure => simp [intOf]; omega)
      · obtain ⟨t, hti, htl, hty, ht1, htn⟩ := fill_last (size := size) (d := d) (b := xs) hs1 hpos hk
        rw [← hulen.out] at hti htn
        obtain ⟨m, rfl⟩ : ∃ m, n = m + 1 := ⟨n - 1, by omega⟩
        rw [Nat.add_sub_cancel] at hti
        have hul2 := Hn.out
        obtain ⟨u, hu⟩ : ∃ u, us[m]? = some u := ⟨_, List.getElem?_eq_getElem (by omega)⟩
        obtain ⟨g, hCg⟩ : ∃ g, C = some ⟨g, 0, none⟩ := by
          obtain ⟨g2, cp2, e, _⟩ := own_pos' Hr.out.1 htn
          injection e with e
          exact ⟨g2, e⟩
        subst hCg
        have hcU : wr.cell? ⟨g, m, none⟩ = some u := (Hr.out.1.cellAt m (by omega)).trans hu
        obtain ⟨UC, ucp, hue, huc1, huc2, huR, huf⟩ := own_form (Hr.out.2.row _ u t hu hti).row
        obtain ⟨j, rfl⟩ : ∃ j, k = j + 1 := ⟨k - 1, by omega⟩
        rw [Nat.add_sub_cancel] at hty
        obtain ⟨ad2, y, e2, hy, hcC, hcD⟩ := (HA.out.below Hb.out).two (k := j) (by omega)
        injection e2 with e2
        subst e2
        have hsy := Hc.out y (List.mem_of_getElem? hy)
        simp only [ltf] at hcC hcD
        have Hy := Lib.hid hy
        have Hu := Lib.hid hu
        have Ht := Lib.hid (And.intro hti (And.intro htl hty))
        have htsz : t.length ≤ size := ((fill_all hs1 (xs.take (j + 1))).1.one t (List.mem_of_getElem? hti)).2
        subst hue
        have HU := Lib.hid huR
        clear hy hu hti htl hty huR huf hul2
        have b0 : decide ((m : Int) < 0) = false := decide_eq_false (by omega)
        have b1 : (m : Int) < (m : Int) + 1 := by omega
        have b2 : (0 : Int) ≤ m := by omega
        have b3 : (j : Int) + 1 < xs.length := by omega
        have b4 : (j : Int) < xs.length := by omega
        have b5 : (0 : Int) ≤ (j : Int) + 1 := by omega
        have b6 : (0 : Int) ≤ d := by omega
        have b8 : (0 : Int) ≤ (m : Int) + 1 := by omega
        have b9 : (m : Int) + 1 < (m : Int) + 1 + 1 := by omega
        have b7 : (d : Int) ≤ 7 := by omega
        by_cases hfull : t.length = size
        · have e1 : ((t.length : Int) == (size : Int)) = true := by simp [hfull]
          have Hnew := Lib.hid (fill_new (size := size) (d := d) Hx.out Hy.out Ht.out.2.1 Ht.out.2.2 (.inl hfull))
          clear hfull
          go_wp2_with fail
          go_quiet (fail)
          obtain ⟨wq, hwq⟩ : ∃ wq, wq = wr.drewN nq := ⟨_, rfl⟩
          have hh : wq.heap = wr.heap := by rw [hwq]; rfl
          have Hq1 := Lib.hid (own_heap hh Hr.out.1)
          have Hq2 : Hid (RowsL wq w.heap.size wq.heap.size us (fillT size d (xs.take ((j + 1))))) := Lib.hid (by rw [hwq]; exact Hr.out.2.below (below_of_drewN wr nq))
          have HBq : Hid (Below w.heap.size w wq) := Lib.hid (by rw [hwq]; exact below_drewN Hb.out nq)
          rw [← hwq]
          have Hne := Lib.hid (new_empty wq)
          clear hwq hh
          go_wp2_with (at_builtin; refine wpList_append_rd rfl (.tmp 49) (.tmp 51) 25 rfl trays_elem (base := w.heap.size) (.slice (some ⟨g, 0, none⟩) (m + 1) cp) ((m + 1)) us rfl (own_below Hq1.out Hne.out.1) (some ⟨wq.heap.size + 1, 0, none⟩) 1 1 [.slice (some ⟨wq.heap.size, 0, none⟩) 0 0] rfl rfl Hne.out.2.2 (by intro u hu; simp at hu; subst hu; rfl) (by unfold maxLen; omega) (by omega) (Nat.le_trans HBq.out.size Hne.out.1.size) ?_; intro v5 w5 hown5 hg5 hm5)
          have HN := Lib.hid (tray_new (ys := []) HBq.out.size Hq1.out Hq2.out Hne.out.1 Hne.out.2.1 hown5 hg5)
          have HTb : Hid (Below w.heap.size w w5) := Lib.hid ((below_step HBq.out HBq.out.size Hne.out.1).grown hg5 (Nat.le_trans HBq.out.size Hne.out.1.size) (fun g e => ((own_below Hq1.out Hne.out.1).lt g e).1))
          obtain ⟨g5, cp5, rfl, hg5b⟩ := own_pos' hown5 (by omega)
          have HT1 := Lib.hid HN.out.1
          have HT2 := Lib.hid HN.out.2
          have hnn := Hn.out
          have HTu : Hid ((us ++ [Value.slice (some ⟨wq.heap.size, 0, none⟩) 0 0])[(m + 1)]? = some (.slice (some ⟨wq.heap.size, 0, none⟩) 0 0)) := Lib.hid (snoc_at hnn.symm)
          have HTx : Hid ((fillT size d (xs.take ((j + 1))) ++ [[]])[(m + 1)]? = some []) := Lib.hid (snoc_at hulen.out)
          have HTf : Hid (fillT size d (xs.take ((j + 1) + 1)) = (fillT size d (xs.take ((j + 1))) ++ [[]]).set ((m + 1)) ([] ++ [x])) := Lib.hid (by rw [snoc_set hulen.out]; exact Hnew.out)
          have HTn : Hid ((us ++ [Value.slice (some ⟨wq.heap.size, 0, none⟩) 0 0]).length = (m + 1 + 1)) := Lib.hid (by rw [List.length_append, hnn]; rfl)
          clear hown5 hg5 hm5 hcA hcB Hq1 Hq2 HBq Hne HN hnn Hr Hb
          go_wp2_with fail
          have hmn : (m + 1) < (m + 1 + 1) := by omega
          have B2 : Below (w5).heap.size w5 ((w5).alloc (.cells #[.int .i64 x.1, .string x.2] 35)).drew := ((Below.refl _ _).alloc (Nat.le_refl _) _).drew
          have T2 := Lib.hid (own_below HT1.out B2)
          have R2 := Lib.hid (HA.out.below (below_step HTb.out HTb.out.size B2))
          have U2 := Lib.hid ((HT2.out.row _ _ _ HTu.out HTx.out).below B2).row
          have N2 : Hid (Rd ((w5).alloc (.cells #[.int .i64 x.1, .string x.2] 35)).drew (some ⟨(w5).heap.size, 0, none⟩) (lcs [x])) := Lib.hid ((rd_new w5 (lcs [x]) 35).below (below_of_drewN _ 1))
          have Z2 := Lib.hid (Nat.le_trans HTb.out.size B2.size)
          have HB2 := Lib.hid B2
          clear B2
          obtain ⟨cU, cA, cB⟩ := tri HT1.out hmn HTu.out (HA.out.below HTb.out) Hx.out
          have cU2 : ((w5).alloc (.cells #[.int .i64 x.1, .string x.2] 35)).cell? ⟨g5, (m + 1), none⟩ = some (.slice (some ⟨wq.heap.size, 0, none⟩) (0) 0) := (T2.out.cellAt (m + 1) (by omega)).trans HTu.out
          have hGG : w.heap.size ≤ (⟨g5, (m + 1), none⟩ : Addr).block := (HT1.out.lt g5 rfl).1
          clear cA cB
          have cU1 : (w5).cell? ⟨g5, (m + 1), none⟩ = some (.slice (some ⟨wq.heap.size, 0, none⟩) (0) 0) := cU
          obtain ⟨cA, cB⟩ := two_at (HA.out.below HTb.out) Hx.out
          obtain ⟨cA2, cB2⟩ := two_at R2.out Hx.out
          have dA := cA
          have dB := cB
          have dA2 := cA2
          have dB2 := cB2
          try simp only [Nat.zero_mul, Addr.add_zero'] at dA dB dA2 dB2
          go_region_law ((refine step_append_rd (by rfl) (.tmp 60) (.tmp 65) 33 (by rfl) ltr_elem (base := w.heap.size) (.slice (some ⟨wq.heap.size, 0, none⟩) (0) 0) (0) (lcs (([] : List Ltr))) (by rfl) U2.out (some ⟨(w5).heap.size, 0, none⟩) 1 1 (lcs [x]) (by rfl) (by rfl) N2.out (lcs_oneCell _) (by unfold maxLen; omega) (by omega) Z2.out ?_; intro u6 w6 hown6 hg6 hm6; obtain ⟨g6, cp6, rfl, hg6b⟩ := own_pos' hown6 (by omega); have B6 : Hid (Below w.heap.size w w6) := Lib.hid ((below_step HTb.out HTb.out.size HB2.out).grown hg6 Z2.out (fun g e => (U2.out.lt g e).1)); have B7 := Lib.hid (B6.out.setCell hGG (.slice (some ⟨g6, 0, none⟩) (0 + 1) cp6)); have o6 := Lib.hid (T2.out.kept hg6 (apart_row (own_apart_type T2.out U2.out ne_types.symm))); have f6 : w6.frozen? ⟨g5, (m + 1), none⟩ = false := o6.out.frozenAt _; have c6 := (o6.out.cellAt (m + 1) (by omega)).trans HTu.out))
          all_goals
            (go_wp2_with fail
             have h3 : w6.ownsRow w.heap.size 35 2 (.slice (some ⟨g6, 0, none⟩) (0 + 1) cp6) (([] : List Ltr) ++ [x]).length (lcs (([] : List Ltr) ++ [x])) := by rw [List.length_append, lcs_snoc]; exact hown6
             have s7 := o6.out.stored (m + 1) (.slice (some ⟨g6, 0, none⟩) (0 + 1) cp6)
             have hfin := tray_more HTb.out.size HT1.out HT2.out HTu.out HTx.out HB2.out h3 hg6 hm6 s7.1 s7.2
             have Hfin := Lib.hid hfin
             have Hlen : Hid ((((us ++ [Value.slice (some ⟨wq.heap.size, 0, none⟩) 0 0])).set (m + 1) (.slice (some ⟨g6, 0, none⟩) (0 + 1) cp6)).length = (m + 1 + 1)) := Lib.hid (by rw [List.length_set]; exact HTn.out)
             clear h3 s7 hfin
             go_roundw
             case rel => exact ⟨((j + 1)) + 1, (m + 1 + 1), _, _, by omega, by go_num, rfl, B7, by omega, Hlen, Lib.hid ⟨Hfin.out.1, by rw [HTf.out]; exact Hfin.out.2⟩⟩
             case measure => simp [intOf]; omega)
        · have e1 : ((t.length : Int) == (size : Int)) = false := by simp only [beq_eq_false_iff_ne]; omega
          by_cases hpre : pre d x.2 = pre d y.2
          · have e3 : ((pre d x.2).toList == (pre d y.2).toList) = true := str_same hpre
            have Hmore := Lib.hid (fill_more (size := size) (d := d) Hx.out Hy.out Ht.out.2.1 Ht.out.2.2 hfull hpre)
            clear hfull
            unfold pre at e3
            go_wp2_with fail
            go_quiet (fail)
            obtain ⟨wq, hwq⟩ : ∃ wq, wq = wr.drewN nq := ⟨_, rfl⟩
            have hh : wq.heap = wr.heap := by rw [hwq]; rfl
            have HT1 := Lib.hid (own_heap hh Hr.out.1)
            have HT2 : Hid (RowsL wq w.heap.size wq.heap.size us (fillT size d (xs.take (j + 1)))) := Lib.hid (by rw [hwq]; exact Hr.out.2.below (below_of_drewN wr nq))
            have HTb : Hid (Below w.heap.size w wq) := Lib.hid (by rw [hwq]; exact below_drewN Hb.out nq)
            have HTu := Hu
            have HTx := Lib.hid Ht.out.1
            have HTf : Hid (fillT size d (xs.take (j + 1 + 1)) = (fillT size d (xs.take (j + 1))).set m (t ++ [x])) := Lib.hid (by rw [Hmore.out, ← hulen.out, Nat.add_sub_cancel])
            have HTn := Hn
            rw [← hwq]
            have cU := (cell_heap hh _).trans hcU
            have fU : wq.frozen? ⟨g, m, none⟩ = false := HT1.out.frozenAt m
            have cA := (cell_heap hh _).trans hcA
            have cB := (cell_heap hh _).trans hcB
            clear hwq hh hcU hcA hcB hcC hcD fU cA cB cU
            go_wp2_with fail
            have hmn : m < (m + 1) := by omega
            have B2 : Below (wq).heap.size wq ((wq).alloc (.cells #[.int .i64 x.1, .string x.2] 35)).drew := ((Below.refl _ _).alloc (Nat.le_refl _) _).drew
            have T2 := Lib.hid (own_below HT1.out B2)
            have R2 := Lib.hid (HA.out.below (below_step HTb.out HTb.out.size B2))
            have U2 := Lib.hid ((HT2.out.row _ _ _ HTu.out HTx.out).below B2).row
            have N2 : Hid (Rd ((wq).alloc (.cells #[.int .i64 x.1, .string x.2] 35)).drew (some ⟨(wq).heap.size, 0, none⟩) (lcs [x])) := Lib.hid ((rd_new wq (lcs [x]) 35).below (below_of_drewN _ 1))
            have Z2 := Lib.hid (Nat.le_trans HTb.out.size B2.size)
            have HB2 := Lib.hid B2
            clear B2
            obtain ⟨cU, cA, cB⟩ := tri HT1.out hmn HTu.out (HA.out.below HTb.out) Hx.out
            have cU2 : ((wq).alloc (.cells #[.int .i64 x.1, .string x.2] 35)).cell? ⟨g, m, none⟩ = some (.slice UC (t.length) ucp) := (T2.out.cellAt m (by omega)).trans HTu.out
            have hGG : w.heap.size ≤ (⟨g, m, none⟩ : Addr).block := (HT1.out.lt g rfl).1
            clear cA cB
            have cU1 : (wq).cell? ⟨g, m, none⟩ = some (.slice UC (t.length) ucp) := cU
            obtain ⟨cA, cB⟩ := two_at (HA.out.below HTb.out) Hx.out
            obtain ⟨cA2, cB2⟩ := two_at R2.out Hx.out
            have dA := cA
            have dB := cB
            have dA2 := cA2
            have dB2 := cB2
            try simp only [Nat.zero_mul, Addr.add_zero'] at dA dB dA2 dB2
            go_region_law ((refine step_append_rd (by rfl) (.tmp 60) (.tmp 65) 33 (by rfl) ltr_elem (base := w.heap.size) (.slice UC (t.length) ucp) (t.length) (lcs (t)) (by rfl) U2.out (some ⟨(wq).heap.size, 0, none⟩) 1 1 (lcs [x]) (by rfl) (by rfl) N2.out (lcs_oneCell _) (by unfold maxLen; omega) (by omega) Z2.out ?_; intro u6 w6 hown6 hg6 hm6; obtain ⟨g6, cp6, rfl, hg6b⟩ := own_pos' hown6 (by omega); have B6 : Hid (Below w.heap.size w w6) := Lib.hid ((below_step HTb.out HTb.out.size HB2.out).grown hg6 Z2.out (fun g e => (U2.out.lt g e).1)); have B7 := Lib.hid (B6.out.setCell hGG (.slice (some ⟨g6, 0, none⟩) (t.length + 1) cp6)); have o6 := Lib.hid (T2.out.kept hg6 (apart_row (own_apart_type T2.out U2.out ne_types.symm))); have f6 : w6.frozen? ⟨g, m, none⟩ = false := o6.out.frozenAt _; have c6 := (o6.out.cellAt m (by omega)).trans HTu.out))
            all_goals
              (go_wp2_with fail
               have h3 : w6.ownsRow w.heap.size 35 2 (.slice (some ⟨g6, 0, none⟩) (t.length + 1) cp6) (t ++ [x]).length (lcs (t ++ [x])) := by rw [List.length_append, lcs_snoc]; exact hown6
               have s7 := o6.out.stored m (.slice (some ⟨g6, 0, none⟩) (t.length + 1) cp6)
               have hfin := tray_more HTb.out.size HT1.out HT2.out HTu.out HTx.out HB2.out h3 hg6 hm6 s7.1 s7.2
               have Hfin := Lib.hid hfin
               have Hlen : Hid (((us).set m (.slice (some ⟨g6, 0, none⟩) (t.length + 1) cp6)).length = (m + 1)) := Lib.hid (by rw [List.length_set]; exact HTn.out)
               clear h3 s7 hfin
               go_roundw
               case rel => exact ⟨(j + 1) + 1, (m + 1), _, _, by omega, by go_num, rfl, B7, by omega, Hlen, Lib.hid ⟨Hfin.out.1, by rw [HTf.out]; exact Hfin.out.2⟩⟩
               case measure => simp [intOf]; omega)
          · have e3 : ((pre d x.2).toList == (pre d y.2).toList) = false := str_diff hpre
            have Hnew := Lib.hid (fill_new (size := size) (d := d) Hx.out Hy.out Ht.out.2.1 Ht.out.2.2 (.inr hpre))
            clear hfull
            unfold pre at e3
            go_wp2_with fail
            go_quiet (fail)
            obtain ⟨wq, hwq⟩ : ∃ wq, wq = wr.drewN nq := ⟨_, rfl⟩
            have hh : wq.heap = wr.heap := by rw [hwq]; rfl
            have Hq1 := Lib.hid (own_heap hh Hr.out.1)
            have Hq2 : Hid (RowsL wq w.heap.size wq.heap.size us (fillT size d (xs.take ((j + 1))))) := Lib.hid (by rw [hwq]; exact Hr.out.2.below (below_of_drewN wr nq))
            have HBq : Hid (Below w.heap.size w wq) := Lib.hid (by rw [hwq]; exact below_drewN Hb.out nq)
            rw [← hwq]
            have Hne := Lib.hid (new_empty wq)
            clear hwq hh
            go_wp2_with (at_builtin; refine wpList_append_rd rfl (.tmp 49) (.tmp 51) 25 rfl trays_elem (base := w.heap.size) (.slice (some ⟨g, 0, none⟩) (m + 1) cp) ((m + 1)) us rfl (own_below Hq1.out Hne.out.1) (some ⟨wq.heap.size + 1, 0, none⟩) 1 1 [.slice (some ⟨wq.heap.size, 0, none⟩) 0 0] rfl rfl Hne.out.2.2 (by intro u hu; simp at hu; subst hu; rfl) (by unfold maxLen; omega) (by omega) (Nat.le_trans HBq.out.size Hne.out.1.size) ?_; intro v5 w5 hown5 hg5 hm5)
            have HN := Lib.hid (tray_new (ys := []) HBq.out.size Hq1.out Hq2.out Hne.out.1 Hne.out.2.1 hown5 hg5)
            have HTb : Hid (Below w.heap.size w w5) := Lib.hid ((below_step HBq.out HBq.out.size Hne.out.1).grown hg5 (Nat.le_trans HBq.out.size Hne.out.1.size) (fun g e => ((own_below Hq1.out Hne.out.1).lt g e).1))
            obtain ⟨g5, cp5, rfl, hg5b⟩ := own_pos' hown5 (by omega)
            have HT1 := Lib.hid HN.out.1
            have HT2 := Lib.hid HN.out.2
            have hnn := Hn.out
            have HTu : Hid ((us ++ [Value.slice (some ⟨wq.heap.size, 0, none⟩) 0 0])[(m + 1)]? = some (.slice (some ⟨wq.heap.size, 0, none⟩) 0 0)) := Lib.hid (snoc_at hnn.symm)
            have HTx : Hid ((fillT size d (xs.take ((j + 1))) ++ [[]])[(m + 1)]? = some []) := Lib.hid (snoc_at hulen.out)
            have HTf : Hid (fillT size d (xs.take ((j + 1) + 1)) = (fillT size d (xs.take ((j + 1))) ++ [[]]).set ((m + 1)) ([] ++ [x])) := Lib.hid (by rw [snoc_set hulen.out]; exact Hnew.out)
            have HTn : Hid ((us ++ [Value.slice (some ⟨wq.heap.size, 0, none⟩) 0 0]).length = (m + 1 + 1)) := Lib.hid (by rw [List.length_append, hnn]; rfl)
            clear hown5 hg5 hm5 hcA hcB Hq1 Hq2 HBq Hne HN hnn Hr Hb
            go_wp2_with fail
            have hmn : (m + 1) < (m + 1 + 1) := by omega
            have B2 : Below (w5).heap.size w5 ((w5).alloc (.cells #[.int .i64 x.1, .string x.2] 35)).drew := ((Below.refl _ _).alloc (Nat.le_refl _) _).drew
            have T2 := Lib.hid (own_below HT1.out B2)
            have R2 := Lib.hid (HA.out.below (below_step HTb.out HTb.out.size B2))
            have U2 := Lib.hid ((HT2.out.row _ _ _ HTu.out HTx.out).below B2).row
            have N2 : Hid (Rd ((w5).alloc (.cells #[.int .i64 x.1, .string x.2] 35)).drew (some ⟨(w5).heap.size, 0, none⟩) (lcs [x])) := Lib.hid ((rd_new w5 (lcs [x]) 35).below (below_of_drewN _ 1))
            have Z2 := Lib.hid (Nat.le_trans HTb.out.size B2.size)
            have HB2 := Lib.hid B2
            clear B2
            obtain ⟨cU, cA, cB⟩ := tri HT1.out hmn HTu.out (HA.out.below HTb.out) Hx.out
            have cU2 : ((w5).alloc (.cells #[.int .i64 x.1, .string x.2] 35)).cell? ⟨g5, (m + 1), none⟩ = some (.slice (some ⟨wq.heap.size, 0, none⟩) (0) 0) := (T2.out.cellAt (m + 1) (by omega)).trans HTu.out
            have hGG : w.heap.size ≤ (⟨g5, (m + 1), none⟩ : Addr).block := (HT1.out.lt g5 rfl).1
            clear cA cB
            have cU1 : (w5).cell? ⟨g5, (m + 1), none⟩ = some (.slice (some ⟨wq.heap.size, 0, none⟩) (0) 0) := cU
            obtain ⟨cA, cB⟩ := two_at (HA.out.below HTb.out) Hx.out
            obtain ⟨cA2, cB2⟩ := two_at R2.out Hx.out
            have dA := cA
            have dB := cB
            have dA2 := cA2
            have dB2 := cB2
            try simp only [Nat.zero_mul, Addr.add_zero'] at dA dB dA2 dB2
            go_region_law ((refine step_append_rd (by rfl) (.tmp 60) (.tmp 65) 33 (by rfl) ltr_elem (base := w.heap.size) (.slice (some ⟨wq.heap.size, 0, none⟩) (0) 0) (0) (lcs (([] : List Ltr))) (by rfl) U2.out (some ⟨(w5).heap.size, 0, none⟩) 1 1 (lcs [x]) (by rfl) (by rfl) N2.out (lcs_oneCell _) (by unfold maxLen; omega) (by omega) Z2.out ?_; intro u6 w6 hown6 hg6 hm6; obtain ⟨g6, cp6, rfl, hg6b⟩ := own_pos' hown6 (by omega); have B6 : Hid (Below w.heap.size w w6) := Lib.hid ((below_step HTb.out HTb.out.size HB2.out).grown hg6 Z2.out (fun g e => (U2.out.lt g e).1)); have B7 := Lib.hid (B6.out.setCell hGG (.slice (some ⟨g6, 0, none⟩) (0 + 1) cp6)); have o6 := Lib.hid (T2.out.kept hg6 (apart_row (own_apart_type T2.out U2.out ne_types.symm))); have f6 : w6.frozen? ⟨g5, (m + 1), none⟩ = false := o6.out.frozenAt _; have c6 := (o6.out.cellAt (m + 1) (by omega)).trans HTu.out))
            all_goals
              (go_wp2_with fail
               have h3 : w6.ownsRow w.heap.size 35 2 (.slice (some ⟨g6, 0, none⟩) (0 + 1) cp6) (([] : List Ltr) ++ [x]).length (lcs (([] : List Ltr) ++ [x])) := by rw [List.length_append, lcs_snoc]; exact hown6
               have s7 := o6.out.stored (m + 1) (.slice (some ⟨g6, 0, none⟩) (0 + 1) cp6)
               have hfin := tray_more HTb.out.size HT1.out HT2.out HTu.out HTx.out HB2.out h3 hg6 hm6 s7.1 s7.2
               have Hfin := Lib.hid hfin
               have Hlen : Hid ((((us ++ [Value.slice (some ⟨wq.heap.size, 0, none⟩) 0 0])).set (m + 1) (.slice (some ⟨g6, 0, none⟩) (0 + 1) cp6)).length = (m + 1 + 1)) := Lib.hid (by rw [List.length_set]; exact HTn.out)
               clear h3 s7 hfin
               go_roundw
               case rel => exact ⟨((j + 1)) + 1, (m + 1 + 1), _, _, by omega, by go_num, rfl, B7, by omega, Hlen, Lib.hid ⟨Hfin.out.1, by rw [HTf.out]; exact Hfin.out.2⟩⟩
               case measure => simp [intOf]; omega)
    · have hk' : k = xs.length := by omega
      subst hk'
      have hr := Hr.out
      rw [List.take_length] at hr
      have Hr2 := Lib.hid hr
      clear Hr hr
      go_wp2_with fail
      go_ret
      exact ⟨_, rfl, ⟨us, by rw [Hn.out]; exact own_of Hr2.out.1, Hr2.out.2⟩, Hb.out⟩

end Go.Proofs.YtfhnjpjlpddpmaaDoor
