
/- The walk of the program's filling of trays. -/
import Derived.Test.YtaadjjadpacclaaTy8
namespace Go.Proofs.Ytaadjjadpacclaa
open Go.RowKit
set_option linter.unusedVariables false

/-- A tray of one letter in a block of its own, and the block that holds it. -/
theorem new_one (wq : World) (x : Ltr) : Below wq.heap.size wq ((wq.alloc (.cells #[.int .i64 x.1, .string x.2] 31)).alloc (.cells #[.slice (some ⟨wq.heap.size, 0, none⟩) 1 1] 23)) ∧
    Own ((wq.alloc (.cells #[.int .i64 x.1, .string x.2] 31)).alloc (.cells #[.slice (some ⟨wq.heap.size, 0, none⟩) 1 1] 23)) wq.heap.size ((wq.alloc (.cells #[.int .i64 x.1, .string x.2] 31)).alloc (.cells #[.slice (some ⟨wq.heap.size, 0, none⟩) 1 1] 23)).heap.size 31 2 (.slice (some ⟨wq.heap.size, 0, none⟩) 1 1) 1 (lcs [x]) ∧
    Rd ((wq.alloc (.cells #[.int .i64 x.1, .string x.2] 31)).alloc (.cells #[.slice (some ⟨wq.heap.size, 0, none⟩) 1 1] 23)) (some ⟨wq.heap.size + 1, 0, none⟩) [.slice (some ⟨wq.heap.size, 0, none⟩) 1 1] := by
  refine ⟨below2 _ _ _, ?_, ?_⟩
  · have h0 : (wq.alloc (.cells #[.int .i64 x.1, .string x.2] 31)).ownsRow wq.heap.size 31 2 (.slice (some ⟨wq.heap.size, 0, none⟩) 1 1) 1 (lcs [x]) := World.ownsRow_lit wq #[.int .i64 x.1, .string x.2] 1 (Nat.le_refl _) (by unfold maxLen; omega) rfl
    exact ((own_of h0).below ((Below.refl _ _).alloc (Nat.le_refl _) _)).wide (Nat.le_refl _) (by simp)
  · have := rd_new (wq.alloc (.cells #[.int .i64 x.1, .string x.2] 31)) [.slice (some ⟨wq.heap.size, 0, none⟩) 1 1] 23
    simpa using this

set_option maxRecDepth 100000 in
set_option maxHeartbeats 3200000 in
theorem impl_fill (v : Value) (xs : List Ltr) (size d : Nat) (w : World) (h : Lt w v xs) (hsz : Szs xs) (hbv : bv xs = true) (hs1 : 1 ≤ size) (hs2 : size ≤ 20) (hd : d ≤ 7) :
    Calls Try.prog 6 #[v, .int .i64 size, .int .i64 d] w fun e w' => ∃ u, e = .returned (.tuple #[u, .bool true]) ∧ OLL w' w.heap.size w'.heap.size u (fillT size d xs) ∧ Below w.heap.size w w' := by
  have hbvc := impl_bv v xs w h hsz
  rw [hbv] at hbvc
  have hlen := (bv_parts hbv).1
  have Hc : Hid (∀ x ∈ xs, x.2.size = 7) := Lib.hid fun x hx => codeB_size ((bv_parts hbv).2.1 x hx).1
  have hin : inB size 1 20 = true := inB_true.2 (by omega)
  have hsi := fun w => size_impl (size : Int) w
  rw [hin] at hsi
  have Hsi := Lib.hid hsi
  have Hbv := Lib.hid hbvc
  obtain ⟨A, c, rfl, hA, hc1, hc2⟩ := h
  unfold maxLen at hc2
  have HA := Lib.hid hA
  have b6 : (0 : Int) ≤ d := by omega
  have b7 : (d : Int) ≤ 7 := by omega
  clear hA hbvc hsi hin hbv hsz
  go_enter Try.func6, Try.ntmps6
  go_wp2_with fail
  refine Hbv.out.mono ?_
  rintro e w1 ⟨rfl, hbw1⟩
  go_wp2_with fail
  refine (Hsi.out _).mono ?_
  rintro e w1' ⟨rfl, rfl⟩
  have Hb1 := Lib.hid hbw1
  clear hbw1 Hbv Hsi
  go_wp2_with fail
  go_loopw [8, 30] (fun o i wr => ∃ (k n : Nat) (us : List Value) (u0 : Value), k ≤ xs.length ∧ i = .int .i64 k ∧ u0 = o ∧ Hid (Below w.heap.size w wr) ∧ n ≤ k ∧ Hid (us.length = n) ∧ Hid (wr.ownsRow w.heap.size 23 1 u0 n us ∧ RowsL wr w.heap.size wr.heap.size us (fillT size d (xs.take k)))) (fun _ i _ => xs.length - (intOf i).toNat)
  case atStart => exact ⟨0, 0, [], _, Nat.zero_le _, rfl, rfl, Hb1, Nat.le_refl _, Lib.hid rfl, Lib.hid ⟨World.ownsRow_nil _ _ _ _, Rows.nil⟩⟩
  case round =>
    obtain ⟨k, n, us, u0, hk, rfl, rfl, Hb, hul, Hn, Hr⟩ := hrel
    clear Hb1
    by_cases hlt : k < xs.length
    · obtain ⟨ad, x, rfl, hx, hcA, hcB⟩ := (HA.out.below Hb.out).two hlt
      have hsz := Hc.out x (List.mem_of_getElem? hx)
      have Hx := Lib.hid hx
      simp only [ltf] at hcA hcB
      clear hx
      obtain ⟨C, cp, rfl, hcp1, hcp2, hC, hCf⟩ := own_form Hr.out.1
      have hulen := Lib.hid (Hn.out.symm.trans Hr.out.2.len)
      clear hC hCf
      obtain ⟨wo, hwo⟩ : ∃ wo, wo = wr.alloc (.cells #[.int .i64 x.1, .string x.2] 31) := ⟨_, rfl⟩
      obtain ⟨B, hB⟩ : ∃ B, B = wr.heap.size := ⟨_, rfl⟩
      have hbo : Below wr.heap.size wr wo := by rw [hwo]; exact (Below.refl _ _).alloc (Nat.le_refl _) _
      have Hbo : Hid (Below w.heap.size w wo) := Lib.hid (below_step Hb.out Hb.out.size hbo)
      have l1 : wo.cell? ⟨B, 0, none⟩ = some (.int .i64 x.1) := by rw [hwo, hB]; exact World.cell?_alloc_at _ _ _ _ rfl
      have l2 : wo.cell? ⟨B, 1, none⟩ = some (.string x.2) := by rw [hwo, hB]; exact World.cell?_alloc_at _ _ _ _ rfl
      have Ho1 := Lib.hid (own_below Hr.out.1 hbo)
      have Ho2 := Lib.hid (Rows.wide (Hr.out.2.below hbo) (Nat.le_refl _) hbo.size)
      clear hbo
      rcases Nat.eq_zero_or_pos k with h0 | hpos
      · subst h0
        have hn0 : n = 0 := by omega
        subst hn0
        simp only [Nat.zero_mul, Addr.add_zero'] at hcA hcB
        have Hnew : Hid (fillT size d (xs.take (0 + 1)) = fillT size d (xs.take 0) ++ [[x]]) := Lib.hid (fill_first Hx.out)
        go_wp2_with fail
        rw [← hwo, ← hB]
        clear hwo hB hcA hcB Hr
        go_quiet (fail)
        obtain ⟨wq, hwq⟩ : ∃ wq, wq = wo.drewN nq := ⟨_, rfl⟩
        have hh : wq.heap = wo.heap := by rw [hwq]; rfl
        have Hq1 := Lib.hid (own_heap hh Ho1.out)
        have Hq2 : Hid (RowsL wq w.heap.size wq.heap.size us (fillT size d (xs.take (0)))) := Lib.hid (by rw [hwq]; exact Ho2.out.below (below_of_drewN wo nq))
        have HBq : Hid (Below w.heap.size w wq) := Lib.hid (by rw [hwq]; exact below_drewN Hbo.out nq)
        have q1 := (cell_heap hh _).trans l1
        have q2 := (cell_heap hh _).trans l2
        rw [← hwq]
        have Hne := Lib.hid (new_one wq x)
        clear hwq hh
        go_wp2_with (at_builtin; refine wpList_append_rd rfl (.tmp 64) (.tmp 67) 26 rfl trays_elem (base := w.heap.size) (.slice C (0) cp) (0) us rfl (own_below Hq1.out Hne.out.1) (some ⟨wq.heap.size + 1, 0, none⟩) 1 1 [.slice (some ⟨wq.heap.size, 0, none⟩) 1 1] rfl rfl Hne.out.2.2 (by intro u hu; simp at hu; subst hu; rfl) (by unfold maxLen; omega) (by omega) (Nat.le_trans HBq.out.size Hne.out.1.size) ?_; intro v5 w5 hown5 hg5 hm5)
        have HN := Lib.hid (tray_new (ys := [x]) HBq.out.size Hq1.out Hq2.out Hne.out.1 Hne.out.2.1 hown5 hg5)
        have HTb : Hid (Below w.heap.size w w5) := Lib.hid ((below_step HBq.out HBq.out.size Hne.out.1).grown hg5 (Nat.le_trans HBq.out.size Hne.out.1.size) (fun g e => ((own_below Hq1.out Hne.out.1).lt g e).1))
        have hnn := Hn.out
        have HTn : Hid ((us ++ [Value.slice (some ⟨wq.heap.size, 0, none⟩) 1 1]).length = 1) := Lib.hid (by rw [List.length_append, hnn]; rfl)
        go_roundw
        case rel => exact ⟨0 + 1, 1, _, _, by omega, by go_num, rfl, HTb, by omega, HTn, Lib.hid ⟨HN.out.1, by rw [Hnew.out]; exact HN.out.2⟩⟩
        case measure => simp [intOf]; omega
      · obtain ⟨t, hti, htl, hty, ht1, htn⟩ := fill_last (size := size) (d := d) (b := xs) hs1 hpos hk
        rw [← hulen.out] at hti htn
        obtain ⟨m, rfl⟩ : ∃ m, n = m + 1 := ⟨n - 1, by omega⟩
        rw [Nat.add_sub_cancel] at hti
        have hul2 := Hn.out
        obtain ⟨u, hu⟩ : ∃ u, us[m]? = some u := ⟨_, List.getElem?_eq_getElem (by omega)⟩
        obtain ⟨g, hCg⟩ : ∃ g, C = some ⟨g, 0, none⟩ := by
          obtain ⟨g2, cp2, e, _⟩ := own_pos' Hr.out.1 htn
          injection e with e
          exact ⟨g2, e⟩
        subst hCg
        have hcU : wo.cell? ⟨g, m, none⟩ = some u := (Ho1.out.cellAt m (by omega)).trans hu
        obtain ⟨UC, ucp, hue, huc1, huc2, huR, huf⟩ := own_form (Ho2.out.row _ u t hu hti).row
        obtain ⟨j, rfl⟩ : ∃ j, k = j + 1 := ⟨k - 1, by omega⟩
        rw [Nat.add_sub_cancel] at hty
        obtain ⟨ad2, y, e2, hy, hcC, hcD⟩ := (HA.out.below Hbo.out).two (k := j) (by omega)
        injection e2 with e2
        subst e2
        have hsy := Hc.out y (List.mem_of_getElem? hy)
        simp only [ltf] at hcC hcD
        have Hy := Lib.hid hy
        have Hu := Lib.hid hu
        have Ht := Lib.hid (And.intro hti (And.intro htl hty))
        have htsz : t.length ≤ size := ((fill_all hs1 (xs.take (j + 1))).1.one t (List.mem_of_getElem? hti)).2
        subst hue
        have HU := Lib.hid huR
        clear hy hu hti htl hty huR huf hul2
        have b0 : ((j : Int) + 1 == 0) = false := by simp only [beq_eq_false_iff_ne]; omega
        have b1 : (m : Int) < (m : Int) + 1 := by omega
        have b2 : (0 : Int) ≤ m := by omega
        have b3 : (j : Int) + 1 < xs.length := by omega
        have b4 : (j : Int) < xs.length := by omega
        have b5 : (0 : Int) ≤ (j : Int) + 1 := by omega
        by_cases hfull : t.length = size
        · have e1 : ((t.length : Int) == (size : Int)) = true := by simp [hfull]
          have Hnew := Lib.hid (fill_new (size := size) (d := d) Hx.out Hy.out Ht.out.2.1 Ht.out.2.2 (.inl hfull))
          clear hfull
          go_wp2_with fail
          rw [← hwo, ← hB]
          clear hwo hB hcA hcB Hr
          go_quiet (fail)
          obtain ⟨wq, hwq⟩ : ∃ wq, wq = wo.drewN nq := ⟨_, rfl⟩
          have hh : wq.heap = wo.heap := by rw [hwq]; rfl
          have Hq1 := Lib.hid (own_heap hh Ho1.out)
          have Hq2 : Hid (RowsL wq w.heap.size wq.heap.size us (fillT size d (xs.take ((j + 1))))) := Lib.hid (by rw [hwq]; exact Ho2.out.below (below_of_drewN wo nq))
          have HBq : Hid (Below w.heap.size w wq) := Lib.hid (by rw [hwq]; exact below_drewN Hbo.out nq)
          have q1 := (cell_heap hh _).trans l1
          have q2 := (cell_heap hh _).trans l2
          rw [← hwq]
          have Hne := Lib.hid (new_one wq x)
          clear hwq hh
          go_wp2_with (at_builtin; refine wpList_append_rd rfl (.tmp 64) (.tmp 67) 26 rfl trays_elem (base := w.heap.size) (.slice (some ⟨g, 0, none⟩) ((m + 1)) cp) ((m + 1)) us rfl (own_below Hq1.out Hne.out.1) (some ⟨wq.heap.size + 1, 0, none⟩) 1 1 [.slice (some ⟨wq.heap.size, 0, none⟩) 1 1] rfl rfl Hne.out.2.2 (by intro u hu; simp at hu; subst hu; rfl) (by unfold maxLen; omega) (by omega) (Nat.le_trans HBq.out.size Hne.out.1.size) ?_; intro v5 w5 hown5 hg5 hm5)
          have HN := Lib.hid (tray_new (ys := [x]) HBq.out.size Hq1.out Hq2.out Hne.out.1 Hne.out.2.1 hown5 hg5)
          have HTb : Hid (Below w.heap.size w w5) := Lib.hid ((below_step HBq.out HBq.out.size Hne.out.1).grown hg5 (Nat.le_trans HBq.out.size Hne.out.1.size) (fun g e => ((own_below Hq1.out Hne.out.1).lt g e).1))
          have hnn := Hn.out
          have HTn : Hid ((us ++ [Value.slice (some ⟨wq.heap.size, 0, none⟩) 1 1]).length = (m + 1 + 1)) := Lib.hid (by rw [List.length_append, hnn]; rfl)
          go_roundw
          case rel => exact ⟨(j + 1) + 1, (m + 1 + 1), _, _, by omega, by go_num, rfl, HTb, by omega, HTn, Lib.hid ⟨HN.out.1, by rw [Hnew.out]; exact HN.out.2⟩⟩
          case measure => simp [intOf]; omega
        · have e1 : ((t.length : Int) == (size : Int)) = false := by simp only [beq_eq_false_iff_ne]; omega
          by_cases hpre : pre d x.2 = pre d y.2
          · have e3 : ((pre d x.2).toList == (pre d y.2).toList) = true := str_same hpre
            have Hmore := Lib.hid (fill_more (size := size) (d := d) Hx.out Hy.out Ht.out.2.1 Ht.out.2.2 hfull hpre)
            clear hfull
            unfold pre at e3
            go_wp2_with fail
            rw [← hwo, ← hB]
            clear hwo hB hcA hcB Hr
            go_quiet (fail)
            obtain ⟨wq, hwq⟩ : ∃ wq, wq = wo.drewN nq := ⟨_, rfl⟩
            have hh : wq.heap = wo.heap := by rw [hwq]; rfl
            have HT1 := Lib.hid (own_heap hh Ho1.out)
            have HT2 : Hid (RowsL wq w.heap.size wq.heap.size us (fillT size d (xs.take (j + 1)))) := Lib.hid (by rw [hwq]; exact Ho2.out.below (below_of_drewN wo nq))
            have HTb : Hid (Below w.heap.size w wq) := Lib.hid (by rw [hwq]; exact below_drewN Hbo.out nq)
            have HTu := Hu
            have HTx := Lib.hid Ht.out.1
            have HTf : Hid (fillT size d (xs.take (j + 1 + 1)) = (fillT size d (xs.take (j + 1))).set m (t ++ [x])) := Lib.hid (by rw [Hmore.out, ← hulen.out, Nat.add_sub_cancel])
            have HTn := Hn
            rw [← hwq]
            have l1q := (cell_heap hh _).trans l1
            have l2q := (cell_heap hh _).trans l2
            clear hwq hh hcU hcC hcD l1 l2
            go_wp2_with fail
            have hmn : m < (m + 1) := by omega
            have B2 : Below (wq).heap.size wq ((wq).alloc (.cells #[.int .i64 x.1, .string x.2] 31)).drew := ((Below.refl _ _).alloc (Nat.le_refl _) _).drew
            have T2 := Lib.hid (own_below HT1.out B2)
            have U2 := Lib.hid ((HT2.out.row _ _ _ HTu.out HTx.out).below B2).row
            have N2 : Hid (Rd ((wq).alloc (.cells #[.int .i64 x.1, .string x.2] 31)).drew (some ⟨(wq).heap.size, 0, none⟩) (lcs [x])) := Lib.hid ((rd_new wq (lcs [x]) 31).below (below_of_drewN _ 1))
            have Z2 := Lib.hid (Nat.le_trans HTb.out.size B2.size)
            have HB2 := Lib.hid B2
            clear B2
            have cU1 : (wq).cell? ⟨g, m, none⟩ = some (.slice UC (t.length) ucp) := (HT1.out.cellAt m (by omega)).trans HTu.out
            have cU2 : ((wq).alloc (.cells #[.int .i64 x.1, .string x.2] 31)).cell? ⟨g, m, none⟩ = some (.slice UC (t.length) ucp) := (T2.out.cellAt m (by omega)).trans HTu.out
            have hGG : w.heap.size ≤ (⟨g, m, none⟩ : Addr).block := (HT1.out.lt g rfl).1
            have l1a : ((wq).alloc (.cells #[.int .i64 x.1, .string x.2] 31)).cell? ⟨B, 0, none⟩ = some (.int .i64 x.1) := cell_later ((Below.refl _ _).alloc (Nat.le_refl _) _) l1q
            have l2a : ((wq).alloc (.cells #[.int .i64 x.1, .string x.2] 31)).cell? ⟨B, 1, none⟩ = some (.string x.2) := cell_later ((Below.refl _ _).alloc (Nat.le_refl _) _) l2q
            go_region_law ((refine step_append_rd (by rfl) (.tmp 74) (.tmp 76) 23 (by rfl) ltr_elem (base := w.heap.size) (.slice UC (t.length) ucp) (t.length) (lcs (t)) (by rfl) U2.out (some ⟨(wq).heap.size, 0, none⟩) 1 1 (lcs [x]) (by rfl) (by rfl) N2.out (lcs_oneCell _) (by unfold maxLen; omega) (by omega) Z2.out ?_; intro u6 w6 hown6 hg6 hm6; obtain ⟨g6, cp6, rfl, hg6b⟩ := own_pos' hown6 (by omega); have B6 : Hid (Below w.heap.size w w6) := Lib.hid ((below_step HTb.out HTb.out.size HB2.out).grown hg6 Z2.out (fun g e => (U2.out.lt g e).1)); have B7 := Lib.hid (B6.out.setCell hGG (.slice (some ⟨g6, 0, none⟩) (t.length + 1) cp6)); have o6 := Lib.hid (T2.out.kept hg6 (apart_row (own_apart_type T2.out U2.out ne_types.symm))); have f6 : w6.frozen? ⟨g, m, none⟩ = false := o6.out.frozenAt _; have c6 := (o6.out.cellAt m (by omega)).trans HTu.out))
            all_goals
              (go_wp2_with fail
               have h3 : w6.ownsRow w.heap.size 31 2 (.slice (some ⟨g6, 0, none⟩) (t.length + 1) cp6) (t ++ [x]).length (lcs (t ++ [x])) := by rw [List.length_append, lcs_snoc]; exact hown6
               have s7 := o6.out.stored m (.slice (some ⟨g6, 0, none⟩) (t.length + 1) cp6)
               have hfin := tray_more HTb.out.size HT1.out HT2.out HTu.out HTx.out HB2.out h3 hg6 hm6 s7.1 s7.2
               have Hfin := Lib.hid hfin
               have Hlen : Hid (((us).set m (.slice (some ⟨g6, 0, none⟩) (t.length + 1) cp6)).length = (m + 1)) := Lib.hid (by rw [List.length_set]; exact HTn.out)
               clear h3 s7 hfin
               go_roundw
               case rel => exact ⟨(j + 1) + 1, (m + 1), _, _, by omega, by go_num, rfl, B7, by omega, Hlen, Lib.hid ⟨Hfin.out.1, by rw [HTf.out]; exact Hfin.out.2⟩⟩
               case measure => simp [intOf]; omega)
          · have e3 : ((pre d x.2).toList == (pre d y.2).toList) = false := str_diff hpre
            have Hnew := Lib.hid (fill_new (size := size) (d := d) Hx.out Hy.out Ht.out.2.1 Ht.out.2.2 (.inr hpre))
            clear hfull
            unfold pre at e3
            go_wp2_with fail
            rw [← hwo, ← hB]
            clear hwo hB hcA hcB Hr
            go_quiet (fail)
            obtain ⟨wq, hwq⟩ : ∃ wq, wq = wo.drewN nq := ⟨_, rfl⟩
            have hh : wq.heap = wo.heap := by rw [hwq]; rfl
            have Hq1 := Lib.hid (own_heap hh Ho1.out)
            have Hq2 : Hid (RowsL wq w.heap.size wq.heap.size us (fillT size d (xs.take ((j + 1))))) := Lib.hid (by rw [hwq]; exact Ho2.out.below (below_of_drewN wo nq))
            have HBq : Hid (Below w.heap.size w wq) := Lib.hid (by rw [hwq]; exact below_drewN Hbo.out nq)
            have q1 := (cell_heap hh _).trans l1
            have q2 := (cell_heap hh _).trans l2
            rw [← hwq]
            have Hne := Lib.hid (new_one wq x)
            clear hwq hh
            go_wp2_with (at_builtin; refine wpList_append_rd rfl (.tmp 64) (.tmp 67) 26 rfl trays_elem (base := w.heap.size) (.slice (some ⟨g, 0, none⟩) ((m + 1)) cp) ((m + 1)) us rfl (own_below Hq1.out Hne.out.1) (some ⟨wq.heap.size + 1, 0, none⟩) 1 1 [.slice (some ⟨wq.heap.size, 0, none⟩) 1 1] rfl rfl Hne.out.2.2 (by intro u hu; simp at hu; subst hu; rfl) (by unfold maxLen; omega) (by omega) (Nat.le_trans HBq.out.size Hne.out.1.size) ?_; intro v5 w5 hown5 hg5 hm5)
            have HN := Lib.hid (tray_new (ys := [x]) HBq.out.size Hq1.out Hq2.out Hne.out.1 Hne.out.2.1 hown5 hg5)
            have HTb : Hid (Below w.heap.size w w5) := Lib.hid ((below_step HBq.out HBq.out.size Hne.out.1).grown hg5 (Nat.le_trans HBq.out.size Hne.out.1.size) (fun g e => ((own_below Hq1.out Hne.out.1).lt g e).1))
            have hnn := Hn.out
            have HTn : Hid ((us ++ [Value.slice (some ⟨wq.heap.size, 0, none⟩) 1 1]).length = (m + 1 + 1)) := Lib.hid (by rw [List.length_append, hnn]; rfl)
            go_roundw
            case rel => exact ⟨(j + 1) + 1, (m + 1 + 1), _, _, by omega, by go_num, rfl, HTb, by omega, HTn, Lib.hid ⟨HN.out.1, by rw [Hnew.out]; exact HN.out.2⟩⟩
            case measure => simp [intOf]; omega
    · have hk' : k = xs.length := by omega
      subst hk'
      have hr := Hr.out
      rw [List.take_length] at hr
      have Hr2 := Lib.hid hr
      clear Hr hr
      go_wp2_with fail
      go_ret2
      exact ⟨_, rfl, ⟨us, by rw [Hn.out]; exact own_of Hr2.out.1, Hr2.out.2⟩, Hb.out⟩

end Go.Proofs.Ytaadjjadpacclaa
