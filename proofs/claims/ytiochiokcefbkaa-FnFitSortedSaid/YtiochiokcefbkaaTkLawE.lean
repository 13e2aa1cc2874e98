/- The walk of the law on first fit of sorted weights. -/
import Derived.Test.YtiochiokcefbkaaTkLawA
import Derived.Test.YtiochiokcefbkaaTkLawB
import Derived.Test.YtiochiokcefbkaaTk7
import Derived.Test.YtiochiokcefbkaaTk8
import Derived.Test.YtiochiokcefbkaaTkFitLaw
import Derived.Test.YtiochiokcefbkaaApp
namespace Go.Proofs.Ytiochiokcefbkaa
open Go.RowKit
set_option linter.unusedVariables false

def vals (ws : List Int) (l : List Nat) : List Int := l.map fun q => ws.getD q 0
theorem vals_length (ws : List Int) (l : List Nat) : (vals ws l).length = l.length := by simp [vals]
theorem vals_set (ws : List Int) (l : List Nat) (k y : Nat) : (vals ws l).set k (ws.getD y 0) = vals ws (l.set k y) := by simp [vals, List.map_set]
theorem vals_get {ws : List Int} {l : List Nat} {k y : Nat} {x : Int} (h : l[k]? = some y) (hx : ws[y]? = some x) : (vals ws l)[k]? = some x := by simp [vals, h, hx]
theorem vals_range (ws : List Int) : vals ws (List.range ws.length) = ws := by
  apply List.ext_getElem?
  intro k
  rcases Nat.lt_or_ge k ws.length with h | h
  · rw [List.getElem?_eq_getElem h]
    exact vals_get (by simp [h]) (List.getElem?_eq_getElem h)
  · rw [List.getElem?_eq_none h, List.getElem?_eq_none (by simp [vals]; exact h)]
theorem vals_sorted (ws : List Int) : vals ws (sortedIx ws ws.length) = sortedW ws ws.length := rfl
theorem ints_elem : ElemInfo Try.prog 22 3 1 8 := elemInfo_of Try.underlying22 int_info rfl (by decide)

set_option maxHeartbeats 3200000 in
theorem law_FnFitSorted (A : Option Addr) (c : Nat) (bs : List Int) (w : World) (h0 : Coded0 w A bs c) :
    Calls Try.prog 14 #[.slice A bs.length c] w fun e w' => e = .returned (.bool true) ∧ Below w.heap.size w w' := by
  by_cases hbig : 1048576 < bs.length
  · go_enter Try.func14, Try.ntmps14
    go_wp2_with fail
    go_ret
    exact ⟨rfl, Below.refl _ _⟩
  have hdr := draw_fs A c bs w (h0.coded hbig)
  have Hdr := Lib.hid hdr
  clear hdr h0
  go_enter Try.func14, Try.ntmps14
  go_wp2_with fail
  refine Hdr.out.mono ?_
  rintro e w1 ⟨D, d, ws, cap, rfl, hD, hwd, hwl, hb1⟩
  have hwm : ws.length ≤ maxLen := by unfold maxLen; omega
  clear Hdr
  have h2 := impl_fsd D d ws cap w1 hD hwm
  have HD := Lib.hid hD
  have Hb := Lib.hid hb1
  clear hD hb1
  go_wp2_with fail
  refine h2.mono ?_
  rintro e w2 ⟨v, rfl, ho, hb⟩
  replace Hb := Lib.hid (below_trans' Hb.out hb)
  replace HD := Lib.hid (HD.out.below hb)
  have h3 := spec_fsd D d ws cap w2 HD.out hwm
  have Ho := Lib.hid ho
  clear hb ho h2
  go_wp2_with fail
  refine h3.mono ?_
  rintro e w3 ⟨v3, rfl, ho3, hb⟩
  replace Hb := Lib.hid (below_trans' Hb.out hb)
  replace HD := Lib.hid (HD.out.below hb)
  replace Ho := Lib.hid (Ho.out.below hb)
  have h4 := soOwn v v3 _ _ _ _ Ho.out ho3
  clear hb ho3 h3
  go_wp2_with fail
  refine h4.mono ?_
  rintro e w' ⟨rfl, n3, rfl⟩
  have hbn := below_of_drewN w3 n3
  replace Hb := Lib.hid (below_drewN Hb.out n3)
  replace HD := Lib.hid (HD.out.below hbn)
  replace Ho := Lib.hid (Ho.out.below hbn)
  clear hbn h4
  generalize w3.drewN n3 = w4 at *
  have h5 := impl_wv D d ws cap w4 HD.out hwm
  cases hwv : wv ws cap with
  | false =>
    rw [hwv] at h5
    have h7 := spec_fsd D d ws cap w4 HD.out hwm
    clear hwv
    go_wp2_with fail
    refine h5.mono ?_
    rintro e w4' ⟨rfl, rfl⟩
    go_wp2_with fail
    refine h7.mono ?_
    rintro e w5 ⟨v5, rfl, ho5, hb⟩
    replace Hb := Lib.hid (below_trans' Hb.out hb)
    replace Ho := Lib.hid (Ho.out.below hb)
    have h8 := soOwn v v5 _ _ _ _ Ho.out ho5
    clear hb ho5 h7
    go_wp2_with fail
    refine h8.mono ?_
    rintro e w' ⟨rfl, n5, rfl⟩
    go_wp2_with fail
    go_ret
    exact ⟨rfl, below_drewN Hb.out n5⟩
  | true =>
    rw [hwv] at h5
    obtain ⟨g, hF, hff, hb9, hlg⟩ := fsd_facts hwv
    obtain ⟨hpos, hl8, hc1, hc2⟩ := wv_parts hwv
    have Hlv := Lib.hid hF.lv
    have Htc := Lib.hid hF.tc
    have Hff := Lib.hid hff
    have hsd : (sortedW ws ws.length).length = ws.length := sortedW_length _ _
    have hgl : g.length = ws.length := by rw [hF.runs.len, hsd]
    have hcg : count g ≤ ws.length := by
      rcases count_mem g with h | h
      · omega
      · have := hF.runs.lt _ h; rw [hsd] at this; omega
    obtain ⟨V, vc, rfl, hV, hVm⟩ := Ho.out.rd
    have hll : (fsd ws cap).length ≤ maxLen := hVm
    have HV := Lib.hid hV
    have Hlt := Lib.hid (lt_val hwv)
    have Hpos := Lib.hid hpos
    have Hwv := Lib.hid hwv
    clear hF hff hpos hV hwv Ho
    generalize fsd ws cap = gs at *
    go_wp2_with fail
    refine h5.mono ?_
    rintro e w4' ⟨rfl, rfl⟩
    clear h5
    have hown0 : (w4.alloc (.cells #[] 3)).ownsRow w4.heap.size 3 1 (.slice (some ⟨w4.heap.size, 0, none⟩) 0 0) 0 [] := World.ownsRow_lit w4 #[] 0 (Nat.le_refl _) (Nat.zero_le _) rfl
    have hb0 : Below w4.heap.size w4 (w4.alloc (.cells #[] 3)) := (Below.refl _ _).alloc (Nat.le_refl _) _
    have hrd := HD.out.below hb0
    go_wp2_with (at_builtin; refine wpList_append_rd rfl (.tmp 40) (.tmp 41) 22 rfl ints_elem (base := w4.heap.size) (.slice (some ⟨w4.heap.size, 0, none⟩) 0 0) 0 [] rfl hown0 D ws.length d (ints ws) rfl (by simp [ints]) hrd (ints_oneCell _) (by omega) (by omega) (by simp) ?_; intro v5 w5 hown5 hg5 hmv5)
    have hb5 : Below w4.heap.size w4 w5 := hb0.grown hg5 (by simp) (fun g e => by cases e; exact Nat.le_refl _)
    rw [Nat.zero_add, List.nil_append] at hown5
    obtain ⟨C, cp, rfl, hcp1, hcp2, _, hCf⟩ := own_form hown5
    have hst : vals ws (sortedIx ws 0 ++ List.range' 0 (ws.length - 0)) = ws := by
      rw [Nat.sub_zero, ← List.range_eq_range', show sortedIx ws 0 = [] from rfl, List.nil_append, vals_range]
    have Hown5 : Hid (w5.ownsRow w4.heap.size 3 1 (.slice C ws.length cp) ws.length (ints (vals ws (sortedIx ws 0 ++ List.range' 0 (ws.length - 0))))) := Lib.hid (by rw [hst]; exact hown5)
    have Hb5 := Lib.hid hb5
    have Hform := Lib.hid hown5
    clear hown5 hb5 hg5 hmv5 hst hrd hb0 hown0 hCf
    go_wp2_with fail
    go_loopw [7] (fun iv wr => ∃ i : Nat, i ≤ ws.length ∧ iv = .int .i64 i ∧ Hid (Below w4.heap.size w4 wr) ∧ Hid (wr.ownsRow w4.heap.size 3 1 (.slice C ws.length cp) ws.length (ints (vals ws (sortedIx ws i ++ List.range' i (ws.length - i)))))) (fun iv _ => ws.length - (intOf iv).toNat)
    case atStart => exact ⟨0, Nat.zero_le _, rfl, Hb5, Hown5⟩
    case round =>
      obtain ⟨i, hin, rfl, hbw, hrow⟩ := hrel
      clear Hb5 Hown5
      by_cases hlt : i < ws.length
      · obtain ⟨g2, hC⟩ : ∃ g2, C = some ⟨g2, 0, none⟩ := by
          obtain ⟨g2, cp2, e, _⟩ := own_pos hrow.out (by omega)
          injection e with e
          exact ⟨g2, e⟩
        subst hC
        have hg4 : w4.heap.size ≤ g2 := (hrow.out.lt g2 rfl).1
        have hsl : (sortedIx ws i).length = i := sortedIx_length ws i
        rw [← midRow_start hsl hlt] at hrow
        have Hsl := Lib.hid hsl
        clear hsl
        obtain ⟨wo, rfl⟩ : ∃ wo : World, wo = wr := ⟨_, rfl⟩
        go_wp2_with fail
        go_loopw [8] (fun jv wr => ∃ j : Nat, j ≤ i ∧ jv = .int .i64 j ∧ Hid (wr.ownsRow w4.heap.size 3 1 (.slice (some ⟨g2, 0, none⟩) ws.length cp) ws.length (ints (vals ws (midRow (sortedIx ws i) i j ws.length))) ∧ Below w4.heap.size w4 wr ∧ downTo ws (sortedIx ws i) (ws.getD i 0) i = downTo ws (sortedIx ws i) (ws.getD i 0) j)) (fun jv _ => (intOf jv).toNat)
        case atStart => exact ⟨i, Nat.le_refl _, rfl, Lib.hid ⟨hrow.out, hbw.out, rfl⟩⟩
        case round =>
          clear hrow hbw
          obtain ⟨j, hji, rfl, hrow⟩ := hrel
          obtain ⟨ho, hg, hd⟩ := hrow.out
          clear hrow
          have Hd := Lib.hid hd
          clear hd
          rcases Nat.eq_zero_or_pos j with rfl | hj
          · have Ho := Lib.hid ho
            have Hg := Lib.hid hg
            clear ho hg
            go_wp2_with fail
            go_quiet (fail)
            go_wp2_with fail
            go_roundw
            case rel => exact ⟨i + 1, by omega, by go_num, Lib.hid (below_drewN Hg.out _), Lib.hid (own_heap rfl (by rw [← midRow_done ws hlt, Hd.out]; exact Ho.out))⟩
            case measure => simp [intOf]; omega
          · obtain ⟨k, rfl⟩ : ∃ k, j = k + 1 := ⟨j - 1, by omega⟩
            have hki : k < (sortedIx ws i).length := by rw [Hsl.out]; omega
            obtain ⟨y, hy⟩ : ∃ y, (sortedIx ws i)[k]? = some y := ⟨_, List.getElem?_eq_getElem hki⟩
            have hyi := sortedIx_lt ws i y (List.mem_of_getElem? hy)
            have hyn : y < ws.length := by omega
            have hyg : (sortedIx ws i).getD k 0 = y := by rw [List.getD_eq_getElem?_getD, hy]; rfl
            obtain ⟨xi, hxi⟩ : ∃ xi, ws[i]? = some xi := ⟨_, List.getElem?_eq_getElem hlt⟩
            obtain ⟨xy, hxy⟩ : ∃ xy, ws[y]? = some xy := ⟨_, List.getElem?_eq_getElem hyn⟩
            have Hlt2 : Hid (ws.getD ((sortedIx ws i).getD k 0) 0 < ws.getD i 0 ↔ xy < xi) := Lib.hid (by rw [hyg, getD_of' hxi, getD_of' hxy])
            have c1 : wr.cell? ⟨g2, k + 1, none⟩ = some (.int .i64 xi) := (ho.cellAt (k + 1) (by omega)).trans (ints_get (vals_get (midRow_at (by rw [Hsl.out]; exact hji)) hxi))
            have c2 : wr.cell? ⟨g2, k, none⟩ = some (.int .i64 xy) := (ho.cellAt k (by omega)).trans (ints_get (vals_get ((midRow_before (by omega) (by rw [Hsl.out]; exact hji)).trans hy) hxy))
            have f1 : wr.frozen? ⟨g2, k + 1, none⟩ = false := ho.frozenAt (k + 1)
            have f2 : wr.frozen? ⟨g2, k, none⟩ = false := ho.frozenAt k
            have Ho := Lib.hid ho
            have Hg := Lib.hid hg
            have hxib := Hpos.out _ (List.mem_of_getElem? hxi)
            have hxyb := Hpos.out _ (List.mem_of_getElem? hxy)
            have Hswap := Lib.hid (midRow_swap (i := i) (n := ws.length) (by rw [Hsl.out]; exact hji) hy)
            have Hgi := Lib.hid (getD_of' hxi)
            have Hgy := Lib.hid (getD_of' hxy)
            clear ho hg hy hyg hxi hxy
            by_cases hlt2 : xy < xi
            · have Hlt3 := Lib.hid hlt2
              go_wp2_with fail
              go_quiet (fail)
              obtain ⟨wq, hwq⟩ : ∃ wq, wq = wr.drewN nq := ⟨_, rfl⟩
              have hh : wq.heap = wr.heap := by rw [hwq]; rfl
              have gq : Below w4.heap.size w4 wq := by rw [hwq]; exact below_drewN Hg.out _
              rw [← hwq]
              have d1 := (cell_heap hh _).trans c1
              have d2 := (cell_heap hh _).trans c2
              have d3 := (frozen_heap hh _).trans f1
              have d4 := (frozen_heap hh _).trans f2
              have s1 := (own_heap hh Ho.out).stored (k + 1) (.int .i64 xy)
              rw [ints_set, ← Hgy.out, vals_set] at s1
              have s2 := s1.1.stored k (.int .i64 xi)
              rw [ints_set, ← Hgi.out, vals_set, Hswap.out, Hgi.out, Hgy.out] at s2
              have S := Lib.hid s2.1
              have G := Lib.hid ((gq.setCell (show w4.heap.size ≤ (⟨g2, k + 1, none⟩ : Addr).block from hg4) (.int .i64 xy)).setCell (show w4.heap.size ≤ (⟨g2, k, none⟩ : Addr).block from hg4) (.int .i64 xi))
              clear hwq hh gq s1 s2 c1 c2 f1 f2 Ho Hg
              go_wp2_with fail
              go_roundw
              case rel => exact ⟨k, by omega, rfl, Lib.hid ⟨S.out, G.out, by rw [Hd.out, downTo_go (Hlt2.out.2 Hlt3.out)]⟩⟩
              case measure => simp [intOf]
            · have Hlt3 := Lib.hid hlt2
              go_wp2_with fail
              go_quiet (fail)
              go_wp2_with fail
              go_roundw
              case rel => exact ⟨i + 1, by omega, by go_num, Lib.hid (below_drewN Hg.out _), Lib.hid (own_heap rfl (by rw [← midRow_done ws hlt, Hd.out, downTo_stop (fun h => by have := Hlt3.out; have := Hlt2.out.1 h; omega)]; exact Ho.out))⟩
              case measure => simp [intOf]; omega
      · have hi : i = ws.length := by omega
        subst hi
        have h1 := hrow.out
        rw [Nat.sub_self, List.range'_zero, List.append_nil, vals_sorted] at h1
        obtain ⟨C', cp', e5, _, _, hrS, _⟩ := own_form h1
        injection e5 with e5 _ e6
        subst e5 e6
        have hsl : (sortedW ws ws.length).length = ws.length := sortedW_length _ _
        have h7 := impl_tc V vc _ wr (HV.out.below hbw.out) hll
        have h8 := impl_lt D d ws cap wr (HD.out.below hbw.out) hwm hwd
        rw [Htc.out] at h7
        rw [Hlt.out] at h8
        have Hb6 := Lib.hid (below_trans' Hb.out hbw.out)
        have HD6 := Lib.hid (HD.out.below hbw.out)
        have HV6 := Lib.hid (HV.out.below hbw.out)
        have HS6 := Lib.hid hrS
        clear hbw hrow hlt h1 hrS
        go_wp2_with fail
        refine h7.mono ?_
        rintro e w6 ⟨rfl, rfl⟩
        go_wp2_with fail
        refine h8.mono ?_
        rintro e w7 ⟨rfl, hb⟩
        have h9 := impl_lv D V d vc ws _ cap w7 (HD6.out.below hb) (HV6.out.below hb) hwm hll
        rw [Hlv.out] at h9
        have Hb7 := Lib.hid (below_trans' Hb6.out hb)
        have HS7 := Lib.hid (HS6.out.below hb)
        have m2 : ((leastT ws cap : Nat) : Int) ≤ ((count g : Nat) : Int) := by omega
        have m3 : 9 * (count g : Int) ≤ 11 * (leastT ws cap : Int) + 6 := by omega
        clear hb h7 h8
        go_wp2_with fail
        refine h9.mono ?_
        rintro e w8 ⟨rfl, hb⟩
        have Hb8 := Lib.hid (below_trans' Hb7.out hb)
        have hff := impl_ff C cp (sortedW ws ws.length) cap w8 (HS7.out.below hb) (by rw [hsl]; exact hwm)
        rw [hsl] at hff
        clear hb h9
        go_wp2_with fail
        refine hff.mono ?_
        rintro e w9 ⟨v9, rfl, ho9, hb⟩
        have Hb9 := Lib.hid (below_trans' Hb8.out hb)
        obtain ⟨V9, c9, rfl, r9, hm9⟩ := ho9.rd
        have h10 := impl_tc V9 c9 _ w9 r9 hm9
        rw [Hff.out] at h10
        clear hb hff ho9
        go_wp2_with fail
        refine h10.mono ?_
        rintro e w10 ⟨rfl, rfl⟩
        go_wp2_with fail
        go_ret
        exact ⟨rfl, Hb9.out⟩

end Go.Proofs.Ytiochiokcefbkaa
