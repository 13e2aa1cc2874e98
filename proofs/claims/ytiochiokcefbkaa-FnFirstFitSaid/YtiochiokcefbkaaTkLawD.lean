/- The walk of the law on first fit. -/
import Derived.Test.YtiochiokcefbkaaTkLawA
import Derived.Test.YtiochiokcefbkaaTkLawB
namespace Go.Proofs.Ytiochiokcefbkaa
open Go.RowKit
set_option linter.unusedVariables false

/-- The loads of the first n trucks behind i weights. -/
def ldAt (g : List Nat) (ws : List Int) (n i : Nat) : List Int := (List.range n).map fun k => sumOf (g.take i) (ws.take i) k
theorem ldAt_len (g : List Nat) (ws : List Int) (n i : Nat) : (ldAt g ws n i).length = n := by simp [ldAt]
theorem ldAt_get {g : List Nat} {ws : List Int} {n i k : Nat} (h : k < n) : (ldAt g ws n i)[k]? = some (sumOf (g.take i) (ws.take i) k) := by simp [ldAt, h]
theorem ldAt_zero (g : List Nat) (ws : List Int) (n : Nat) : ldAt g ws n 0 = List.replicate n 0 := by
  apply List.ext_getElem?
  intro k
  rcases Nat.lt_or_ge k n with h | h
  · rw [ldAt_get h]; simp [sumOf_nil, h]
  · rw [List.getElem?_eq_none (by rw [ldAt_len]; exact h), List.getElem?_eq_none (by simp; exact h)]
theorem sumOf_snoc {g : List Nat} {ws : List Int} {i t : Nat} {x : Int} (hg : g[i]? = some t) (hx : ws[i]? = some x) (k : Nat) : sumOf (g.take (i + 1)) (ws.take (i + 1)) k = sumOf (g.take i) (ws.take i) k + if t = k then x else 0 := by
  have key : ∀ (g : List Nat) (ws : List Int) (i : Nat), g[i]? = some t → ws[i]? = some x → sumOf (g.take (i + 1)) (ws.take (i + 1)) k = sumOf (g.take i) (ws.take i) k + if t = k then x else 0 := by
    intro g
    induction g with
    | nil => intro ws i h _; simp at h
    | cons s g ih =>
      intro ws i h1 h2
      cases ws with
      | nil => simp at h2
      | cons y ws =>
        cases i with
        | zero =>
          simp only [List.getElem?_cons_zero, Option.some.injEq] at h1 h2
          subst h1 h2
          simp [sumOf, sumOf_nil]
        | succ i =>
          simp only [List.getElem?_cons_succ] at h1 h2
          have := ih ws i h1 h2
          simp only [List.take_succ_cons, sumOf] at this ⊢
          omega
  exact key g ws i hg hx
theorem ldAt_step {g : List Nat} {ws : List Int} {n i t : Nat} {x : Int} (hg : g[i]? = some t) (hx : ws[i]? = some x) (ht : t < n) : (ldAt g ws n i).set t (sumOf (g.take i) (ws.take i) t + x) = ldAt g ws n (i + 1) := by
  apply List.ext_getElem?
  intro k
  by_cases hk : t = k
  · subst hk
    rw [List.getElem?_set_self (by rw [ldAt_len]; exact ht), ldAt_get ht, sumOf_snoc hg hx, if_pos rfl]
  · rw [List.getElem?_set_ne hk]
    rcases Nat.lt_or_ge k n with h | h
    · rw [ldAt_get h, ldAt_get h, sumOf_snoc hg hx, if_neg hk, Int.add_zero]
    · rw [List.getElem?_eq_none (by rw [ldAt_len]; exact h), List.getElem?_eq_none (by rw [ldAt_len]; exact h)]

set_option maxHeartbeats 1600000 in
theorem law_FnFirstFit (A : Option Addr) (c : Nat) (bs : List Int) (w : World) (h0 : Coded0 w A bs c) :
    Calls Try.prog 12 #[.slice A bs.length c] w fun e w' => e = .returned (.bool true) ∧ Below w.heap.size w w' := by
  obtain ⟨i0, hi, hz0, hz1, hz2⟩ := info_parts int_info
  by_cases hbig : 1048576 < bs.length
  · go_enter Try.func12, Try.ntmps12
    go_wp2_with fail
    go_ret
    exact ⟨rfl, Below.refl _ _⟩
  have hdr := draw_ff A c bs w (h0.coded hbig)
  have Hdr := Lib.hid hdr
  clear hdr h0
  go_enter Try.func12, Try.ntmps12
  go_wp2_with fail
  refine Hdr.out.mono ?_
  rintro e w1 ⟨D, d, ws, cap, rfl, hD, hwd, hwl, hb1⟩
  have hwm : ws.length ≤ maxLen := by unfold maxLen; omega
  clear Hdr
  have h2 := impl_ff D d ws cap w1 hD hwm
  have HD := Lib.hid hD
  have Hb := Lib.hid hb1
  clear hD hb1
  go_wp2_with fail
  refine h2.mono ?_
  rintro e w2 ⟨v, rfl, ho, hb⟩
  replace Hb := Lib.hid (below_trans' Hb.out hb)
  replace HD := Lib.hid (HD.out.below hb)
  have h3 := spec_ff D d ws cap w2 HD.out hwm
  have Ho := Lib.hid ho
  clear hb ho h2
  go_wp2_with fail
  refine h3.mono ?_
  rintro e w3 ⟨v3, rfl, ho3, hb⟩
  replace Hb := Lib.hid (below_trans' Hb.out hb)
  replace HD := Lib.hid (HD.out.below hb)
  replace Ho := Lib.hid (Ho.out.below hb)
  have h4 := soOwn v v3 _ _ _ _ Ho.out ho3
  clear hb ho3 h3
  go_wp2_with fail
  refine h4.mono ?_
  rintro e w' ⟨rfl, n3, rfl⟩
  have hbn := below_of_drewN w3 n3
  replace Hb := Lib.hid (below_drewN Hb.out n3)
  replace HD := Lib.hid (HD.out.below hbn)
  replace Ho := Lib.hid (Ho.out.below hbn)
  clear hbn h4
  generalize w3.drewN n3 = w4 at *
  have h5 := impl_wv D d ws cap w4 HD.out hwm
  have h6 := spec_wv D d ws cap w4 HD.out hwm
  have e0 : (wv ws cap != wv ws cap) = false := by simp
  go_wp2_with fail
  refine h5.mono ?_
  rintro e w4' ⟨rfl, rfl⟩
  go_wp2_with fail
  refine h6.mono ?_
  rintro e w4' ⟨rfl, rfl⟩
  go_wp2_with fail
  refine h5.mono ?_
  rintro e w4' ⟨rfl, rfl⟩
  cases hwv : wv ws cap with
  | false =>
    rw [hwv] at h5 h6
    have h7 := spec_ff D d ws cap w4 HD.out hwm
    clear hwv
    go_wp2_with fail
    refine h7.mono ?_
    rintro e w5 ⟨v5, rfl, ho5, hb⟩
    replace Hb := Lib.hid (below_trans' Hb.out hb)
    replace HD := Lib.hid (HD.out.below hb)
    replace Ho := Lib.hid (Ho.out.below hb)
    have h8 := soOwn v v5 _ _ _ _ Ho.out ho5
    clear hb ho5 h7
    go_wp2_with fail
    refine h8.mono ?_
    rintro e w' ⟨rfl, n5, rfl⟩
    have hbn := below_of_drewN w5 n5
    replace Hb := Lib.hid (below_drewN Hb.out n5)
    replace HD := Lib.hid (HD.out.below hbn)
    clear hbn h8 h5 h6
    generalize w5.drewN n5 = w6 at *
    have h5 := impl_wv D d ws cap w6 HD.out hwm
    have h6 := spec_wv D d ws cap w6 HD.out hwm
    have e1 : (wv ws cap == wv ws cap) = true := by simp
    go_wp2_with fail
    refine h5.mono ?_
    rintro e w6' ⟨rfl, rfl⟩
    go_wp2_with fail
    refine h6.mono ?_
    rintro e w6' ⟨rfl, rfl⟩
    go_wp2_with fail
    go_ret
    exact ⟨rfl, Hb.out⟩
  | true =>
    obtain ⟨hF, hg⟩ := ff_facts hwv
    obtain ⟨hpos, hl8, hc1, hc2⟩ := wv_parts hwv
    have htw := runs_twice hF.runs hpos (leastT_fits hwv)
    have hlv := lv_least hF.lv
    rw [hF.tc] at hlv
    have Hlv := Lib.hid hF.lv
    have Htc := Lib.hid hF.tc
    have HR := Lib.hid hF.runs
    generalize hrun : runs cap ws = g at *
    have hgl : g.length = ws.length := HR.out.len
    obtain ⟨V, vc, rfl, hV, hVm⟩ := Ho.out.rd
    rw [hg] at hV Hlv Htc
    have HV := Lib.hid hV
    have Hlt := Lib.hid (lt_val hwv)
    have hll : (ff ws cap).length = ws.length := by rw [hg, List.length_map, hgl]
    have Hg := Lib.hid hg
    have Hpos := Lib.hid hpos
    have Hwv := Lib.hid hwv
    clear hF hg hpos hV hrun hwv h5 h6
    generalize ff ws cap = gs at *
    go_wp2_with (at_make; refine wpList_make_full _ rfl _ _ _ rfl w4.heap.size 3 i0 _ 1 Try.underlying22 hi hz0 hz1 _ _ _ _ (ws.length + 1) rfl rfl rfl rfl (by rw [hz2]; omega) (by unfold maxLen; omega) (Nat.le_refl _) ?_; intro w5 hown5 hg5)
    rw [made_ints, ← ldAt_zero g ws] at hown5
    have Hb5 : Hid (Below w4.heap.size w4 w5) := Lib.hid ((Below.refl _ _).grown hg5 (Nat.le_refl _) (by simp))
    have Hown5 := Lib.hid hown5
    clear hown5 hg5
    go_wp2_with fail
    go_loopw [7] (fun i wr => ∃ k : Nat, k ≤ ws.length ∧ i = .int .i64 k ∧ Hid (Below w4.heap.size w4 wr) ∧ Hid (wr.ownsRow w4.heap.size 3 1 (.slice (some ⟨w4.heap.size, 0, none⟩) (ws.length + 1) (ws.length + 1)) (ws.length + 1) (ints (ldAt g ws (ws.length + 1) k)))) (fun i _ => ws.length - (intOf i).toNat)
    case atStart => exact ⟨0, Nat.zero_le _, rfl, Hb5, Hown5⟩
    case round =>
      obtain ⟨i, hik, rfl, hbw, hown⟩ := hrel
      clear Hb5 Hown5
      by_cases hlt : i < ws.length
      · obtain ⟨ad, x, rfl, hx, hcA⟩ := (HD.out.below hbw.out).int hlt
        have hxb := Hpos.out x (List.mem_of_getElem? hx)
        have hgi := List.getElem?_eq_getElem (l := g) (i := i) (by omega)
        generalize hr : g[i]'(by omega) = r at hgi
        have hrl : r < ws.length := HR.out.lt r (List.mem_of_getElem? hgi)
        obtain ⟨ad2, t, rfl, ht, hcG⟩ := (HV.out.below hbw.out).int (k := i) (by rw [List.length_map]; omega)
        have htr : t = (r : Int) := by
          rw [List.getElem?_map, hgi] at ht
          simpa using ht.symm
        subst htr
        have Hfull := Lib.hid (HR.out.full i r x hx hgi)
        have Hbd : Hid (∀ k, 0 ≤ sumOf (g.take i) (ws.take i) k ∧ sumOf (g.take i) (ws.take i) k ≤ cap) := Lib.hid fun k => by
          have hnn : ∀ x ∈ ws, 0 ≤ x := fun x hx => by have := Hpos.out x hx; omega
          have a1 := sumOf_nn (g.take i) (ws.take i) k (fun y hy => hnn y (List.mem_of_mem_take hy))
          have a2 := sumOf_take g ws i k hnn
          have a3 := HR.out.load k
          omega
        have Hx := Lib.hid (And.intro hx hgi)
        clear hx hgi ht hr
        obtain ⟨wo, rfl⟩ : ∃ wo : World, wo = wr := ⟨_, rfl⟩
        go_wp2_with fail
        go_loopw [8] (fun tr wr => ∃ t : Nat, t ≤ r ∧ tr = .int .i64 t ∧ ∃ n, wr = wo.drewN n) (fun tr _ => r - (intOf tr).toNat)
        case atStart => exact ⟨0, Nat.zero_le _, rfl, 0, rfl⟩
        case round =>
          obtain ⟨t, htr, rfl, n, rfl⟩ := hrel
          by_cases htr2 : t < r
          · have hz := ldAt_get (g := g) (ws := ws) (n := ws.length + 1) (i := i) (k := t) (by omega)
            have hzc := Hfull.out t htr2
            have hzb := Hbd.out t
            generalize sumOf (g.take i) (ws.take i) t = z at *
            have hc3 : wo.cell? ⟨w4.heap.size, t, none⟩ = some (.int .i64 z) := (hown.out.cellAt t (by omega)).trans (ints_get hz)
            clear hz
            go_wp2_with fail
            go_quiet (fail)
            go_wp2_with fail
            go_roundw
            case rel => exact ⟨t + 1, by omega, by go_num, _, rfl⟩
            case measure => simp [intOf]; omega
          · have ht' : t = r := by omega
            subst ht'
            have hy := ldAt_get (g := g) (ws := ws) (n := ws.length + 1) (i := i) (k := t) (by omega)
            have hyb := Hbd.out t
            have hst := hown.out.stored t (.int .i64 (sumOf (g.take i) (ws.take i) t + x))
            rw [ints_set, ldAt_step Hx.out.2 Hx.out.1 (by omega)] at hst
            generalize sumOf (g.take i) (ws.take i) t = y at *
            have hc3 : wo.cell? ⟨w4.heap.size, t, none⟩ = some (.int .i64 y) := (hown.out.cellAt t (by omega)).trans (ints_get hy)
            have hfz : wo.frozen? ⟨w4.heap.size, t, none⟩ = false := hown.out.frozenAt t
            have Hst := Lib.hid hst
            clear hst hy hown
            generalize hwq : wo.drewN n = wq
            have hh : wq.heap = wo.heap := by rw [← hwq]; rfl
            have q1 := (cell_heap hh _).trans hc3
            have q2 := (frozen_heap hh _).trans hfz
            have q3 := (cell_heap hh _).trans hcA
            have q4 := (cell_heap hh _).trans hcG
            have Hbq : Hid (Below w4.heap.size w4 wq) := Lib.hid (by rw [← hwq]; exact below_drewN hbw.out n)
            have Hsq : Hid ((wq.setCell ⟨w4.heap.size, t, none⟩ (.int .i64 (y + x))).ownsRow w4.heap.size 3 1 (.slice (some ⟨w4.heap.size, 0, none⟩) (ws.length + 1) (ws.length + 1)) (ws.length + 1) (ints (ldAt g ws (ws.length + 1) (i + 1)))) := Lib.hid (own_heap (by rw [← hwq]; rfl) Hst.out.1)
            have hi1 : t < ws.length + 1 := by omega
            have hi2 : (t : Int) < (ws.length : Int) + 1 := by omega
            clear hwq hh hc3 hfz hcA hcG hbw Hst
            go_wp2_with fail
            go_still_tail 18, (by kernel_rfl)
            go_wp2_with fail
            go_roundw
            case rel => exact ⟨i + 1, by omega, by go_num, Lib.hid (Hbq.out.setCell (Nat.le_refl _) _).drew, Lib.hid Hsq.out.drew⟩
            case measure => simp [intOf]; omega
      · have hi' : i = ws.length := by omega
        subst hi'
        have h7 := impl_tc V vc _ wr (HV.out.below hbw.out) (by rw [List.length_map]; omega)
        have h8 := impl_lt D d ws cap wr (HD.out.below hbw.out) hwm hwd
        rw [Htc.out] at h7
        rw [Hlt.out] at h8
        rw [List.length_map, hgl] at h7
        have Hb6 := Lib.hid (below_trans' Hb.out hbw.out)
        have HD6 := Lib.hid (HD.out.below hbw.out)
        have HV6 := Lib.hid (HV.out.below hbw.out)
        clear hbw hown hlt
        go_wp2_with fail
        refine h7.mono ?_
        rintro e w6 ⟨rfl, rfl⟩
        go_wp2_with fail
        refine h8.mono ?_
        rintro e w7 ⟨rfl, hb⟩
        have h9 := impl_lv D V d vc ws _ cap w7 (HD6.out.below hb) (HV6.out.below hb) hwm (by rw [List.length_map]; omega)
        rw [Hlv.out, List.length_map, hgl] at h9
        have Hb7 := Lib.hid (below_trans' Hb6.out hb)
        have m1 : (count g : Int) ≤ 2 * (leastT ws cap : Int) := by omega
        have m2 : ((leastT ws cap : Nat) : Int) ≤ ((count g : Nat) : Int) := by omega
        have m3 : leastT ws cap ≤ 8 := by have := (leastT_spec Hwv.out).1; omega
        clear hb h7 h8
        go_wp2_with fail
        refine h9.mono ?_
        rintro e w8 ⟨rfl, hb⟩
        go_wp2_with fail
        go_ret
        exact ⟨rfl, below_trans' Hb7.out hb⟩

end Go.Proofs.Ytiochiokcefbkaa
