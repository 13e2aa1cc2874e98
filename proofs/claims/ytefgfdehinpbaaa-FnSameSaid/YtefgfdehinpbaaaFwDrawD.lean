
/- The walk of the draw of two lists of orders. -/
import Derived.Test.YtefgfdehinpbaaaFwDrawC
import Derived.Test.YtefgfdehinpbaaaFwLaw3
namespace Go.Proofs.Ytefgfdehinpbaaa
open Go.RowKit
set_option linter.unusedVariables false

theorem direct_seven (xs : List Fwd) : SmF 7 (direct xs) := by
  cases hv : fv xs with
  | false => rw [direct_no hv]; intro x hx; simp at hx
  | true =>
    intro x hx
    have hp := fv_parts (fv_direct hv)
    have h1 := (codeB_parts (hp.frm x hx)).1
    have h2 := (codeB_parts (hp.to x hx)).1
    omega
theorem sm_more {m n : Nat} {xs : List Fwd} (h : SmF m xs) (hm : m ≤ n) : SmF n xs := fun x hx => by have := h x hx; omega

set_option maxRecDepth 100000 in
set_option maxHeartbeats 3200000 in
theorem draw_same4 (A : Option Addr) (c : Nat) (bs : List Int) (w : World) (h : Coded w A bs c) :
    Calls Try.prog 8 #[.slice A bs.length c] w fun e w' => ∃ (v u : Value) (xs ys : List Fwd), e = .returned (.tuple #[v, u]) ∧ DrawnF w' w.heap.size v xs ∧ DrawnF w' w.heap.size u ys ∧ Below w.heap.size w w' := by
  have HC := Lib.hid (coded_open h)
  clear h
  go_enter Try.func8, Try.ntmps8
  go_wp2_with fail
  refine HC.out.mono ?_
  rintro e w1 ⟨rfl, hr, hb, hl⟩
  have Hb := Lib.hid hb
  have Hl := Lib.hid hl
  have hwl := hl
  have H1 := Lib.hid (orders_any w.heap.size 0 w1 hr (by omega))
  clear hr hb hl HC
  go_wp2_with fail
  refine H1.out.mono ?_
  rintro e w2 ⟨v, xs, q, rfl, ho, hxl, hx, hq, hd2⟩
  have hw12 := hd2.size
  have HX := Lib.hid (sm_more hx (show 7 ≤ 99 by omega))
  have Hvl : Hid (∀ g, v.ownBlock = some g → g < w2.heap.size) := Lib.hid fun g e => (ho.lt g e).2
  have Hd2 := Lib.hid hd2
  have HA2 := Lib.hid ho
  have H2 := Lib.hid (spec_direct v xs w2 (sl_own ho) (hx.szf (by omega)) (by omega))
  have hdl := direct_len xs
  have HS := Lib.hid (sm_more (direct_seven xs) (show 7 ≤ 99 by omega))
  generalize direct xs = ys at *
  clear ho hx hd2 H1
  go_wp2_with fail
  refine H2.out.mono ?_
  rintro e w3 ⟨u, rfl, hu, hb3⟩
  have Hd3 := Lib.hid (Hd2.out.below hb3)
  have HA3 := Lib.hid (own_below HA2.out hb3)
  have HB3 : Hid (w3.ownsRow w2.heap.size 34 2 u ys.length (fcs ys)) := Lib.hid hu.row
  have Hw3 : Hid (w2.heap.size ≤ w3.heap.size) := Lib.hid hb3.size
  have H3 := Lib.hid (pick_any w.heap.size q 4 w3 Hd3.out.reader (by omega) (by omega))
  clear hu hb3 H2 Hd2 HA2
  go_wp2_with fail
  refine H3.out.mono ?_
  rintro e w4 ⟨a, rfl, ha, hr4, hg4⟩
  obtain ⟨m, rfl, hm⟩ := nat_of (ha.pos (by omega))
  have Hd4 := Lib.hid (Hd3.out.step hg4 hr4)
  have HA4 := Lib.hid (own_past HA3.out Hl.out hg4)
  have HB4 := Lib.hid (own_past HB3.out (by omega) hg4)
  have Hw4 : Hid (w2.heap.size ≤ w4.heap.size) := Lib.hid (Nat.le_trans Hw3.out hg4.size)
  clear ha hg4 H3 Hd3 HA3 HB3 Hw3
  by_cases h0 : m = 0
  · subst h0
    have H5 := Lib.hid (orders_any w.heap.size (q + 1) w4 hr4 (by omega))
    clear hr4
    go_wp2_with fail
    refine H5.out.mono ?_
    rintro e w5 ⟨z, zs, q5, rfl, hz, hzl, hzs, hq5, hd5⟩
    have Hd5 := Lib.hid (Hd4.out.step hd5.grown hd5.reader)
    have HA5 := Lib.hid (own_past HA4.out Hl.out hd5.grown)
    have HB5 := Lib.hid (own_base hz Hw4.out)
    have HZ := Lib.hid (sm_more hzs (show 7 ≤ 99 by omega))
    have Hws : Hid (w2.heap.size ≤ w5.heap.size) := Lib.hid (Nat.le_trans Hw4.out hd5.size)
    clear hz hzs hd5 H5 Hd4 HA4 HB4 Hw4
    have H7 := Lib.hid (bad4_any w.heap.size (q5) w1.heap.size v xs w5 (Hd5).out.reader Hl.out (Hd5).out.size (HA5).out (by omega) HX.out (by omega))
    go_wp2_with fail
    refine H7.out.mono ?_
    rintro e x1 ⟨a1, as1, qa, rfl, hoa, hal, has, hqa, hra, hca, hba⟩
    have HdX := Lib.hid (hca.dst (Hd5).out (fun gg e => ((HA5).out.lt gg e).1) hra)
    have HBx := Lib.hid (hca.own (HB5).out (by omega) (fun gg e e2 => by have := ((HB5).out.lt gg e).1; have := Hvl.out gg e2.symm; omega))
    have HAx := Lib.hid hoa
    have HAb : Hid (∀ gg, a1.ownBlock = some gg → some gg ≠ (z).ownBlock) := Lib.hid fun gg e e2 => by
      have h1 := ((HB5).out.lt gg e2.symm)
      rcases hba gg e with h | h
      · have := Hvl.out gg h.symm
        omega
      · omega
    have hxs1 := HdX.out.size
    have H8 := Lib.hid (bad4_any w.heap.size qa w2.heap.size (z) (zs) x1 hra (by omega) (by have := hca.size; have := Hws.out; omega) HBx.out (by omega) (HZ).out (by omega))
    clear hoa hra hca hba H7
    go_wp2_with fail
    refine H8.out.mono ?_
    rintro e x2 ⟨b1, bs1, qb, rfl, hob, hbl, hbs, hqb, hrb, hcb, hbb⟩
    have Hdst := Lib.hid (hcb.dst HdX.out (fun gg e => by have := (HBx.out.lt gg e).1; omega) hrb)
    have HAy := Lib.hid (hcb.own HAx.out Hl.out HAb.out)
    have HBy := Lib.hid hob
    clear hob hrb hcb hbb H8
    go_wp2_with fail
    go_ret2
    exact ⟨_, _, as1, bs1, rfl, ⟨own_base HAy.out (Nat.le_of_lt Hl.out), hal, has⟩, ⟨own_base HBy.out (by omega), hbl, hbs⟩, dst_below Hb.out Hl.out Hdst.out⟩
  have e0 : ((m : Int) == 0) = false := by simp only [beq_eq_false_iff_ne]; omega
  by_cases h1 : m = 1
  · subst h1
    obtain ⟨C, cp, rfl, _, _, _, _⟩ := own_form HB4.out
    by_cases hn : ys.length = 0
    · have e1 : ¬ (0 : Int) < (ys.length : Int) := by omega
      have Hws := Hw4
      clear hn
      have H7 := Lib.hid (bad4_any w.heap.size (q + 1) w1.heap.size v xs w4 (Hd4).out.reader Hl.out (Hd4).out.size (HA4).out (by omega) HX.out (by omega))
      go_wp2_with fail
      refine H7.out.mono ?_
      rintro e x1 ⟨a1, as1, qa, rfl, hoa, hal, has, hqa, hra, hca, hba⟩
      have HdX := Lib.hid (hca.dst (Hd4).out (fun gg e => ((HA4).out.lt gg e).1) hra)
      have HBx := Lib.hid (hca.own (HB4).out (by omega) (fun gg e e2 => by have := ((HB4).out.lt gg e).1; have := Hvl.out gg e2.symm; omega))
      have HAx := Lib.hid hoa
      have HAb : Hid (∀ gg, a1.ownBlock = some gg → some gg ≠ ((Value.slice C ys.length cp)).ownBlock) := Lib.hid fun gg e e2 => by
        have h1 := ((HB4).out.lt gg e2.symm)
        rcases hba gg e with h | h
        · have := Hvl.out gg h.symm
          omega
        · omega
      have hxs1 := HdX.out.size
      have H8 := Lib.hid (bad4_any w.heap.size qa w2.heap.size ((Value.slice C ys.length cp)) (ys) x1 hra (by omega) (by have := hca.size; have := Hws.out; omega) HBx.out (by omega) (HS).out (by omega))
      clear hoa hra hca hba H7
      go_wp2_with fail
      refine H8.out.mono ?_
      rintro e x2 ⟨b1, bs1, qb, rfl, hob, hbl, hbs, hqb, hrb, hcb, hbb⟩
      have Hdst := Lib.hid (hcb.dst HdX.out (fun gg e => by have := (HBx.out.lt gg e).1; omega) hrb)
      have HAy := Lib.hid (hcb.own HAx.out Hl.out HAb.out)
      have HBy := Lib.hid hob
      clear hob hrb hcb hbb H8
      go_wp2_with fail
      go_ret2
      exact ⟨_, _, as1, bs1, rfl, ⟨own_base HAy.out (Nat.le_of_lt Hl.out), hal, has⟩, ⟨own_base HBy.out (by omega), hbl, hbs⟩, dst_below Hb.out Hl.out Hdst.out⟩
    · have e1 : (0 : Int) < (ys.length : Int) := by omega
      have hn1 : 0 < ys.length := by omega
      have H5 := Lib.hid (code4_any w.heap.size (q + 1) w4 hr4 (by omega))
      clear hr4 hn
      obtain ⟨g, rfl⟩ := own_some' HB4.out hn1
      go_wp2_with fail
      refine H5.out.mono ?_
      rintro e w5 ⟨s, rfl, hs, hd5⟩
      have Hd5 := Lib.hid (Hd4.out.step hd5.grown hd5.reader)
      have HA5 := Lib.hid (own_past HA4.out Hl.out hd5.grown)
      have ho5 := own_past HB4.out (by omega) hd5.grown
      have hxk := List.getElem?_eq_getElem hn1
      generalize ys[0] = x at hxk
      have hcB : w5.cell? ⟨g, 1, none⟩ = some (.string x.2) := (ho5.cellAt _ (by omega)).trans (by have := (cs2_get (f := ftf) hxk).2; simpa [ftf] using this)
      have hfz : w5.frozen? ⟨g, 1, none⟩ = false := ho5.frozenAt _
      have hst := ho5.stored (0 * 2 + 1) (.string s)
      rw [fcs_set2 hxk] at hst
      simp only [Nat.zero_mul, Nat.zero_add] at hst
      have Hst := Lib.hid hst
      have hxs := HS.out x (List.mem_of_getElem? hxk)
      have HX1 : Hid (x.1.size ≤ 99) := Lib.hid hxs.1
      have Hgl : Hid (w2.heap.size ≤ g) := Lib.hid (ho5.lt g rfl).1
      clear hst ho5 hd5 H5 hxk hxs HB4 HA4 Hd4
      have hgr : w5.grownBy (w5.setCell ⟨g, 1, none⟩ (.string s)) (some g) := by simpa [Value.ownBlock] using Hst.out.2
      have Hd6 := Lib.hid (Hd5.out.own Hl.out hgr (fun g' e => by injection e with e; have := Hgl.out; omega))
      have HA6 := Lib.hid (HA5.out.kept hgr (by
        cases hv : v.ownBlock with
        | none => exact .inl rfl
        | some g' => right; intro e; injection e with e; have := Hvl.out g' hv; have := Hgl.out; omega))
      have HB6 : Hid ((w5.setCell ⟨g, 1, none⟩ (.string s)).ownsRow w2.heap.size 34 2 (.slice (some ⟨g, 0, none⟩) ys.length cp) (ys.set 0 (x.1, s)).length (fcs (ys.set 0 (x.1, s)))) := Lib.hid (by rw [List.length_set]; exact Hst.out.1)
      have HS6 : Hid (SmF 99 (ys.set 0 (x.1, s))) := Lib.hid (HS.out.set ⟨HX1.out, by show s.size ≤ 99; omega⟩)
      have Hws : Hid (w2.heap.size ≤ (w5.setCell ⟨g, 1, none⟩ (.string s)).heap.size) := Lib.hid (by have := (HB6.out.lt g rfl).2; have := Hgl.out; omega)
      obtain ⟨zs, hzs⟩ : ∃ zs, ys.set 0 (x.1, s) = zs := ⟨_, rfl⟩
      have hzl : zs.length = ys.length := by rw [← hzs, List.length_set]
      rw [hzs] at HB6 HS6
      have Hzl := Lib.hid hzl
      have hz31 : zs.length ≤ 30 := by omega
      clear hzs hzl hgr Hst
      have H7 := Lib.hid (bad4_any w.heap.size (q + 1 + 1) w1.heap.size v xs (w5.setCell ⟨g, 1, none⟩ (.string s)) (Hd6).out.reader Hl.out (Hd6).out.size (HA6).out (by omega) HX.out (by omega))
      go_wp2_with fail
      refine H7.out.mono ?_
      rintro e x1 ⟨a1, as1, qa, rfl, hoa, hal, has, hqa, hra, hca, hba⟩
      have HdX := Lib.hid (hca.dst (Hd6).out (fun gg e => ((HA6).out.lt gg e).1) hra)
      have HBx := Lib.hid (hca.own (HB6).out (by omega) (fun gg e e2 => by have := ((HB6).out.lt gg e).1; have := Hvl.out gg e2.symm; omega))
      have HAx := Lib.hid hoa
      have HAb : Hid (∀ gg, a1.ownBlock = some gg → some gg ≠ ((Value.slice (some ⟨g, 0, none⟩) ys.length cp)).ownBlock) := Lib.hid fun gg e e2 => by
        have h1 := ((HB6).out.lt gg e2.symm)
        rcases hba gg e with h | h
        · have := Hvl.out gg h.symm
          omega
        · omega
      have hxs1 := HdX.out.size
      have H8 := Lib.hid (bad4_any w.heap.size qa w2.heap.size ((Value.slice (some ⟨g, 0, none⟩) ys.length cp)) (zs) x1 hra (by omega) (by have := hca.size; have := Hws.out; omega) HBx.out (by omega) (HS6).out (by omega))
      clear hoa hra hca hba H7
      go_wp2_with fail
      refine H8.out.mono ?_
      rintro e x2 ⟨b1, bs1, qb, rfl, hob, hbl, hbs, hqb, hrb, hcb, hbb⟩
      have Hdst := Lib.hid (hcb.dst HdX.out (fun gg e => by have := (HBx.out.lt gg e).1; omega) hrb)
      have HAy := Lib.hid (hcb.own HAx.out Hl.out HAb.out)
      have HBy := Lib.hid hob
      clear hob hrb hcb hbb H8
      go_wp2_with fail
      go_ret2
      exact ⟨_, _, as1, bs1, rfl, ⟨own_base HAy.out (Nat.le_of_lt Hl.out), hal, has⟩, ⟨own_base HBy.out (by omega), hbl, hbs⟩, dst_below Hb.out Hl.out Hdst.out⟩
  have e1 : ((m : Int) == 1) = false := by simp only [beq_eq_false_iff_ne]; omega
  have Hws := Hw4
  clear hr4
  have H7 := Lib.hid (bad4_any w.heap.size (q + 1) w1.heap.size v xs w4 (Hd4).out.reader Hl.out (Hd4).out.size (HA4).out (by omega) HX.out (by omega))
  go_wp2_with fail
  refine H7.out.mono ?_
  rintro e x1 ⟨a1, as1, qa, rfl, hoa, hal, has, hqa, hra, hca, hba⟩
  have HdX := Lib.hid (hca.dst (Hd4).out (fun gg e => ((HA4).out.lt gg e).1) hra)
  have HBx := Lib.hid (hca.own (HB4).out (by omega) (fun gg e e2 => by have := ((HB4).out.lt gg e).1; have := Hvl.out gg e2.symm; omega))
  have HAx := Lib.hid hoa
  have HAb : Hid (∀ gg, a1.ownBlock = some gg → some gg ≠ (u).ownBlock) := Lib.hid fun gg e e2 => by
    have h1 := ((HB4).out.lt gg e2.symm)
    rcases hba gg e with h | h
    · have := Hvl.out gg h.symm
      omega
    · omega
  have hxs1 := HdX.out.size
  have H8 := Lib.hid (bad4_any w.heap.size qa w2.heap.size (u) (ys) x1 hra (by omega) (by have := hca.size; have := Hws.out; omega) HBx.out (by omega) (HS).out (by omega))
  clear hoa hra hca hba H7
  go_wp2_with fail
  refine H8.out.mono ?_
  rintro e x2 ⟨b1, bs1, qb, rfl, hob, hbl, hbs, hqb, hrb, hcb, hbb⟩
  have Hdst := Lib.hid (hcb.dst HdX.out (fun gg e => by have := (HBx.out.lt gg e).1; omega) hrb)
  have HAy := Lib.hid (hcb.own HAx.out Hl.out HAb.out)
  have HBy := Lib.hid hob
  clear hob hrb hcb hbb H8
  go_wp2_with fail
  go_ret2
  exact ⟨_, _, as1, bs1, rfl, ⟨own_base HAy.out (Nat.le_of_lt Hl.out), hal, has⟩, ⟨own_base HBy.out (by omega), hbl, hbs⟩, dst_below Hb.out Hl.out Hdst.out⟩

end Go.Proofs.Ytefgfdehinpbaaa
