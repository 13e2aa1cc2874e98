
/- The walks of the draws of letters to forward, and of two lists of orders. -/
import Derived.Test.YtefgfdehinpbaaaFwDrawB
import Derived.Test.YtefgfdehinpbaaaFw7
namespace Go.Proofs.Ytefgfdehinpbaaa
open Go.RowKit
set_option linter.unusedVariables false

theorem set_seven {xs : List Ltr} {k : Nat} {y : Ltr} (h : ∀ x ∈ xs, x.2.size = 7) (hy : y.2.size = 7) : ∀ x ∈ xs.set k y, x.2.size = 7 := by
  intro x hx
  rcases List.mem_or_eq_of_mem_set hx with h1 | h1
  · exact h x h1
  · rw [h1]; exact hy

set_option maxRecDepth 100000 in
set_option maxHeartbeats 1600000 in
theorem mail_any (R p : Nat) (w : World) (h : Reader w R p) (hp : p ≤ 68719476736) :
    Calls Try.prog 47 #[.pointer (some ⟨R, 0, none⟩)] w fun e w' => ∃ (v : Value) (ys : List Ltr) (q : Nat), e = .returned v ∧ w'.ownsRow w.heap.size 44 2 v ys.length (lcs ys) ∧ ys.length ≤ 20 ∧ (∀ y ∈ ys, y.2.size = 7) ∧ q ≤ p + 200 ∧ Dst w R q w' := by
  have hR := h.lt
  have H1 := Lib.hid (pick_any R p 4 w h (by omega) (by omega))
  have Hd0 := Lib.hid (Dst.start h)
  clear h
  go_enter Try.func47, Try.ntmps47
  go_wp2_with fail
  refine H1.out.mono ?_
  rintro e w1 ⟨a, rfl, ha, hr1, hg1⟩
  obtain ⟨an, rfl, han⟩ := nat_of (ha.pos (by omega))
  have Hd1 := Lib.hid (Hd0.out.step hg1 hr1)
  have hl := letters_any R (p + 1) (1 + an) w1 hr1 (by omega) (by omega)
  push_cast at hl
  have Hl := Lib.hid hl
  have hadd : (an : Int) + 1 = 1 + (an : Int) := by omega
  clear hl ha hr1 hg1 H1 Hd0
  go_wp2_with fail
  refine Hl.out.mono ?_
  rintro e w2 ⟨v, xs, q, rfl, ho, hxl, hx, hq, hd2⟩
  have Hd2 := Lib.hid (Hd1.out.step hd2.grown hd2.reader)
  have Hx2 : Hid (∀ x ∈ xs, x.2.size = 7) := Lib.hid fun x hm => (hx x hm).1
  obtain ⟨C, cp, hve, _, _, _, _⟩ := own_form ho
  obtain ⟨N, hN⟩ : ∃ N, xs.length = N := ⟨_, rfl⟩
  have HN := Lib.hid hN
  rw [hN] at hve hxl hq ho
  subst hve
  have Ho2 := Lib.hid (own_base ho Hd1.out.size)
  clear ho hx hd2 Hl Hd1 hN hadd
  go_wp2_with fail
  go_loopw [4] (fun i wr => ∃ (k q' : Nat) (ys : List Ltr), k ≤ N ∧ i = .int .i64 k ∧ q' ≤ q + k ∧ Hid (ys.length = N) ∧ Hid (Dst w R q' wr) ∧ Hid (wr.ownsRow w.heap.size 44 2 (.slice C N cp) N (lcs ys)) ∧ Hid (∀ y ∈ ys, y.2.size = 7)) (fun i _ => N - (intOf i).toNat)
  case atStart => exact ⟨0, q, xs, Nat.zero_le _, rfl, by omega, HN, Hd2, Ho2, Hx2⟩
  case round =>
    obtain ⟨k, q', ys, hk, rfl, hq', Hyn, Hd, Ho, Hy⟩ := hrel
    clear Hd2 Ho2 Hx2
    by_cases hlt : k < N
    · have H2 := Lib.hid (code4_any R q' wr Hd.out.reader (by omega))
      obtain ⟨g, rfl⟩ := own_some' Ho.out (by omega)
      go_wp2_with fail
      refine H2.out.mono ?_
      rintro e w3 ⟨s, rfl, hs, hd3⟩
      have Hd3 := Lib.hid (Hd.out.step hd3.grown hd3.reader)
      have ho3 := own_past Ho.out hR hd3.grown
      have hkl : k < ys.length := by rw [Hyn.out]; exact hlt
      have hyk := List.getElem?_eq_getElem hkl
      generalize ys[k] = y at hyk
      have hcB3 : w3.cell? ⟨g, k * 2 + 1, none⟩ = some (.string y.2) := (ho3.cellAt _ (by omega)).trans (cs2_get (f := ltf) hyk).2
      have hfz3 : w3.frozen? ⟨g, k * 2 + 1, none⟩ = false := ho3.frozenAt _
      have hst := ho3.stored (k * 2 + 1) (.string s)
      rw [lcs_set2 hyk] at hst
      have Hst := Lib.hid hst
      have Hgl : Hid (w.heap.size ≤ g) := Lib.hid (ho3.lt g rfl).1
      clear hst ho3 hd3 H2 Ho Hd hyk hkl
      go_wp2_with fail
      have Hd4 := Lib.hid (Hd3.out.own hR Hst.out.2 (fun g' e => by simp at e; have := Hgl.out; omega))
      have Ho4 := Lib.hid Hst.out.1
      have Hy4 : Hid (∀ z ∈ ys.set k (y.1, s), z.2.size = 7) := Lib.hid (set_seven Hy.out hs)
      have Hyn4 : Hid ((ys.set k (y.1, s)).length = N) := Lib.hid (by rw [List.length_set]; exact Hyn.out)
      clear Hst Hd3 Hy Hyn hcB3 hfz3
      go_roundw
      case rel => exact ⟨k + 1, q' + 1, _, by omega, by go_num, by omega, Hyn4, Hd4, Ho4, Hy4⟩
      case measure => simp [intOf]; omega
    · have hk' : k = N := by omega
      subst hk'
      go_wp2_with fail
      go_ret
      exact ⟨_, ys, q', rfl, by rw [Hyn.out]; exact Ho.out, by rw [Hyn.out]; omega, Hy.out, by omega, Hd.out⟩

set_option maxRecDepth 100000 in
set_option maxHeartbeats 1600000 in
theorem draw_fb (A : Option Addr) (c : Nat) (bs : List Int) (w : World) (h : Coded w A bs c) :
    Calls Try.prog 15 #[.slice A bs.length c] w fun e w' => ∃ (v u : Value) (xs : List Fwd) (ys : List Ltr), e = .returned (.tuple #[v, u]) ∧ DrawnF w' w.heap.size v xs ∧ w'.ownsRow w.heap.size 44 2 u ys.length (lcs ys) ∧ ys.length ≤ 61 ∧ (∀ y ∈ ys, y.2.size ≤ 101) ∧ Below w.heap.size w w' := by
  have HC := Lib.hid (coded_open h)
  clear h
  go_enter Try.func15, Try.ntmps15
  go_wp2_with fail
  refine HC.out.mono ?_
  rintro e w1 ⟨rfl, hr, hb, hl⟩
  have Hb := Lib.hid hb
  have Hl := Lib.hid hl
  have H1 := Lib.hid (open4_any w.heap.size 0 w1 hr (by omega))
  clear hr hb hl HC
  go_wp2_with fail
  refine H1.out.mono ?_
  rintro e w2 ⟨v, xs, q, rfl, hD, hq, hd2⟩
  have HD := Lib.hid hD
  have Hd := Lib.hid hd2
  have H2 := Lib.hid (mail_any w.heap.size q w2 hd2.reader (by omega))
  clear hD hd2 H1
  go_wp2_with fail
  refine H2.out.mono ?_
  rintro e w3 ⟨m, ls, q3, rfl, ho, hll, hls, hq3, hd3⟩
  have Hd3 := Lib.hid (Hd.out.step hd3.grown hd3.reader)
  have HD3 := Lib.hid (HD.out.past Hl.out hd3.grown)
  have hw12 := Hd.out.size
  have hwl := Hl.out
  have Ho := Lib.hid ho
  have H3 := Lib.hid (bad2_any w.heap.size q3 w2.heap.size m ls w3 hd3.reader (by omega) hd3.size ho (by omega) hls (by omega))
  have Hvl : Hid (∀ g, v.ownBlock = some g → g < w2.heap.size) := Lib.hid fun g e => (HD.out.own.lt g e).2
  clear ho hls hd3 H2 HD Hd
  go_wp2_with fail
  refine H3.out.mono ?_
  rintro e w4 ⟨u, ys, q4, rfl, ho4, hyl, hys, hq4, hr4, hc4⟩
  have hdst := hc4.dst Hd3.out (fun g e => by have := (Ho.out.lt g e).1; omega) hr4
  have hD4 : DrawnF w4 w1.heap.size v xs := ⟨hc4.own HD3.out.own (by omega) (fun g e e2 => by have := Hvl.out g e; have := (Ho.out.lt g e2.symm).1; omega), HD3.out.len, HD3.out.sm⟩
  have HD4 := Lib.hid hD4
  have Hdst := Lib.hid hdst
  have Ho4 := Lib.hid ho4
  clear hdst hD4 ho4 hr4 hc4 H3
  go_wp2_with fail
  go_ret2
  exact ⟨_, _, xs, ys, rfl, HD4.out.base (Nat.le_of_lt Hl.out), own_base Ho4.out (by omega), hyl, hys, dst_below Hb.out Hl.out Hdst.out⟩

end Go.Proofs.Ytefgfdehinpbaaa
