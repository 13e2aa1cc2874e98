
/- The walks of HomeOf. -/
import Derived.Test.YthmngaioimohaaaNtP4
namespace Go.Proofs.Ythmngaioimohaaa
open Go.RowKit
set_option linter.unusedVariables false

theorem rp_pos {net : List Off} {s c : ByteArray} (h : (rpath net s c).2 = 0) : 0 < (rpath net s c).1.length := by
  cases ho : offI net s with
  | none => rw [rpath_no_office ho] at h; simp at h
  | some i =>
    cases hn : nv net with
    | false => rw [rpath_no_net hn] at h; simp at h
    | true =>
      cases hc : codeB c with
      | false => rw [rpath_no_code hc] at h; simp at h
      | true =>
        rw [rpath_yes ho hn hc]
        obtain ⟨r, _, _, hil, _⟩ := offI_some ho
        have h1 := (path_ok (c := c) hil).1.first
        simpa using (List.getElem?_eq_some_iff.1 h1).1
theorem rp_home {net : List Off} {s c : ByteArray} (h : (rpath net s c).2 = 0) : ∃ (k : Nat) (x : ByteArray), (rpath net s c).1.length = k + 1 ∧ (rpath net s c).1[k]? = some x ∧ homeO net s c = some x := by
  have hp := rp_pos h
  obtain ⟨k, hk⟩ : ∃ k, (rpath net s c).1.length = k + 1 := ⟨(rpath net s c).1.length - 1, by omega⟩
  obtain ⟨x, hx⟩ : ∃ x, (rpath net s c).1[k]? = some x := ⟨_, List.getElem?_eq_getElem (by omega)⟩
  refine ⟨k, x, hk, hx, ?_⟩
  rw [homeO, if_pos h, List.getLast?_eq_getElem?, hk, Nat.add_sub_cancel, hx]
theorem rp_lost {net : List Off} {s c : ByteArray} (h : (rpath net s c).2 ≠ 0) : homeO net s c = none := by rw [homeO, if_neg h]
set_option maxRecDepth 100000 in
set_option maxHeartbeats 800000 in
theorem spec_home (v : Value) (net : List Off) (s c : ByteArray) (w : World) (h : InO w v net) (hs : SzO net) (hq1 : s.size ≤ maxLen) (hc : c.size ≤ maxLen) :
    Calls Try.prog 14 #[v, .string s, .string c] w fun e w' => e = .returned (.tuple #[.string (orE (homeO net s c)), .bool (homeO net s c).isSome]) ∧ Below w.heap.size w w' := by
  have HR := Lib.hid (spec_rp v net s c w h hs hq1 hc)
  clear h hs hq1 hc
  go_enter Try.func14, Try.ntmps14
  go_wp2_with fail
  refine HR.out.mono ?_
  rintro e w1 ⟨u, rfl, hu, hb⟩
  have Hb := Lib.hid hb
  clear HR hb
  by_cases h0 : (rpath net s c).2 = 0
  · obtain ⟨k, x, hl, hx, hh⟩ := rp_home h0
    have Hh := Lib.hid hh
    have hrow : w1.ownsRow w.heap.size 9 1 u (rpath net s c).1.length (strs (rpath net s c).1) := Own.row hu
    rw [hl] at hrow
    obtain ⟨A', c', rfl, _, q1, q2⟩ := sl_own hrow
    unfold maxLen at q2
    obtain ⟨g, rfl⟩ := own_some hrow (by omega)
    have hcP : w1.cell? ⟨g, k, none⟩ = some (.string x) := (hrow.cellAt _ (by omega)).trans (strs_get hx)
    rw [h0]
    clear hl hx hh hrow hu h0
    go_wp2_with fail
    go_ret2
    exact ⟨by rw [Hh.out]; rfl, Hb.out⟩
  · have e0 : ((rpath net s c).2 != 0) = true := by simp [h0]
    have Hh := Lib.hid (rp_lost h0)
    obtain ⟨A', c', rfl, _, q1, q2⟩ := sl_own (Own.row hu)
    clear hu h0
    go_wp2_with fail
    go_ret2
    exact ⟨by rw [Hh.out]; rfl, Hb.out⟩
set_option maxRecDepth 100000 in
set_option maxHeartbeats 800000 in
theorem impl_home (v : Value) (net : List Off) (s c : ByteArray) (w : World) (h : InO w v net) (hs : SzO net) (hq1 : s.size ≤ maxLen) (hc : c.size ≤ maxLen) :
    Calls Try.prog 15 #[v, .string s, .string c] w fun e w' => e = .returned (.tuple #[.string (orE (homeO net s c)), .bool (homeO net s c).isSome]) ∧ Below w.heap.size w w' := by
  have HR := Lib.hid (impl_rp v net s c w h hs hq1 hc)
  clear h hs hq1 hc
  go_enter Try.func15, Try.ntmps15
  go_wp2_with fail
  refine HR.out.mono ?_
  rintro e w1 ⟨u, rfl, hu, hb⟩
  have Hb := Lib.hid hb
  clear HR hb
  by_cases h0 : (rpath net s c).2 = 0
  · obtain ⟨k, x, hl, hx, hh⟩ := rp_home h0
    have Hh := Lib.hid hh
    have hrow : w1.ownsRow w.heap.size 9 1 u (rpath net s c).1.length (strs (rpath net s c).1) := Own.row hu
    rw [hl] at hrow
    obtain ⟨A', c', rfl, _, q1, q2⟩ := sl_own hrow
    unfold maxLen at q2
    obtain ⟨g, rfl⟩ := own_some hrow (by omega)
    have hcP : w1.cell? ⟨g, k, none⟩ = some (.string x) := (hrow.cellAt _ (by omega)).trans (strs_get hx)
    rw [h0]
    clear hl hx hh hrow hu h0
    go_wp2_with fail
    go_ret2
    exact ⟨by rw [Hh.out]; rfl, Hb.out⟩
  · have e0 : ((rpath net s c).2 != 0) = true := by simp [h0]
    have Hh := Lib.hid (rp_lost h0)
    obtain ⟨A', c', rfl, _, q1, q2⟩ := sl_own (Own.row hu)
    clear hu h0
    go_wp2_with fail
    go_ret2
    exact ⟨by rw [Hh.out]; rfl, Hb.out⟩

end Go.Proofs.Ythmngaioimohaaa
