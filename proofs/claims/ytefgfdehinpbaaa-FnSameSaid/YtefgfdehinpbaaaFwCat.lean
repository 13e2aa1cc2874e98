
/- The walk of slices.Concat; slices.Grow by the library's contract, laid at this program's numbers (written by the kit's tool lay-plain; its numbers are marks). -/
import Derived.Test.YtefgfdehinpbaaaFw4
import Derived.Shelf.Spec.SlicesGrow
import Derived.Deep.WholeRow
namespace Go.Proofs.Ytefgfdehinpbaaa
open Go.RowKit Go.Shelf
set_option linter.unusedVariables false

def grow_ren : Go.Shelf.Ren := ⟨fun | 4 => 62 | n => n, fun | 22 => 23 | 25 => 34 | 3 => 3 | 4 => 4 | 9 => 9 | 20 => 20 | 0 => 0 | n => n, fun | n => n⟩
theorem grow_lays : Go.Proofs.Lays8.n4 Try.prog grow_ren := {
  mixed := by kernel_rfl
  f4 := ⟨Try.f62.name, by decide, Try.func62.trans (congrArg some (by kernel_rfl))⟩
  t0 := Try.underlying0
  a0 := Try.isAgg0
  z0 := Try.sizeOf0
  v0 := Try.zeroValue0
  t3 := Try.underlying3
  a3 := Try.isAgg3
  z3 := Try.sizeOf3
  v3 := Try.zeroValue3
  t4 := Try.underlying4
  a4 := Try.isAgg4
  z4 := Try.sizeOf4
  v4 := Try.zeroValue4
  t9 := Try.underlying9
  a9 := Try.isAgg9
  z9 := Try.sizeOf9
  v9 := Try.zeroValue9
  t20 := Try.underlying20
  a20 := Try.isAgg20
  z20 := Try.sizeOf20
  v20 := Try.zeroValue20
  t22 := Try.underlying23
  a22 := Try.isAgg23
  z22 := Try.sizeOf23
  v22 := Try.zeroValue23 }


theorem grow_any (n : Nat) (w : World) (hn : n ≤ 1048576) :
    Calls Try.prog 62 #[.slice none 0 0, .int .i64 n] w fun e w' => ∃ v, e = .returned v ∧ w'.ownsRow w.heap.size 34 2 v 0 (fcs []) ∧ Below w.heap.size w w' := by
  by_cases h0 : n = 0
  · subst h0
    refine (Any8.slices_Grow_room grow_lays none 0 0 0 w (by omega) (by omega) (by omega) (by omega)).mono ?_
    rintro e w' ⟨rfl, rfl⟩
    exact ⟨_, rfl, World.ownsRow_nil _ _ _ _, Below.refl _ _⟩
  · obtain ⟨i0, hi, hz0, hz1, hz2⟩ := info_parts fwd_info
    refine (Any8.slices_Grow_grow grow_lays i0 _ hi hz0 (by rw [hz1]; omega) none 0 0 n [] w (by omega) (by omega) (by rw [hz2]; omega) (by omega) (by simp) (by simp) (by simp)).mono ?_
    rintro e w' ⟨rfl, rfl⟩
    have hge := grownCap_ge w (0 + n) 0 (grow_ren.t 25)
    have hle := grownCap_le_maxLen w (0 + n) 0 (grow_ren.t 25) (by unfold maxLen; omega)
    have hb : Below w.heap.size w w.drew := (Below.refl _ _).drew
    refine ⟨_, rfl, ⟨rfl, .inr ⟨w.heap.size, _, _, rfl, Nat.le_refl _, heap_alloc_last _ _, Nat.zero_le _, hle, ?_, ?_⟩⟩, hb.alloc (Nat.le_refl _) _⟩
    · simp only [Array.size_append, List.size_toArray, size_zeroCells, List.length_nil]
      have : (Value.agg #[.string ⟨#[]⟩, .string ⟨#[]⟩]).cells.size = 2 := rfl
      rw [this]; omega
    · rfl

set_option maxRecDepth 100000 in
set_option maxHeartbeats 1600000 in
theorem concat_any (A : Option Addr) (c : Nat) (us : List Value) (xss : List (List Fwd)) (w : World) (hA : Rd w A us) (hus : SlRows Ft w us xss) (hl : us.length ≤ 10) (hx : xss.flatten.length ≤ 100000) :
    Calls Try.prog 38 #[.slice A us.length c] w fun e w' => ∃ u, e = .returned u ∧ w'.ownsRow w.heap.size 34 2 u xss.flatten.length (fcs xss.flatten) ∧ Below w.heap.size w w' := by
  have HA := Lib.hid hA
  have Hus := Lib.hid hus
  have Hul := Lib.hid hus.len
  have Hx := Lib.hid hx
  have fle : ∀ m, (xss.take m).flatten.length ≤ 100000 := fun m => by
    have : xss.flatten = (xss.take m).flatten ++ (xss.drop m).flatten := by rw [← List.flatten_append, List.take_append_drop]
    rw [this, List.length_append] at hx; omega
  have Hfle := Lib.hid fle
  clear hA hus hx fle
  go_enter Try.func38, Try.ntmps38
  go_wp2_with fail
  go_loopw [3, 11] (fun s i wr => ∃ k m : Nat, k ≤ us.length ∧ i = .int .i64 k ∧ s = .int .i64 m ∧ m ≤ 100000 ∧ Hid (m = (xss.take k).flatten.length) ∧ w = wr) (fun _ i _ => us.length - (intOf i).toNat)
  case atStart => exact ⟨0, 0, Nat.zero_le _, rfl, rfl, by omega, Lib.hid rfl, rfl⟩
  case round =>
    obtain ⟨k, m, hk, rfl, rfl, hm, Hm, rfl⟩ := hrel
    by_cases hlt : k < us.length
    · obtain ⟨p, x, hp, hxk, hpx⟩ := Hus.out.at_ (k := k) (by have := Hul.out; omega)
      obtain ⟨ad, rfl, hcA⟩ := HA.out k _ hp
      obtain ⟨PA, pc, rfl, _, hpc1, hpc2⟩ := hpx
      have hst : (xss.take (k + 1)).flatten.length = (xss.take k).flatten.length + x.length := by rw [take_snoc hxk, List.flatten_append, List.length_append]; simp
      have hm2 := Hfle.out (k + 1)
      rw [hst, ← Hm.out] at hm2
      have Hm2 : Hid (m + x.length = (xss.take (k + 1)).flatten.length) := Lib.hid (by rw [hst, ← Hm.out])
      have hnn : ¬ ((m : Int) + (x.length : Int) < 0) := by omega
      have hdd : decide ((m : Int) + (x.length : Int) < 0) = false := decide_eq_false hnn
      clear hp hxk hst
      go_wp2_with fail
      go_roundw
      case rel => exact ⟨k + 1, m + x.length, by omega, by go_num, by go_num, hm2, Hm2, by first | rfl | trivial⟩
      case measure => simp [intOf]; omega
    · have hk' : k = us.length := by omega
      subst hk'
      have HG := Lib.hid (grow_any m w (by omega))
      go_wp2_with fail
      refine HG.out.mono ?_
      rintro e w2 ⟨v, rfl, ho2, hb2⟩
      have Ho2 : Hid (w2.ownsRow w.heap.size 34 2 v (xss.take 0).flatten.length (fcs (xss.take 0).flatten)) := Lib.hid ho2
      have Hb2 := Lib.hid hb2
      clear ho2 hb2 HG
      go_wp2_with fail
      go_loopw [6, 27] (fun o i wr => ∃ (j : Nat) (u0 : Value), j ≤ us.length ∧ i = .int .i64 j ∧ u0 = o ∧ Hid (Below w.heap.size w wr) ∧ Hid (wr.ownsRow w.heap.size 34 2 u0 (xss.take j).flatten.length (fcs (xss.take j).flatten))) (fun _ i _ => us.length - (intOf i).toNat)
      case atStart => exact ⟨0, _, Nat.zero_le _, rfl, rfl, Hb2, Ho2⟩
      case round =>
        obtain ⟨j, u0, hj, rfl, rfl, Hb, Hown⟩ := hrel
        clear Hb2 Ho2
        by_cases hlt2 : j < us.length
        · obtain ⟨p, x, hp, hxk, hpx⟩ := Hus.out.at_ (k := j) (by have := Hul.out; omega)
          obtain ⟨ad, rfl, hcA⟩ := (HA.out.below Hb.out) j _ hp
          obtain ⟨PA, pc, rfl, hpr, hpc1, hpc2⟩ := Sl.below hpx Hb.out
          have hst : (xss.take (j + 1)).flatten = (xss.take j).flatten ++ x := by rw [take_snoc hxk, List.flatten_append]; simp
          have hm2 := Hfle.out (j + 1)
          rw [hst, List.length_append] at hm2
          have Hst := Lib.hid hst
          clear hp hxk hst
          go_wp2_with (at_builtin; refine wpList_append_rd rfl (.tmp 31) (.tmp 32) 23 rfl fwd_elem (base := w.heap.size) u0 (xss.take j).flatten.length (fcs (xss.take j).flatten) rfl Hown.out PA x.length pc (fcs x) rfl (cs2_length x) hpr (fcs_oneCell x) (by unfold maxLen; omega) (by omega) Hb.out.size ?_; intro v5 w5 hown5 hg5 hmv5)
          have Hb5 := Lib.hid (Hb.out.grown hg5 Hb.out.size (fun g e => (Hown.out.lt g e).1))
          have Ho5 : Hid (w5.ownsRow w.heap.size 34 2 v5 (xss.take (j + 1)).flatten.length (fcs (xss.take (j + 1)).flatten)) := Lib.hid (by rw [Hst.out, List.length_append, show fcs ((xss.take j).flatten ++ x) = fcs (xss.take j).flatten ++ fcs x from cs2_append _ _]; exact hown5)
          clear hown5 hg5 hmv5 hpr
          go_roundw
          case rel => exact ⟨j + 1, _, by omega, by go_num, rfl, Hb5, Ho5⟩
          case measure => simp [intOf]; omega
        · have hj' : j = us.length := by omega
          subst hj'
          have ht : xss.take us.length = xss := List.take_of_length_le (by have := Hul.out; omega)
          have Hown2 := Hown
          rw [ht] at Hown2
          clear ht
          go_wp2_with fail
          go_ret
          exact ⟨_, rfl, Hown2.out, Hb.out⟩

end Go.Proofs.Ytefgfdehinpbaaa
