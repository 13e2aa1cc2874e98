/- The walk of the exact law on FirstFit. -/
import Derived.Test.YtiochiokcefbkaaTk5
namespace Go.Proofs.Ytiochiokcefbkaa
open Go.RowKit
set_option linter.unusedVariables false

theorem ff_len (ws : List Int) (cap : Int) : (ff ws cap).length ≤ 8 := by
  cases h : wv ws cap
  · rw [ff_no h]; simp
  · rw [ff_yes h]
    have h1 := fitInv_all h (List.range ws.length) (by simp) (by simp) ws.length (by simp)
    rw [List.take_of_length_le (by simp)] at h1
    rw [h1.len2]
    exact (wv_parts h).2.1

set_option maxHeartbeats 800000 in
theorem law_ExactFirstFit (A : Option Addr) (c : Nat) (xs : List Int) (cap : Int) (w : World) (h : Rd w A (ints xs)) (hn : xs.length ≤ maxLen) :
    Calls Try.prog 6 #[.slice A xs.length c, .int .i64 cap] w fun e w' => e = .returned (.bool true) ∧ Below w.heap.size w w' := by
  have hn1 := hn
  unfold maxLen at hn1
  by_cases hbig : 1048576 < xs.length
  · go_enter Try.func6, Try.ntmps6
    go_wp2_with fail
    go_ret
    exact ⟨rfl, Below.refl _ _⟩
  have hs : xs.length ≤ 1048576 := by omega
  have hrl : (ff xs cap).length ≤ 8 := ff_len xs cap
  go_enter Try.func6, Try.ntmps6
  go_wp2_with fail
  refine (toOwn A c xs _ h hs).mono ?_
  rintro e w1 ⟨v1, rfl, h1, hb1⟩
  obtain ⟨A1, c1, rfl, r1, _⟩ := h1.rd
  go_wp2_with fail
  refine (spec_ff A1 c1 xs cap _ r1 hn).mono ?_
  rintro e w3 ⟨s0, rfl, s, hb3⟩
  replace s := s.base hb1.size
  replace hb3 := below_trans' hb1 hb3
  clear h1 r1
  go_wp2_with fail
  refine (toOwn A c xs _ (h.below hb3) hs).mono ?_
  rintro e w4 ⟨x0, rfl, h4, hb4⟩
  have a1 := s.apart h4 (Nat.le_refl _)
  replace s := s.below hb4
  replace h4 := h4.base hb3.size
  replace hb4 := below_trans' hb3 hb4
  obtain ⟨A4, c4, rfl, r4, _⟩ := h4.rd
  go_wp2_with fail
  refine (impl_ff A4 c4 xs cap _ r4 hn).mono ?_
  rintro e w6 ⟨g0, rfl, g, hb6⟩
  have a4 := s.apart g (Nat.le_refl _)
  have a5 := h4.apart g (Nat.le_refl _)
  replace s := s.below hb6
  replace h4 := h4.below hb6
  replace g := g.base hb4.size
  replace hb6 := below_trans' hb4 hb6
  clear r4
  go_wp2_with fail
  refine (eqOwn _ _ _ _ _ _ g s).mono ?_
  rintro e w' ⟨rfl, n1, rfl⟩
  replace s := s.below (below_of_drewN w6 n1)
  replace g := g.below (below_of_drewN w6 n1)
  replace h4 := h4.below (below_of_drewN w6 n1)
  replace hb6 := below_drewN hb6 n1
  go_wp2_with fail
  refine (toOwn A c xs _ (h.below hb6) hs).mono ?_
  rintro e w7 ⟨v7, rfl, h7, hb7⟩
  replace s := s.below hb7
  replace g := g.below hb7
  replace h4 := h4.below hb7
  replace hb7 := below_trans' hb6 hb7
  go_wp2_with fail
  refine (eqOwn _ _ _ _ xs _ h4 h7).mono ?_
  rintro e w' ⟨rfl, n2, rfl⟩
  clear h7
  replace s := s.below (below_of_drewN w7 n2)
  replace g := g.below (below_of_drewN w7 n2)
  replace h4 := h4.below (below_of_drewN w7 n2)
  replace hb7 := below_drewN hb7 n2
  go_wp2_with fail
  refine (markInts _ _ xs 1 _ h4 (by omega) (by omega) (by omega)).mono ?_
  rintro e w9 ⟨rfl, m4, gr9⟩
  replace s := s.kept gr9 a1
  replace g := g.kept gr9 a5.symm
  replace hb9 := h4.below_grown gr9 hb7 (Nat.le_refl _) hb7.size
  clear h4 m4 gr9
  go_wp2_with fail
  refine (eqOwn _ _ _ _ _ _ g s).mono ?_
  rintro e w' ⟨rfl, n4, rfl⟩
  replace s := s.below (below_of_drewN w9 n4)
  replace g := g.below (below_of_drewN w9 n4)
  replace hb9 := below_drewN hb9 n4
  go_wp2_with fail
  refine (markInts _ _ _ 1 _ g (by omega) (by omega) (by omega)).mono ?_
  rintro e w11 ⟨rfl, m, gr11⟩
  replace s := s.kept gr11 a4
  replace hb11 := g.below_grown gr11 hb9 (Nat.le_refl _) hb9.size
  clear g gr11
  go_wp2_with fail
  refine (heldOwn _ _ 1 _ _ m (by omega) (by omega) (by omega)).mono ?_
  rintro e w' ⟨rfl, rfl⟩
  go_wp2_with fail
  refine (toOwn A c xs _ (h.below hb11) hs).mono ?_
  rintro e w12 ⟨v12, rfl, h12, hb12⟩
  replace s := s.below hb12
  replace m := m.below hb12
  replace hb12 := below_trans' hb11 hb12
  obtain ⟨A12, c12, rfl, r12, _⟩ := h12.rd
  go_wp2_with fail
  refine (impl_ff A12 c12 xs cap _ r12 hn).mono ?_
  rintro e w14 ⟨g1, rfl, g, hb14⟩
  replace s := s.below hb14
  replace m := m.below hb14
  replace hb14 := below_trans' hb12 hb14
  clear r12 h12
  go_wp2_with fail
  refine (eqOwn _ _ _ _ _ _ g s).mono ?_
  rintro e w' ⟨rfl, n5, rfl⟩
  replace m := m.below (below_of_drewN w14 n5)
  replace hb14 := below_drewN hb14 n5
  go_wp2_with fail
  refine (heldOwn _ _ 1 _ _ m (by omega) (by omega) (by omega)).mono ?_
  rintro e w' ⟨rfl, rfl⟩
  go_wp2_with fail
  go_ret
  exact ⟨rfl, hb14⟩

end Go.Proofs.Ytiochiokcefbkaa
