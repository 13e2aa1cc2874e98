/- The walks of the laws on counts and loads. -/
import Derived.Test.YtiochiokcefbkaaTk2
import Derived.Test.YtiochiokcefbkaaTk3
namespace Go.Proofs.Ytiochiokcefbkaa
open Go.RowKit
set_option linter.unusedVariables false

set_option maxHeartbeats 400000 in
theorem law_ExactTruckCount (A : Option Addr) (c : Nat) (xs : List Int) (w : World) (h : Rd w A (ints xs)) (hn : xs.length ≤ maxLen) :
    Calls Try.prog 4 #[.slice A xs.length c] w fun e w' => e = .returned (.bool true) ∧ Below w.heap.size w w' := by
  have hm := hn
  unfold maxLen at hm
  by_cases hbig : 1048576 < xs.length
  · go_enter Try.func4, Try.ntmps4
    go_wp2_with fail
    go_ret
    exact ⟨rfl, Below.refl _ _⟩
  have hs : xs.length ≤ 1048576 := by omega
  go_enter Try.func4, Try.ntmps4
  go_wp2_with fail
  refine (toOwn A c xs _ h hs).mono ?_
  rintro e w1 ⟨v1, rfl, h1, hb1⟩
  obtain ⟨A1, c1, rfl, r1, _⟩ := h1.rd
  go_wp2_with fail
  refine (spec_tc A1 c1 xs _ r1 hn).mono ?_
  rintro e w' ⟨rfl, rfl⟩
  go_wp2_with fail
  refine (toOwn A c xs _ (h.below hb1) hs).mono ?_
  rintro e w2 ⟨v2, rfl, h2, hb2⟩
  obtain ⟨A2, c2, rfl, r2, _⟩ := h2.rd
  replace hb2 := below_trans' hb1 hb2
  go_wp2_with fail
  refine (impl_tc A2 c2 xs _ r2 hn).mono ?_
  rintro e w' ⟨rfl, rfl⟩
  go_wp2_with fail
  refine (toOwn A c xs _ (h.below hb2) hs).mono ?_
  rintro e w3 ⟨v3, rfl, h3, hb3⟩
  replace h2 := h2.below hb3
  replace hb3 := below_trans' hb2 hb3
  go_wp2_with fail
  refine (eqOwn _ _ _ _ xs _ h2 h3).mono ?_
  rintro e w' ⟨rfl, nq, rfl⟩
  go_wp2_with fail
  go_ret
  exact ⟨rfl, below_drewN hb3 _⟩

set_option maxHeartbeats 400000 in
theorem law_ExactLoadingValid (A D : Option Addr) (c d : Nat) (xs ys : List Int) (cap : Int) (w : World) (h : Rd w A (ints xs)) (hd : Rd w D (ints ys)) (hn : xs.length ≤ maxLen) (hm : ys.length ≤ maxLen) :
    Calls Try.prog 8 #[.slice A xs.length c, .int .i64 cap, .slice D ys.length d] w fun e w' => e = .returned (.bool true) ∧ Below w.heap.size w w' := by
  have hn1 := hn
  have hm1 := hm
  unfold maxLen at hn1 hm1
  by_cases hbig : 1048576 < xs.length
  · go_enter Try.func8, Try.ntmps8
    go_wp2_with fail
    go_ret
    exact ⟨rfl, Below.refl _ _⟩
  by_cases hbig2 : 1048576 < ys.length
  · go_enter Try.func8, Try.ntmps8
    go_wp2_with fail
    go_ret
    exact ⟨rfl, Below.refl _ _⟩
  have hs : xs.length ≤ 1048576 := by omega
  have ht : ys.length ≤ 1048576 := by omega
  go_enter Try.func8, Try.ntmps8
  go_wp2_with fail
  refine (toOwn A c xs _ h hs).mono ?_
  rintro e w1 ⟨v1, rfl, h1, hb1⟩
  go_wp2_with fail
  refine (toOwn D d ys _ (hd.below hb1) ht).mono ?_
  rintro e w2 ⟨v2, rfl, h2, hb2⟩
  replace h1 := h1.below hb2
  replace hb2 := below_trans' hb1 hb2
  obtain ⟨A1, c1, rfl, r1, _⟩ := h1.rd
  obtain ⟨A2, c2, rfl, r2, _⟩ := h2.rd
  go_wp2_with fail
  refine (spec_lv A1 A2 c1 c2 xs ys cap _ r1 r2 hn hm).mono ?_
  rintro e w3 ⟨rfl, hb3⟩
  replace hb3 := below_trans' hb2 hb3
  clear h1 h2 r1 r2
  go_wp2_with fail
  refine (toOwn A c xs _ (h.below hb3) hs).mono ?_
  rintro e w4 ⟨v4, rfl, h4, hb4⟩
  replace hb4 := below_trans' hb3 hb4
  go_wp2_with fail
  refine (toOwn D d ys _ (hd.below hb4) ht).mono ?_
  rintro e w5 ⟨v5, rfl, h5, hb5⟩
  replace h4 := h4.below hb5
  replace hb5 := below_trans' hb4 hb5
  obtain ⟨A4, c4, rfl, r4, _⟩ := h4.rd
  obtain ⟨A5, c5, rfl, r5, _⟩ := h5.rd
  go_wp2_with fail
  refine (impl_lv A4 A5 c4 c5 xs ys cap _ r4 r5 hn hm).mono ?_
  rintro e w6 ⟨rfl, hb6⟩
  replace h4 := h4.below hb6
  replace h5 := h5.below hb6
  replace hb6 := below_trans' hb5 hb6
  clear r4 r5
  go_wp2_with fail
  refine (toOwn A c xs _ (h.below hb6) hs).mono ?_
  rintro e w7 ⟨v7, rfl, h7, hb7⟩
  replace h4 := h4.below hb7
  replace h5 := h5.below hb7
  replace hb7 := below_trans' hb6 hb7
  go_wp2_with fail
  refine (eqOwn _ _ _ _ xs _ h4 h7).mono ?_
  rintro e w' ⟨rfl, nq, rfl⟩
  replace h5 := h5.below (below_of_drewN w7 nq)
  replace hb7 := below_drewN hb7 nq
  go_wp2_with fail
  refine (toOwn D d ys _ (hd.below hb7) ht).mono ?_
  rintro e w8 ⟨v8, rfl, h8, hb8⟩
  replace h5 := h5.below hb8
  replace hb8 := below_trans' hb7 hb8
  go_wp2_with fail
  refine (eqOwn _ _ _ _ ys _ h5 h8).mono ?_
  rintro e w' ⟨rfl, nr, rfl⟩
  replace hb8 := below_drewN hb8 nr
  go_wp2_with fail
  go_ret
  exact ⟨rfl, hb8⟩

set_option maxHeartbeats 800000 in
theorem law_ExactTruckLoads (A D : Option Addr) (c d : Nat) (xs ys : List Int) (w : World) (h : Rd w A (ints xs)) (hd : Rd w D (ints ys)) (hn : xs.length ≤ maxLen) (hm : ys.length ≤ maxLen) :
    Calls Try.prog 7 #[.slice A xs.length c, .slice D ys.length d] w fun e w' => e = .returned (.bool true) ∧ Below w.heap.size w w' := by
  have hn1 := hn
  have hm1 := hm
  unfold maxLen at hn1 hm1
  by_cases hbig : 1048576 < xs.length
  · go_enter Try.func7, Try.ntmps7
    go_wp2_with fail
    go_ret
    exact ⟨rfl, Below.refl _ _⟩
  by_cases hbig2 : 1048576 < ys.length
  · go_enter Try.func7, Try.ntmps7
    go_wp2_with fail
    go_ret
    exact ⟨rfl, Below.refl _ _⟩
  have hs : xs.length ≤ 1048576 := by omega
  have ht : ys.length ≤ 1048576 := by omega
  have htl : (tl xs ys).length ≤ 8 := tl_len xs ys
  go_enter Try.func7, Try.ntmps7
  go_wp2_with fail
  refine (toOwn A c xs _ h hs).mono ?_
  rintro e w1 ⟨v1, rfl, h1, hb1⟩
  go_wp2_with fail
  refine (toOwn D d ys _ (hd.below hb1) ht).mono ?_
  rintro e w2 ⟨v2, rfl, h2, hb2⟩
  replace h1 := h1.below hb2
  replace hb2 := below_trans' hb1 hb2
  obtain ⟨A1, c1, rfl, r1, _⟩ := h1.rd
  obtain ⟨A2, c2, rfl, r2, _⟩ := h2.rd
  go_wp2_with fail
  refine (spec_tl A1 A2 c1 c2 xs ys _ r1 r2 hn hm).mono ?_
  rintro e w3 ⟨s0, rfl, s, hb3⟩
  replace s := s.base hb2.size
  replace hb3 := below_trans' hb2 hb3
  clear h1 h2 r1 r2
  go_wp2_with fail
  refine (toOwn A c xs _ (h.below hb3) hs).mono ?_
  rintro e w4 ⟨x0, rfl, h4, hb4⟩
  have a1 := s.apart h4 (Nat.le_refl _)
  replace s := s.below hb4
  replace h4 := h4.base hb3.size
  replace hb4 := below_trans' hb3 hb4
  go_wp2_with fail
  refine (toOwn D d ys _ (hd.below hb4) ht).mono ?_
  rintro e w5 ⟨x1, rfl, h5, hb5⟩
  have a2 := s.apart h5 (Nat.le_refl _)
  have a3 := h4.apart h5 (Nat.le_refl _)
  replace s := s.below hb5
  replace h4 := h4.below hb5
  replace h5 := h5.base hb4.size
  replace hb5 := below_trans' hb4 hb5
  obtain ⟨A4, c4, rfl, r4, _⟩ := h4.rd
  obtain ⟨A5, c5, rfl, r5, _⟩ := h5.rd
  go_wp2_with fail
  refine (impl_tl A4 A5 c4 c5 xs ys _ r4 r5 hn hm).mono ?_
  rintro e w6 ⟨g0, rfl, g, hb6⟩
  have a4 := s.apart g (Nat.le_refl _)
  have a5 := h4.apart g (Nat.le_refl _)
  have a6 := h5.apart g (Nat.le_refl _)
  replace s := s.below hb6
  replace h4 := h4.below hb6
  replace h5 := h5.below hb6
  replace g := g.base hb5.size
  replace hb6 := below_trans' hb5 hb6
  clear r4 r5
  go_wp2_with fail
  refine (eqOwn _ _ _ _ _ _ g s).mono ?_
  rintro e w' ⟨rfl, n1, rfl⟩
  replace s := s.below (below_of_drewN w6 n1)
  replace g := g.below (below_of_drewN w6 n1)
  replace h4 := h4.below (below_of_drewN w6 n1)
  replace h5 := h5.below (below_of_drewN w6 n1)
  replace hb6 := below_drewN hb6 n1
  go_wp2_with fail
  refine (toOwn A c xs _ (h.below hb6) hs).mono ?_
  rintro e w7 ⟨v7, rfl, h7, hb7⟩
  replace s := s.below hb7
  replace g := g.below hb7
  replace h4 := h4.below hb7
  replace h5 := h5.below hb7
  replace hb7 := below_trans' hb6 hb7
  go_wp2_with fail
  refine (eqOwn _ _ _ _ xs _ h4 h7).mono ?_
  rintro e w' ⟨rfl, n2, rfl⟩
  clear h7
  replace s := s.below (below_of_drewN w7 n2)
  replace g := g.below (below_of_drewN w7 n2)
  replace h4 := h4.below (below_of_drewN w7 n2)
  replace h5 := h5.below (below_of_drewN w7 n2)
  replace hb7 := below_drewN hb7 n2
  go_wp2_with fail
  refine (toOwn D d ys _ (hd.below hb7) ht).mono ?_
  rintro e w8 ⟨v8, rfl, h8, hb8⟩
  replace s := s.below hb8
  replace g := g.below hb8
  replace h4 := h4.below hb8
  replace h5 := h5.below hb8
  replace hb8 := below_trans' hb7 hb8
  go_wp2_with fail
  refine (eqOwn _ _ _ _ ys _ h5 h8).mono ?_
  rintro e w' ⟨rfl, n3, rfl⟩
  clear h8
  replace s := s.below (below_of_drewN w8 n3)
  replace g := g.below (below_of_drewN w8 n3)
  replace h4 := h4.below (below_of_drewN w8 n3)
  replace h5 := h5.below (below_of_drewN w8 n3)
  replace hb8 := below_drewN hb8 n3
  go_wp2_with fail
  refine (markInts _ _ xs 1 _ h4 (by omega) (by omega) (by omega)).mono ?_
  rintro e w9 ⟨rfl, m4, gr9⟩
  replace s := s.kept gr9 a1
  replace g := g.kept gr9 a5.symm
  replace h5 := h5.kept gr9 a3.symm
  replace hb9 := h4.below_grown gr9 hb8 (Nat.le_refl _) hb8.size
  clear h4 m4 gr9
  go_wp2_with fail
  refine (markInts _ _ ys _ _ h5 (by omega) (by omega) (by omega)).mono ?_
  rintro e w10 ⟨rfl, m5, gr10⟩
  replace s := s.kept gr10 a2
  replace g := g.kept gr10 a6.symm
  replace hb10 := h5.below_grown gr10 hb9 (Nat.le_refl _) hb9.size
  clear h5 m5 gr10
  go_wp2_with fail
  refine (eqOwn _ _ _ _ _ _ g s).mono ?_
  rintro e w' ⟨rfl, n4, rfl⟩
  replace s := s.below (below_of_drewN w10 n4)
  replace g := g.below (below_of_drewN w10 n4)
  replace hb10 := below_drewN hb10 n4
  go_wp2_with fail
  refine (markInts _ _ _ 1 _ g (by omega) (by omega) (by omega)).mono ?_
  rintro e w11 ⟨rfl, m, gr11⟩
  replace s := s.kept gr11 a4
  replace hb11 := g.below_grown gr11 hb10 (Nat.le_refl _) hb10.size
  clear g gr11
  go_wp2_with fail
  refine (heldOwn _ _ 1 _ _ m (by omega) (by omega) (by omega)).mono ?_
  rintro e w' ⟨rfl, rfl⟩
  go_wp2_with fail
  refine (toOwn A c xs _ (h.below hb11) hs).mono ?_
  rintro e w12 ⟨v12, rfl, h12, hb12⟩
  replace s := s.below hb12
  replace m := m.below hb12
  replace hb12 := below_trans' hb11 hb12
  go_wp2_with fail
  refine (toOwn D d ys _ (hd.below hb12) ht).mono ?_
  rintro e w13 ⟨v13, rfl, h13, hb13⟩
  replace s := s.below hb13
  replace m := m.below hb13
  replace h12 := h12.below hb13
  replace hb13 := below_trans' hb12 hb13
  obtain ⟨A12, c12, rfl, r12, _⟩ := h12.rd
  obtain ⟨A13, c13, rfl, r13, _⟩ := h13.rd
  go_wp2_with fail
  refine (impl_tl A12 A13 c12 c13 xs ys _ r12 r13 hn hm).mono ?_
  rintro e w14 ⟨g1, rfl, g, hb14⟩
  replace s := s.below hb14
  replace m := m.below hb14
  replace hb14 := below_trans' hb13 hb14
  clear r12 r13 h12 h13
  go_wp2_with fail
  refine (eqOwn _ _ _ _ _ _ g s).mono ?_
  rintro e w' ⟨rfl, n5, rfl⟩
  replace m := m.below (below_of_drewN w14 n5)
  replace hb14 := below_drewN hb14 n5
  go_wp2_with fail
  refine (heldOwn _ _ 1 _ _ m (by omega) (by omega) (by omega)).mono ?_
  rintro e w' ⟨rfl, rfl⟩
  go_wp2_with fail
  go_ret
  exact ⟨rfl, hb14⟩

end Go.Proofs.Ytiochiokcefbkaa
