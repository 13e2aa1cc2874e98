/- The walks of the laws on weights and counts. -/
import Derived.Test.YtiochiokcefbkaaTk1
namespace Go.Proofs.Ytiochiokcefbkaa
open Go.RowKit
set_option linter.unusedVariables false

/-- What toIntS hands back, as a slice that reads xs. -/
theorem toInts' (A : Option Addr) (c : Nat) (xs : List Int) (w : World) (h : Rd w A (ints xs)) (hn : xs.length ≤ 1048576) :
    Calls Try.prog 16 #[.slice A xs.length c] w fun e w' => ∃ g, e = .returned (.slice (some ⟨g, 0, none⟩) xs.length xs.length) ∧ Rd w' (some ⟨g, 0, none⟩) (ints xs) ∧ Rd w' A (ints xs) ∧ Below w.heap.size w w' :=
  (toInts A c xs w h hn).mono fun e w' ⟨g, he, hown, hb⟩ => by
    obtain ⟨A', c', hv, _, _, hr, _⟩ := own_form hown
    injection hv with hv
    subst hv
    exact ⟨g, he, hr, h.below hb, hb⟩

theorem eqInts_same (A B : Option Addr) (c d : Nat) (xs : List Int) (w : World) (h : Rd w A (ints xs)) (hy : Rd w B (ints xs)) (hn : xs.length ≤ maxLen) :
    Calls Try.prog 18 #[.slice A xs.length c, .slice B xs.length d] w fun e w' => e = .returned (.bool true) ∧ ∃ n, w' = w.drewN n :=
  (eqInts A B c d xs xs w h hy hn hn).mono fun e w' ⟨he, hw⟩ => ⟨he.trans (ret_bool (decide_eq_true rfl)), hw⟩

set_option maxHeartbeats 400000 in
theorem law_ExactWeightsValid (A : Option Addr) (c : Nat) (xs : List Int) (cap : Int) (w : World) (h : Rd w A (ints xs)) (hn : xs.length ≤ maxLen) :
    Calls Try.prog 3 #[.slice A xs.length c, .int .i64 cap] w fun e w' => e = .returned (.bool true) ∧ Below w.heap.size w w' := by
  have hm := hn
  unfold maxLen at hm
  by_cases hbig : 1048576 < xs.length
  · go_enter Try.func3, Try.ntmps3
    go_wp2_with fail
    go_ret
    exact ⟨rfl, Below.refl _ _⟩
  have hs : xs.length ≤ 1048576 := by omega
  go_enter Try.func3, Try.ntmps3
  go_wp2_with fail
  refine (toInts' A c xs _ h hs).mono ?_
  rintro e w1 ⟨g1, rfl, h1, hA1, hb1⟩
  go_wp2_with fail
  refine (spec_wv _ _ xs cap _ h1 hn).mono ?_
  rintro e w' ⟨rfl, rfl⟩
  go_wp2_with fail
  refine (toInts' A c xs _ hA1 hs).mono ?_
  rintro e w2 ⟨g2, rfl, h2, hA2, hb2⟩
  go_wp2_with fail
  refine (impl_wv _ _ xs cap _ h2 hn).mono ?_
  rintro e w' ⟨rfl, rfl⟩
  go_wp2_with fail
  refine (toInts' A c xs _ hA2 hs).mono ?_
  rintro e w3 ⟨g3, rfl, h3, hA3, hb3⟩
  go_wp2_with fail
  refine (eqInts_same _ _ _ _ xs _ (h2.below hb3) h3 hn).mono ?_
  rintro e w' ⟨rfl, nq, rfl⟩
  go_wp2_with fail
  go_ret
  exact ⟨rfl, below_drewN (below_trans' (below_trans' hb1 hb2) hb3) _⟩

end Go.Proofs.Ytiochiokcefbkaa
