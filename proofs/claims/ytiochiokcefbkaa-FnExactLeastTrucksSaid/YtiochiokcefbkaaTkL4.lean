/- The walk of the exact law on LeastTrucks. -/
import Derived.Test.YtiochiokcefbkaaTk6
namespace Go.Proofs.Ytiochiokcefbkaa
open Go.RowKit
set_option linter.unusedVariables false

theorem OwnI.rdc {w : World} {B : Nat} {v : Value} {xs : List Int} (h : OwnI w B v xs) : ∃ A c, v = .slice A xs.length c ∧ Rd w A (ints xs) ∧ xs.length ≤ maxLen ∧ xs.length ≤ c := by
  obtain ⟨A, c, hv, ho⟩ := h
  obtain ⟨A', c', hv', hn, hm, hr, _⟩ := own_form ho
  have := hv.symm.trans hv'
  injection this with h1 h2 h3
  subst h1 h3
  exact ⟨A, c, hv, hr, by omega, hn⟩

set_option maxHeartbeats 400000 in
theorem law_ExactLeastTrucks (A : Option Addr) (c : Nat) (xs : List Int) (cap : Int) (w : World) (h : Rd w A (ints xs)) (hn : xs.length ≤ maxLen) :
    Calls Try.prog 5 #[.slice A xs.length c, .int .i64 cap] w fun e w' => e = .returned (.bool true) ∧ Below w.heap.size w w' := by
  have hm := hn
  unfold maxLen at hm
  by_cases hbig : 1048576 < xs.length
  · go_enter Try.func5, Try.ntmps5
    go_wp2_with fail
    go_ret
    exact ⟨rfl, Below.refl _ _⟩
  have hs : xs.length ≤ 1048576 := by omega
  go_enter Try.func5, Try.ntmps5
  go_wp2_with fail
  refine (toOwn A c xs _ h hs).mono ?_
  rintro e w1 ⟨v1, rfl, h1, hb1⟩
  obtain ⟨A1, c1, rfl, r1, _, k1⟩ := h1.rdc
  go_wp2_with fail
  refine (spec_lt A1 c1 xs cap _ r1 hn k1).mono ?_
  rintro e w' ⟨rfl, hbl⟩
  replace hb1 := below_trans' hb1 hbl
  go_wp2_with fail
  refine (toOwn A c xs _ (h.below hb1) hs).mono ?_
  rintro e w2 ⟨v2, rfl, h2, hb2⟩
  obtain ⟨A2, c2, rfl, r2, _, k2⟩ := h2.rdc
  replace hb2 := below_trans' hb1 hb2
  go_wp2_with fail
  refine (impl_lt A2 c2 xs cap _ r2 hn k2).mono ?_
  rintro e w4 ⟨rfl, hbl2⟩
  replace h2 := h2.below hbl2
  replace hb2 := below_trans' hb2 hbl2
  clear r2
  go_wp2_with fail
  refine (toOwn A c xs _ (h.below hb2) hs).mono ?_
  rintro e w3 ⟨v3, rfl, h3, hb3⟩
  replace h2 := h2.below hb3
  replace hb3 := below_trans' hb2 hb3
  go_wp2_with fail
  refine (eqOwn _ _ _ _ xs _ h2 h3).mono ?_
  rintro e w' ⟨rfl, nq, rfl⟩
  go_wp2_with fail
  go_ret
  exact ⟨rfl, below_drewN hb3 _⟩

end Go.Proofs.Ytiochiokcefbkaa
