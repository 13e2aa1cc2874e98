
/- The walk of what spoils a code. -/
import Derived.Test.YtfhnjpjlpddpmaaDoorTyDrawT
namespace Go.Proofs.YtfhnjpjlpddpmaaDoor
open Go.RowKit
set_option linter.unusedVariables false

set_option maxRecDepth 100000 in
set_option maxHeartbeats 800000 in
theorem badcode_any (R p : Nat) (s : ByteArray) (w : World) (h : Reader w R p) (hp : p ≤ 549755813888) (hs1 : 1 ≤ s.size) (hs2 : s.size ≤ 100) :
    Calls Tryd.prog 57 #[.pointer (some ⟨R, 0, none⟩), .string s] w fun e w' => ∃ s' : ByteArray, e = .returned (.string s') ∧ s'.size ≤ 101 ∧ Dst w R (p + 1) w' := by
  have h1 := pick_any R p 40 w h (by omega) (by omega)
  have H1 := Lib.hid h1
  have Hd0 := Lib.hid (Dst.start h)
  clear h1 h
  go_enter Tryd.func57, Tryd.ntmps57
  go_wp2_with fail
  refine H1.out.mono ?_
  rintro e w1 ⟨a, rfl, ha, hr1, hg1⟩
  obtain ⟨n, rfl, hn⟩ := nat_of (ha.pos (by omega))
  have Hd1 := Lib.hid (Hd0.out.step hg1 hr1)
  clear ha hr1 hg1 H1 Hd0
  have z48 : (⟨#[48]⟩ : ByteArray).size = 1 := rfl
  have z120 : (⟨#[120]⟩ : ByteArray).size = 1 := rfl
  by_cases h0 : n = 0
  · subst h0
    have y1 : (s ++ (⟨#[48]⟩ : ByteArray)).size ≤ 101 := by rw [ByteArray.size_append, z48]; omega
    go_wp2_with fail
    go_ret
    exact ⟨_, rfl, y1, Hd1.out⟩
  have e0 : ((n : Int) == 0) = false := by simp only [beq_eq_false_iff_ne]; omega
  by_cases h1 : n = 1
  · subst h1
    have b1 : (0 : Int) ≤ (s.size : Int) - 1 := by omega
    have b2 : (s.size : Int) - 1 ≤ s.size := by omega
    have y0 : (s.extract 0 (s.size - 1)).size ≤ 100 := by rw [ByteArray.size_extract]; omega
    have y1 : (s.extract 0 (s.size - 1) ++ (⟨#[120]⟩ : ByteArray)).size ≤ 101 := by rw [ByteArray.size_append, z120]; omega
    have y2 : ((s.size : Int) - 1).toNat = s.size - 1 := by omega
    go_wp2_with fail
    go_ret
    exact ⟨_, rfl, by first | exact y1 | (simp [y2]; omega), Hd1.out⟩
  have e1 : ((n : Int) == 1) = false := by simp only [beq_eq_false_iff_ne]; omega
  by_cases h2 : n = 2
  · subst h2
    go_wp2_with fail
    go_ret
    exact ⟨_, rfl, by show (0 : Nat) ≤ 101; omega, Hd1.out⟩
  have e2 : ((n : Int) == 2) = false := by simp only [beq_eq_false_iff_ne]; omega
  go_wp2_with fail
  go_ret
  exact ⟨_, rfl, by omega, Hd1.out⟩

end Go.Proofs.YtfhnjpjlpddpmaaDoor
