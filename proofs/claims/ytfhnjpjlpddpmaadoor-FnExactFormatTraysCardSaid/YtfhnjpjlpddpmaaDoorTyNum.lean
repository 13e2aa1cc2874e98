
/- The walk of what writes a number below a hundred; the text of trays by the reference. -/
import Derived.Test.YtfhnjpjlpddpmaaDoorTyFmt
import Derived.BigQuiet
import Derived.Deep.QuietTactic
namespace Go.Proofs.YtfhnjpjlpddpmaaDoor
open Go.RowKit
set_option linter.unusedVariables false

theorem app_empty (a : ByteArray) : a ++ (⟨#[]⟩ : ByteArray) = a := ByteArray.ext (by rw [ByteArray.data_append]; exact Array.append_empty)
set_option maxRecDepth 100000 in
set_option maxHeartbeats 400000 in
theorem dec100_any (n : Nat) (w : World) (hn : n < 100) :
    Calls Tryd.prog 16 #[.int .i64 n] w fun e w' => e = .returned (.string (num n)) ∧ Below w.heap.size w w' := by
  have b1 : decide ((n : Int) < -9223372036854775807) = false := decide_eq_false (by omega)
  have b2 : decide ((n : Int) < 0) = false := decide_eq_false (by omega)
  by_cases h : n < 10
  · have hcv := conv_one w (48 + n) (48 + (n : Int)) (by omega) (by omega)
    have hcs := one8_size (48 + n)
    have b3 : decide ((9 : Int) < n) = false := decide_eq_false (by omega)
    have H : Hid (num n = one8 (48 + n) ++ (⟨#[]⟩ : ByteArray)) := Lib.hid (by rw [app_empty, num_one h])
    clear hn
    go_enter Tryd.func16, Tryd.ntmps16
    go_wp2_with fail
    refine wp_loop_rounds 1 ?_
    rw [rounds_succ]
    go_wp2_with fail
    go_ret
    exact ⟨ret_str H.out.symm, (Below.refl _ _).alloc (Nat.le_refl _) _⟩
  · have hcv := conv_one w (48 + n % 10) (48 + ((n : Int) % 10)) (by omega) (by omega)
    have hcv2 := conv_one (w.alloc (.cells #[.int .u8 (48 + ((n : Int) % 10))] 5)) (48 + n / 10) (48 + ((n : Int) / 10)) (by omega) (by omega)
    rw [World.size_alloc] at hcv2
    have hcs := one8_size (48 + n % 10)
    have hcs2 := one8_size (48 + n / 10)
    have hz : (one8 (48 + n % 10) ++ (⟨#[]⟩ : ByteArray)).size = 1 := by rw [app_empty, hcs]
    have b3 : decide ((9 : Int) < n) = true := decide_eq_true (by omega)
    have b4 : decide ((9 : Int) < n / 10) = false := decide_eq_false (by omega)
    have H : Hid (num n = one8 (48 + n / 10) ++ (one8 (48 + n % 10) ++ (⟨#[]⟩ : ByteArray))) := Lib.hid (by rw [app_empty, num_two h])
    go_enter Tryd.func16, Tryd.ntmps16
    go_wp2_with fail
    refine wp_loop_rounds 2 ?_
    rw [rounds_succ]
    go_wp2_with fail
    rw [rounds_succ]
    go_wp2_with fail
    go_ret
    exact ⟨ret_str H.out.symm, ((Below.refl _ _).alloc (Nat.le_refl _) _).alloc (by simp) _⟩
end Go.Proofs.YtfhnjpjlpddpmaaDoor
