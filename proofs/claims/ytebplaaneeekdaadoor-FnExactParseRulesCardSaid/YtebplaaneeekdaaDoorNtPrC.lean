
/- The walk of strings.Cut at a separator of one byte. -/
import Derived.Test.YtebplaaneeekdaaDoorNtPr
import Derived.Test.YtebplaaneeekdaaDoorNtShelf
import Derived.BigQuiet
import Derived.Deep.QuietTactic
namespace Go.Proofs.YtebplaaneeekdaaDoor
open Go.RowKit
set_option linter.unusedVariables false

/-- What strings.Cut gives at '>'. -/
def cutV (p : ByteArray) : Value := match rl p with
  | some r => .tuple #[.string r.1, .string r.2, .bool true]
  | none => .tuple #[.string p, .string ⟨#[]⟩, .bool false]
theorem cutV_no {p : ByteArray} (h : rl p = none) : cutV p = .tuple #[.string p, .string ⟨#[]⟩, .bool false] := by rw [cutV, h]
theorem cutV_yes {p : ByteArray} {r : Rul} (h : rl p = some r) : cutV p = .tuple #[.string r.1, .string r.2, .bool true] := by rw [cutV, h]

set_option maxRecDepth 100000 in
set_option maxHeartbeats 800000 in
theorem lite_cut (p : ByteArray) (w : World) (hs : p.size ≤ 1048576) :
    Calls Tryd.prog 20 #[.string p, .string ⟨#[62]⟩] w fun e w' => e = .returned (cutV p) ∧ ∃ n, w' = w.drewN n := by
  have H := Lib.hid (sh_stringslite_Index_one p 62 w)
  rcases index_cases (dl p) 62 with hi | ⟨i, hi, hil⟩
  · have hi2 : Lib.indexByte p.data.toList 62 = -1 := hi
    have Hv := Lib.hid (cutV_no (rl_none hi))
    rw [hi2] at H
    clear hi hi2
    go_enter Tryd.func20, Tryd.ntmps20
    go_wp2_with fail
    refine H.out.mono ?_
    rintro e w' ⟨rfl, rfl⟩
    go_wp2_with fail
    go_ret3
    exact ⟨(congrArg Ending.returned Hv.out).symm, 0, rfl⟩
  · have hi2 : Lib.indexByte p.data.toList 62 = (i : Int) := hi
    have Hv := Lib.hid (cutV_yes (rl_some hi))
    rw [hi2] at H
    rw [dl_length] at hil
    have n1 : i ≤ p.size := by omega
    have n2 : i + 1 ≤ p.size := by omega
    have n3 : (i : Int) + 1 ≤ (p.size : Int) := by omega
    have n4 : IntKind.i64.wrap ((i : Int) + 1) = (i : Int) + 1 := by rw [IntKind.wrap_i64]; omega
    have n5 : ((i : Int) + 1).toNat = i + 1 := by omega
    have n6 : (0 : Int) ≤ (i : Int) + 1 := by omega
    clear hi hi2
    go_enter Tryd.func20, Tryd.ntmps20
    go_wp2_with fail
    refine H.out.mono ?_
    rintro e w' ⟨rfl, rfl⟩
    go_wp2_with fail
    go_quiet (fail)
    go_wp2_with fail
    go_ret3
    exact ⟨(congrArg Ending.returned Hv.out).symm, _, rfl⟩
set_option maxHeartbeats 400000 in
theorem cut_any (p : ByteArray) (w : World) (hs : p.size ≤ 1048576) :
    Calls Tryd.prog 13 #[.string p, .string ⟨#[62]⟩] w fun e w' => e = .returned (cutV p) ∧ ∃ n, w' = w.drewN n := by
  have H := Lib.hid (lite_cut p w hs)
  cases hr : rl p with
  | none =>
    have Hv := Lib.hid (cutV_no hr)
    rw [Hv.out] at H
    clear hr
    go_enter Tryd.func13, Tryd.ntmps13
    go_wp2_with fail
    refine H.out.mono ?_
    rintro e w' ⟨rfl, n, rfl⟩
    go_wp2_with fail
    go_ret3
    exact ⟨(congrArg Ending.returned Hv.out).symm, _, rfl⟩
  | some r =>
    have Hv := Lib.hid (cutV_yes hr)
    rw [Hv.out] at H
    clear hr
    go_enter Tryd.func13, Tryd.ntmps13
    go_wp2_with fail
    refine H.out.mono ?_
    rintro e w' ⟨rfl, n, rfl⟩
    go_wp2_with fail
    go_ret3
    exact ⟨(congrArg Ending.returned Hv.out).symm, _, rfl⟩
end Go.Proofs.YtebplaaneeekdaaDoor
