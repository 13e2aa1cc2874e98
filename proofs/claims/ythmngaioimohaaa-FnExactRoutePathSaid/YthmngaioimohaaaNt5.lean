
/- The walks of what finds the best rule, and of LookUp. -/
import Derived.Test.YthmngaioimohaaaNt4
namespace Go.Proofs.Ythmngaioimohaaa
open Go.RowKit
set_option linter.unusedVariables false

def optI : Option Nat → Int
  | none => -1
  | some i => i
/-- Index b is the best of the rules. -/
def BestAt (xs : List Rul) (b : Option Nat) (r : Option Rul) : Prop := match b with
  | none => r = none
  | some j => ∃ y, xs[j]? = some y ∧ r = some y
theorem best_first {xs : List Rul} {c : ByteArray} {r : Option Rul} {k : Nat} {x : Rul} (h : BestAt xs none r) (hx : xs[k]? = some x) (hb : begins c x.1 = true) : BestAt xs (some k) (better c r x) := by
  have : r = none := h
  subst this
  exact ⟨x, hx, better_none hb⟩
theorem best_more {xs : List Rul} {c : ByteArray} {r : Option Rul} {k j : Nat} {x y : Rul} (h : BestAt xs (some j) r) (hy : xs[j]? = some y) (hx : xs[k]? = some x) (hb : begins c x.1 = true) (hl : y.1.size < x.1.size) : BestAt xs (some k) (better c r x) := by
  obtain ⟨z, hz, rfl⟩ := h
  rw [hy] at hz
  injection hz with hz
  subst hz
  exact ⟨x, hx, better_more hb hl⟩
theorem best_less {xs : List Rul} {c : ByteArray} {r : Option Rul} {j : Nat} {x y : Rul} (h : BestAt xs (some j) r) (hy : xs[j]? = some y) (hl : x.1.size ≤ y.1.size) : BestAt xs (some j) (better c r x) := by
  obtain ⟨z, hz, rfl⟩ := h
  rw [hy] at hz
  injection hz with hz
  subst hz
  exact ⟨_, hy, better_less hl⟩
theorem best_no {xs : List Rul} {c : ByteArray} {r : Option Rul} {b : Option Nat} {x : Rul} (h : BestAt xs b r) (hb : begins c x.1 = false) : BestAt xs b (better c r x) := by rw [better_no hb]; exact h
/-- The rules that were looked at: all of the first k, or all but one. -/
structure Looked (xs : List Rul) (wo : Int) (L : Nat → List Rul) : Prop where
  zero : L 0 = []
  skip : ∀ (k : Nat) (x : Rul), xs[k]? = some x → (k : Int) = wo → L (k + 1) = L k
  step : ∀ (k : Nat) (x : Rul), xs[k]? = some x → (k : Int) ≠ wo → L (k + 1) = L k ++ [x]
theorem looked_all (xs : List Rul) : Looked xs (-1) (fun k => xs.take k) := ⟨rfl, fun k x _ h => by omega, fun k x h _ => take_snoc h⟩
theorem looked_but (xs : List Rul) (i : Nat) : Looked xs i (fun k => dropAt (xs.take k) i) := by
  refine ⟨by simp [dropAt], fun k x h he => ?_, fun k x h he => ?_⟩
  · rw [dropAt_take h, if_pos (by omega)]
  · rw [dropAt_take h, if_neg (by omega)]
set_option maxRecDepth 100000 in
set_option maxHeartbeats 1600000 in
theorem impl_longest (v : Value) (xs : List Rul) (c : ByteArray) (wo : Int) (L : Nat → List Rul) (w : World) (h : Rt w v xs) (hs : Szr xs) (hc : c.size ≤ maxLen) (hL : Looked xs wo L) :
    Calls Try.prog 64 #[v, .string c, .int .i64 wo] w fun e w' => (∃ b : Option Nat, e = .returned (.int .i64 (optI b)) ∧ (∀ j, b = some j → j < xs.length) ∧ BestAt xs b (bestR (L xs.length) c)) ∧ Below w.heap.size w w' := by
  obtain ⟨A, cc, rfl, hA, hc1, hc2⟩ := h
  unfold maxLen at hc2
  have HA := Lib.hid hA
  have Hs := Lib.hid hs
  have HL := Lib.hid hL
  clear hA hs hL
  go_enter Try.func64, Try.ntmps64
  go_wp2_with fail
  go_loopw [7, 12] (fun bb i wr => ∃ (k : Nat) (b : Option Nat), k ≤ xs.length ∧ i = .int .i64 k ∧ bb = .int .i64 (optI b) ∧ (∀ j, b = some j → j < k) ∧ Hid (Below w.heap.size w wr) ∧ Hid (BestAt xs b (bestR (L k) c))) (fun _ i _ => xs.length - (intOf i).toNat)
  case atStart => exact ⟨0, none, Nat.zero_le _, rfl, rfl, by simp, Lib.hid (Below.refl _ _), Lib.hid (by rw [HL.out.zero]; rfl)⟩
  case round =>
    obtain ⟨k, b, hk, rfl, rfl, hbk, Hb, Hbest⟩ := hrel
    by_cases hlt : k < xs.length
    · obtain ⟨ad, x, rfl, hx, hcA, hcB⟩ := (HA.out.below Hb.out).two hlt
      obtain ⟨q1, q2⟩ := Hs.out x (List.mem_of_getElem? hx)
      have Hx := Lib.hid hx
      simp only [rtf] at hcA hcB
      have Hb2 := Lib.hid (Hb.out.alloc Hb.out.size (.cells #[.string x.1, .string x.2] 50))
      by_cases hw : (k : Int) = wo
      · have e1 : ((k : Int) == wo) = true := by simp [hw]
        have Hbest2 := Lib.hid (show BestAt xs b (bestR (L (k + 1)) c) by rw [HL.out.skip k x hx hw]; exact Hbest.out)
        clear hx hw
        go_wp2_with fail
        go_roundw
        case rel => exact ⟨k + 1, b, by omega, by go_num, rfl, fun j hj => by have := hbk j hj; omega, Hb2, Hbest2⟩
        case measure => simp [intOf]; omega
      · have e1 : ((k : Int) == wo) = false := by simp [hw]
        have hst := HL.out.step k x hx hw
        have Hst := Lib.hid (show bestR (L (k + 1)) c = better c (bestR (L k) c) x by rw [hst, bestR_app])
        have Hg := Lib.hid (fun w => impl_begins c x.1 w hc q1)
        clear hx hw hst
        go_wp2_with fail
        refine (Hg.out _).mono ?_
        rintro e w' ⟨rfl, rfl⟩
        cases hbg : begins c x.1 with
        | false =>
          have Hbest2 := Lib.hid (show BestAt xs b (bestR (L (k + 1)) c) by rw [Hst.out]; exact best_no Hbest.out hbg)
          clear hbg
          go_wp2_with fail
          go_roundw
          case rel => exact ⟨k + 1, b, by omega, by go_num, rfl, fun j hj => by have := hbk j hj; omega, Hb2, Hbest2⟩
          case measure => simp [intOf]; omega
        | true =>
          cases b with
          | none =>
            have Hbest2 := Lib.hid (show BestAt xs (some k) (bestR (L (k + 1)) c) by rw [Hst.out]; exact best_first Hbest.out Hx.out hbg)
            have e4 : optI none = -1 := rfl
            clear hbg
            rw [e4] at *
            go_wp2_with fail
            go_quiet (fail)
            go_wp2_with fail
            go_roundw
            case rel => exact ⟨k + 1, some k, by omega, by go_num, rfl, fun j hj => by injection hj with hj; omega, Lib.hid (below_drewN Hb2.out _), Hbest2⟩
            case measure => simp [intOf]; omega
          | some j =>
            have hjk := hbk j rfl
            obtain ⟨ad2, y, e2, hy, hcC, hcD⟩ := (HA.out.below Hb2.out).two (k := j) (by omega)
            injection e2 with e2
            subst e2
            simp only [rtf] at hcC hcD
            have hyq := (Hs.out y (List.mem_of_getElem? hy)).1
            have e3 : decide ((j : Int) < 0) = false := decide_eq_false (by omega)
            have hlt9 : (ad.add (j * 2)).block < wr.heap.size := by
              obtain ⟨ad3, y3, e9, _, h9, _⟩ := (HA.out.below Hb.out).two (k := j) (by omega)
              injection e9 with e9
              subst e9
              exact World.block_lt_of_cell? wr _ h9
            have e4 : optI (some j) = (j : Int) := rfl
            by_cases hsz : y.1.size < x.1.size
            · have Hbest2 := Lib.hid (show BestAt xs (some k) (bestR (L (k + 1)) c) by rw [Hst.out]; exact best_more Hbest.out hy Hx.out hbg hsz)
              have e5 : decide ((y.1.size : Int) < (x.1.size : Int)) = true := decide_eq_true (by omega)
              have e6 : (y.1.size : Int) < (x.1.size : Int) := by omega
              clear hbg hy
              rw [e4] at *
              go_wp2_with fail
              go_quiet (fail)
              go_wp2_with fail
              go_roundw
              case rel => exact ⟨k + 1, some k, by omega, by go_num, rfl, fun j hj => by injection hj with hj; omega, Lib.hid (below_drewN Hb2.out _), Hbest2⟩
              case measure => simp [intOf]; omega
            · have Hbest2 := Lib.hid (show BestAt xs (some j) (bestR (L (k + 1)) c) by rw [Hst.out]; exact best_less Hbest.out hy (by omega))
              have e5 : decide ((y.1.size : Int) < (x.1.size : Int)) = false := decide_eq_false (by omega)
              clear hbg hy
              rw [e4] at *
              go_wp2_with fail
              go_quiet (fail)
              go_wp2_with fail
              go_roundw
              case rel => exact ⟨k + 1, some j, by omega, by go_num, rfl, fun j' hj => by injection hj with hj; omega, Lib.hid (below_drewN Hb2.out _), Hbest2⟩
              case measure => simp [intOf]; omega
    · have hk' : k = xs.length := by omega
      subst hk'
      go_wp2_with fail
      go_ret
      exact ⟨⟨b, rfl, hbk, Hbest.out⟩, Hb.out⟩

set_option maxRecDepth 100000 in
set_option maxHeartbeats 1600000 in
theorem spec_best (v : Value) (xs : List Rul) (c : ByteArray) (w : World) (h : Rt w v xs) (hs : Szr xs) (hc : c.size ≤ maxLen) :
    Calls Try.prog 63 #[v, .string c] w fun e w' => (∃ b : Option Nat, e = .returned (.int .i64 (optI b)) ∧ (∀ j, b = some j → j < xs.length) ∧ BestAt xs b (bestR xs c)) ∧ Below w.heap.size w w' := by
  obtain ⟨A, cc, rfl, hA, hc1, hc2⟩ := h
  unfold maxLen at hc2
  have HA := Lib.hid hA
  have Hs := Lib.hid hs
  clear hA hs
  go_enter Try.func63, Try.ntmps63
  go_wp2_with fail
  go_loopw [5, 6] (fun bb i wr => ∃ (k : Nat) (b : Option Nat), k ≤ xs.length ∧ i = .int .i64 k ∧ bb = .int .i64 (optI b) ∧ (∀ j, b = some j → j < k) ∧ Hid (Below w.heap.size w wr) ∧ Hid (BestAt xs b (bestR (xs.take k) c))) (fun _ i _ => xs.length - (intOf i).toNat)
  case atStart => exact ⟨0, none, Nat.zero_le _, rfl, rfl, by simp, Lib.hid (Below.refl _ _), Lib.hid rfl⟩
  case round =>
    obtain ⟨k, b, hk, rfl, rfl, hbk, Hb, Hbest⟩ := hrel
    by_cases hlt : k < xs.length
    · obtain ⟨ad, x, rfl, hx, hcA, hcB⟩ := (HA.out.below Hb.out).two hlt
      obtain ⟨q1, q2⟩ := Hs.out x (List.mem_of_getElem? hx)
      have Hx := Lib.hid hx
      simp only [rtf] at hcA hcB
      have Hst := Lib.hid (bestR_snoc (c := c) hx)
      have Hg := Lib.hid (fun w => spec_begins c x.1 w hc q1)
      clear hx
      cases hbg : begins c x.1 with
      | false =>
        rw [hbg] at Hg
        have Hbest2 := Lib.hid (show BestAt xs b (bestR (xs.take (k + 1)) c) by rw [Hst.out]; exact best_no Hbest.out hbg)
        clear hbg
        go_wp2_with fail
        go_quiet ((go_at_call 68; exact Calls.quiet_of_same ((Hg.out _).mono fun e w' h => ⟨h.1, h.2.symm⟩)))
        go_wp2_with fail
        go_roundw
        case rel => exact ⟨k + 1, b, by omega, by go_num, rfl, fun j hj => by have := hbk j hj; omega, Lib.hid (below_drewN Hb.out _), Hbest2⟩
        case measure => simp [intOf]; omega
      | true =>
        rw [hbg] at Hg
        cases b with
        | none =>
          have Hbest2 := Lib.hid (show BestAt xs (some k) (bestR (xs.take (k + 1)) c) by rw [Hst.out]; exact best_first Hbest.out Hx.out hbg)
          have e4 : optI none = -1 := rfl
          clear hbg
          rw [e4] at *
          go_wp2_with fail
          go_quiet ((go_at_call 68; exact Calls.quiet_of_same ((Hg.out _).mono fun e w' h => ⟨h.1, h.2.symm⟩)))
          go_wp2_with fail
          go_roundw
          case rel => exact ⟨k + 1, some k, by omega, by go_num, rfl, fun j hj => by injection hj with hj; omega, Lib.hid (below_drewN Hb.out _), Hbest2⟩
          case measure => simp [intOf]; omega
        | some j =>
          have hjk := hbk j rfl
          obtain ⟨ad2, y, e2, hy, hcC, hcD⟩ := (HA.out.below Hb.out).two (k := j) (by omega)
          injection e2 with e2
          subst e2
          simp only [rtf] at hcC hcD
          have hyq := (Hs.out y (List.mem_of_getElem? hy)).1
          have e3 : decide ((j : Int) < 0) = false := decide_eq_false (by omega)
          have e4 : optI (some j) = (j : Int) := rfl
          by_cases hsz : y.1.size < x.1.size
          · have Hbest2 := Lib.hid (show BestAt xs (some k) (bestR (xs.take (k + 1)) c) by rw [Hst.out]; exact best_more Hbest.out hy Hx.out hbg hsz)
            have e5 : decide ((y.1.size : Int) < (x.1.size : Int)) = true := decide_eq_true (by omega)
            have e6 : (y.1.size : Int) < (x.1.size : Int) := by omega
            clear hbg hy
            rw [e4] at *
            go_wp2_with fail
            go_quiet ((go_at_call 68; exact Calls.quiet_of_same ((Hg.out _).mono fun e w' h => ⟨h.1, h.2.symm⟩)))
            go_wp2_with fail
            go_roundw
            case rel => exact ⟨k + 1, some k, by omega, by go_num, rfl, fun j hj => by injection hj with hj; omega, Lib.hid (below_drewN Hb.out _), Hbest2⟩
            case measure => simp [intOf]; omega
          · have Hbest2 := Lib.hid (show BestAt xs (some j) (bestR (xs.take (k + 1)) c) by rw [Hst.out]; exact best_less Hbest.out hy (by omega))
            have e5 : decide ((y.1.size : Int) < (x.1.size : Int)) = false := decide_eq_false (by omega)
            clear hbg hy
            rw [e4] at *
            go_wp2_with fail
            go_quiet ((go_at_call 68; exact Calls.quiet_of_same ((Hg.out _).mono fun e w' h => ⟨h.1, h.2.symm⟩)))
            go_wp2_with fail
            go_roundw
            case rel => exact ⟨k + 1, some j, by omega, by go_num, rfl, fun j' hj => by injection hj with hj; omega, Lib.hid (below_drewN Hb.out _), Hbest2⟩
            case measure => simp [intOf]; omega
    · have hk' : k = xs.length := by omega
      subst hk'
      go_wp2_with fail
      go_ret
      exact ⟨⟨b, rfl, hbk, by have := Hbest.out; rwa [List.take_length] at this⟩, Hb.out⟩



theorem next_at {xs : List Rul} {c : ByteArray} {j : Nat} (h : BestAt xs (some j) (bestR xs c)) : ∃ y, xs[j]? = some y ∧ nextR xs c = some y.2 := by
  obtain ⟨y, h1, h2⟩ := h
  exact ⟨y, h1, by rw [nextR, h2]; rfl⟩
theorem next_no {xs : List Rul} {c : ByteArray} (h : BestAt xs none (bestR xs c)) : nextR xs c = none := by
  have : bestR xs c = none := h
  rw [nextR, this]; rfl
set_option maxRecDepth 100000 in
set_option maxHeartbeats 800000 in
theorem impl_next (v : Value) (xs : List Rul) (c : ByteArray) (w : World) (h : Rt w v xs) (hs : Szr xs) (hc : c.size ≤ maxLen) :
    Calls Try.prog 56 #[v, .string c] w fun e w' => e = .returned (.tuple #[.string (orE (nextR xs c)), .bool (nextR xs c).isSome]) ∧ Below w.heap.size w w' := by
  have H1 := impl_longest v xs c (-1) (fun k => xs.take k) w h hs hc (looked_all xs)
  rw [List.take_length] at H1
  have H1 := Lib.hid H1
  obtain ⟨A, cc, rfl, hA, hc1, hc2⟩ := h
  unfold maxLen at hc2
  have HA := Lib.hid hA
  clear hA hs
  go_enter Try.func56, Try.ntmps56
  go_wp2_with fail
  refine H1.out.mono ?_
  rintro e w1 ⟨⟨b, rfl, hbl, hbest⟩, hb⟩
  have Hb := Lib.hid hb
  cases b with
  | none =>
    have Hn := Lib.hid (next_no hbest)
    have e3 : optI none < 0 := by simp [optI]
    clear hbest hb
    go_wp2_with fail
    go_ret2
    exact ⟨by rw [Hn.out]; rfl, Hb.out⟩
  | some j =>
    obtain ⟨y, hy, hn⟩ := next_at hbest
    have hjl := hbl j rfl
    obtain ⟨ad, y', rfl, hy', hcA, hcB⟩ := (HA.out.below Hb.out).two hjl
    rw [hy] at hy'
    injection hy' with hy'
    subst hy'
    simp only [rtf] at hcA hcB
    have Hn := Lib.hid hn
    have e3 : ¬ optI (some j) < 0 := by simp [optI]
    have e4 : optI (some j) = (j : Int) := rfl
    clear hbest hb hn hy
    rw [e4] at *
    go_wp2_with fail
    go_ret2
    exact ⟨by rw [Hn.out]; rfl, Hb.out⟩
set_option maxRecDepth 100000 in
set_option maxHeartbeats 800000 in
theorem spec_next (v : Value) (xs : List Rul) (c : ByteArray) (w : World) (h : Rt w v xs) (hs : Szr xs) (hc : c.size ≤ maxLen) :
    Calls Try.prog 54 #[v, .string c] w fun e w' => e = .returned (.string (orE (nextR xs c))) ∧ Below w.heap.size w w' := by
  have H1 := Lib.hid (spec_best v xs c w h hs hc)
  obtain ⟨A, cc, rfl, hA, hc1, hc2⟩ := h
  unfold maxLen at hc2
  have HA := Lib.hid hA
  clear hA hs
  go_enter Try.func54, Try.ntmps54
  go_wp2_with fail
  refine H1.out.mono ?_
  rintro e w1 ⟨⟨b, rfl, hbl, hbest⟩, hb⟩
  have Hb := Lib.hid hb
  cases b with
  | none =>
    have Hn := Lib.hid (next_no hbest)
    have e3 : optI none < 0 := by simp [optI]
    clear hbest hb
    go_wp2_with fail
    go_ret
    exact ⟨ret_str (by rw [Hn.out]; rfl), Hb.out⟩
  | some j =>
    obtain ⟨y, hy, hn⟩ := next_at hbest
    have hjl := hbl j rfl
    obtain ⟨ad, y', rfl, hy', hcA, hcB⟩ := (HA.out.below Hb.out).two hjl
    rw [hy] at hy'
    injection hy' with hy'
    subst hy'
    simp only [rtf] at hcA hcB
    have Hn := Lib.hid hn
    have e3 : ¬ optI (some j) < 0 := by simp [optI]
    have e4 : optI (some j) = (j : Int) := rfl
    clear hbest hb hn hy
    rw [e4] at *
    go_wp2_with fail
    go_ret
    exact ⟨ret_str (by rw [Hn.out]; rfl), Hb.out⟩



theorem lookO_rv {rs : List Rul} {c : ByteArray} (h : rv rs = false) : lookO rs c = none := by simp [lookO, h]
theorem lookO_code {rs : List Rul} {c : ByteArray} (h : codeB c = false) : lookO rs c = none := by simp [lookO, h]
theorem lookO_yes {rs : List Rul} {c : ByteArray} (h : rv rs = true) (h2 : codeB c = true) : lookO rs c = nextR rs c := by simp [lookO, h, h2]
theorem next_name {rs : List Rul} {c n : ByteArray} (h : rv rs = true) (hn : nextR rs c = some n) : nameB n = true := by
  unfold nextR at hn
  cases hb : bestR rs c with
  | none => rw [hb] at hn; cases hn
  | some r =>
    rw [hb] at hn
    injection hn with hn
    rw [← hn]
    exact (rv_parts h).name r (bestR_some hb).1
theorem orE_ne {rs : List Rul} {c : ByteArray} (h : rv rs = true) : (orE (nextR rs c)).toList.isEmpty = (nextR rs c).isNone := by
  cases hn : nextR rs c with
  | none => show (⟨#[]⟩ : ByteArray).toList.isEmpty = true; rw [tl_data]; rfl
  | some n =>
    show n.toList.isEmpty = false
    have hm := next_name h hn
    rw [tl_data]
    cases hd : n.data.toList with
    | cons a l => rfl
    | nil =>
      have : n.size = 0 := by have := congrArg List.length hd; simpa using this
      rw [nameB_low (by omega)] at hm
      cases hm
end Go.Proofs.Ythmngaioimohaaa
