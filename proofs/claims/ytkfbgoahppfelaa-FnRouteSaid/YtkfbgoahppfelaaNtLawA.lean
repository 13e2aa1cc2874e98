
/- The walks of the laws' small functions on rules, and of the law on looking up. -/
import Derived.Test.YtkfbgoahppfelaaNtDrawL
import Derived.Laws.StructEq
namespace Go.Proofs.Ytkfbgoahppfelaa
open Go.RowKit
set_option linter.unusedVariables false

theorem soNext_any (v : Value) (xs : List Rul) (s : ByteArray) (w : World) (h : Rt w v xs) (hs : Szr xs) (hc : s.size ≤ maxLen) :
    Calls Try.prog 23 #[v, .string s] w fun e w' => e = .returned (.string (orE (lookO xs s))) ∧ Below w.heap.size w w' := by
  have H := Lib.hid (impl_look v xs s w h hs hc)
  clear h hs
  go_enter Try.func23, Try.ntmps23
  go_wp2_with fail
  refine H.out.mono ?_
  rintro e w2 ⟨rfl, hb⟩
  go_wp2_with fail
  go_ret
  exact ⟨rfl, hb⟩

theorem soBegins_any (s p : ByteArray) (w : World) (hs : s.size ≤ maxLen) (hp : p.size ≤ maxLen) :
    Calls Try.prog 22 #[.string s, .string p] w fun e w' => e = .returned (.bool (begins s p)) ∧ w = w' := by
  by_cases h : p.size ≤ s.size
  · have b0 : (0 : Int) ≤ (p.size : Int) := by omega
    have b1 : (p.size : Int) ≤ (s.size : Int) := by omega
    have b3 : decide ((p.size : Int) ≤ (s.size : Int)) = true := decide_eq_true b1
    have t1 := begins_ext h
    generalize begins s p = b at *
    go_enter Try.func22, Try.ntmps22
    cases b with
    | true =>
      go_wp2_with fail
      go_ret
      exact ⟨rfl, rfl⟩
    | false =>
      go_wp2_with fail
      go_ret
      exact ⟨rfl, rfl⟩
  · have b1 : ¬ (p.size : Int) ≤ (s.size : Int) := by omega
    have b3 : decide ((p.size : Int) ≤ (s.size : Int)) = false := decide_eq_false b1
    rw [begins_long h]
    go_enter Try.func22, Try.ntmps22
    go_wp2_with fail
    go_ret
    exact ⟨rfl, rfl⟩

/-- Rules compared. -/
theorem rul_neq (x y : Rul) (w : World) : (binOp .neq 31 (.agg #[.string x.1, .string x.2]) (.agg #[.string y.1, .string y.2])).run Try.prog w = .ok (.bool (!(decide (x = y)))) w := by
  have hu := Try.underlying31
  have h2 := Try.underlying9
  have ht : Try.prog.underlying 31 = some (.struct (Try.prog.fieldsOf 31)) := by kernel_rfl
  have hs : Try.prog.stoodInHeld 31 = false := by kernel_rfl
  have hf : Try.prog.fieldsOf 31 = #[{ name := "Prefix", type := 9, offset := 0, embedded := false, tag := "", pkgPath := "", byteOffset := 0 }, { name := "Next", type := 9, offset := 1, embedded := false, tag := "", pkgPath := "", byteOffset := 16 }] := by kernel_rfl
  rw [run_neq_struct, run_equalIn_agg w 9999 _ _ _ ht hs, hf]
  by_cases e1 : x.1 = y.1
  · by_cases e2 : x.2 = y.2
    · have e : x = y := Prod.ext e1 e2
      simp [Op.eqFields, e, part, isAgg, run_underlying h2, run_equalIn_string w _ _ _ _ h2]
    · have e : ¬ x = y := fun h => e2 (by rw [h])
      have g2 := str_diff e2
      simp [Op.eqFields, e, e1, g2, part, isAgg, run_underlying h2, run_equalIn_string w _ _ _ _ h2]
  · have e : ¬ x = y := fun h => e1 (by rw [h])
    have g1 := str_diff e1
    simp [Op.eqFields, e, g1, part, isAgg, run_underlying h2, run_equalIn_string w _ _ _ _ h2]
theorem rul_guard (op : BinOp) (a b : Operand) (x y : Rul) (w : World) : (eqGuard op 31 a b (.agg #[.string x.1, .string x.2]) (.agg #[.string y.1, .string y.2])).run Try.prog w = .ok () w := run_eqGuard_agg w op _ a b _ _ (by kernel_rfl)
attribute [local go_sem ↓] rul_neq rul_guard

set_option maxRecDepth 100000 in
set_option maxHeartbeats 800000 in
theorem soRules_any (v u : Value) (xs ys : List Rul) (w : World) (h : Rt w v xs) (hu : Rt w u ys) :
    Calls Try.prog 20 #[v, u] w fun e w' => e = .returned (.bool (decide (xs = ys))) ∧ Below w.heap.size w w' := by
  obtain ⟨A, c, rfl, hA, hc1, hc2⟩ := h
  obtain ⟨D, d, rfl, hD, hd1, hd2⟩ := hu
  unfold maxLen at hc2 hd2
  by_cases hl : xs.length = ys.length
  · have Hl := Lib.hid hl
    have hl1 : ((xs.length : Int) != (ys.length : Int)) = false := by simp [hl]
    clear hl
    go_enter Try.func20, Try.ntmps20
    go_wp2_with fail
    go_loopw [5] (fun i wr => ∃ k : Nat, k ≤ xs.length ∧ i = .int .i64 k ∧ Below w.heap.size w wr ∧ Hid (xs.take k = ys.take k)) (fun i _ => xs.length - (intOf i).toNat)
    case atStart => exact ⟨0, Nat.zero_le _, rfl, Below.refl _ _, Lib.hid rfl⟩
    case round =>
      obtain ⟨k, hk, rfl, hb, heq⟩ := hrel
      by_cases hlt : k < xs.length
      · obtain ⟨ad, x, rfl, hx, hcA, hcB⟩ := (hA.below hb).two hlt
        have hlt2 : k < ys.length := by have := Hl.out; omega
        obtain ⟨ad2, y, rfl, hy, hcC, hcD⟩ := (hD.below hb).two hlt2
        have Hx := Lib.hid hx
        have Hy := Lib.hid hy
        simp only [rtf] at hcA hcB hcC hcD
        clear hx hy
        by_cases hxy : x = y
        · have Hxy := Lib.hid hxy
          have hd := decide_eq_true hxy
          clear hxy
          go_wp2_with fail
          go_quiet (fail)
          replace hb := fun n => below_drewN hb n
          go_wp2_with fail
          go_roundw
          case rel => exact ⟨k + 1, by omega, by go_num, hb _, Lib.hid (by rw [take_snoc Hx.out, take_snoc Hy.out, heq.out, Hxy.out])⟩
          case measure => simp [intOf]; omega
        · have Hxy := Lib.hid hxy
          have hd := decide_eq_false hxy
          clear hxy
          go_wp2_with fail
          go_quiet (fail)
          replace hb := fun n => below_drewN hb n
          go_wp2_with fail
          go_ret
          exact ⟨ret_bool (by
            rw [decide_eq_false]
            rintro rfl
            have := Hx.out.symm.trans Hy.out
            injection this with this
            exact Hxy.out this), hb _⟩
      · have hk' : k = xs.length := by omega
        subst hk'
        go_wp2_with fail
        go_ret
        exact ⟨ret_bool (by
          have h1 := heq.out
          rw [List.take_length, Hl.out, List.take_length] at h1
          exact (decide_eq_true h1).symm), hb⟩
  · have hl1 : ((xs.length : Int) != (ys.length : Int)) = true := by simp; omega
    go_enter Try.func20, Try.ntmps20
    go_wp2_with fail
    go_ret
    exact ⟨ret_bool (by rw [decide_eq_false]; rintro rfl; exact hl rfl), Below.refl _ _⟩

set_option maxRecDepth 100000 in
set_option maxHeartbeats 1600000 in
theorem law_FnLookUp (A : Option Addr) (c : Nat) (bs : List Int) (w : World) (h0 : Coded0 w A bs c) :
    Calls Try.prog 3 #[.slice A bs.length c] w fun e w' => e = .returned (.bool true) ∧ Below w.heap.size w w' := by
  by_cases hbig : 1048576 < bs.length
  · go_enter Try.func3, Try.ntmps3
    go_wp2_with fail
    go_ret
    exact ⟨rfl, Below.refl _ _⟩
  have Hdr := Lib.hid (draw_look A c bs w (h0.coded hbig))
  clear h0
  go_enter Try.func3, Try.ntmps3
  go_wp2_with fail
  refine Hdr.out.mono ?_
  rintro e w1 ⟨v, xs, s, rfl, hD, hs, hb⟩
  have hsl : s.size ≤ maxLen := by unfold maxLen; omega
  have HD := Lib.hid hD
  have Hb := Lib.hid hb
  obtain ⟨C, cp, rfl, _, _, _, _⟩ := own_form hD.own
  have hxl := hD.len
  obtain ⟨N, hN⟩ : ∃ N, N = orE (lookO xs s) := ⟨_, rfl⟩
  obtain ⟨B, hB⟩ : ∃ B, B = (lookO xs s).isSome := ⟨_, rfl⟩
  have H1 := Lib.hid (impl_look _ xs s w1 hD.rt hD.szr hsl)
  rw [← hN, ← hB] at H1
  have HN := Lib.hid hN
  have HB := Lib.hid hB
  have t1 : (N.toList == N.toList) = true := str_same rfl
  have t2 : (B != B) = false := by simp
  have t3 : (B == B) = true := by simp
  clear hD hb hN hB Hdr
  go_wp2_with fail
  refine H1.out.mono ?_
  rintro e w2 ⟨rfl, hb2⟩
  replace HD := Lib.hid (HD.out.below hb2)
  replace Hb := Lib.hid (below_trans' Hb.out hb2)
  have H2 := Lib.hid (spec_look _ xs s w2 HD.out.rt HD.out.szr hsl)
  rw [← HN.out, ← HB.out] at H2
  clear H1 hb2
  go_wp2_with fail
  refine H2.out.mono ?_
  rintro e w3 ⟨rfl, hb3⟩
  replace HD := Lib.hid (HD.out.below hb3)
  replace Hb := Lib.hid (below_trans' Hb.out hb3)
  have H3 := Lib.hid (impl_rv _ xs w3 HD.out.rt HD.out.szr)
  clear H2 hb3
  go_wp2_with fail
  refine H3.out.mono ?_
  rintro e w4 ⟨rfl, hb4⟩
  replace HD := Lib.hid (HD.out.below hb4)
  replace Hb := Lib.hid (below_trans' Hb.out hb4)
  clear H3 hb4
  cases hv : rv xs with
  | false =>
    go_wp2_with fail
    go_ret
    exact ⟨rfl, Hb.out⟩
  | true =>
    have Hv := Lib.hid hv
    have H4 := Lib.hid (impl_cv s w4 hsl)
    go_wp2_with fail
    refine H4.out.mono ?_
    rintro e w5 ⟨rfl, rfl⟩
    clear H4
    cases hcv : codeB s with
    | false =>
      go_wp2_with fail
      go_ret
      exact ⟨rfl, Hb.out⟩
    | true =>
      have Hlk : Hid (lookO xs s = nextR xs s) := Lib.hid (lookO_yes hv hcv)
      clear hv hcv
      go_wp2_with fail
      go_loopw [9] (fun i wr => ((∃ m : Nat, i = .int .i64 m ∧ m ≤ s.size ∧ Hid (NoneFrom xs s (m + 1))) ∨ (i = .int .i64 (-1) ∧ Hid (NoneFrom xs s 0))) ∧ Hid (Below w4.heap.size w4 wr)) (fun i _ => (intOf i + 1).toNat)
      case atStart => exact ⟨.inl ⟨s.size, rfl, Nat.le_refl _, Lib.hid (noneFrom_start _ _)⟩, Lib.hid (Below.refl _ _)⟩
      case round =>
        obtain ⟨⟨m, rfl, hm, Hno⟩ | ⟨rfl, Hno⟩, Hb5⟩ := hrel
        · have m0 : (0 : Int) ≤ (m : Int) := by omega
          have m1 : (m : Int) ≤ (s.size : Int) := by omega
          go_wp2_with fail
          go_loopw [10] (fun i wr => ∃ k : Nat, k ≤ xs.length ∧ i = .int .i64 k ∧ Hid (Below w4.heap.size w4 wr) ∧ Hid (∀ j, j < k → ∀ q, xs[j]? = some q → q.1 ≠ s.extract 0 m)) (fun i _ => xs.length - (intOf i).toNat)
          case atStart => exact ⟨0, Nat.zero_le _, rfl, Hb5, Lib.hid (by intro j hj; omega)⟩
          case round =>
            obtain ⟨k, hk, rfl, Hb6, Hne⟩ := hrel
            by_cases hlt : k < xs.length
            · obtain ⟨A0, c0, e0, hA, _, _⟩ := (HD.out.rt.below Hb6.out)
              injection e0 with e1 e2 e3
              subst e1 e3
              obtain ⟨ad, x, rfl, hx, hcA, hcB⟩ := hA.two hlt
              simp only [rtf] at hcA hcB
              have Hx := Lib.hid hx
              clear hx hA
              by_cases hxe : x.1 = s.extract 0 m
              · have t5 := str_same hxe
                have hlo := Hlk.out.trans (look_at Hv.out hm Hno.out Hx.out hxe)
                have hBt : B = true := by rw [HB.out, hlo]; rfl
                have hNx : N = x.2 := by rw [HN.out, hlo]; rfl
                have t6 : (x.2.toList == N.toList) = true := str_same hNx.symm
                clear hNx hlo hxe HB HN Hlk
                subst hBt
                go_wp2_with fail
                go_quiet (fail)
                go_wp2_with fail
                go_ret
                exact ⟨rfl, below_trans' Hb.out (below_drewN Hb6.out _)⟩
              · have t5 := str_diff hxe
                have Hne2 := Lib.hid (ne_snoc Hne.out Hx.out hxe)
                clear hxe Hne
                go_wp2_with fail
                go_quiet (fail)
                go_wp2_with fail
                go_roundw
                case rel => exact ⟨k + 1, by omega, by go_num, Lib.hid (below_drewN Hb6.out _), Hne2⟩
                case measure => simp [intOf]; omega
            · have hk' : k = xs.length := by omega
              subst hk'
              have Hno2 := Lib.hid (noneFrom_step Hno.out Hne.out)
              clear Hne Hno
              go_wp2_with fail
              go_roundw
              case rel =>
                refine ⟨?_, Hb6⟩
                cases m with
                | zero => exact .inr ⟨by go_num, Hno2⟩
                | succ m => exact .inl ⟨m, by go_num, by omega, Hno2⟩
              case measure => first | (simp [intOf]; done) | (simp [intOf]; omega)
        · have hBf : B = false := by rw [HB.out, Hlk.out, look_none Hno.out]; rfl
          clear HB Hlk
          subst hBf
          go_wp2_with fail
          go_ret
          exact ⟨rfl, below_trans' Hb.out Hb5.out⟩

end Go.Proofs.Ytkfbgoahppfelaa
