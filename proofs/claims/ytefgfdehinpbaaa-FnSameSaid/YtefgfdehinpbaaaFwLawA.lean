
/- The walks of the laws' small functions on orders, strings and letters. -/
import Derived.Test.YtefgfdehinpbaaaFw9
import Derived.Test.YtefgfdehinpbaaaTy7
import Derived.Laws.StructEq
namespace Go.Proofs.Ytefgfdehinpbaaa
open Go.RowKit
set_option linter.unusedVariables false

/-- Orders compared. -/
theorem fwd_neq (x y : Fwd) (w : World) : (binOp .neq 34 (.agg #[.string x.1, .string x.2]) (.agg #[.string y.1, .string y.2])).run Try.prog w = .ok (.bool (!(decide (x = y)))) w := by
  have hu := Try.underlying34
  have h2 := Try.underlying9
  have ht : Try.prog.underlying 34 = some (.struct (Try.prog.fieldsOf 34)) := by kernel_rfl
  have hs : Try.prog.stoodInHeld 34 = false := by kernel_rfl
  have hf : Try.prog.fieldsOf 34 = #[{ name := "From", type := 9, offset := 0, embedded := false, tag := "", pkgPath := "", byteOffset := 0 }, { name := "To", type := 9, offset := 1, embedded := false, tag := "", pkgPath := "", byteOffset := 16 }] := by kernel_rfl
  rw [run_neq_struct, run_equalIn_agg w 9999 _ _ _ ht hs, hf]
  by_cases e1 : x.1 = y.1
  · by_cases e2 : x.2 = y.2
    · have e : x = y := Prod.ext e1 e2
      simp [Op.eqFields, e, part, isAgg, run_underlying h2, run_equalIn_string w _ _ _ _ h2]
    · have e : ¬ x = y := fun h => e2 (by rw [h])
      have g2 := str_diff e2
      simp [Op.eqFields, e, e1, g2, part, isAgg, run_underlying h2, run_equalIn_string w _ _ _ _ h2]
  · have e : ¬ x = y := fun h => e1 (by rw [h])
    have g1 := str_diff e1
    simp [Op.eqFields, e, g1, part, isAgg, run_underlying h2, run_equalIn_string w _ _ _ _ h2]
theorem fwd_guard (op : BinOp) (a b : Operand) (x y : Fwd) (w : World) : (eqGuard op 34 a b (.agg #[.string x.1, .string x.2]) (.agg #[.string y.1, .string y.2])).run Try.prog w = .ok () w := run_eqGuard_agg w op _ a b _ _ (by kernel_rfl)
attribute [local go_sem ↓] fwd_neq fwd_guard

set_option maxRecDepth 100000 in
set_option maxHeartbeats 800000 in
theorem soForwards_any (v u : Value) (xs ys : List Fwd) (w : World) (h : Ft w v xs) (hu : Ft w u ys) :
    Calls Try.prog 22 #[v, u] w fun e w' => e = .returned (.bool (decide (xs = ys))) ∧ Below w.heap.size w w' := by
  obtain ⟨A, c, rfl, hA, hc1, hc2⟩ := h
  obtain ⟨D, d, rfl, hD, hd1, hd2⟩ := hu
  unfold maxLen at hc2 hd2
  by_cases hl : xs.length = ys.length
  · have Hl := Lib.hid hl
    have hl1 : ((xs.length : Int) != (ys.length : Int)) = false := by simp [hl]
    clear hl
    go_enter Try.func22, Try.ntmps22
    go_wp2_with fail
    go_loopw [5] (fun i wr => ∃ k : Nat, k ≤ xs.length ∧ i = .int .i64 k ∧ Below w.heap.size w wr ∧ Hid (xs.take k = ys.take k)) (fun i _ => xs.length - (intOf i).toNat)
    case atStart => exact ⟨0, Nat.zero_le _, rfl, Below.refl _ _, Lib.hid rfl⟩
    case round =>
      obtain ⟨k, hk, rfl, hb, heq⟩ := hrel
      by_cases hlt : k < xs.length
      · obtain ⟨ad, x, rfl, hx, hcA, hcB⟩ := (hA.below hb).two hlt
        have hlt2 : k < ys.length := by have := Hl.out; omega
        obtain ⟨ad2, y, rfl, hy, hcC, hcD⟩ := (hD.below hb).two hlt2
        have Hx := Lib.hid hx
        have Hy := Lib.hid hy
        simp only [ftf] at hcA hcB hcC hcD
        clear hx hy
        by_cases hxy : x = y
        · have Hxy := Lib.hid hxy
          have hd := decide_eq_true hxy
          clear hxy
          go_wp2_with fail
          go_quiet (fail)
          replace hb := fun n => below_drewN hb n
          go_wp2_with fail
          go_roundw
          case rel => exact ⟨k + 1, by omega, by go_num, hb _, Lib.hid (by rw [take_snoc Hx.out, take_snoc Hy.out, heq.out, Hxy.out])⟩
          case measure => simp [intOf]; omega
        · have Hxy := Lib.hid hxy
          have hd := decide_eq_false hxy
          clear hxy
          go_wp2_with fail
          go_quiet (fail)
          replace hb := fun n => below_drewN hb n
          go_wp2_with fail
          go_ret
          exact ⟨ret_bool (by
            rw [decide_eq_false]
            rintro rfl
            have := Hx.out.symm.trans Hy.out
            injection this with this
            exact Hxy.out this), hb _⟩
      · have hk' : k = xs.length := by omega
        subst hk'
        go_wp2_with fail
        go_ret
        exact ⟨ret_bool (by
          have h1 := heq.out
          rw [List.take_length, Hl.out, List.take_length] at h1
          exact (decide_eq_true h1).symm), hb⟩
  · have hl1 : ((xs.length : Int) != (ys.length : Int)) = true := by simp; omega
    go_enter Try.func22, Try.ntmps22
    go_wp2_with fail
    go_ret
    exact ⟨ret_bool (by rw [decide_eq_false]; rintro rfl; exact hl rfl), Below.refl _ _⟩

theorem not_upto {xs : List ByteArray} {k : Nat} {x p : ByteArray} (h : ∀ m, m < k → ∀ y, xs[m]? = some y → y ≠ p) (hx : xs[k]? = some x) (hn : x ≠ p) : ∀ m, m < k + 1 → ∀ y, xs[m]? = some y → y ≠ p := by
  intro j hj y hy
  rcases Nat.lt_or_ge j k with hl | hl
  · exact h j hl y hy
  · have : j = k := by omega
    subst this
    rw [hx] at hy
    injection hy with hy
    subst hy; exact hn

def hasB (xs : List ByteArray) (p : ByteArray) : Bool := xs.any fun y => decide (y = p)
theorem hasB_true {xs : List ByteArray} {p : ByteArray} (h : p ∈ xs) : hasB xs p = true := by rw [hasB, List.any_eq_true]; exact ⟨p, h, by simp⟩
theorem hasB_false {xs : List ByteArray} {p : ByteArray} (h : p ∉ xs) : hasB xs p = false := by
  rw [hasB, List.any_eq_false]
  intro y hy
  simp only [decide_eq_true_eq]
  rintro rfl
  exact h hy
set_option maxRecDepth 100000 in
set_option maxHeartbeats 800000 in
theorem soHas_any (v : Value) (xs : List ByteArray) (p : ByteArray) (w : World) (h : IS w v xs) :
    Calls Try.prog 29 #[v, .string p] w fun e w' => e = .returned (.bool (hasB xs p)) ∧ w' = w := by
  obtain ⟨A, c, rfl, hA, hc1, hc2⟩ := h
  unfold maxLen at hc2
  have HA := Lib.hid hA
  clear hA
  go_enter Try.func29, Try.ntmps29
  go_wp2_with fail
  go_loopw [5] (fun i wr => ∃ k : Nat, k ≤ xs.length ∧ i = .int .i64 k ∧ wr = w ∧ Hid (∀ m, m < k → ∀ y, xs[m]? = some y → y ≠ p)) (fun i _ => xs.length - (intOf i).toNat)
  case atStart => exact ⟨0, Nat.zero_le _, rfl, rfl, Lib.hid (by intro m hm; omega)⟩
  case round =>
    obtain ⟨k, hk, rfl, rfl, hne⟩ := hrel
    by_cases hlt : k < xs.length
    · have hx := List.getElem?_eq_getElem hlt
      generalize xs[k] = x at hx
      obtain ⟨ad, rfl, hcA⟩ := HA.out k _ (strs_get hx)
      have Hx := Lib.hid hx
      clear hx
      by_cases he : x = p
      · have e1 := str_same he
        have Hin : Hid (p ∈ xs) := Lib.hid (he ▸ List.mem_of_getElem? Hx.out)
        clear he hne
        go_wp2_with fail
        go_ret
        exact ⟨ret_bool (hasB_true Hin.out).symm, by first | rfl | trivial⟩
      · have e1 := str_diff he
        have Hne := Lib.hid (not_upto hne.out Hx.out he)
        clear he hne
        go_wp2_with fail
        go_roundw
        case rel => exact ⟨k + 1, by omega, by go_num, by first | rfl | trivial, Hne⟩
        case measure => simp [intOf]; omega
    · have hk' : k = xs.length := by omega
      subst hk'
      have Hno : Hid (p ∉ xs) := Lib.hid fun hp => by
        obtain ⟨j, hj⟩ := List.getElem?_of_mem hp
        exact hne.out j (List.getElem?_eq_some_iff.1 hj).1 p hj rfl
      clear hne
      go_wp2_with fail
      go_ret
      exact ⟨ret_bool (hasB_false Hno.out).symm, by first | rfl | trivial⟩


set_option maxRecDepth 100000 in
set_option maxHeartbeats 800000 in
theorem soTexts_any (v u : Value) (xs ys : List ByteArray) (w : World) (h : IS w v xs) (hu : IS w u ys) :
    Calls Try.prog 12 #[v, u] w fun e w' => e = .returned (.bool (decide (xs = ys))) ∧ Below w.heap.size w w' := by
  obtain ⟨A, c, rfl, hA, hc1, hc2⟩ := h
  obtain ⟨D, d, rfl, hD, hd1, hd2⟩ := hu
  unfold maxLen at hc2 hd2
  by_cases hl : xs.length = ys.length
  · have Hl := Lib.hid hl
    have hl1 : ((xs.length : Int) != (ys.length : Int)) = false := by simp [hl]
    clear hl
    go_enter Try.func12, Try.ntmps12
    go_wp2_with fail
    go_loopw [5] (fun i wr => ∃ k : Nat, k ≤ xs.length ∧ i = .int .i64 k ∧ Below w.heap.size w wr ∧ Hid (xs.take k = ys.take k)) (fun i _ => xs.length - (intOf i).toNat)
    case atStart => exact ⟨0, Nat.zero_le _, rfl, Below.refl _ _, Lib.hid rfl⟩
    case round =>
      obtain ⟨k, hk, rfl, hb, heq⟩ := hrel
      by_cases hlt : k < xs.length
      · obtain ⟨ad, x, rfl, hx, hcA⟩ := (hA.below hb).str hlt
        have hlt2 : k < ys.length := by have := Hl.out; omega
        obtain ⟨ad2, y, rfl, hy, hcC⟩ := (hD.below hb).str hlt2
        have Hx := Lib.hid hx
        have Hy := Lib.hid hy
        clear hx hy
        by_cases hxy : x = y
        · have Hxy := Lib.hid hxy
          have hd := str_same hxy
          clear hxy
          go_wp2_with fail
          go_quiet (fail)
          replace hb := fun n => below_drewN hb n
          go_wp2_with fail
          go_roundw
          case rel => exact ⟨k + 1, by omega, by go_num, hb _, Lib.hid (by rw [take_snoc Hx.out, take_snoc Hy.out, heq.out, Hxy.out])⟩
          case measure => simp [intOf]; omega
        · have Hxy := Lib.hid hxy
          have hd := str_diff hxy
          clear hxy
          go_wp2_with fail
          go_quiet (fail)
          replace hb := fun n => below_drewN hb n
          go_wp2_with fail
          go_ret
          exact ⟨ret_bool (by
            rw [decide_eq_false]
            rintro rfl
            have := Hx.out.symm.trans Hy.out
            injection this with this
            exact Hxy.out this), hb _⟩
      · have hk' : k = xs.length := by omega
        subst hk'
        go_wp2_with fail
        go_ret
        exact ⟨ret_bool (by
          have h1 := heq.out
          rw [List.take_length, Hl.out, List.take_length] at h1
          exact (decide_eq_true h1).symm), hb⟩
  · have hl1 : ((xs.length : Int) != (ys.length : Int)) = true := by simp; omega
    go_enter Try.func12, Try.ntmps12
    go_wp2_with fail
    go_ret
    exact ⟨ret_bool (by rw [decide_eq_false]; rintro rfl; exact hl rfl), Below.refl _ _⟩

/-- Letters compared. -/
theorem ltr_neq (x y : Ltr) (w : World) : (binOp .neq 44 (.agg #[.int .i64 x.1, .string x.2]) (.agg #[.int .i64 y.1, .string y.2])).run Try.prog w = .ok (.bool (!(decide (x = y)))) w := by
  have hu := Try.underlying44
  have h1 := Try.underlying3
  have h2 := Try.underlying9
  have ht : Try.prog.underlying 44 = some (.struct (Try.prog.fieldsOf 44)) := by kernel_rfl
  have hs : Try.prog.stoodInHeld 44 = false := by kernel_rfl
  have hf : Try.prog.fieldsOf 44 = #[{ name := "Id", type := 3, offset := 0, embedded := false, tag := "", pkgPath := "", byteOffset := 0 }, { name := "Code", type := 9, offset := 1, embedded := false, tag := "", pkgPath := "", byteOffset := 8 }] := by kernel_rfl
  rw [run_neq_struct, run_equalIn_agg w 9999 _ _ _ ht hs, hf]
  by_cases e1 : x.1 = y.1
  · by_cases e2 : x.2 = y.2
    · have e : x = y := Prod.ext e1 e2
      simp [Op.eqFields, e, part, isAgg, run_underlying h1, run_underlying h2, run_equalIn_int w _ _ _ _ _ _ h1, run_equalIn_string w _ _ _ _ h2]
    · have e : ¬ x = y := fun h => e2 (by rw [h])
      have g2 := str_diff e2
      simp [Op.eqFields, e, e1, g2, part, isAgg, run_underlying h1, run_underlying h2, run_equalIn_int w _ _ _ _ _ _ h1, run_equalIn_string w _ _ _ _ h2]
  · have e : ¬ x = y := fun h => e1 (by rw [h])
    simp [Op.eqFields, e, e1, part, isAgg, run_underlying h1, run_underlying h2, run_equalIn_int w _ _ _ _ _ _ h1]
theorem ltr_guard (op : BinOp) (a b : Operand) (x y : Ltr) (w : World) : (eqGuard op 44 a b (.agg #[.int .i64 x.1, .string x.2]) (.agg #[.int .i64 y.1, .string y.2])).run Try.prog w = .ok () w := run_eqGuard_agg w op _ a b _ _ (by kernel_rfl)
attribute [local go_sem ↓] ltr_neq ltr_guard

set_option maxRecDepth 100000 in
set_option maxHeartbeats 800000 in
theorem soBatch_any (v u : Value) (xs ys : List Ltr) (w : World) (h : Lt w v xs) (hu : Lt w u ys) :
    Calls Try.prog 18 #[v, u] w fun e w' => e = .returned (.bool (decide (xs = ys))) ∧ Below w.heap.size w w' := by
  obtain ⟨A, c, rfl, hA, hc1, hc2⟩ := h
  obtain ⟨D, d, rfl, hD, hd1, hd2⟩ := hu
  unfold maxLen at hc2 hd2
  by_cases hl : xs.length = ys.length
  · have Hl := Lib.hid hl
    have hl1 : ((xs.length : Int) != (ys.length : Int)) = false := by simp [hl]
    clear hl
    go_enter Try.func18, Try.ntmps18
    go_wp2_with fail
    go_loopw [5] (fun i wr => ∃ k : Nat, k ≤ xs.length ∧ i = .int .i64 k ∧ Below w.heap.size w wr ∧ Hid (xs.take k = ys.take k)) (fun i _ => xs.length - (intOf i).toNat)
    case atStart => exact ⟨0, Nat.zero_le _, rfl, Below.refl _ _, Lib.hid rfl⟩
    case round =>
      obtain ⟨k, hk, rfl, hb, heq⟩ := hrel
      by_cases hlt : k < xs.length
      · obtain ⟨ad, x, rfl, hx, hcA, hcB⟩ := (hA.below hb).two hlt
        have hlt2 : k < ys.length := by have := Hl.out; omega
        obtain ⟨ad2, y, rfl, hy, hcC, hcD⟩ := (hD.below hb).two hlt2
        have Hx := Lib.hid hx
        have Hy := Lib.hid hy
        simp only [ltf] at hcA hcB hcC hcD
        clear hx hy
        by_cases hxy : x = y
        · have Hxy := Lib.hid hxy
          have hd := decide_eq_true hxy
          clear hxy
          go_wp2_with fail
          go_quiet (fail)
          replace hb := fun n => below_drewN hb n
          go_wp2_with fail
          go_roundw
          case rel => exact ⟨k + 1, by omega, by go_num, hb _, Lib.hid (by rw [take_snoc Hx.out, take_snoc Hy.out, heq.out, Hxy.out])⟩
          case measure => simp [intOf]; omega
        · have Hxy := Lib.hid hxy
          have hd := decide_eq_false hxy
          clear hxy
          go_wp2_with fail
          go_quiet (fail)
          replace hb := fun n => below_drewN hb n
          go_wp2_with fail
          go_ret
          exact ⟨ret_bool (by
            rw [decide_eq_false]
            rintro rfl
            have := Hx.out.symm.trans Hy.out
            injection this with this
            exact Hxy.out this), hb _⟩
      · have hk' : k = xs.length := by omega
        subst hk'
        go_wp2_with fail
        go_ret
        exact ⟨ret_bool (by
          have h1 := heq.out
          rw [List.take_length, Hl.out, List.take_length] at h1
          exact (decide_eq_true h1).symm), hb⟩
  · have hl1 : ((xs.length : Int) != (ys.length : Int)) = true := by simp; omega
    go_enter Try.func18, Try.ntmps18
    go_wp2_with fail
    go_ret
    exact ⟨ret_bool (by rw [decide_eq_false]; rintro rfl; exact hl rfl), Below.refl _ _⟩

theorem soPlace_any (v : Value) (xs : List Ltr) (id : Int) (w : World) (h : Lt w v xs) (hs : Szs xs) :
    Calls Try.prog 20 #[v, .int .i64 id] w fun e w' => e = .returned (.int .i64 (findI xs id)) ∧ Below w.heap.size w w' := by
  have H := Lib.hid (impl_find v xs id w h hs)
  clear h hs
  go_enter Try.func20, Try.ntmps20
  go_wp2_with fail
  refine H.out.mono ?_
  rintro e w2 ⟨rfl, hb⟩
  go_wp2_with fail
  go_ret
  exact ⟨rfl, hb⟩

end Go.Proofs.Ytefgfdehinpbaaa
