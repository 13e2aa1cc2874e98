
/- The walks of what the laws on trays use, and of their draws. -/
import Derived.Test.YtaadjjadpacclaaTyDrawE
import Derived.Test.YtaadjjadpacclaaTyLawA
import Derived.Test.YtaadjjadpacclaaTyLaw2
import Derived.Laws.StructEq
namespace Go.Proofs.Ytaadjjadpacclaa
open Go.RowKit
set_option linter.unusedVariables false

/-- Letters compared. -/
theorem ltr_neq (x y : Ltr) (w : World) : (binOp .neq 31 (.agg #[.int .i64 x.1, .string x.2]) (.agg #[.int .i64 y.1, .string y.2])).run Try.prog w = .ok (.bool (!(decide (x = y)))) w := by
  have hu := Try.underlying31
  have h1 := Try.underlying3
  have h2 := Try.underlying9
  have ht : Try.prog.underlying 31 = some (.struct (Try.prog.fieldsOf 31)) := by kernel_rfl
  have hs : Try.prog.stoodInHeld 31 = false := by kernel_rfl
  have hf : Try.prog.fieldsOf 31 = #[{ name := "Id", type := 3, offset := 0, embedded := false, tag := "", pkgPath := "", byteOffset := 0 }, { name := "Code", type := 9, offset := 1, embedded := false, tag := "", pkgPath := "", byteOffset := 8 }] := by kernel_rfl
  rw [run_neq_struct, run_equalIn_agg w 9999 _ _ _ ht hs, hf]
  by_cases e1 : x.1 = y.1
  · by_cases e2 : x.2 = y.2
    · have e : x = y := Prod.ext e1 e2
      simp [Op.eqFields, e, part, isAgg, run_underlying h1, run_underlying h2, run_equalIn_int w _ _ _ _ _ _ h1, run_equalIn_string w _ _ _ _ h2]
    · have e : ¬ x = y := fun h => e2 (by rw [h])
      have g2 := str_diff e2
      simp [Op.eqFields, e, e1, g2, part, isAgg, run_underlying h1, run_underlying h2, run_equalIn_int w _ _ _ _ _ _ h1, run_equalIn_string w _ _ _ _ h2]
  · have e : ¬ x = y := fun h => e1 (by rw [h])
    simp [Op.eqFields, e, e1, part, isAgg, run_underlying h1, run_underlying h2, run_equalIn_int w _ _ _ _ _ _ h1]
theorem ltr_guard (op : BinOp) (a b : Operand) (x y : Ltr) (w : World) : (eqGuard op 31 a b (.agg #[.int .i64 x.1, .string x.2]) (.agg #[.int .i64 y.1, .string y.2])).run Try.prog w = .ok () w := run_eqGuard_agg w op _ a b _ _ (by kernel_rfl)
attribute [local go_sem ↓] ltr_neq ltr_guard

set_option maxRecDepth 100000 in
set_option maxHeartbeats 800000 in
theorem soTrays_any (v : Value) (xss : List (List Ltr)) (w : World) (h : LtS w v xss) (hn : xss.flatten.length ≤ 1048576) :
    Calls Try.prog 10 #[v] w fun e w' => ∃ u, e = .returned u ∧ Own w' w.heap.size w'.heap.size 31 2 u xss.flatten.length (lcs xss.flatten) ∧ Below w.heap.size w w' := by
  obtain ⟨us, ⟨A, c, rfl, hA, hc1, hc2⟩, hus⟩ := h
  unfold maxLen at hc2
  have HA := Lib.hid hA
  have Hus := Lib.hid hus
  have Hul := Lib.hid hus.len
  clear hA hus
  obtain ⟨hb0, hst⟩ := startS w xss
  have Hb0 := Lib.hid hb0
  have Hst := Lib.hid hst
  clear hb0 hst
  go_enter Try.func10, Try.ntmps10
  go_wp2_with fail
  go_loopw [3, 4] (fun o i wr => ∃ (k : Nat) (u0 : Value), k ≤ us.length ∧ i = .int .i64 k ∧ u0 = o ∧ Below w.heap.size w wr ∧ Hid (wr.ownsRow w.heap.size 31 2 u0 (xss.take k).flatten.length (lcs (xss.take k).flatten))) (fun _ i _ => us.length - (intOf i).toNat)
  case atStart => exact ⟨0, _, Nat.zero_le _, rfl, rfl, Hb0.out, Hst⟩
  case round =>
    obtain ⟨k, u0, hk, rfl, rfl, hb, hown⟩ := hrel
    clear Hb0 Hst
    by_cases hkl : k < us.length
    · obtain ⟨p, x, hp, hx, hpx⟩ := Hus.out.at_ (k := k) (by have := Hul.out; omega)
      obtain ⟨ad, rfl, hcA⟩ := (HA.out.below hb) k _ hp
      obtain ⟨PA, pc, rfl, hpr, hpc1, hpc2⟩ := hpx.below hb
      have hfl := flat_len_snoc hx
      have hft := flat_take_le xss (k + 1)
      have Hx := Lib.hid hx
      have Hown := Lib.hid hown.out
      clear hx hp hpx hown
      go_wp2_with (at_builtin; refine wpList_append_rd rfl (.tmp 12) (.tmp 16) 23 rfl ltr_elem (base := w.heap.size) u0 (xss.take k).flatten.length (lcs (xss.take k).flatten) rfl Hown.out PA x.length pc (lcs x) rfl (cs2_length x) hpr (lcs_oneCell x) (by unfold maxLen; omega) (by omega) hb.size ?_; intro v5 w5 hown5 hg5 hmv5)
      have hb5 : Below w.heap.size w w5 := hb.grown hg5 hb.size (fun g e => (Hown.out.lt g e).1)
      have hown6 : Hid (w5.ownsRow w.heap.size 31 2 v5 (xss.take (k + 1)).flatten.length (lcs (xss.take (k + 1)).flatten)) := Lib.hid (by rw [hfl, flat_snoc Hx.out]; rw [← cs2_append] at hown5; exact hown5)
      clear hown5 hg5 hmv5 hpr Hown
      go_roundw
      case rel => exact ⟨k + 1, _, by omega, by go_num, rfl, hb5, hown6⟩
      case measure => simp [intOf]; omega
    · have hk' : k = us.length := by omega
      subst hk'
      have Hown := Lib.hid hown.out
      clear hown
      have ht : xss.take us.length = xss := List.take_of_length_le (by have := Hul.out; omega)
      rw [ht] at Hown
      clear ht
      go_wp2_with fail
      go_ret
      exact ⟨_, rfl, own_of Hown.out, hb⟩

set_option maxRecDepth 100000 in
set_option maxHeartbeats 800000 in
theorem soBatch_any (v u : Value) (xs ys : List Ltr) (w : World) (h : Lt w v xs) (hu : Lt w u ys) :
    Calls Try.prog 9 #[v, u] w fun e w' => e = .returned (.bool (decide (xs = ys))) ∧ Below w.heap.size w w' := by
  obtain ⟨A, c, rfl, hA, hc1, hc2⟩ := h
  obtain ⟨D, d, rfl, hD, hd1, hd2⟩ := hu
  unfold maxLen at hc2 hd2
  by_cases hl : xs.length = ys.length
  · have Hl := Lib.hid hl
    have hl1 : ((xs.length : Int) != (ys.length : Int)) = false := by simp [hl]
    clear hl
    go_enter Try.func9, Try.ntmps9
    go_wp2_with fail
    go_loopw [5] (fun i wr => ∃ k : Nat, k ≤ xs.length ∧ i = .int .i64 k ∧ Below w.heap.size w wr ∧ Hid (xs.take k = ys.take k)) (fun i _ => xs.length - (intOf i).toNat)
    case atStart => exact ⟨0, Nat.zero_le _, rfl, Below.refl _ _, Lib.hid rfl⟩
    case round =>
      obtain ⟨k, hk, rfl, hb, heq⟩ := hrel
      by_cases hlt : k < xs.length
      · obtain ⟨ad, x, rfl, hx, hcA, hcB⟩ := (hA.below hb).two hlt
        have hlt2 : k < ys.length := by have := Hl.out; omega
        obtain ⟨ad2, y, rfl, hy, hcC, hcD⟩ := (hD.below hb).two hlt2
        have Hx := Lib.hid hx
        have Hy := Lib.hid hy
        simp only [ltf] at hcA hcB hcC hcD
        clear hx hy
        by_cases hxy : x = y
        · have Hxy := Lib.hid hxy
          have hd := decide_eq_true hxy
          clear hxy
          go_wp2_with fail
          go_quiet (fail)
          replace hb := fun n => below_drewN hb n
          go_wp2_with fail
          go_roundw
          case rel => exact ⟨k + 1, by omega, by go_num, hb _, Lib.hid (by rw [take_snoc Hx.out, take_snoc Hy.out, heq.out, Hxy.out])⟩
          case measure => simp [intOf]; omega
        · have Hxy := Lib.hid hxy
          have hd := decide_eq_false hxy
          clear hxy
          go_wp2_with fail
          go_quiet (fail)
          replace hb := fun n => below_drewN hb n
          go_wp2_with fail
          go_ret
          exact ⟨ret_bool (by
            rw [decide_eq_false]
            rintro rfl
            have := Hx.out.symm.trans Hy.out
            injection this with this
            exact Hxy.out this), hb _⟩
      · have hk' : k = xs.length := by omega
        subst hk'
        go_wp2_with fail
        go_ret
        exact ⟨ret_bool (by
          have h1 := heq.out
          rw [List.take_length, Hl.out, List.take_length] at h1
          exact (decide_eq_true h1).symm), hb⟩
  · have hl1 : ((xs.length : Int) != (ys.length : Int)) = true := by simp; omega
    go_enter Try.func9, Try.ntmps9
    go_wp2_with fail
    go_ret
    exact ⟨ret_bool (by rw [decide_eq_false]; rintro rfl; exact hl rfl), Below.refl _ _⟩

set_option maxRecDepth 100000 in
set_option maxHeartbeats 800000 in
theorem soBins_any (v u : Value) (xs ys : List (List Ltr)) (w : World) (h : LtS w v xs) (hu : LtS w u ys) :
    Calls Try.prog 8 #[v, u] w fun e w' => e = .returned (.bool (decide (xs = ys))) ∧ Below w.heap.size w w' := by
  obtain ⟨us, ⟨A, c, rfl, hA, hc1, hc2⟩, hus⟩ := h
  obtain ⟨vs, ⟨D, d, rfl, hD, hd1, hd2⟩, hvs⟩ := hu
  unfold maxLen at hc2 hd2
  have HA := Lib.hid hA
  have HD := Lib.hid hD
  have Hus := Lib.hid hus
  have Hvs := Lib.hid hvs
  have hul := hus.len
  have hvl := hvs.len
  clear hA hD hus hvs
  by_cases hl : us.length = vs.length
  · have Hl := Lib.hid hl
    have hl1 : ((us.length : Int) != (vs.length : Int)) = false := by simp [hl]
    have Hul := Lib.hid (And.intro hul hvl)
    clear hl hul hvl
    go_enter Try.func8, Try.ntmps8
    go_wp2_with fail
    go_loopw [5] (fun i wr => ∃ k : Nat, k ≤ us.length ∧ i = .int .i64 k ∧ Below w.heap.size w wr ∧ Hid (xs.take k = ys.take k)) (fun i _ => us.length - (intOf i).toNat)
    case atStart => exact ⟨0, Nat.zero_le _, rfl, Below.refl _ _, Lib.hid rfl⟩
    case round =>
      obtain ⟨k, hk, rfl, hb, heq⟩ := hrel
      by_cases hlt : k < us.length
      · obtain ⟨p, x, hp, hx, hpx⟩ := Hus.out.at_ (k := k) (by have := Hul.out; omega)
        obtain ⟨q, y, hq, hy, hqy⟩ := Hvs.out.at_ (k := k) (by have := Hul.out; have := Hl.out; omega)
        have hlt2 : k < vs.length := by have := Hl.out; omega
        obtain ⟨ad, rfl, hcA⟩ := (HA.out.below hb) k _ hp
        obtain ⟨ad2, rfl, hcC⟩ := (HD.out.below hb) k _ hq
        have Hx := Lib.hid hx
        have Hy := Lib.hid hy
        have Hpx := Lib.hid (hpx.below hb)
        have Hqy := Lib.hid (hqy.below hb)
        obtain ⟨PA, pc, rfl, _, _, _⟩ := hpx
        obtain ⟨QA, qc, rfl, _, _, _⟩ := hqy
        clear hx hy hp hq
        go_wp2_with fail
        go_still_tail 8, (by kernel_rfl)
        go_wp2_with fail
        refine (soBatch_any _ _ x y _ (Hpx.out.below (by exact (Below.refl _ _).drew)) (Hqy.out.below (by exact (Below.refl _ _).drew))).mono ?_
        rintro e w2 ⟨rfl, hb2⟩
        replace hb := below_trans' hb.drew hb2
        by_cases hxy : x = y
        · rw [decide_eq_true hxy]
          have Hxy := Lib.hid hxy
          clear hxy hb2
          go_wp2_with fail
          go_roundw
          case rel => exact ⟨k + 1, by omega, by go_num, hb, Lib.hid (by rw [take_snoc Hx.out, take_snoc Hy.out, heq.out, Hxy.out])⟩
          case measure => simp [intOf]; omega
        · rw [decide_eq_false hxy]
          have Hxy := Lib.hid hxy
          clear hxy hb2
          go_wp2_with fail
          go_ret
          exact ⟨ret_bool (by
            rw [decide_eq_false]
            rintro rfl
            have := Hx.out.symm.trans Hy.out
            injection this with this
            exact Hxy.out this), hb⟩
      · have hk' : k = us.length := by omega
        subst hk'
        go_wp2_with fail
        go_ret
        exact ⟨ret_bool (by
          have h1 := heq.out
          rw [List.take_of_length_le (by have := Hul.out; omega), List.take_of_length_le (by have := Hul.out; have := Hl.out; omega)] at h1
          exact (decide_eq_true h1).symm), hb⟩
  · have hl1 : ((us.length : Int) != (vs.length : Int)) = true := by simp; omega
    go_enter Try.func8, Try.ntmps8
    go_wp2_with fail
    go_ret
    exact ⟨ret_bool (by rw [decide_eq_false]; rintro rfl; omega), Below.refl _ _⟩

theorem fill_small {size d : Nat} {xs : List Ltr} (hs : 1 ≤ size) (hl : xs.length ≤ 20) (hx : ∀ x ∈ xs, x.2.size = 7 ∧ digs x.2 = true) : (fillT size d xs).length ≤ 1000 ∧ ∀ t ∈ fillT size d xs, t.length ≤ 60 ∧ ∀ x ∈ t, x.2.size = 7 := by
  have h1 := (fill_all (size := size) (d := d) hs xs)
  have h2 := len_sum (fillT size d xs) fun t ht => (h1.1.one t ht).1
  rw [h1.2] at h2
  refine ⟨by omega, fun t ht => ⟨?_, fun x hxt => (hx x ?_).1⟩⟩
  · have := (List.sublist_flatten_of_mem ht).length_le
    rw [h1.2] at this; omega
  · rw [← h1.2]; exact List.mem_flatten.2 ⟨t, ht, hxt⟩
theorem szs_of {yss : List (List Ltr)} (h : ∀ ys ∈ yss, ys.length ≤ 61 ∧ ∀ y ∈ ys, y.2.size ≤ 101) : ∀ ys ∈ yss, Szs ys := fun ys hy x hx => by have := (h ys hy).2 x hx; unfold maxLen; omega
end Go.Proofs.Ytaadjjadpacclaa
