/- The walks of what the laws on trays use, and of their draws. -/
import Derived.Test.YtjekhmkkkmphmaaTyDrawE
import Derived.Test.YtjekhmkkkmphmaaTyLawA
import Derived.Test.YtjekhmkkkmphmaaTyLaw2
import Derived.Laws.StructEq
namespace Go.Proofs.Ytjekhmkkkmphmaa
open Go.RowKit
set_option linter.unusedVariables false

/-- Letters compared. -/
theorem ltr_neq (x y : Ltr) (w : World) : (binOp .neq 37 (.agg #[.int .i64 x.1, .string x.2]) (.agg #[.int .i64 y.1, .string y.2])).run Try.prog w = .ok (.bool (!(decide (x = y)))) w := by
  have hu := Try.underlying37
  have h1 := Try.underlying3
  have h2 := Try.underlying9
  have ht : Try.prog.underlying 37 = some (.struct (Try.prog.fieldsOf 37)) := by kernel_rfl
  have hs : Try.prog.stoodInHeld 37 = false := by kernel_rfl
  have hf : Try.prog.fieldsOf 37 = #[{ name := "Id", type := 3, offset := 0, embedded := false, tag := "", pkgPath := "", byteOffset := 0 }, { name := "Code", type := 9, offset := 1, embedded := false, tag := "", pkgPath := "", byteOffset := 8 }] := by kernel_rfl
  rw [run_neq_struct, run_equalIn_agg w 9999 _ _ _ ht hs, hf]
  by_cases e1 : x.1 = y.1
  · by_cases e2 : x.2 = y.2
    · have e : x = y := Prod.ext e1 e2
      simp [Op.eqFields, e, part, isAgg, run_underlying h1, run_underlying h2, run_equalIn_int w _ _ _ _ _ _ h1, run_equalIn_string w _ _ _ _ h2]
    · have e : ¬ x = y := fun h => e2 (by rw [h])
      have g2 := str_diff e2
      simp [Op.eqFields, e, e1, g2, part, isAgg, run_underlying h1, run_underlying h2, run_equalIn_int w _ _ _ _ _ _ h1, run_equalIn_string w _ _ _ _ h2]
  · have e : ¬ x = y := fun h => e1 (by rw [h])
    simp [Op.eqFields, e, e1, part, isAgg, run_underlying h1, run_underlying h2, run_equalIn_int w _ _ _ _ _ _ h1]
theorem ltr_guard (op : BinOp) (a b : Operand) (x y : Ltr) (w : World) : (eqGuard op 37 a b (.agg #[.int .i64 x.1, .string x.2]) (.agg #[.int .i64 y.1, .string y.2])).run Try.prog w = .ok () w := run_eqGuard_agg w op _ a b _ _ (by kernel_rfl)
attribute [local go_sem ↓] ltr_neq ltr_guard

set_option maxRecDepth 100000 in
set_option maxHeartbeats 800000 in
theorem soTrays_any (v : Value) (xss : List (List Ltr)) (w : World) (h : LtS w v xss) (hn : xss.flatten.length ≤ 1048576) :
    Calls Try.prog 48 #[v] w fun e w' => ∃ u, e = .returned u ∧ Own w' w.heap.size w'.heap.size 37 2 u xss.flatten.length (lcs xss.flatten) ∧ Below w.heap.size w w' := by
  obtain ⟨us, ⟨A, c, rfl, hA, hc1, hc2⟩, hus⟩ := h
  unfold maxLen at hc2
  have HA := Lib.hid hA
  have Hus := Lib.hid hus
  have Hul := Lib.hid hus.len
  clear hA hus
  obtain ⟨hb0, hst⟩ := startS w xss
  have Hb0 := Lib.hid hb0
  have Hst := Lib.hid hst
  clear hb0 hst
  go_enter Try.func48, Try.ntmps48
  go_wp2_with fail
  go_loopw [3, 4] (fun o i wr => ∃ (k : Nat) (u0 : Value), k ≤ us.length ∧ i = .int .i64 k ∧ u0 = o ∧ Below w.heap.size w wr ∧ Hid (wr.ownsRow w.heap.size 37 2 u0 (xss.take k).flatten.length (lcs (xss.take k).flatten))) (fun _ i _ => us.length - (intOf i).toNat)
  case atStart => exact ⟨0, _, Nat.zero_le _, rfl, rfl, Hb0.out, Hst⟩
  case round =>
    obtain ⟨k, u0, hk, rfl, rfl, hb, hown⟩ := hrel
    clear Hb0 Hst
    by_cases hkl : k < us.length
    · obtain ⟨p, x, hp, hx, hpx⟩ := Hus.out.at_ (k := k) (by have := Hul.out; omega)
      obtain ⟨ad, rfl, hcA⟩ := (HA.out.below hb) k _ hp
      obtain ⟨PA, pc, rfl, hpr, hpc1, hpc2⟩ := hpx.below hb
      have hfl := flat_len_snoc hx
      have hft := flat_take_le xss (k + 1)
      have Hx := Lib.hid hx
      have Hown := Lib.hid hown.out
      clear hx hp hpx hown
      go_wp2_with (at_builtin; refine wpList_append_rd rfl (.tmp 12) (.tmp 16) 30 rfl ltr_elem (base := w.heap.size) u0 (xss.take k).flatten.length (lcs (xss.take k).flatten) rfl Hown.out PA x.length pc (lcs x) rfl (cs2_length x) hpr (lcs_oneCell x) (by unfold maxLen; omega) (by omega) hb.size ?_; intro v5 w5 hown5 hg5 hmv5)
      have hb5 : Below w.heap.size w w5 := hb.grown hg5 hb.size (fun g e => (Hown.out.lt g e).1)
      have hown6 : Hid (w5.ownsRow w.heap.size 37 2 v5 (xss.take (k + 1)).flatten.length (lcs (xss.take (k + 1)).flatten)) := Lib.hid (by rw [hfl, flat_snoc Hx.out]; rw [← cs2_append] at hown5; exact hown5)
      clear hown5 hg5 hmv5 hpr Hown
      go_roundw
      case rel => exact ⟨k + 1, _, by omega, by go_num, rfl, hb5, hown6⟩
      case measure => simp [intOf]; omega
    · have hk' : k = us.length := by omega
      subst hk'
      have Hown := Lib.hid hown.out
      clear hown
      have ht : xss.take us.length = xss := List.take_of_length_le (by have := Hul.out; omega)
      rw [ht] at Hown
      clear ht
      go_wp2_with fail
      go_ret
      exact ⟨_, rfl, own_of Hown.out, hb⟩

set_option maxRecDepth 100000 in
set_option maxHeartbeats 800000 in
theorem turned_any (v : Value) (xs : List Ltr) (w : World) (h : Lt w v xs) (hl : xs.length ≤ 1000) :
    Calls Try.prog 28 #[v] w fun e w' => ∃ u, e = .returned u ∧ Own w' w.heap.size w'.heap.size 37 2 u xs.reverse.length (lcs xs.reverse) ∧ Below w.heap.size w w' := by
  obtain ⟨A, c, rfl, hA, hc1, hc2⟩ := h
  unfold maxLen at hc2
  have HA := Lib.hid hA
  have Hst : Hid ((w.alloc (.cells #[] 37)).ownsRow w.heap.size 37 2 (.slice (some ⟨w.heap.size, 0, none⟩) 0 0) (xs.drop xs.length).reverse.length (lcs (xs.drop xs.length).reverse)) := Lib.hid (by rw [List.drop_length]; exact World.ownsRow_lit w #[] 0 (Nat.le_refl _) (Nat.zero_le _) rfl)
  have Hb0 : Hid (Below w.heap.size w (w.alloc (.cells #[] 37))) := Lib.hid ((Below.refl _ _).alloc (Nat.le_refl _) _)
  clear hA
  go_enter Try.func28, Try.ntmps28
  go_wp2_with fail
  go_loopw [3, 4] (fun o i wr => ∃ (k : Nat) (u0 : Value), k ≤ xs.length ∧ i = .int .i64 ((k : Int) - 1) ∧ u0 = o ∧ Hid (Below w.heap.size w wr) ∧ Hid (wr.ownsRow w.heap.size 37 2 u0 (xs.drop k).reverse.length (lcs (xs.drop k).reverse))) (fun _ i _ => (intOf i + 1).toNat)
  case atStart => exact ⟨xs.length, _, Nat.le_refl _, rfl, rfl, Hb0, Hst⟩
  case round =>
    obtain ⟨k, u0, hk, rfl, rfl, Hb, Hown⟩ := hrel
    clear Hb0 Hst
    by_cases hkl : 0 < k
    · obtain ⟨j, rfl⟩ : ∃ j, k = j + 1 := ⟨k - 1, by omega⟩
      have hi : ((j + 1 : Nat) : Int) - 1 = (j : Int) := by omega
      rw [hi]
      obtain ⟨ad, x, rfl, hx, hcA, hcB⟩ := (HA.out.below Hb.out).two (k := j) (by omega)
      have Hx := Lib.hid hx
      simp only [ltf] at hcA hcB
      have hbl : Below wr.heap.size wr (wr.alloc (.cells #[.int .i64 x.1, .string x.2] 37)) := (Below.refl _ _).alloc (Nat.le_refl _) _
      have Ho4 := Lib.hid (own_below Hown.out hbl)
      have Hb4 := Lib.hid (Hb.out.alloc Hb.out.size (.cells #[.int .i64 x.1, .string x.2] 37))
      have Hnw := Lib.hid (rd_new wr (lcs [x]) 37)
      have hll : (xs.drop (j + 1)).reverse.length ≤ 1000 := by simp; omega
      clear hx hbl Hown
      go_wp2_with (at_builtin; refine wpList_append_rd rfl (.tmp 13) (.tmp 18) 30 rfl ltr_elem (base := w.heap.size) u0 (xs.drop (j + 1)).reverse.length (lcs (xs.drop (j + 1)).reverse) rfl Ho4.out (some ⟨wr.heap.size, 0, none⟩) 1 1 (lcs [x]) rfl rfl Hnw.out (lcs_oneCell _) (by unfold maxLen; omega) (by omega) Hb4.out.size ?_; intro v5 w5 hown5 hg5 hm5)
      have Hb5 := Lib.hid (Hb4.out.grown hg5 Hb4.out.size (fun g e => (Ho4.out.lt g e).1))
      have Ho5 : Hid (w5.ownsRow w.heap.size 37 2 v5 (xs.drop j).reverse.length (lcs (xs.drop j).reverse)) := Lib.hid (by
        have e : (xs.drop j).reverse = (xs.drop (j + 1)).reverse ++ [x] := by
          obtain ⟨h1, h2⟩ := List.getElem?_eq_some_iff.1 Hx.out
          rw [List.drop_eq_getElem_cons h1, List.reverse_cons, h2]
        rw [e, List.length_append, show lcs ((xs.drop (j + 1)).reverse ++ [x]) = lcs (xs.drop (j + 1)).reverse ++ lcs [x] from cs2_append _ _]; exact hown5)
      clear hown5 hg5 hm5 Ho4 Hb4 Hnw
      go_roundw
      case rel => exact ⟨j, _, by omega, by go_num, rfl, Hb5, Ho5⟩
      case measure => first | (simp [intOf]; done) | (simp [intOf]; omega)
    · have hk' : k = 0 := by omega
      subst hk'
      go_wp2_with fail
      go_ret
      exact ⟨_, rfl, own_of Hown.out, Hb.out⟩

set_option maxRecDepth 100000 in
set_option maxHeartbeats 800000 in
theorem soBatch_any (v u : Value) (xs ys : List Ltr) (w : World) (h : Lt w v xs) (hu : Lt w u ys) :
    Calls Try.prog 47 #[v, u] w fun e w' => e = .returned (.bool (decide (xs = ys))) ∧ Below w.heap.size w w' := by
  obtain ⟨A, c, rfl, hA, hc1, hc2⟩ := h
  obtain ⟨D, d, rfl, hD, hd1, hd2⟩ := hu
  unfold maxLen at hc2 hd2
  by_cases hl : xs.length = ys.length
  · have Hl := Lib.hid hl
    have hl1 : ((xs.length : Int) != (ys.length : Int)) = false := by simp [hl]
    clear hl
    go_enter Try.func47, Try.ntmps47
    go_wp2_with fail
    go_loopw [5] (fun i wr => ∃ k : Nat, k ≤ xs.length ∧ i = .int .i64 k ∧ Below w.heap.size w wr ∧ Hid (xs.take k = ys.take k)) (fun i _ => xs.length - (intOf i).toNat)
    case atStart => exact ⟨0, Nat.zero_le _, rfl, Below.refl _ _, Lib.hid rfl⟩
    case round =>
      obtain ⟨k, hk, rfl, hb, heq⟩ := hrel
      by_cases hlt : k < xs.length
      · obtain ⟨ad, x, rfl, hx, hcA, hcB⟩ := (hA.below hb).two hlt
        have hlt2 : k < ys.length := by have := Hl.out; omega
        obtain ⟨ad2, y, rfl, hy, hcC, hcD⟩ := (hD.below hb).two hlt2
        have Hx := Lib.hid hx
        have Hy := Lib.hid hy
        simp only [ltf] at hcA hcB hcC hcD
        clear hx hy
        by_cases hxy : x = y
        · have Hxy := Lib.hid hxy
          have hd := decide_eq_true hxy
          clear hxy
          go_wp2_with fail
          go_quiet (fail)
          replace hb := fun n => below_drewN hb n
          go_wp2_with fail
          go_roundw
          case rel => exact ⟨k + 1, by omega, by go_num, hb _, Lib.hid (by rw [take_snoc Hx.out, take_snoc Hy.out, heq.out, Hxy.out])⟩
          case measure => simp [intOf]; omega
        · have Hxy := Lib.hid hxy
          have hd := decide_eq_false hxy
          clear hxy
          go_wp2_with fail
          go_quiet (fail)
          replace hb := fun n => below_drewN hb n
          go_wp2_with fail
          go_ret
          exact ⟨ret_bool (by
            rw [decide_eq_false]
            rintro rfl
            have := Hx.out.symm.trans Hy.out
            injection this with this
            exact Hxy.out this), hb _⟩
      · have hk' : k = xs.length := by omega
        subst hk'
        go_wp2_with fail
        go_ret
        exact ⟨ret_bool (by
          have h1 := heq.out
          rw [List.take_length, Hl.out, List.take_length] at h1
          exact (decide_eq_true h1).symm), hb⟩
  · have hl1 : ((xs.length : Int) != (ys.length : Int)) = true := by simp; omega
    go_enter Try.func47, Try.ntmps47
    go_wp2_with fail
    go_ret
    exact ⟨ret_bool (by rw [decide_eq_false]; rintro rfl; exact hl rfl), Below.refl _ _⟩

set_option maxRecDepth 100000 in
set_option maxHeartbeats 800000 in
theorem soBins_any (v u : Value) (xs ys : List (List Ltr)) (w : World) (h : LtS w v xs) (hu : LtS w u ys) :
    Calls Try.prog 50 #[v, u] w fun e w' => e = .returned (.bool (decide (xs = ys))) ∧ Below w.heap.size w w' := by
  obtain ⟨us, ⟨A, c, rfl, hA, hc1, hc2⟩, hus⟩ := h
  obtain ⟨vs, ⟨D, d, rfl, hD, hd1, hd2⟩, hvs⟩ := hu
  unfold maxLen at hc2 hd2
  have HA := Lib.hid hA
  have HD := Lib.hid hD
  have Hus := Lib.hid hus
  have Hvs := Lib.hid hvs
  have hul := hus.len
  have hvl := hvs.len
  clear hA hD hus hvs
  by_cases hl : us.length = vs.length
  · have Hl := Lib.hid hl
    have hl1 : ((us.length : Int) != (vs.length : Int)) = false := by simp [hl]
    have Hul := Lib.hid (And.intro hul hvl)
    clear hl hul hvl
    go_enter Try.func50, Try.ntmps50
    go_wp2_with fail
    go_loopw [5] (fun i wr => ∃ k : Nat, k ≤ us.length ∧ i = .int .i64 k ∧ Below w.heap.size w wr ∧ Hid (xs.take k = ys.take k)) (fun i _ => us.length - (intOf i).toNat)
    case atStart => exact ⟨0, Nat.zero_le _, rfl, Below.refl _ _, Lib.hid rfl⟩
    case round =>
      obtain ⟨k, hk, rfl, hb, heq⟩ := hrel
      by_cases hlt : k < us.length
      · obtain ⟨p, x, hp, hx, hpx⟩ := Hus.out.at_ (k := k) (by have := Hul.out; omega)
        obtain ⟨q, y, hq, hy, hqy⟩ := Hvs.out.at_ (k := k) (by have := Hul.out; have := Hl.out; omega)
        have hlt2 : k < vs.length := by have := Hl.out; omega
        obtain ⟨ad, rfl, hcA⟩ := (HA.out.below hb) k _ hp
        obtain ⟨ad2, rfl, hcC⟩ := (HD.out.below hb) k _ hq
        have Hx := Lib.hid hx
        have Hy := Lib.hid hy
        have Hpx := Lib.hid (hpx.below hb)
        have Hqy := Lib.hid (hqy.below hb)
        obtain ⟨PA, pc, rfl, _, _, _⟩ := hpx
        obtain ⟨QA, qc, rfl, _, _, _⟩ := hqy
        clear hx hy hp hq
        go_wp2_with fail
        go_still_tail 8, (by kernel_rfl)
        go_wp2_with fail
        refine (soBatch_any _ _ x y _ (Hpx.out.below (by exact (Below.refl _ _).drew)) (Hqy.out.below (by exact (Below.refl _ _).drew))).mono ?_
        rintro e w2 ⟨rfl, hb2⟩
        replace hb := below_trans' hb.drew hb2
        by_cases hxy : x = y
        · rw [decide_eq_true hxy]
          have Hxy := Lib.hid hxy
          clear hxy hb2
          go_wp2_with fail
          go_roundw
          case rel => exact ⟨k + 1, by omega, by go_num, hb, Lib.hid (by rw [take_snoc Hx.out, take_snoc Hy.out, heq.out, Hxy.out])⟩
          case measure => simp [intOf]; omega
        · rw [decide_eq_false hxy]
          have Hxy := Lib.hid hxy
          clear hxy hb2
          go_wp2_with fail
          go_ret
          exact ⟨ret_bool (by
            rw [decide_eq_false]
            rintro rfl
            have := Hx.out.symm.trans Hy.out
            injection this with this
            exact Hxy.out this), hb⟩
      · have hk' : k = us.length := by omega
        subst hk'
        go_wp2_with fail
        go_ret
        exact ⟨ret_bool (by
          have h1 := heq.out
          rw [List.take_of_length_le (by have := Hul.out; omega), List.take_of_length_le (by have := Hul.out; have := Hl.out; omega)] at h1
          exact (decide_eq_true h1).symm), hb⟩
  · have hl1 : ((us.length : Int) != (vs.length : Int)) = true := by simp; omega
    go_enter Try.func50, Try.ntmps50
    go_wp2_with fail
    go_ret
    exact ⟨ret_bool (by rw [decide_eq_false]; rintro rfl; omega), Below.refl _ _⟩

set_option maxHeartbeats 800000 in
theorem draw_label (A : Option Addr) (c : Nat) (bs : List Int) (w : World) (h : Coded w A bs c) :
    Calls Try.prog 26 #[.slice A bs.length c] w fun e w' => ∃ (v : Value) (xs : List Ltr), e = .returned v ∧ Lt w' v xs ∧ xs.length ≤ 61 ∧ Szs xs ∧ Below w.heap.size w w' := by
  go_enter Try.func26, Try.ntmps26
  go_wp2_with fail
  refine (coded_open h).mono ?_
  rintro e w1 ⟨rfl, hr, hb, hl⟩
  have Hb := Lib.hid hb
  have Hl := Lib.hid hl
  have H2 := Lib.hid (open2_any w.heap.size 0 w1 hr (by omega))
  clear h hr hb hl
  go_wp2_with fail
  refine H2.out.mono ?_
  rintro e w2 ⟨u, ys, q, rfl, ho, hyl, hys, hq, hd⟩
  have Hd := Lib.hid hd
  have Ho := Lib.hid ho
  clear H2 hd ho
  go_wp2_with fail
  go_ret
  exact ⟨_, ys, rfl, sl_own Ho.out, hyl, fun y hy => by have := hys y hy; unfold maxLen; omega, dst_below Hb.out Hl.out Hd.out⟩
set_option maxHeartbeats 800000 in
theorem draw_fill (A : Option Addr) (c : Nat) (bs : List Int) (w : World) (h : Coded w A bs c) :
    Calls Try.prog 49 #[.slice A bs.length c] w fun e w' => ∃ (v : Value) (xs : List Ltr) (size : Int), e = .returned (.tuple #[v, .int .i64 size]) ∧ Lt w' v xs ∧ xs.length ≤ 61 ∧ Szs xs ∧ Below w.heap.size w w' := by
  go_enter Try.func49, Try.ntmps49
  go_wp2_with fail
  refine (coded_open h).mono ?_
  rintro e w1 ⟨rfl, hr, hb, hl⟩
  have Hb := Lib.hid hb
  have Hl := Lib.hid hl
  have H2 := Lib.hid (open2_any w.heap.size 0 w1 hr (by omega))
  clear h hr hb hl
  go_wp2_with fail
  refine H2.out.mono ?_
  rintro e w2 ⟨u, ys, q, rfl, ho, hyl, hys, hq, hd⟩
  have Hd := Lib.hid hd
  have Ho := Lib.hid ho
  clear H2 hd ho
  have H3 := Lib.hid (number_any w.heap.size q w2 Hd.out.reader (by omega))
  go_wp2_with fail
  refine H3.out.mono ?_
  rintro e w3 ⟨x, q3, rfl, hq3, hr3, hg3⟩
  go_wp2_with fail
  go_ret2
  exact ⟨_, ys, x, rfl, sl_own (own_past (own_base Ho.out (Nat.succ_le_of_lt Hl.out)) (Nat.lt_succ_self _) hg3), hyl, fun y hy => by have := hys y hy; unfold maxLen; omega, dst_below Hb.out Hl.out (Hd.out.step hg3 hr3)⟩

theorem fill_small {size d : Nat} {xs : List Ltr} (hs : 1 ≤ size) (hl : xs.length ≤ 20) (hx : ∀ x ∈ xs, x.2.size = 7 ∧ digs x.2 = true) : (fillT size d xs).length ≤ 1000 ∧ ∀ t ∈ fillT size d xs, t.length ≤ 60 ∧ ∀ x ∈ t, x.2.size = 7 := by
  have h1 := (fill_all (size := size) (d := d) hs xs)
  have h2 := len_sum (fillT size d xs) fun t ht => (h1.1.one t ht).1
  rw [h1.2] at h2
  refine ⟨by omega, fun t ht => ⟨?_, fun x hxt => (hx x ?_).1⟩⟩
  · have := (List.sublist_flatten_of_mem ht).length_le
    rw [h1.2] at this; omega
  · rw [← h1.2]; exact List.mem_flatten.2 ⟨t, ht, hxt⟩
theorem szs_of {yss : List (List Ltr)} (h : ∀ ys ∈ yss, ys.length ≤ 61 ∧ ∀ y ∈ ys, y.2.size ≤ 101) : ∀ ys ∈ yss, Szs ys := fun ys hy x hx => by have := (h ys hy).2 x hx; unfold maxLen; omega
set_option maxHeartbeats 800000 in
theorem draw_empty (A : Option Addr) (c : Nat) (bs : List Int) (w : World) (h : Coded w A bs c) :
    Calls Try.prog 46 #[.slice A bs.length c] w fun e w' => ∃ (v : Value) (xss : List (List Ltr)), e = .returned v ∧ LtS w' v xss ∧ xss.length ≤ 1001 ∧ (∀ xs ∈ xss, Szs xs ∧ xs.length ≤ 61) ∧ Below w.heap.size w w' := by
  go_enter Try.func46, Try.ntmps46
  go_wp2_with fail
  refine (coded_open h).mono ?_
  rintro e w1 ⟨rfl, hr, hb, hl⟩
  have Hb := Lib.hid hb
  have Hl := Lib.hid hl
  have H2 := Lib.hid (trays_any w.heap.size 0 w1 hr (by omega))
  clear h hr hb hl
  go_wp2_with fail
  refine H2.out.mono ?_
  rintro e w2 ⟨v, xs, size, d, q, rfl, ho, hxl, hxs, hs1, hs2, hd8, hq, hd⟩
  obtain ⟨hf1, hf2⟩ := fill_small (size := size) (d := d) hs1 hxl hxs
  have H3 := Lib.hid (bad5_any w.heap.size q w1.heap.size v _ w2 hd.reader Hl.out hd.size ho hf1 hf2 (by omega))
  have Hd := Lib.hid hd
  clear H2 hd ho hf1 hf2 hxs
  go_wp2_with fail
  refine H3.out.mono ?_
  rintro e w3 ⟨u, yss, q3, rfl, hls, hyl, hys, hq3, hr3, hd3⟩
  have Hd3 := Lib.hid (hd3 w1 Hd.out (Nat.le_refl _))
  have Hls := Lib.hid hls
  have Hys := Lib.hid hys
  clear H3 hd3 hr3 hls hys
  go_wp2_with fail
  go_ret
  exact ⟨_, yss, rfl, Hls.out.lts, hyl, fun ys hy => ⟨szs_of Hys.out ys hy, (Hys.out ys hy).1⟩, dst_below Hb.out Hl.out Hd3.out⟩

set_option maxHeartbeats 800000 in
theorem draw_trayof (A : Option Addr) (c : Nat) (bs : List Int) (w : World) (h : Coded w A bs c) :
    Calls Try.prog 51 #[.slice A bs.length c] w fun e w' => ∃ (v : Value) (xss : List (List Ltr)) (id : Int), e = .returned (.tuple #[v, .int .i64 id]) ∧ LtS w' v xss ∧ xss.length ≤ 1001 ∧ (∀ xs ∈ xss, Szs xs ∧ xs.length ≤ 61) ∧ Below w.heap.size w w' := by
  go_enter Try.func51, Try.ntmps51
  go_wp2_with fail
  refine (coded_open h).mono ?_
  rintro e w1 ⟨rfl, hr, hb, hl⟩
  have Hb := Lib.hid hb
  have Hl := Lib.hid hl
  have H2 := Lib.hid (trays_any w.heap.size 0 w1 hr (by omega))
  clear h hr hb hl
  go_wp2_with fail
  refine H2.out.mono ?_
  rintro e w2 ⟨v, xs, size, d, q, rfl, ho, hxl, hxs, hs1, hs2, hd8, hq, hd⟩
  obtain ⟨hf1, hf2⟩ := fill_small (size := size) (d := d) hs1 hxl hxs
  have H3 := Lib.hid (bad5_any w.heap.size q w1.heap.size v _ w2 hd.reader Hl.out hd.size ho hf1 hf2 (by omega))
  have Hd := Lib.hid hd
  clear H2 hd ho hf1 hf2 hxs
  go_wp2_with fail
  refine H3.out.mono ?_
  rintro e w3 ⟨u, yss, q3, rfl, hls, hyl, hys, hq3, hr3, hd3⟩
  have Hd3 := Lib.hid (hd3 w1 Hd.out (Nat.le_refl _))
  have Hls := Lib.hid hls
  have Hys := Lib.hid hys
  clear H3 hd3 hr3 hls hys
  have H4 := Lib.hid (pick_any w.heap.size q3 60 w3 Hd3.out.reader (by omega) (by omega))
  go_wp2_with fail
  refine H4.out.mono ?_
  rintro e w4 ⟨x, rfl, hx, hr4, hg4⟩
  go_wp2_with fail
  go_ret2
  exact ⟨_, yss, x, rfl, (Hls.out.past Hl.out hg4).lts, hyl, fun ys hy => ⟨szs_of Hys.out ys hy, (Hys.out ys hy).1⟩, dst_below Hb.out Hl.out (Hd3.out.step hg4 hr4)⟩
set_option maxHeartbeats 800000 in
theorem draw_tv (A : Option Addr) (c : Nat) (bs : List Int) (w : World) (h : Coded w A bs c) :
    Calls Try.prog 84 #[.slice A bs.length c] w fun e w' => ∃ (v : Value) (xss : List (List Ltr)) (size : Int), e = .returned (.tuple #[v, .int .i64 size]) ∧ LtS w' v xss ∧ xss.length ≤ 1001 ∧ (∀ xs ∈ xss, Szs xs ∧ xs.length ≤ 61) ∧ Below w.heap.size w w' := by
  go_enter Try.func84, Try.ntmps84
  go_wp2_with fail
  refine (coded_open h).mono ?_
  rintro e w1 ⟨rfl, hr, hb, hl⟩
  have Hb := Lib.hid hb
  have Hl := Lib.hid hl
  have H2 := Lib.hid (trays_any w.heap.size 0 w1 hr (by omega))
  clear h hr hb hl
  go_wp2_with fail
  refine H2.out.mono ?_
  rintro e w2 ⟨v, xs, size, d, q, rfl, ho, hxl, hxs, hs1, hs2, hd8, hq, hd⟩
  obtain ⟨hf1, hf2⟩ := fill_small (size := size) (d := d) hs1 hxl hxs
  have H3 := Lib.hid (bad5_any w.heap.size q w1.heap.size v _ w2 hd.reader Hl.out hd.size ho hf1 hf2 (by omega))
  have Hd := Lib.hid hd
  clear H2 hd ho hf1 hf2 hxs
  go_wp2_with fail
  refine H3.out.mono ?_
  rintro e w3 ⟨u, yss, q3, rfl, hls, hyl, hys, hq3, hr3, hd3⟩
  have Hd3 := Lib.hid (hd3 w1 Hd.out (Nat.le_refl _))
  have Hls := Lib.hid hls
  have Hys := Lib.hid hys
  clear H3 hd3 hr3 hls hys
  have H4 := Lib.hid (number_any w.heap.size q3 w3 Hd3.out.reader (by omega))
  go_wp2_with fail
  refine H4.out.mono ?_
  rintro e w4 ⟨x, q4, rfl, hq4, hr4, hg4⟩
  go_wp2_with fail
  go_ret2
  exact ⟨_, yss, x, rfl, (Hls.out.past Hl.out hg4).lts, hyl, fun ys hy => ⟨szs_of Hys.out ys hy, (Hys.out ys hy).1⟩, dst_below Hb.out Hl.out (Hd3.out.step hg4 hr4)⟩
set_option maxHeartbeats 800000 in
theorem draw_rp (A : Option Addr) (c : Nat) (bs : List Int) (w : World) (h : Coded w A bs c) :
    Calls Try.prog 56 #[.slice A bs.length c] w fun e w' => ∃ (v : Value) (xss : List (List Ltr)) (size : Int), e = .returned (.tuple #[v, .int .i64 size]) ∧ LtS w' v xss ∧ xss.length ≤ 1001 ∧ (∀ xs ∈ xss, Szs xs ∧ xs.length ≤ 61) ∧ Below w.heap.size w w' := by
  have H := Lib.hid (draw_tv A c bs w h)
  clear h
  go_enter Try.func56, Try.ntmps56
  go_wp2_with fail
  refine H.out.mono ?_
  rintro e w1 ⟨v, xss, x, rfl, h1, h2, h3, h4⟩
  go_wp2_with fail
  go_ret2
  exact ⟨_, xss, x, rfl, h1, h2, h3, h4⟩

end Go.Proofs.Ytjekhmkkkmphmaa
