
/- The walks of LeastTrays, LabelOf and FindLetter. -/
import Derived.Test.YtfhnjpjlpddpmaaDoorTy4
import Derived.Test.YtfhnjpjlpddpmaaDoorTyLaw
namespace Go.Proofs.YtfhnjpjlpddpmaaDoor
open Go.RowKit
set_option linter.unusedVariables false

theorem size_spec (n : Int) (w : World) : Calls Tryd.prog 28 #[.int .i64 n] w fun e w' => e = .returned (.bool (inB n 1 20)) ∧ w = w' := by
  go_enter Tryd.func28, Tryd.ntmps28
  go_wp2_with fail
  refine (in_any _ _ _ _).mono ?_
  rintro e w' ⟨rfl, rfl⟩
  go_wp2_with fail
  go_ret
  exact ⟨rfl, rfl⟩
theorem size_impl (n : Int) (w : World) : Calls Tryd.prog 23 #[.int .i64 n] w fun e w' => e = .returned (.bool (inB n 1 20)) ∧ w = w' := by
  by_cases h1 : n < 1
  · go_enter Tryd.func23, Tryd.ntmps23
    go_wp2_with fail
    go_ret
    exact ⟨ret_bool (inB_false.2 (.inl h1)).symm, rfl⟩
  · go_enter Tryd.func23, Tryd.ntmps23
    go_wp2_with fail
    go_ret
    exact ⟨ret_bool (by rw [inB, decide_eq_true (by omega : (1 : Int) ≤ n), Bool.true_and]), rfl⟩

/-- The least number of trays. -/
def least (count size : Int) : Int := if inB count 0 60 && inB size 1 20 then (count + size - 1) / size else -1
theorem least_no1 {count size : Int} (h : inB count 0 60 = false) : least count size = -1 := by simp [least, h]
theorem least_no2 {count size : Int} (h : inB size 1 20 = false) : least count size = -1 := by simp [least, h]
theorem least_yes {count size : Int} (h : inB count 0 60 = true) (h2 : inB size 1 20 = true) : least count size = (count + size - 1) / size := by simp [least, h, h2]
/-- The label of letters. -/
def dash : ByteArray := ⟨#[45]⟩
def label (xs : List Ltr) : ByteArray := if bv xs then (match xs.head?, xs.getLast? with | some x, some y => x.2 ++ dash ++ y.2 | _, _ => ⟨#[]⟩) else ⟨#[]⟩
theorem label_no {xs : List Ltr} (h : bv xs = false) : label xs = ⟨#[]⟩ := by simp [label, h]
theorem label_nil : label [] = ⟨#[]⟩ := by unfold label; split <;> rfl
theorem label_yes {xs : List Ltr} (h : bv xs = true) {x y : Ltr} (hx : xs[0]? = some x) (hy : xs[xs.length - 1]? = some y) : label xs = x.2 ++ dash ++ y.2 := by
  rw [← List.getLast?_eq_getElem?] at hy
  rw [← List.head?_eq_getElem?] at hx
  simp [label, h, hx, hy]


theorem ends_at {xs : List Ltr} (h : 0 < xs.length) : ∃ x y, xs[0]? = some x ∧ xs[xs.length - 1]? = some y := ⟨_, _, List.getElem?_eq_getElem h, List.getElem?_eq_getElem (by omega)⟩
/-- The two codes of a label. -/
theorem label_cells {w : World} {A : Option Addr} {xs : List Ltr} {x y : Ltr} (hA : Rd w A (lcs xs)) (h : 0 < xs.length) (hx : xs[0]? = some x) (hy : xs[xs.length - 1]? = some y) :
    ∃ ad, A = some ad ∧ w.cell? ⟨ad.block, ad.off + 1, none⟩ = some (.string x.2) ∧ w.cell? ⟨(ad.add ((xs.length - 1) * 2)).block, (ad.add ((xs.length - 1) * 2)).off + 1, none⟩ = some (.string y.2) := by
  obtain ⟨ad, x', rfl, hx', _, hc⟩ := hA.two h
  obtain ⟨ad2, y', e, hy', _, hc2⟩ := hA.two (k := xs.length - 1) (by omega)
  injection e with e
  subst e
  rw [hx] at hx'
  rw [hy] at hy'
  injection hx' with hx'
  injection hy' with hy'
  subst hx' hy'
  refine ⟨ad, rfl, ?_, hc2⟩
  simpa [ltf, Addr.add_zero'] using hc

set_option maxRecDepth 100000 in
set_option maxHeartbeats 800000 in
theorem spec_label (v : Value) (xs : List Ltr) (w : World) (h : Lt w v xs) (hs : Szs xs) :
    Calls Tryd.prog 15 #[v] w fun e w' => e = .returned (.string (label xs)) ∧ Below w.heap.size w w' := by
  have hbv := spec_bv v xs w h hs
  obtain ⟨A, c, rfl, hA, hc1, hc2⟩ := h
  unfold maxLen at hc2
  have Hbv := Lib.hid hbv
  clear hs hbv
  go_enter Tryd.func15, Tryd.ntmps15
  go_wp2_with fail
  refine Hbv.out.mono ?_
  rintro e w2 ⟨rfl, hbw⟩
  clear Hbv
  cases hcv : bv xs with
  | false =>
    go_wp2_with fail
    go_ret
    exact ⟨ret_str (label_no hcv).symm, hbw⟩
  | true =>
    by_cases h0 : xs.length = 0
    · have hx : xs = [] := List.eq_nil_of_length_eq_zero h0
      have e0 : ((xs.length : Int) == 0) = true := by simp [h0]
      have Hx := Lib.hid hx
      clear h0 hx
      go_wp2_with fail
      go_ret
      exact ⟨ret_str (by rw [Hx.out, label_nil]), hbw⟩
    · have e0 : ((xs.length : Int) == 0) = false := by simp only [beq_eq_false_iff_ne]; omega
      obtain ⟨x, y, hx, hy⟩ := ends_at (xs := xs) (by omega)
      obtain ⟨hb1, hb2, _⟩ := bv_parts hcv
      have hx7 := codeB_size (hb2 x (List.mem_of_getElem? hx)).1
      have hy7 := codeB_size (hb2 y (List.mem_of_getElem? hy)).1
      obtain ⟨ad, rfl, hc0, hc1'⟩ := label_cells (hA.below hbw) (by omega) hx hy
      have Hlab := Lib.hid (label_yes hcv hx hy)
      have hxs : x.2.size ≤ 7 := by omega
      have hys : y.2.size ≤ 7 := by omega
      have hd : (⟨#[45]⟩ : ByteArray).size = 1 := rfl
      have hxd : (x.2 ++ (⟨#[45]⟩ : ByteArray)).size ≤ 8 := by rw [ByteArray.size_append, hd]; omega
      clear hx hy hb1 hb2 hx7 hy7 hcv hd
      go_wp2_with fail
      go_quiet (fail)
      go_wp2_with fail
      go_ret
      exact ⟨ret_str Hlab.out.symm, below_drewN hbw _⟩
set_option maxRecDepth 100000 in
set_option maxHeartbeats 800000 in
theorem impl_label (v : Value) (xs : List Ltr) (w : World) (h : Lt w v xs) (hs : Szs xs) :
    Calls Tryd.prog 12 #[v] w fun e w' => e = .returned (.string (label xs)) ∧ Below w.heap.size w w' := by
  have hbv := impl_bv v xs w h hs
  obtain ⟨A, c, rfl, hA, hc1, hc2⟩ := h
  unfold maxLen at hc2
  have Hbv := Lib.hid hbv
  clear hs hbv
  by_cases h0 : xs.length = 0
  · have hx : xs = [] := List.eq_nil_of_length_eq_zero h0
    have e0 : ((xs.length : Int) == 0) = true := by simp [h0]
    have Hx := Lib.hid hx
    clear h0 hx
    go_enter Tryd.func12, Tryd.ntmps12
    go_wp2_with fail
    go_ret
    exact ⟨ret_str (by rw [Hx.out, label_nil]), Below.refl _ _⟩
  · have e0 : ((xs.length : Int) == 0) = false := by simp only [beq_eq_false_iff_ne]; omega
    go_enter Tryd.func12, Tryd.ntmps12
    go_wp2_with fail
    refine Hbv.out.mono ?_
    rintro e w2 ⟨rfl, hbw⟩
    clear Hbv
    cases hcv : bv xs with
    | false =>
      go_wp2_with fail
      go_ret
      exact ⟨ret_str (label_no hcv).symm, hbw⟩
    | true =>
      obtain ⟨x, y, hx, hy⟩ := ends_at (xs := xs) (by omega)
      obtain ⟨hb1, hb2, _⟩ := bv_parts hcv
      have hx7 := codeB_size (hb2 x (List.mem_of_getElem? hx)).1
      have hy7 := codeB_size (hb2 y (List.mem_of_getElem? hy)).1
      obtain ⟨ad, rfl, hc0, hc1'⟩ := label_cells (hA.below hbw) (by omega) hx hy
      have Hlab := Lib.hid (label_yes hcv hx hy)
      have hxs : x.2.size ≤ 7 := by omega
      have hys : y.2.size ≤ 7 := by omega
      have hd : (⟨#[45]⟩ : ByteArray).size = 1 := rfl
      have hxd : (x.2 ++ (⟨#[45]⟩ : ByteArray)).size ≤ 8 := by rw [ByteArray.size_append, hd]; omega
      clear hx hy hb1 hb2 hx7 hy7 hcv hd
      go_wp2_with fail
      go_quiet (fail)
      go_wp2_with fail
      go_ret
      exact ⟨ret_str Hlab.out.symm, below_drewN hbw _⟩

end Go.Proofs.YtfhnjpjlpddpmaaDoor
