
/- The walks of the small functions on letters: copies, comparisons, sizes, marks. -/
import Derived.Test.YtfhnjpjlpddpmaaDoorTyMem
import Derived.Test.YtfhnjpjlpddpmaaDoorApp
import Derived.Test.YtfhnjpjlpddpmaaDoorStr
import Derived.Laws.IdiomStrings
namespace Go.Proofs.YtfhnjpjlpddpmaaDoor
open Go.RowKit
set_option linter.unusedVariables false

theorem ltr_info : (Tryd.prog.info? 35).map (fun i => (i.zero, i.size, i.bytes)) = some (some (.agg #[.int .i64 0, .string ⟨#[]⟩]), 2, 24) := by kernel_rfl
theorem ltr_elem : ElemInfo Tryd.prog 33 35 2 24 := elemInfo_of Tryd.underlying33 ltr_info rfl (by decide)
theorem below_alloc {B : Nat} {a w : World} (h : Below B a w) (hB : B ≤ w.heap.size) (o : Obj) : Below B a (w.alloc o) := h.alloc hB o

set_option maxHeartbeats 400000 in
theorem toLetter_any (x : Ltr) (w : World) :
    Calls Tryd.prog 31 #[.agg #[.int .i64 x.1, .string x.2]] w fun e w' => e = .returned (.agg #[.int .i64 x.1, .string x.2]) ∧ Below w.heap.size w w' := by
  go_enter Tryd.func31, Tryd.ntmps31
  go_wp2_with fail
  refine bodyPost_ret (v := .agg #[.int .i64 x.1, .string x.2]) (by simp [results, Tryd.results31, go_sem]) rfl ⟨rfl, ?_⟩
  exact (((Below.refl _ _).alloc (Nat.le_refl _) _).alloc (by simp) _).alloc (by simp; omega) _

theorem below2 (w : World) (a b : Obj) : Below w.heap.size w ((w.alloc a).alloc b) := ((Below.refl _ _).alloc (Nat.le_refl _) _).alloc (by simp) _
set_option maxHeartbeats 400000 in
theorem eqLetter_any (x y : Ltr) (w : World) :
    Calls Tryd.prog 36 #[.agg #[.int .i64 x.1, .string x.2], .agg #[.int .i64 y.1, .string y.2]] w fun e w' => e = .returned (.bool (decide (x = y))) ∧ Below w.heap.size w w' := by
  by_cases h1 : x.1 = y.1
  · have e1 : (x.1 != y.1) = false := by simp [h1]
    have H1 := Lib.hid h1
    clear h1
    by_cases h2 : x.2 = y.2
    · have e2 := str_same h2
      have H2 := Lib.hid h2
      clear h2
      go_enter Tryd.func36, Tryd.ntmps36
      go_wp2_with fail
      go_ret
      exact ⟨ret_bool (decide_eq_true (Prod.ext H1.out H2.out)).symm, below2 _ _ _⟩
    · have e2 := str_diff h2
      go_enter Tryd.func36, Tryd.ntmps36
      go_wp2_with fail
      go_ret
      exact ⟨ret_bool (decide_eq_false (fun e => h2 (by rw [e]))).symm, below2 _ _ _⟩
  · have e1 : (x.1 != y.1) = true := by simp [h1]
    go_enter Tryd.func36, Tryd.ntmps36
    go_wp2_with fail
    go_ret
    exact ⟨ret_bool (decide_eq_false (fun e => h1 (by rw [e]))).symm, below2 _ _ _⟩

set_option maxRecDepth 100000 in
set_option maxHeartbeats 800000 in
theorem toL (v : Value) (xs : List Ltr) (w : World) (h : Lt w v xs) (hn : xs.length ≤ 1048576) :
    Calls Tryd.prog 18 #[v] w fun e w' => ∃ u, e = .returned u ∧ Own w' w.heap.size w'.heap.size 35 2 u xs.length (lcs xs) ∧ Below w.heap.size w w' := by
  obtain ⟨A, c, rfl, hA, hc1, hc2⟩ := h
  obtain ⟨i0, hi, hz0, hz1, hz2⟩ := info_parts ltr_info
  go_enter Tryd.func18, Tryd.ntmps18
  go_wp2_with (at_make; refine wpList_make_full _ rfl _ _ _ rfl w.heap.size 35 i0 _ 2 Tryd.underlying33 hi hz0 hz1 _ _ _ _ xs.length rfl rfl rfl rfl (by rw [hz2]; omega) (by unfold maxLen; omega) (Nat.le_refl _) ?_; intro w1 hown1 hg1)
  have hmade : (madeCells (Value.agg #[.int .i64 0, .string ⟨#[]⟩]).cells (xs.length * 2)).toList = lcs (List.replicate xs.length ((0 : Int), (⟨#[]⟩ : ByteArray))) := made2 ltf ((0 : Int), (⟨#[]⟩ : ByteArray)) xs.length
  rw [hmade] at hown1
  have hb1 : Below w.heap.size w w1 := (Below.refl _ _).grown hg1 (Nat.le_refl _) (by simp)
  have H0 : Hid (∃ ys, Filled ys xs 0 ∧ w1.ownsRow w.heap.size 35 2 (.slice (some ⟨w.heap.size, 0, none⟩) xs.length xs.length) xs.length (lcs ys)) := ⟨_, Filled.start, hown1⟩
  clear hown1 hg1 hmade
  go_loopw [4] (fun i wr => ∃ k : Nat, k ≤ xs.length ∧ i = .int .i64 k ∧ Below w.heap.size w wr ∧ Hid (∃ ys, Filled ys xs k ∧ wr.ownsRow w.heap.size 35 2 (.slice (some ⟨w.heap.size, 0, none⟩) xs.length xs.length) xs.length (lcs ys))) (fun i _ => xs.length - (intOf i).toNat)
  case atStart => exact ⟨0, Nat.zero_le _, rfl, hb1, H0⟩
  case round =>
    obtain ⟨k, hk, rfl, hb, hys⟩ := hrel
    clear H0 hb1
    by_cases hlt : k < xs.length
    · obtain ⟨ad, x, rfl, hx, hcA, hcB⟩ := (hA.below hb).two hlt
      have Hx := Lib.hid hx
      simp only [ltf] at hcA hcB
      clear hx
      go_wp2_with fail
      refine (toLetter_any x _).mono ?_
      rintro e w2 ⟨rfl, hb2⟩
      obtain ⟨ys, hf, hown⟩ := hys.out
      replace hown := own_below hown hb2
      replace hb := below_trans' hb hb2
      have hyk : k < ys.length := by rw [hf.len]; exact hlt
      obtain ⟨hg0, hg1⟩ := cs2_get (f := ltf) (List.getElem?_eq_getElem hyk)
      have hc2 : w2.cell? ⟨w.heap.size, k * 2, none⟩ = some (.int .i64 ys[k].1) := (hown.cellAt _ (by omega)).trans hg0
      have hc3 : w2.cell? ⟨w.heap.size, k * 2 + 1, none⟩ = some (.string ys[k].2) := (hown.cellAt _ (by omega)).trans hg1
      have hfz : w2.frozen? ⟨w.heap.size, k * 2, none⟩ = false := hown.frozenAt _
      have hfz2 : w2.frozen? ⟨w.heap.size, k * 2 + 1, none⟩ = false := hown.frozenAt _
      have hst := ((hown.stored (k * 2) (ltf x).1).1.stored (k * 2 + 1) (ltf x).2).1
      rw [cs2_set] at hst
      have Hst := Lib.hid hst
      have Hf := Lib.hid (hf.step Hx.out)
      clear hst hown hf hys hb2 hg0 hg1
      go_wp2_with fail
      go_roundw
      case rel => exact ⟨k + 1, by omega, by go_num, (hb.setCell (Nat.le_refl _) _).setCell (Nat.le_refl _) _, ⟨_, Hf.out, Hst.out⟩⟩
      case measure => simp [intOf]; omega
    · have hk' : k = xs.length := by omega
      subst hk'
      obtain ⟨ys, hf, hown⟩ := hys.out
      have := hf.done
      subst this
      go_wp2_with fail
      go_ret
      exact ⟨_, rfl, own_of (own_base hown (Nat.le_refl _)), hb⟩

set_option maxRecDepth 100000 in
set_option maxHeartbeats 800000 in
theorem eqL (v u : Value) (xs ys : List Ltr) (w : World) (h : Lt w v xs) (hu : Lt w u ys) :
    Calls Tryd.prog 21 #[v, u] w fun e w' => e = .returned (.bool (decide (xs = ys))) ∧ Below w.heap.size w w' := by
  obtain ⟨A, c, rfl, hA, hc1, hc2⟩ := h
  obtain ⟨D, d, rfl, hD, hd1, hd2⟩ := hu
  unfold maxLen at hc2 hd2
  by_cases hl : xs.length = ys.length
  · have Hl := Lib.hid hl
    have hl1 : ((xs.length : Int) != (ys.length : Int)) = false := by simp [hl]
    clear hl
    go_enter Tryd.func21, Tryd.ntmps21
    go_wp2_with fail
    go_loopw [5] (fun i wr => ∃ k : Nat, k ≤ xs.length ∧ i = .int .i64 k ∧ Below w.heap.size w wr ∧ Hid (xs.take k = ys.take k)) (fun i _ => xs.length - (intOf i).toNat)
    case atStart => exact ⟨0, Nat.zero_le _, rfl, Below.refl _ _, Lib.hid rfl⟩
    case round =>
      obtain ⟨k, hk, rfl, hb, heq⟩ := hrel
      by_cases hlt : k < xs.length
      · obtain ⟨ad, x, rfl, hx, hcA, hcB⟩ := (hA.below hb).two hlt
        have hlt2 : k < ys.length := by have := Hl.out; omega
        obtain ⟨ad2, y, rfl, hy, hcC, hcD⟩ := (hD.below hb).two hlt2
        have Hx := Lib.hid hx
        have Hy := Lib.hid hy
        simp only [ltf] at hcA hcB hcC hcD
        clear hx hy
        go_wp2_with fail
        go_still_tail 8, (by kernel_rfl)
        go_wp2_with fail
        refine (eqLetter_any x y _).mono ?_
        rintro e w2 ⟨rfl, hb2⟩
        replace hb := below_trans' hb.drew hb2
        by_cases hxy : x = y
        · rw [decide_eq_true hxy]
          have Hxy := Lib.hid hxy
          clear hxy hb2
          go_wp2_with fail
          go_roundw
          case rel => exact ⟨k + 1, by omega, by go_num, hb, Lib.hid (by rw [take_snoc Hx.out, take_snoc Hy.out, heq.out, Hxy.out])⟩
          case measure => simp [intOf]; omega
        · rw [decide_eq_false hxy]
          have Hxy := Lib.hid hxy
          clear hxy hb2
          go_wp2_with fail
          go_ret
          exact ⟨ret_bool (by
            rw [decide_eq_false]
            rintro rfl
            have := Hx.out.symm.trans Hy.out
            injection this with this
            exact Hxy.out this), hb⟩
      · have hk' : k = xs.length := by omega
        subst hk'
        go_wp2_with fail
        go_ret
        exact ⟨ret_bool (by
          have h1 := heq.out
          rw [List.take_length, Hl.out, List.take_length] at h1
          exact (decide_eq_true h1).symm), hb⟩
  · have hl1 : ((xs.length : Int) != (ys.length : Int)) = true := by simp; omega
    go_enter Tryd.func21, Tryd.ntmps21
    go_wp2_with fail
    go_ret
    exact ⟨ret_bool (by rw [decide_eq_false]; rintro rfl; exact hl rfl), Below.refl _ _⟩


set_option maxHeartbeats 400000 in
theorem szLetter_any (x : Ltr) (left : Int) (w : World) (h0 : 0 ≤ left) (h1 : left ≤ 1048576) (hs : x.2.size ≤ maxLen) :
    Calls Tryd.prog 26 #[.agg #[.int .i64 x.1, .string x.2], .int .i64 left] w fun e w' => (∃ z : Int, e = .returned (.int .i64 z) ∧ -1 ≤ z ∧ z ≤ left ∧ (0 ≤ z → z = left - x.2.size)) ∧ Below w.heap.size w w' := by
  unfold maxLen at hs
  by_cases hlt : left - x.2.size < 0
  · go_enter Tryd.func26, Tryd.ntmps26
    go_wp2_with fail
    go_ret
    exact ⟨⟨-1, rfl, by omega, by omega, by omega⟩, (Below.refl _ _).alloc (Nat.le_refl _) _⟩
  · go_enter Tryd.func26, Tryd.ntmps26
    go_wp2_with fail
    go_ret
    exact ⟨⟨_, rfl, by omega, by omega, fun _ => rfl⟩, (Below.refl _ _).alloc (Nat.le_refl _) _⟩

/-- The bytes of all codes. -/
def szs (xs : List Ltr) : Nat := (xs.map fun x => x.2.size).sum
theorem szs_snoc {xs : List Ltr} {k : Nat} {x : Ltr} (h : xs[k]? = some x) : szs (xs.take (k + 1)) = szs (xs.take k) + x.2.size := by
  rw [szs, take_snoc h, List.map_append, List.sum_append]; simp [szs]
set_option maxRecDepth 100000 in
set_option maxHeartbeats 800000 in
theorem szL (v : Value) (xs : List Ltr) (left : Int) (w : World) (h : Lt w v xs) (hs : ∀ x ∈ xs, x.2.size ≤ maxLen) (h0 : 0 ≤ left) (h1 : left ≤ 1048576) :
    Calls Tryd.prog 13 #[v, .int .i64 left] w fun e w' => (∃ z : Int, e = .returned (.int .i64 z) ∧ -1 ≤ z ∧ z ≤ left ∧ (0 ≤ z → (xs.length : Int) + szs xs + z = left)) ∧ Below w.heap.size w w' := by
  obtain ⟨A, c, rfl, hA, hc1, hc2⟩ := h
  unfold maxLen at hc2
  have Hs := Lib.hid hs
  clear hs
  by_cases hlt : left - xs.length < 0
  · go_enter Tryd.func13, Tryd.ntmps13
    go_wp2_with fail
    go_ret
    exact ⟨⟨-1, rfl, by omega, by omega, by omega⟩, Below.refl _ _⟩
  · go_enter Tryd.func13, Tryd.ntmps13
    go_wp2_with fail
    go_loopw [1, 5] (fun l i wr => ∃ (k : Nat) (z : Int), k ≤ xs.length ∧ i = .int .i64 k ∧ l = .int .i64 z ∧ 0 ≤ z ∧ z ≤ left ∧ Below w.heap.size w wr ∧ Hid (z = left - xs.length - szs (xs.take k))) (fun _ i _ => xs.length - (intOf i).toNat)
    case atStart => exact ⟨0, _, Nat.zero_le _, rfl, rfl, by omega, by omega, Below.refl _ _, Lib.hid (by simp [szs])⟩
    case round =>
      obtain ⟨k, z, hk, rfl, rfl, hz0, hz1, hb, hz⟩ := hrel
      by_cases hkl : k < xs.length
      · obtain ⟨ad, x, rfl, hx, hcA, hcB⟩ := (hA.below hb).two hkl
        have Hx := Lib.hid hx
        have hxs := Hs.out x (List.mem_of_getElem? hx)
        simp only [ltf] at hcA hcB
        clear hx
        go_wp2_with fail
        refine (szLetter_any x z _ hz0 (by omega) hxs).mono ?_
        rintro e w2 ⟨⟨y, rfl, hy0, hy1, hy⟩, hb2⟩
        replace hb := below_trans' hb hb2
        have Hy := Lib.hid hy
        clear hy hb2
        by_cases hyn : y < 0
        · go_wp2_with fail
          go_ret
          exact ⟨⟨-1, rfl, by omega, by omega, by omega⟩, hb⟩
        · go_wp2_with fail
          go_roundw
          case rel => exact ⟨k + 1, y, by omega, by go_num, rfl, by omega, by omega, hb, Lib.hid (by rw [szs_snoc Hx.out, Hy.out (by omega), hz.out]; omega)⟩
          case measure => simp [intOf]; omega
      · have hk' : k = xs.length := by omega
        subst hk'
        go_wp2_with fail
        go_ret
        exact ⟨⟨z, rfl, by omega, by omega, fun _ => by have := hz.out; rw [List.take_length] at this; omega⟩, hb⟩

/-- A string of one byte. -/
theorem conv_one (w : World) (n : Nat) (x : Int) (hx : x = (n : Int)) (hn : n < 256) :
    (convert 29 9 (.slice (some ⟨w.heap.size, 0, none⟩) 1 1)).run Tryd.prog (w.alloc (.cells #[.int .u8 x] 5)) = .ok (.string (one8 n)) (w.alloc (.cells #[.int .u8 x] 5)) := by
  refine run_convert_bytes_back _ _ _ 5 _ 1 [n.toUInt8] Tryd.underlying29 Tryd.underlying5 Tryd.underlying9 (fun j hj => ?_)
  have hj0 : j = 0 := by simp at hj; omega
  subst hj0
  have e1 : (⟨w.heap.size, 0, none⟩ : Addr).add 0 = ⟨w.heap.size, 0, none⟩ := by simp [Addr.add]
  rw [e1, World.cell?_alloc_at _ _ _ _ rfl, hx]
  have : n.toUInt8.toNat = n := by rw [UInt8.toNat_ofNat']; omega
  simp [this]
theorem mtD_zero (f : Nat) (out : ByteArray) : mtD f out 0 = out := by cases f <;> simp [mtD]
theorem mtD_go {f k : Nat} (out : ByteArray) (hk : k ≠ 0) : mtD (f + 1) out k = mtD f (one8 (48 + k % 10) ++ out) (k / 10) := by rw [mtD, if_neg hk]
end Go.Proofs.YtfhnjpjlpddpmaaDoor
